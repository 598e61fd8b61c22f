/- Printed by a program of this session (wip/myprint.py), which drives the kit's printer: functions and what their calls do. -/
import Derived.Test.YtkmchjdioplfjaaDoorZFnExactRrText0
namespace Go.Proofs.YtkmchjdioplfjaaDoor.Q
open Go.RowKit Go Go.Proofs.YtkmchjdioplfjaaDoorW.PrintWords Go.Proofs.YtkmchjdioplfjaaDoorW.PrintLast Go.Proofs.YtkmchjdioplfjaaDoorW.PrintMore

set_option linter.unusedVariables false
set_option linter.unusedSimpArgs false

/-! ### impl_hasText: function 95 -/
def impl_hasText.f (a0 : Int) : Option (Bool) := if a0 = 16 then (some true) else (some (a0 == 49))
set_option maxHeartbeats 8000000 in
set_option maxRecDepth 100000 in
theorem impl_hasText.calls (a0 : Int) (r : Bool) (w : World) (h : impl_hasText.f a0 = some r) :
  Calls Tryd.prog 95 #[.int .i64 a0] w fun e w' => e = .returned (.bool r) ∧ Drawn0 w w' := by
 have H : (if a0 = 16 then (some true) else (some (a0 == 49))) = some r := h
 clear h
 replace H := ie H
 obtain ⟨c2b0, c2b1, H⟩ | ⟨c2b0, c2b1, H⟩ := H
 ·obtain rfl := Option.some.inj H
  go_enter Tryd.func95, Tryd.ntmps95
  go_wp2
  go_ret
  exact ⟨o2, od⟩
 ·obtain rfl := Option.some.inj H
  go_enter Tryd.func95, Tryd.ntmps95
  go_wp2
  go_ret
  exact ⟨o2, od⟩

/-! ### impl_RrOk: function 66 -/
mutual
def impl_RrOk.j0 : Nat → Bool → List (List Int) → Int → Int → Int → List (List Int) → List Int → List Int → Option (Bool)
 | 0, _, _, _, _, _, _, _, _ => none
 | k + 1, x22, x102000, x102001, x102002, x102003, x102004, x102005, x102006 => if x22 = true then (some false) else (if x102001 = 6 then (if (x102006.length : Int) = 2 then (if 0 < (x102006.length : Int) then ((impl_isWord.f (rd x102006 0)).bind fun t106 => (if t106 = true then (if 1 < (x102006.length : Int) then ((impl_within.f (rd x102006 1) 0 100000).bind fun t108 => (impl_RrOk.j1 k t108 x102000 x102001 x102002 x102003 x102004 x102005 x102006)) else (none)) else (impl_RrOk.j1 k false x102000 x102001 x102002 x102003 x102004 x102005 x102006))) else (none)) else (impl_RrOk.j1 k false x102000 x102001 x102002 x102003 x102004 x102005 x102006)) else (impl_RrOk.j1 k ((x102006.length : Int) == 0) x102000 x102001 x102002 x102003 x102004 x102005 x102006))
def impl_RrOk.j1 : Nat → Bool → List (List Int) → Int → Int → Int → List (List Int) → List Int → List Int → Option (Bool)
 | 0, _, _, _, _, _, _, _, _ => none
 | k + 1, x3, x102000, x102001, x102002, x102003, x102004, x102005, x102006 => if x102003 = 0 then (impl_RrOk.j2 k x3 true x102000 x102001 x102002 x102003 x102004 x102005 x102006) else (if x102001 = 1 then ((impl_isWord.f x102003).bind fun t109 => (impl_RrOk.j2 k x3 t109 x102000 x102001 x102002 x102003 x102004 x102005 x102006)) else (impl_RrOk.j2 k x3 false x102000 x102001 x102002 x102003 x102004 x102005 x102006))
def impl_RrOk.j2 : Nat → Bool → Bool → List (List Int) → Int → Int → Int → List (List Int) → List Int → List Int → Option (Bool)
 | 0, _, _, _, _, _, _, _, _, _ => none
 | k + 1, x3, x4, x102000, x102001, x102002, x102003, x102004, x102005, x102006 => if (x102004.length : Int) = 0 then (impl_RrOk.j3 k x3 x4 true x102000 x102001 x102002 x102003 x102004 x102005 x102006) else ((impl_hasTo.f x102001).bind fun t110 => (if t110 = true then ((impl_NameOk.f x102004).bind fun t111 => (impl_RrOk.j3 k x3 x4 t111 x102000 x102001 x102002 x102003 x102004 x102005 x102006)) else (impl_RrOk.j3 k x3 x4 false x102000 x102001 x102002 x102003 x102004 x102005 x102006)))
def impl_RrOk.j3 : Nat → Bool → Bool → Bool → List (List Int) → Int → Int → Int → List (List Int) → List Int → List Int → Option (Bool)
 | 0, _, _, _, _, _, _, _, _, _, _ => none
 | k + 1, x3, x4, x5, x102000, x102001, x102002, x102003, x102004, x102005, x102006 => if (x102005.length : Int) = 0 then (if x3 = true then (if x4 = true then (if x5 = true then (some true) else (some false)) else (some false)) else (some false)) else ((impl_hasText.f x102001).bind fun t112 => (if t112 = true then (if x3 = true then (if x4 = true then (if x5 = true then (some (decide ((x102005.length : Int) ≤ 40))) else (some false)) else (some false)) else (some false)) else (if x3 = true then (if x4 = true then (if x5 = true then (some false) else (some false)) else (some false)) else (some false))))
end
def impl_RrOk.f (k : Nat) (l0_0 : List (List Int)) (a0_1 : Int) (a0_2 : Int) (a0_3 : Int) (l0_4 : List (List Int)) (l0_5 : List Int) (l0_6 : List Int) : Option (Bool) := (impl_NameOk.f l0_0).bind fun t102 => (if t102 = true then ((impl_TypeOk.f a0_1).bind fun t103 => (if t103 = true then ((impl_within.f a0_2 0 100000).bind fun t104 => (impl_RrOk.j0 k (!t104) l0_0 a0_1 a0_2 a0_3 l0_4 l0_5 l0_6)) else (impl_RrOk.j0 k true l0_0 a0_1 a0_2 a0_3 l0_4 l0_5 l0_6))) else (impl_RrOk.j0 k true l0_0 a0_1 a0_2 a0_3 l0_4 l0_5 l0_6))
set_option maxHeartbeats 8000000 in
set_option maxRecDepth 100000 in
theorem impl_RrOk.calls (k : Nat) (A0_0 : Option Addr) (c0_0 : Nat) (l0_0 : List (List Int)) (a0_1 : Int) (a0_2 : Int) (a0_3 : Int) (A0_4 : Option Addr) (c0_4 : Nat) (l0_4 : List (List Int)) (A0_5 : Option Addr) (c0_5 : Nat) (l0_5 : List Int) (A0_6 : Option Addr) (c0_6 : Nat) (l0_6 : List Int) (r : Bool) (w : World) (hr0_0 : Kd.C (Kd.slice 5 (Kd.int .u8)) w A0_0 l0_0.length l0_0) (hc0_0 : l0_0.length ≤ c0_0) (hr0_4 : Kd.C (Kd.slice 5 (Kd.int .u8)) w A0_4 l0_4.length l0_4) (hc0_4 : l0_4.length ≤ c0_4) (hr0_5 : Kd.C (Kd.int .u8) w A0_5 l0_5.length l0_5) (hc0_5 : l0_5.length ≤ c0_5) (hr0_6 : Kd.C (Kd.int .i64) w A0_6 l0_6.length l0_6) (hc0_6 : l0_6.length ≤ c0_6) (h : impl_RrOk.f k l0_0 a0_1 a0_2 a0_3 l0_4 l0_5 l0_6 = some r) :
  Calls Tryd.prog 66 #[.agg #[.slice A0_0 l0_0.length c0_0, .int .i64 a0_1, .int .i64 a0_2, .int .i64 a0_3, .slice A0_4 l0_4.length c0_4, .slice A0_5 l0_5.length c0_5, .slice A0_6 l0_6.length c0_6]] w fun e w' => e = .returned (.bool r) ∧ Below w.heap.size w w' := by
 have hu51 := Tryd.underlying51
 have hu29 := Tryd.underlying29
 have HR0_0 := ak hr0_0
 have HC0_0 := ak hc0_0
 clear hr0_0 hc0_0
 have HR0_4 := ak hr0_4
 have HC0_4 := ak hc0_4
 clear hr0_4 hc0_4
 have HR0_5 := ak hr0_5
 have HC0_5 := ak hc0_5
 clear hr0_5 hc0_5
 have HR0_6 := ak hr0_6
 have HC0_6 := ak hc0_6
 clear hr0_6 hc0_6
 have HB := ak (Below.refl w.heap.size w)
 have H : ((impl_NameOk.f l0_0).bind fun t102 => (if t102 = true then ((impl_TypeOk.f a0_1).bind fun t103 => (if t103 = true then ((impl_within.f a0_2 0 100000).bind fun t104 => (impl_RrOk.j0 k (!t104) l0_0 a0_1 a0_2 a0_3 l0_4 l0_5 l0_6)) else (impl_RrOk.j0 k true l0_0 a0_1 a0_2 a0_3 l0_4 l0_5 l0_6))) else (impl_RrOk.j0 k true l0_0 a0_1 a0_2 a0_3 l0_4 l0_5 l0_6))) = some r := h
 clear h
 have HC2 := ak H
 clear H
 go_enter Tryd.func66, Tryd.ntmps66
 go_upto_region 1 with (((with_reducible refine gate_dst (N := 1) rfl ?_);(try (refine gate_guard (by rfl) ?_; dsimp only));refine bxd (N := 1) rfl HB ?_;clear HB;intro gb101 w3 hg HB BK101 GE101 hb;have GW101 := GE101;clear hb hg))
 (try simp only [Act.put, List.setIfInBounds_toArray, List.set_cons_zero, List.set_cons_succ])
 go_cut [22] (fun v22 wc => ∃ (kq : Nat) (x22_1 : Bool), v22 = .bool x22_1 ∧ Aside0 (impl_RrOk.j0 kq x22_1 l0_0 a0_1 a0_2 a0_3 l0_4 l0_5 l0_6 = some r) ∧ Aside0 (kq ≤ k) ∧ Aside0 (wc.heap[gb101]? = some (.cells #[(.slice A0_0 l0_0.length c0_0), .int .i64 a0_1, .int .i64 a0_2, .int .i64 a0_3, (.slice A0_4 l0_4.length c0_4), (.slice A0_5 l0_5.length c0_5), (.slice A0_6 l0_6.length c0_6)] 51 (0, 0))) ∧ Aside0 (Below w.heap.size w wc))
 case first =>
  have H := HC2.out
  clear HC2
  replace H := bnd H
  obtain ⟨t102, A4, H⟩ := H
  replace H := ib H
  obtain ⟨rfl, H⟩ | ⟨rfl, H⟩ := H
  ·replace H := bnd H
   obtain ⟨t103, A6, H⟩ := H
   replace H := ib H
   obtain ⟨rfl, H⟩ | ⟨rfl, H⟩ := H
   ·replace H := bnd H
    obtain ⟨t104, A8, H⟩ := H
    have H' := ak H
    clear H
    obtain ⟨hcz9_0, hcz9_1, hcz9_2, hcz9_3, hcz9_4, hcz9_5, hcz9_6, hfz9_0, hfz9_1, hfz9_2, hfz9_3, hfz9_4, hfz9_5, hfz9_6⟩ := cells7 BK101.out
    go_wp2_with (first | ((with_reducible refine gate_callee (f := 92) rfl ?_);refine glB 9 rfl rfl Tryd.func92 (impl_NameOk.calls _ _ l0_0 true _ (cv HR0_0 HB) HC0_0.out A4.out) (fun w10 hb => ?_);replace BK101 := b1 BK101 hb;replace HB := b2s bs hb;(try clear hb);obtain ⟨hcz11_0, hcz11_1, hcz11_2, hcz11_3, hcz11_4, hcz11_5, hcz11_6, hfz11_0, hfz11_1, hfz11_2, hfz11_3, hfz11_4, hfz11_5, hfz11_6⟩ := cells7 BK101.out) | (go_at_call 93;(with_reducible refine (impl_TypeOk.calls a0_1 true _ A6.out).mono ?_);rintro e w12 ⟨rfl, hb⟩;replace BK101 := b1 BK101 hb;replace HB := b2s bs hb;(try clear hb);obtain ⟨hcz13_0, hcz13_1, hcz13_2, hcz13_3, hcz13_4, hcz13_5, hcz13_6, hfz13_0, hfz13_1, hfz13_2, hfz13_3, hfz13_4, hfz13_5, hfz13_6⟩ := cells7 BK101.out) | (go_at_call 47;(with_reducible refine (impl_within.calls a0_2 0 100000 t104 _ A8.out).mono ?_);rintro e w' ⟨rfl, ⟨nd, rfl⟩⟩))
    go_meet
    case rel => exact ⟨_, (!t104), o2, H', ⟨o3⟩, ⟨bk BK101.out⟩, ⟨bs⟩⟩
   ·have H' := ak H
    clear H
    obtain ⟨hcz14_0, hcz14_1, hcz14_2, hcz14_3, hcz14_4, hcz14_5, hcz14_6, hfz14_0, hfz14_1, hfz14_2, hfz14_3, hfz14_4, hfz14_5, hfz14_6⟩ := cells7 BK101.out
    go_wp2_with (first | ((with_reducible refine gate_callee (f := 92) rfl ?_);refine glB 9 rfl rfl Tryd.func92 (impl_NameOk.calls _ _ l0_0 true _ (cv HR0_0 HB) HC0_0.out A4.out) (fun w15 hb => ?_);replace BK101 := b1 BK101 hb;replace HB := b2s bs hb;(try clear hb);obtain ⟨hcz16_0, hcz16_1, hcz16_2, hcz16_3, hcz16_4, hcz16_5, hcz16_6, hfz16_0, hfz16_1, hfz16_2, hfz16_3, hfz16_4, hfz16_5, hfz16_6⟩ := cells7 BK101.out) | (go_at_call 93;(with_reducible refine (impl_TypeOk.calls a0_1 false _ A6.out).mono ?_);rintro e w17 ⟨rfl, hb⟩;replace BK101 := b1 BK101 hb;replace HB := b2s bs hb;(try clear hb)))
    go_meet
    case rel => exact ⟨_, (true), o2, H', ⟨o3⟩, ⟨bk BK101.out⟩, ⟨bs⟩⟩
  ·have H' := ak H
   clear H
   obtain ⟨hcz18_0, hcz18_1, hcz18_2, hcz18_3, hcz18_4, hcz18_5, hcz18_6, hfz18_0, hfz18_1, hfz18_2, hfz18_3, hfz18_4, hfz18_5, hfz18_6⟩ := cells7 BK101.out
   go_wp2_with (((with_reducible refine gate_callee (f := 92) rfl ?_);refine glB 9 rfl rfl Tryd.func92 (impl_NameOk.calls _ _ l0_0 false _ (cv HR0_0 HB) HC0_0.out A4.out) (fun w19 hb => ?_);replace BK101 := b1 BK101 hb;replace HB := b2s bs hb;(try clear hb)))
   go_meet
   case rel => exact ⟨_, (true), o2, H', ⟨o3⟩, ⟨bk BK101.out⟩, ⟨bs⟩⟩
 case rest =>
  clear HC2
  obtain ⟨kq, x22_1, rfl, HA, HJ1, BK101, HB⟩ := hcut
  cases kq with
  | zero => exact absurd HA.out (by simp [impl_RrOk.j0])
  | succ kj1 =>
   have H := HA.out
   clear HA
   simp only [impl_RrOk.j0] at H
   replace H := ib H
   obtain ⟨rfl, H⟩ | ⟨rfl, H⟩ := H
   ·obtain rfl := Option.some.inj H
    go_wp2
    go_ret
    exact ⟨o1, bs⟩
   ·have HC21 := ak H
    clear H
    obtain ⟨hcz22_0, hcz22_1, hcz22_2, hcz22_3, hcz22_4, hcz22_5, hcz22_6, hfz22_0, hfz22_1, hfz22_2, hfz22_3, hfz22_4, hfz22_5, hfz22_6⟩ := cells7 BK101.out
    go_upto_if 29 with (fail)
    go_cut [3] (fun v3 wc => ∃ (kq : Nat) (x3_20 : Bool), v3 = .bool x3_20 ∧ Aside0 (impl_RrOk.j1 kq x3_20 l0_0 a0_1 a0_2 a0_3 l0_4 l0_5 l0_6 = some r) ∧ Aside0 (kq ≤ kj1) ∧ Aside0 (wc.heap[gb101]? = some (.cells #[(.slice A0_0 l0_0.length c0_0), .int .i64 a0_1, .int .i64 a0_2, .int .i64 a0_3, (.slice A0_4 l0_4.length c0_4), (.slice A0_5 l0_5.length c0_5), (.slice A0_6 l0_6.length c0_6)] 51 (0, 0))) ∧ Aside0 (Below w.heap.size w wc))
    case first =>
     have H := HC21.out
     clear HC21
     replace H := ie H
     obtain ⟨c23b0, c23b1, H⟩ | ⟨c23b0, c23b1, H⟩ := H
     ·(first | rw [c23b0] | (simp only [i64_w, i32_w]; rw [c23b0]) | skip)
      replace H := ie H
      obtain ⟨c24b0, c24b1, H⟩ | ⟨c24b0, c24b1, H⟩ := H
      ·replace H := ipN H
       obtain ⟨c25b0, H⟩ := H
       have c25b1 : decide (0 < l0_6.length) = true := decide_eq_true (by have := of_decide_eq_true c25b0; omega)
       replace H := bnd H
       obtain ⟨t106, A26, H⟩ := H
       replace H := ib H
       obtain ⟨rfl, H⟩ | ⟨rfl, H⟩ := H
       ·replace H := ipN H
        obtain ⟨c28b0, H⟩ := H
        have c28b1 : decide (1 < l0_6.length) = true := decide_eq_true (by have := of_decide_eq_true c28b0; omega)
        replace H := bnd H
        obtain ⟨t108, A29, H⟩ := H
        have H' := ak H
        clear H
        obtain ⟨hcz30_0, hcz30_1, hcz30_2, hcz30_3, hcz30_4, hcz30_5, hcz30_6, hfz30_0, hfz30_1, hfz30_2, hfz30_3, hfz30_4, hfz30_5, hfz30_6⟩ := cells7 BK101.out
        obtain ⟨ad105, rfl, hx105_0, p105, q105⟩ := el0_int HR0_6 0 (h0 := by decide)
        replace p105 := of_eq_true p105
        replace q105 := of_eq_true q105
        have qi105 : (0 < l0_6.length) = True := eq_true (by omega)
        (try rw [show ((0 : Int)).toNat = 0 from rfl] at hx105_0)
        (try rw [Addr.add_zero'] at hx105_0)
        replace hx105_0 := pw_cell_below HB.out hx105_0
        replace p105 := eq_true p105
        replace q105 := eq_true q105
        go_wp2_with (first | (go_at_call 37;(with_reducible refine (impl_isWord.calls (rd l0_6 0) true _ A26.out).mono ?_);rintro e w' ⟨rfl, ⟨nd, rfl⟩⟩;have p107 : 0 ≤ (1 : Int) := (by omega);have q107 : 1 < (l0_6.length : Int) := of_decide_eq_true (by first | (with_reducible assumption) | assumption);obtain ⟨ad107, e107, hx107_0⟩ := Kd.at_int HR0_6.out 1 p107 q107;obtain rfl : ad105 = ad107 := (by injection e107);(try simp only [show (1 : Int).toNat = 1 from rfl, Nat.reduceMul, Nat.reduceEqDiff, Go.Addr.add, ↓reduceIte] at hx107_0);have qi107 : (1 < l0_6.length) = True := eq_true (by omega);(try rw [show ((1 : Int)).toNat = 1 from rfl] at hx107_0);replace hx107_0 := pw_cell_below HB.out hx107_0;replace p107 := eq_true p107;replace q107 := eq_true q107) | (go_at_call 47;(with_reducible refine (impl_within.calls (rd l0_6 1) 0 100000 t108 _ A29.out).mono ?_);rintro e w' ⟨rfl, ⟨nd, rfl⟩⟩))
        go_meet
        case rel => exact ⟨_, (t108), o2, H', ⟨by have := HJ1.out; first | omega | exact Nat.le_refl _⟩, ⟨bk BK101.out⟩, ⟨bs⟩⟩
       ·have H' := ak H
        clear H
        obtain ⟨hcz31_0, hcz31_1, hcz31_2, hcz31_3, hcz31_4, hcz31_5, hcz31_6, hfz31_0, hfz31_1, hfz31_2, hfz31_3, hfz31_4, hfz31_5, hfz31_6⟩ := cells7 BK101.out
        obtain ⟨ad105, rfl, hx105_0, p105, q105⟩ := el0_int HR0_6 0 (h0 := by decide)
        replace p105 := of_eq_true p105
        replace q105 := of_eq_true q105
        have qi105 : (0 < l0_6.length) = True := eq_true (by omega)
        (try rw [show ((0 : Int)).toNat = 0 from rfl] at hx105_0)
        (try rw [Addr.add_zero'] at hx105_0)
        replace hx105_0 := pw_cell_below HB.out hx105_0
        replace p105 := eq_true p105
        replace q105 := eq_true q105
        go_wp2_with ((go_at_call 37;(with_reducible refine (impl_isWord.calls (rd l0_6 0) false _ A26.out).mono ?_);rintro e w' ⟨rfl, ⟨nd, rfl⟩⟩))
        go_meet
        case rel => exact ⟨_, (false), o2, H', ⟨by have := HJ1.out; first | omega | exact Nat.le_refl _⟩, ⟨bk BK101.out⟩, ⟨bs⟩⟩
      ·have H' := ak H
       clear H
       obtain ⟨hcz32_0, hcz32_1, hcz32_2, hcz32_3, hcz32_4, hcz32_5, hcz32_6, hfz32_0, hfz32_1, hfz32_2, hfz32_3, hfz32_4, hfz32_5, hfz32_6⟩ := cells7 BK101.out
       go_wp2
       go_meet
       case rel => exact ⟨_, (false), o2, H', ⟨by have := HJ1.out; first | omega | exact Nat.le_refl _⟩, ⟨bk BK101.out⟩, ⟨bs⟩⟩
     ·(first | rw [c23b0] | (simp only [i64_w, i32_w]; rw [c23b0]) | skip)
      have H' := ak H
      clear H
      go_wp2
      go_meet
      case rel => exact ⟨_, (((l0_6.length : Int) == 0)), o2, H', ⟨by have := HJ1.out; first | omega | exact Nat.le_refl _⟩, ⟨bk BK101.out⟩, ⟨bs⟩⟩
    case rest =>
     clear HC21
     (try clear hcz22_0)
     (try clear hcz22_1)
     (try clear hcz22_2)
     (try clear hcz22_3)
     (try clear hcz22_4)
     (try clear hcz22_5)
     (try clear hcz22_6)
     (try clear hfz22_0)
     (try clear hfz22_1)
     (try clear hfz22_2)
     (try clear hfz22_3)
     (try clear hfz22_4)
     (try clear hfz22_5)
     (try clear hfz22_6)
     obtain ⟨kq, x3_20, rfl, HA, HJ20, BK101, HB⟩ := hcut
     cases kq with
     | zero => exact absurd HA.out (by simp [impl_RrOk.j1])
     | succ kj20 =>
      have H := HA.out
      clear HA
      simp only [impl_RrOk.j1] at H
      have HC33 := ak H
      clear H
      go_upto_region 6 with (fail)
      go_cut [4] (fun v4 wc => ∃ (kq : Nat) (x4_32 : Bool), v4 = .bool x4_32 ∧ Aside0 (impl_RrOk.j2 kq x3_20 x4_32 l0_0 a0_1 a0_2 a0_3 l0_4 l0_5 l0_6 = some r) ∧ Aside0 (kq ≤ kj20) ∧ Aside0 (wc.heap[gb101]? = some (.cells #[(.slice A0_0 l0_0.length c0_0), .int .i64 a0_1, .int .i64 a0_2, .int .i64 a0_3, (.slice A0_4 l0_4.length c0_4), (.slice A0_5 l0_5.length c0_5), (.slice A0_6 l0_6.length c0_6)] 51 (0, 0))) ∧ Aside0 (Below w.heap.size w wc))
      case first =>
       have H := HC33.out
       clear HC33
       replace H := ie H
       obtain ⟨c34b0, c34b1, H⟩ | ⟨c34b0, c34b1, H⟩ := H
       ·(first | rw [c34b0] | (simp only [i64_w, i32_w]; rw [c34b0]) | skip)
        have H' := ak H
        clear H
        obtain ⟨hcz35_0, hcz35_1, hcz35_2, hcz35_3, hcz35_4, hcz35_5, hcz35_6, hfz35_0, hfz35_1, hfz35_2, hfz35_3, hfz35_4, hfz35_5, hfz35_6⟩ := cells7 BK101.out
        go_wp2
        go_meet
        case rel => exact ⟨_, (true), o2, H', ⟨by have := HJ1.out; have := HJ20.out; first | omega | exact Nat.le_refl _⟩, ⟨bk BK101.out⟩, ⟨bs⟩⟩
       ·(first | rw [c34b0] | (simp only [i64_w, i32_w]; rw [c34b0]) | skip)
        replace H := ie H
        obtain ⟨c36b0, c36b1, H⟩ | ⟨c36b0, c36b1, H⟩ := H
        ·replace H := bnd H
         obtain ⟨t109, A37, H⟩ := H
         have H' := ak H
         clear H
         obtain ⟨hcz38_0, hcz38_1, hcz38_2, hcz38_3, hcz38_4, hcz38_5, hcz38_6, hfz38_0, hfz38_1, hfz38_2, hfz38_3, hfz38_4, hfz38_5, hfz38_6⟩ := cells7 BK101.out
         go_wp2_with ((go_at_call 37;(with_reducible refine (impl_isWord.calls a0_3 t109 _ A37.out).mono ?_);rintro e w' ⟨rfl, ⟨nd, rfl⟩⟩))
         go_meet
         case rel => exact ⟨_, (t109), o2, H', ⟨by have := HJ1.out; have := HJ20.out; first | omega | exact Nat.le_refl _⟩, ⟨bk BK101.out⟩, ⟨bs⟩⟩
        ·have H' := ak H
         clear H
         obtain ⟨hcz39_0, hcz39_1, hcz39_2, hcz39_3, hcz39_4, hcz39_5, hcz39_6, hfz39_0, hfz39_1, hfz39_2, hfz39_3, hfz39_4, hfz39_5, hfz39_6⟩ := cells7 BK101.out
         go_wp2
         go_meet
         case rel => exact ⟨_, (false), o2, H', ⟨by have := HJ1.out; have := HJ20.out; first | omega | exact Nat.le_refl _⟩, ⟨bk BK101.out⟩, ⟨bs⟩⟩
      case rest =>
       clear HC33
       (try clear hcz22_0)
       (try clear hcz22_1)
       (try clear hcz22_2)
       (try clear hcz22_3)
       (try clear hcz22_4)
       (try clear hcz22_5)
       (try clear hcz22_6)
       (try clear hfz22_0)
       (try clear hfz22_1)
       (try clear hfz22_2)
       (try clear hfz22_3)
       (try clear hfz22_4)
       (try clear hfz22_5)
       (try clear hfz22_6)
       obtain ⟨kq, x4_32, rfl, HA, HJ32, BK101, HB⟩ := hcut
       cases kq with
       | zero => exact absurd HA.out (by simp [impl_RrOk.j2])
       | succ kj32 =>
        have H := HA.out
        clear HA
        simp only [impl_RrOk.j2] at H
        have HC40 := ak H
        clear H
        go_upto_region 7 with (fail)
        go_cut [5] (fun v5 wc => ∃ (kq : Nat) (x5_39 : Bool), v5 = .bool x5_39 ∧ Aside0 (impl_RrOk.j3 kq x3_20 x4_32 x5_39 l0_0 a0_1 a0_2 a0_3 l0_4 l0_5 l0_6 = some r) ∧ Aside0 (kq ≤ kj32) ∧ Aside0 (wc.heap[gb101]? = some (.cells #[(.slice A0_0 l0_0.length c0_0), .int .i64 a0_1, .int .i64 a0_2, .int .i64 a0_3, (.slice A0_4 l0_4.length c0_4), (.slice A0_5 l0_5.length c0_5), (.slice A0_6 l0_6.length c0_6)] 51 (0, 0))) ∧ Aside0 (Below w.heap.size w wc))
        case first =>
         have H := HC40.out
         clear HC40
         replace H := ie H
         obtain ⟨c41b0, c41b1, H⟩ | ⟨c41b0, c41b1, H⟩ := H
         ·(first | rw [c41b0] | (simp only [i64_w, i32_w]; rw [c41b0]) | skip)
          have H' := ak H
          clear H
          obtain ⟨hcz42_0, hcz42_1, hcz42_2, hcz42_3, hcz42_4, hcz42_5, hcz42_6, hfz42_0, hfz42_1, hfz42_2, hfz42_3, hfz42_4, hfz42_5, hfz42_6⟩ := cells7 BK101.out
          go_wp2
          go_meet
          case rel => exact ⟨_, (true), o2, H', ⟨by have := HJ1.out; have := HJ20.out; have := HJ32.out; first | omega | exact Nat.le_refl _⟩, ⟨bk BK101.out⟩, ⟨bs⟩⟩
         ·have c41b2 : ¬ (l0_4 = []) := fun h_ => bne_iff_ne.mp c41b1 (by rw [h_]; rfl)
          (first | rw [c41b0] | (simp only [i64_w, i32_w]; rw [c41b0]) | skip)
          replace H := bnd H
          obtain ⟨t110, A43, H⟩ := H
          replace H := ib H
          obtain ⟨rfl, H⟩ | ⟨rfl, H⟩ := H
          ·replace H := bnd H
           obtain ⟨t111, A45, H⟩ := H
           have H' := ak H
           clear H
           obtain ⟨hcz46_0, hcz46_1, hcz46_2, hcz46_3, hcz46_4, hcz46_5, hcz46_6, hfz46_0, hfz46_1, hfz46_2, hfz46_3, hfz46_4, hfz46_5, hfz46_6⟩ := cells7 BK101.out
           go_wp2_with (first | (go_at_call 94;(with_reducible refine (impl_hasTo.calls a0_1 true _ A43.out).mono ?_);rintro e w' ⟨rfl, ⟨nd, rfl⟩⟩) | (go_at_call 92;(with_reducible refine (impl_NameOk.calls _ _ l0_4 t111 _ ?side1 HC0_4.out A45.out).mono ?_);(case side1 => repeat (first | exact (Kd.C_below HR0_4.out bs) | (with_reducible refine Kd.C_alloc ?_ _) | (with_reducible refine Kd.C_drewN ?_ _) | (with_reducible refine Kd.C_drew ?_)));rintro e w47 ⟨rfl, hb⟩;replace BK101 := b1 BK101 hb;replace HB := b2s bs hb;(try clear hb)))
           go_meet
           case rel => exact ⟨_, (t111), o2, H', ⟨by have := HJ1.out; have := HJ20.out; have := HJ32.out; first | omega | exact Nat.le_refl _⟩, ⟨bk BK101.out⟩, ⟨bs⟩⟩
          ·have H' := ak H
           clear H
           obtain ⟨hcz48_0, hcz48_1, hcz48_2, hcz48_3, hcz48_4, hcz48_5, hcz48_6, hfz48_0, hfz48_1, hfz48_2, hfz48_3, hfz48_4, hfz48_5, hfz48_6⟩ := cells7 BK101.out
           go_wp2_with ((go_at_call 94;(with_reducible refine (impl_hasTo.calls a0_1 false _ A43.out).mono ?_);rintro e w' ⟨rfl, ⟨nd, rfl⟩⟩))
           go_meet
           case rel => exact ⟨_, (false), o2, H', ⟨by have := HJ1.out; have := HJ20.out; have := HJ32.out; first | omega | exact Nat.le_refl _⟩, ⟨bk BK101.out⟩, ⟨bs⟩⟩
        case rest =>
         clear HC40
         (try clear hcz22_0)
         (try clear hcz22_1)
         (try clear hcz22_2)
         (try clear hcz22_3)
         (try clear hcz22_4)
         (try clear hcz22_5)
         (try clear hcz22_6)
         (try clear hfz22_0)
         (try clear hfz22_1)
         (try clear hfz22_2)
         (try clear hfz22_3)
         (try clear hfz22_4)
         (try clear hfz22_5)
         (try clear hfz22_6)
         obtain ⟨kq, x5_39, rfl, HA, HJ39, BK101, HB⟩ := hcut
         cases kq with
         | zero => exact absurd HA.out (by simp [impl_RrOk.j3])
         | succ kj39 =>
          have H := HA.out
          clear HA
          simp only [impl_RrOk.j3] at H
          replace H := ie H
          obtain ⟨c49b0, c49b1, H⟩ | ⟨c49b0, c49b1, H⟩ := H
          ·replace H := ib H
           obtain ⟨rfl, H⟩ | ⟨rfl, H⟩ := H
           ·replace H := ib H
            obtain ⟨rfl, H⟩ | ⟨rfl, H⟩ := H
            ·replace H := ib H
             obtain ⟨rfl, H⟩ | ⟨rfl, H⟩ := H
             ·obtain rfl := Option.some.inj H
              obtain ⟨hcz53_0, hcz53_1, hcz53_2, hcz53_3, hcz53_4, hcz53_5, hcz53_6, hfz53_0, hfz53_1, hfz53_2, hfz53_3, hfz53_4, hfz53_5, hfz53_6⟩ := cells7 BK101.out
              go_wp2
              go_ret
              exact ⟨o1, bs⟩
             ·obtain rfl := Option.some.inj H
              obtain ⟨hcz54_0, hcz54_1, hcz54_2, hcz54_3, hcz54_4, hcz54_5, hcz54_6, hfz54_0, hfz54_1, hfz54_2, hfz54_3, hfz54_4, hfz54_5, hfz54_6⟩ := cells7 BK101.out
              go_wp2
              go_ret
              exact ⟨o1, bs⟩
            ·obtain rfl := Option.some.inj H
             obtain ⟨hcz55_0, hcz55_1, hcz55_2, hcz55_3, hcz55_4, hcz55_5, hcz55_6, hfz55_0, hfz55_1, hfz55_2, hfz55_3, hfz55_4, hfz55_5, hfz55_6⟩ := cells7 BK101.out
             go_wp2
             go_ret
             exact ⟨o1, bs⟩
           ·obtain rfl := Option.some.inj H
            obtain ⟨hcz56_0, hcz56_1, hcz56_2, hcz56_3, hcz56_4, hcz56_5, hcz56_6, hfz56_0, hfz56_1, hfz56_2, hfz56_3, hfz56_4, hfz56_5, hfz56_6⟩ := cells7 BK101.out
            go_wp2
            go_ret
            exact ⟨o1, bs⟩
          ·have c49b2 : ¬ (l0_5 = []) := fun h_ => bne_iff_ne.mp c49b1 (by rw [h_]; rfl)
           replace H := bnd H
           obtain ⟨t112, A57, H⟩ := H
           replace H := ib H
           obtain ⟨rfl, H⟩ | ⟨rfl, H⟩ := H
           ·replace H := ib H
            obtain ⟨rfl, H⟩ | ⟨rfl, H⟩ := H
            ·replace H := ib H
             obtain ⟨rfl, H⟩ | ⟨rfl, H⟩ := H
             ·replace H := ib H
              obtain ⟨rfl, H⟩ | ⟨rfl, H⟩ := H
              ·obtain rfl := Option.some.inj H
               obtain ⟨hcz62_0, hcz62_1, hcz62_2, hcz62_3, hcz62_4, hcz62_5, hcz62_6, hfz62_0, hfz62_1, hfz62_2, hfz62_3, hfz62_4, hfz62_5, hfz62_6⟩ := cells7 BK101.out
               go_wp2_with ((go_at_call 95;(with_reducible refine (impl_hasText.calls a0_1 true _ A57.out).mono ?_);rintro e w' ⟨rfl, ⟨nd, rfl⟩⟩))
               go_ret
               exact ⟨o1, bs⟩
              ·obtain rfl := Option.some.inj H
               obtain ⟨hcz63_0, hcz63_1, hcz63_2, hcz63_3, hcz63_4, hcz63_5, hcz63_6, hfz63_0, hfz63_1, hfz63_2, hfz63_3, hfz63_4, hfz63_5, hfz63_6⟩ := cells7 BK101.out
               go_wp2_with ((go_at_call 95;(with_reducible refine (impl_hasText.calls a0_1 true _ A57.out).mono ?_);rintro e w' ⟨rfl, ⟨nd, rfl⟩⟩))
               go_ret
               exact ⟨o1, bs⟩
             ·obtain rfl := Option.some.inj H
              obtain ⟨hcz64_0, hcz64_1, hcz64_2, hcz64_3, hcz64_4, hcz64_5, hcz64_6, hfz64_0, hfz64_1, hfz64_2, hfz64_3, hfz64_4, hfz64_5, hfz64_6⟩ := cells7 BK101.out
              go_wp2_with ((go_at_call 95;(with_reducible refine (impl_hasText.calls a0_1 true _ A57.out).mono ?_);rintro e w' ⟨rfl, ⟨nd, rfl⟩⟩))
              go_ret
              exact ⟨o1, bs⟩
            ·obtain rfl := Option.some.inj H
             obtain ⟨hcz65_0, hcz65_1, hcz65_2, hcz65_3, hcz65_4, hcz65_5, hcz65_6, hfz65_0, hfz65_1, hfz65_2, hfz65_3, hfz65_4, hfz65_5, hfz65_6⟩ := cells7 BK101.out
             go_wp2_with ((go_at_call 95;(with_reducible refine (impl_hasText.calls a0_1 true _ A57.out).mono ?_);rintro e w' ⟨rfl, ⟨nd, rfl⟩⟩))
             go_ret
             exact ⟨o1, bs⟩
           ·replace H := ib H
            obtain ⟨rfl, H⟩ | ⟨rfl, H⟩ := H
            ·replace H := ib H
             obtain ⟨rfl, H⟩ | ⟨rfl, H⟩ := H
             ·replace H := ib H
              obtain ⟨rfl, H⟩ | ⟨rfl, H⟩ := H
              ·obtain rfl := Option.some.inj H
               obtain ⟨hcz69_0, hcz69_1, hcz69_2, hcz69_3, hcz69_4, hcz69_5, hcz69_6, hfz69_0, hfz69_1, hfz69_2, hfz69_3, hfz69_4, hfz69_5, hfz69_6⟩ := cells7 BK101.out
               go_wp2_with ((go_at_call 95;(with_reducible refine (impl_hasText.calls a0_1 false _ A57.out).mono ?_);rintro e w' ⟨rfl, ⟨nd, rfl⟩⟩))
               go_ret
               exact ⟨o1, bs⟩
              ·obtain rfl := Option.some.inj H
               obtain ⟨hcz70_0, hcz70_1, hcz70_2, hcz70_3, hcz70_4, hcz70_5, hcz70_6, hfz70_0, hfz70_1, hfz70_2, hfz70_3, hfz70_4, hfz70_5, hfz70_6⟩ := cells7 BK101.out
               go_wp2_with ((go_at_call 95;(with_reducible refine (impl_hasText.calls a0_1 false _ A57.out).mono ?_);rintro e w' ⟨rfl, ⟨nd, rfl⟩⟩))
               go_ret
               exact ⟨o1, bs⟩
             ·obtain rfl := Option.some.inj H
              obtain ⟨hcz71_0, hcz71_1, hcz71_2, hcz71_3, hcz71_4, hcz71_5, hcz71_6, hfz71_0, hfz71_1, hfz71_2, hfz71_3, hfz71_4, hfz71_5, hfz71_6⟩ := cells7 BK101.out
              go_wp2_with ((go_at_call 95;(with_reducible refine (impl_hasText.calls a0_1 false _ A57.out).mono ?_);rintro e w' ⟨rfl, ⟨nd, rfl⟩⟩))
              go_ret
              exact ⟨o1, bs⟩
            ·obtain rfl := Option.some.inj H
             obtain ⟨hcz72_0, hcz72_1, hcz72_2, hcz72_3, hcz72_4, hcz72_5, hcz72_6, hfz72_0, hfz72_1, hfz72_2, hfz72_3, hfz72_4, hfz72_5, hfz72_6⟩ := cells7 BK101.out
             go_wp2_with ((go_at_call 95;(with_reducible refine (impl_hasText.calls a0_1 false _ A57.out).mono ?_);rintro e w' ⟨rfl, ⟨nd, rfl⟩⟩))
             go_ret
             exact ⟨o1, bs⟩

/-- What the program's text of a record is. -/
def Rr67 (k : Nat) (nm : List (List Int)) (ty ttl addr : Int) (tn : List (List Int)) (tx nu : List Int) (r : List Int) : Prop :=
  (impl_RrOk.f k nm ty ttl addr tn tx nu = some false ∧ r = []) ∨
  (impl_RrOk.f k nm ty ttl addr tn tx nu = some true ∧ ∃ n1 s dt out, impl_NameText.f k nm = some n1 ∧ (-9223372036854775808 ≤ ttl ∧ ttl ≤ 9223372036854775807) ∧ impl_typeName.f ty = some s ∧ impl_words.f k [strOfNums n1, itoaS ttl, s, dt] = some out ∧ DataI k ty addr tn tx nu dt ∧ out.size ≤ 5000000 ∧ r = strBytes out)
set_option maxHeartbeats 4000000 in
set_option maxRecDepth 100000 in
theorem irrtext_any (k : Nat) (A0 : Option Addr) (c0 : Nat) (nm : List (List Int)) (ty ttl addr : Int) (A4 : Option Addr) (c4 : Nat) (tn : List (List Int)) (A5 : Option Addr) (c5 : Nat) (tx : List Int) (A6 : Option Addr) (c6 : Nat) (nu : List Int) (r : List Int) (w : World)
    (hr0 : Kd.C (Kd.slice 5 (Kd.int .u8)) w A0 nm.length nm) (hc0 : nm.length ≤ c0) (hr4 : Kd.C (Kd.slice 5 (Kd.int .u8)) w A4 tn.length tn) (hc4 : tn.length ≤ c4) (hr5 : Kd.C (Kd.int .u8) w A5 tx.length tx) (hc5 : tx.length ≤ c5) (hr6 : Kd.C (Kd.int .i64) w A6 nu.length nu) (hc6 : nu.length ≤ c6)
    (hT : TabA w) (h : Rr67 k nm ty ttl addr tn tx nu r) :
    Calls Tryd.prog 33 #[.agg #[.slice A0 nm.length c0, .int .i64 ty, .int .i64 ttl, .int .i64 addr, .slice A4 tn.length c4, .slice A5 tx.length c5, .slice A6 nu.length c6]] w fun e w' => ∃ v : Value, e = .returned v ∧ Zr 5 w' w.heap.size (fun _ => True) v r ∧ Below w.heap.size w w' := by
  have HT := ak hT
  clear hT
  have HR0 := ak hr0
  have HC0 := ak hc0
  have HR4 := ak hr4
  have HC4 := ak hc4
  have HR5 := ak hr5
  have HC5 := ak hc5
  have HR6 := ak hr6
  have HC6 := ak hc6
  clear hr0 hc0 hr4 hc4 hr5 hc5 hr6 hc6
  rcases h with ⟨hok, rfl⟩ | ⟨hok, n1, s, dt, out, h1, h2, h3, h4, hd, l4, rfl⟩
  · have HOK := ak hok
    clear hok
    go_enter Tryd.func33, Tryd.ntmps33
    go_wp2_with (fail)
    have HB := ak (below_alloc (Below.refl w.heap.size w) (.cells #[.slice A0 nm.length c0, .int .i64 ty, .int .i64 ttl, .int .i64 addr, .slice A4 tn.length c4, .slice A5 tx.length c5, .slice A6 nu.length c6] 51))
    refine (impl_RrOk.calls k A0 c0 nm ty ttl addr A4 c4 tn A5 c5 tx A6 c6 nu false _ (Kd.C_alloc HR0.out _) HC0.out (Kd.C_alloc HR4.out _) HC4.out (Kd.C_alloc HR5.out _) HC5.out (Kd.C_alloc HR6.out _) HC6.out HOK.out).mono ?_
    rintro e w2 ⟨rfl, hb⟩
    replace HB := b2s HB.out hb
    clear hb
    go_wp2
    go_ret
    exact ⟨_, rfl, .inl (Kd.R_nil _ _ _ _ _), HB.out⟩
  · have HOK := ak hok
    have H1 := ak h1
    have H2 := ak h2
    have H3 := ak h3
    have H4 := ak h4
    have HDT := ak hd
    have L4 := ak l4
    clear hok h1 h2 h3 h4 hd l4
    go_enter Tryd.func33, Tryd.ntmps33
    go_wp2_with (fail)
    obtain ⟨W1, hW1⟩ : ∃ W, W = w.alloc (.cells #[.slice A0 nm.length c0, .int .i64 ty, .int .i64 ttl, .int .i64 addr, .slice A4 tn.length c4, .slice A5 tx.length c5, .slice A6 nu.length c6] 51) := ⟨_, rfl⟩
    have BK := ak (show W1.heap[w.heap.size]? = some (.cells #[.slice A0 nm.length c0, .int .i64 ty, .int .i64 ttl, .int .i64 addr, .slice A4 tn.length c4, .slice A5 tx.length c5, .slice A6 nu.length c6] 51 (0, 0)) by rw [hW1]; exact heap_alloc_new w _)
    have HB := ak (show Below w.heap.size w W1 by rw [hW1]; exact below_alloc (Below.refl _ _) _)
    rw [← hW1]
    clear hW1
    refine (impl_RrOk.calls k A0 c0 nm ty ttl addr A4 c4 tn A5 c5 tx A6 c6 nu true _ (Kd.C_below HR0.out HB.out) HC0.out (Kd.C_below HR4.out HB.out) HC4.out (Kd.C_below HR5.out HB.out) HC5.out (Kd.C_below HR6.out HB.out) HC6.out HOK.out).mono ?_
    rintro e w2 ⟨rfl, hb⟩
    replace BK := ak (blk_below BK.out hb)
    replace HB := b2s HB.out hb
    have h0 := (blk_cell BK.out 0).trans rfl
    have h1 := (blk_cell BK.out 1).trans rfl
    have h2 := (blk_cell BK.out 2).trans rfl
    have h3 := (blk_cell BK.out 3).trans rfl
    have h4 := (blk_cell BK.out 4).trans rfl
    have h5 := (blk_cell BK.out 5).trans rfl
    have h6 := (blk_cell BK.out 6).trans rfl
    clear hb
    go_wp2_with (fail)
    refine (text_any k A0 c0 nm ty ttl addr A4 c4 tn A5 c5 tx A6 c6 nu w2 (tab_below HT.out HB.out) (Kd.C_below HR0.out HB.out) HC0.out (Kd.C_below HR4.out HB.out) HC4.out (Kd.C_below HR5.out HB.out) HC5.out (Kd.C_below HR6.out HB.out) HC6.out n1 s dt out H1.out H2.out H3.out H4.out HDT.out).mono ?_
    rintro e w3 ⟨rfl, hb⟩
    replace HB := b2s HB.out hb
    have hcv := conv_s out
    clear hb h0 h1 h2 h3 h4 h5 h6
    go_wp2
    have hcap := grownCap_ge w3 out.size 0 5
    generalize grownCap w3 out.size 0 5 = cap3 at hcap ⊢
    clear hcv
    go_ret
    exact ⟨_, rfl, .inr (Zs_str w3 out cap3 _ (by have := L4.out; omega) hcap HB.out.size), below_drew1 (below_alloc HB.out _)⟩

/-! ### laws_szByteS: function 60 -/
def laws_szByteS.f (l0 : List Int) (a1 : Int) : Option (Int) := if (wrap64 (a1 - (l0.length : Int))) < 0 then (some (-1)) else (some (wrap64 (a1 - (l0.length : Int))))
set_option maxHeartbeats 8000000 in
set_option maxRecDepth 100000 in
theorem laws_szByteS.calls (A0 : Option Addr) (c0 : Nat) (l0 : List Int) (a1 : Int) (r : Int) (w : World) (hr0 : Kd.C (Kd.int .u8) w A0 l0.length l0) (hc0 : l0.length ≤ c0) (h : laws_szByteS.f l0 a1 = some r) :
  Calls Tryd.prog 60 #[.slice A0 l0.length c0, .int .i64 a1] w fun e w' => e = .returned (.int .i64 r) ∧ Drawn0 w w' := by
 have HR0 := ak hr0
 have HC0 := ak hc0
 clear hr0 hc0
 have H : (if (wrap64 (a1 - (l0.length : Int))) < 0 then (some (-1)) else (some (wrap64 (a1 - (l0.length : Int))))) = some r := h
 clear h
 replace H := ip H
 obtain ⟨c3b0, H⟩ | ⟨c3b0, H⟩ := H
 ·obtain rfl := Option.some.inj H
  go_enter Tryd.func60, Tryd.ntmps60
  go_wp2
  go_ret
  exact ⟨o2, od⟩
 ·obtain rfl := Option.some.inj H
  go_enter Tryd.func60, Tryd.ntmps60
  go_wp2
  go_ret
  exact ⟨o2, od⟩

/-! ### laws_szByteSS: function 83 -/
def laws_szByteSS.l0 : Nat → List (List Int) → Int → Int → Option (Int)
 | 0, _, _, _ => none
 | k + 1, x0, x1, x5 => if x5 < (x0.length : Int) then (if 0 ≤ x5 then ((laws_szByteS.f (rd_L10 x0 x5) x1).bind fun t102 => (if t102 < 0 then (some (-1)) else (laws_szByteSS.l0 k x0 t102 (wrap64 (x5 + 1))))) else (none)) else (some x1)
def laws_szByteSS.f (k : Nat) (l0 : List (List Int)) (a1 : Int) : Option (Int) := if (wrap64 (a1 - (l0.length : Int))) < 0 then (some (-1)) else (laws_szByteSS.l0 k l0 (wrap64 (a1 - (l0.length : Int))) 0)
set_option maxHeartbeats 8000000 in
set_option maxRecDepth 100000 in
theorem laws_szByteSS.calls (k : Nat) (A0 : Option Addr) (c0 : Nat) (l0 : List (List Int)) (a1 : Int) (r : Int) (w : World) (hr0 : Kd.C (Kd.slice 5 (Kd.int .u8)) w A0 l0.length l0) (hc0 : l0.length ≤ c0) (h : laws_szByteSS.f k l0 a1 = some r) :
  Calls Tryd.prog 83 #[.slice A0 l0.length c0, .int .i64 a1] w fun e w' => e = .returned (.int .i64 r) ∧ Drawn0 w w' := by
 have HR0 := ak hr0
 have HC0 := ak hc0
 clear hr0 hc0
 have H : (if (wrap64 (a1 - (l0.length : Int))) < 0 then (some (-1)) else (laws_szByteSS.l0 k l0 (wrap64 (a1 - (l0.length : Int))) 0)) = some r := h
 clear h
 replace H := ip H
 obtain ⟨c3b0, H⟩ | ⟨c3b0, H⟩ := H
 ·obtain rfl := Option.some.inj H
  go_enter Tryd.func83, Tryd.ntmps83
  go_wp2
  go_ret
  exact ⟨o2, od⟩
 ·have H' := ak H
  clear H
  go_enter Tryd.func83, Tryd.ntmps83
  go_wp2
  go_loopg [1, 5] k (fun kq v1 v5 w' => ∃ (x1_1 : Int) (x5_1 : Int), v1 = .int .i64 x1_1 ∧ v5 = .int .i64 x5_1 ∧ Aside0 (laws_szByteSS.l0 kq l0 x1_1 x5_1 = some r) ∧ Aside0 (kq ≤ k) ∧ Drawn0 w w')
  case atStart => exact ⟨(wrap64 (a1 - (l0.length : Int))), (0), o2, o2, H', ⟨Nat.le_refl _⟩, od⟩
  case round =>
   clear H'
   (try clear c3b0)
   obtain ⟨x1_1, x5_1, rfl, rfl, HA, HK1, ⟨m1, rfl⟩⟩ := hrel
   cases gk with
   | zero => exact absurd HA.out (by simp [laws_szByteSS.l0])
   | succ k1 =>
    have H := HA.out
    clear HA
    simp only [laws_szByteSS.l0] at H
    replace H := ip H
    obtain ⟨c4b0, H⟩ | ⟨c4b0, H⟩ := H
    ·replace H := ipN H
     obtain ⟨c5b0, H⟩ := H
     replace H := bnd H
     obtain ⟨t102, A6, H⟩ := H
     replace H := ip H
     obtain ⟨c7b0, H⟩ | ⟨c7b0, H⟩ := H
     ·obtain rfl := Option.some.inj H
      obtain ⟨ad101, A101_0, c101_0, rfl, hx101_0, HC101_0, HR101_0, p101, q101⟩ := el0_L10 HR0 x5_1
      go_wp2_with (((with_reducible refine gate_callee (f := 60) rfl ?_);refine glD 23 rfl rfl Tryd.func60 (laws_szByteS.calls _ _ (rd_L10 l0 x5_1) x1_1 t102 _ (cd HR101_0) HC101_0.out A6.out) (fun nd => ?_)))
      go_ret
      exact ⟨o2, od⟩
     ·have H' := ak H
      clear H
      obtain ⟨ad101, A101_0, c101_0, rfl, hx101_0, HC101_0, HR101_0, p101, q101⟩ := el0_L10 HR0 x5_1
      go_wp2_with (((with_reducible refine gate_callee (f := 60) rfl ?_);refine glD 23 rfl rfl Tryd.func60 (laws_szByteS.calls _ _ (rd_L10 l0 x5_1) x1_1 t102 _ (cd HR101_0) HC101_0.out A6.out) (fun nd => ?_)))
      go_roundg k1
      case measure => have := HK1.out; omega
      case rel => exact ⟨(t102), (wrap64 (x5_1 + 1)), o2, o2, H', ⟨by have := HK1.out; omega⟩, od⟩
    ·obtain rfl := Option.some.inj H
     go_wp2
     go_ret
     exact ⟨o2, od⟩

/-! ### laws_szName: function 59 -/
def laws_szName.f (k : Nat) (l0_0 : List (List Int)) (a1 : Int) : Option (Int) := (laws_szByteSS.f k l0_0 a1).bind fun t102 => (if t102 < 0 then (some (-1)) else (some t102))
set_option maxHeartbeats 8000000 in
set_option maxRecDepth 100000 in
theorem laws_szName.calls (k : Nat) (A0_0 : Option Addr) (c0_0 : Nat) (l0_0 : List (List Int)) (a1 : Int) (r : Int) (w : World) (hr0_0 : Kd.C (Kd.slice 5 (Kd.int .u8)) w A0_0 l0_0.length l0_0) (hc0_0 : l0_0.length ≤ c0_0) (h : laws_szName.f k l0_0 a1 = some r) :
  Calls Tryd.prog 59 #[.agg #[.slice A0_0 l0_0.length c0_0], .int .i64 a1] w fun e w' => e = .returned (.int .i64 r) ∧ Below w.heap.size w w' := by
 have hu44 := Tryd.underlying44
 have HR0_0 := ak hr0_0
 have HC0_0 := ak hc0_0
 clear hr0_0 hc0_0
 have HB := ak (Below.refl w.heap.size w)
 have H : ((laws_szByteSS.f k l0_0 a1).bind fun t102 => (if t102 < 0 then (some (-1)) else (some t102))) = some r := h
 clear h
 replace H := bnd H
 obtain ⟨t102, A3, H⟩ := H
 replace H := ip H
 obtain ⟨c4b0, H⟩ | ⟨c4b0, H⟩ := H
 ·obtain rfl := Option.some.inj H
  go_enter Tryd.func59, Tryd.ntmps59
  go_wp2_with (first | ((with_reducible refine gate_dst (N := 2) rfl ?_);refine bxd (N := 2) rfl HB ?_;clear HB;intro gb101 w5 hg HB BK101 GE101 hb;have GW101 := GE101;clear hb hg;obtain ⟨hcz6_0, hfz6_0⟩ := cells1 BK101.out) | ((with_reducible refine gate_callee (f := 83) rfl ?_);refine glD 8 rfl rfl Tryd.func83 (laws_szByteSS.calls k _ _ l0_0 a1 t102 _ (cv HR0_0 HB) HC0_0.out A3.out) (fun nd => ?_)))
  go_ret
  exact ⟨o1, bs⟩
 ·obtain rfl := Option.some.inj H
  go_enter Tryd.func59, Tryd.ntmps59
  go_wp2_with (first | ((with_reducible refine gate_dst (N := 2) rfl ?_);refine bxd (N := 2) rfl HB ?_;clear HB;intro gb101 w7 hg HB BK101 GE101 hb;have GW101 := GE101;clear hb hg;obtain ⟨hcz8_0, hfz8_0⟩ := cells1 BK101.out) | ((with_reducible refine gate_callee (f := 83) rfl ?_);refine glD 8 rfl rfl Tryd.func83 (laws_szByteSS.calls k _ _ l0_0 a1 t102 _ (cv HR0_0 HB) HC0_0.out A3.out) (fun nd => ?_)))
  go_ret
  exact ⟨o1, bs⟩

/-! ### laws_szIntS: function 61 -/
def laws_szIntS.f (l0 : List Int) (a1 : Int) : Option (Int) := if (wrap64 (a1 - (l0.length : Int))) < 0 then (some (-1)) else (some (wrap64 (a1 - (l0.length : Int))))
set_option maxHeartbeats 8000000 in
set_option maxRecDepth 100000 in
theorem laws_szIntS.calls (A0 : Option Addr) (c0 : Nat) (l0 : List Int) (a1 : Int) (r : Int) (w : World) (hr0 : Kd.C (Kd.int .i64) w A0 l0.length l0) (hc0 : l0.length ≤ c0) (h : laws_szIntS.f l0 a1 = some r) :
  Calls Tryd.prog 61 #[.slice A0 l0.length c0, .int .i64 a1] w fun e w' => e = .returned (.int .i64 r) ∧ Drawn0 w w' := by
 have HR0 := ak hr0
 have HC0 := ak hc0
 clear hr0 hc0
 have H : (if (wrap64 (a1 - (l0.length : Int))) < 0 then (some (-1)) else (some (wrap64 (a1 - (l0.length : Int))))) = some r := h
 clear h
 replace H := ip H
 obtain ⟨c3b0, H⟩ | ⟨c3b0, H⟩ := H
 ·obtain rfl := Option.some.inj H
  go_enter Tryd.func61, Tryd.ntmps61
  go_wp2
  go_ret
  exact ⟨o2, od⟩
 ·obtain rfl := Option.some.inj H
  go_enter Tryd.func61, Tryd.ntmps61
  go_wp2
  go_ret
  exact ⟨o2, od⟩

/-! ### laws_szRr: function 30 -/
def laws_szRr.f (k : Nat) (l0_0 : List (List Int)) (a0_1 : Int) (a0_2 : Int) (a0_3 : Int) (l0_4 : List (List Int)) (l0_5 : List Int) (l0_6 : List Int) (a1 : Int) : Option (Int) := (laws_szName.f k l0_0 a1).bind fun t102 => (if t102 < 0 then (some (-1)) else ((laws_szName.f k l0_4 t102).bind fun t103 => (if t103 < 0 then (some (-1)) else ((laws_szByteS.f l0_5 t103).bind fun t104 => (if t104 < 0 then (some (-1)) else ((laws_szIntS.f l0_6 t104).bind fun t105 => (if t105 < 0 then (some (-1)) else (some t105))))))))
set_option maxHeartbeats 8000000 in
set_option maxRecDepth 100000 in
theorem laws_szRr.calls (k : Nat) (A0_0 : Option Addr) (c0_0 : Nat) (l0_0 : List (List Int)) (a0_1 : Int) (a0_2 : Int) (a0_3 : Int) (A0_4 : Option Addr) (c0_4 : Nat) (l0_4 : List (List Int)) (A0_5 : Option Addr) (c0_5 : Nat) (l0_5 : List Int) (A0_6 : Option Addr) (c0_6 : Nat) (l0_6 : List Int) (a1 : Int) (r : Int) (w : World) (hr0_0 : Kd.C (Kd.slice 5 (Kd.int .u8)) w A0_0 l0_0.length l0_0) (hc0_0 : l0_0.length ≤ c0_0) (hr0_4 : Kd.C (Kd.slice 5 (Kd.int .u8)) w A0_4 l0_4.length l0_4) (hc0_4 : l0_4.length ≤ c0_4) (hr0_5 : Kd.C (Kd.int .u8) w A0_5 l0_5.length l0_5) (hc0_5 : l0_5.length ≤ c0_5) (hr0_6 : Kd.C (Kd.int .i64) w A0_6 l0_6.length l0_6) (hc0_6 : l0_6.length ≤ c0_6) (h : laws_szRr.f k l0_0 a0_1 a0_2 a0_3 l0_4 l0_5 l0_6 a1 = some r) :
  Calls Tryd.prog 30 #[.agg #[.slice A0_0 l0_0.length c0_0, .int .i64 a0_1, .int .i64 a0_2, .int .i64 a0_3, .slice A0_4 l0_4.length c0_4, .slice A0_5 l0_5.length c0_5, .slice A0_6 l0_6.length c0_6], .int .i64 a1] w fun e w' => e = .returned (.int .i64 r) ∧ Below w.heap.size w w' := by
 have hu47 := Tryd.underlying47
 have hu44 := Tryd.underlying44
 have HR0_0 := ak hr0_0
 have HC0_0 := ak hc0_0
 clear hr0_0 hc0_0
 have HR0_4 := ak hr0_4
 have HC0_4 := ak hc0_4
 clear hr0_4 hc0_4
 have HR0_5 := ak hr0_5
 have HC0_5 := ak hc0_5
 clear hr0_5 hc0_5
 have HR0_6 := ak hr0_6
 have HC0_6 := ak hc0_6
 clear hr0_6 hc0_6
 have HB := ak (Below.refl w.heap.size w)
 have H : ((laws_szName.f k l0_0 a1).bind fun t102 => (if t102 < 0 then (some (-1)) else ((laws_szName.f k l0_4 t102).bind fun t103 => (if t103 < 0 then (some (-1)) else ((laws_szByteS.f l0_5 t103).bind fun t104 => (if t104 < 0 then (some (-1)) else ((laws_szIntS.f l0_6 t104).bind fun t105 => (if t105 < 0 then (some (-1)) else (some t105))))))))) = some r := h
 clear h
 replace H := bnd H
 obtain ⟨t102, A3, H⟩ := H
 replace H := ip H
 obtain ⟨c4b0, H⟩ | ⟨c4b0, H⟩ := H
 ·obtain rfl := Option.some.inj H
  go_enter Tryd.func30, Tryd.ntmps30
  go_wp2_with (first | ((with_reducible refine gate_dst (N := 2) rfl ?_);refine bxd (N := 2) rfl HB ?_;clear HB;intro gb101 w5 hg HB BK101 GE101 hb;have GW101 := GE101;clear hb hg;obtain ⟨hcz6_0, hcz6_1, hcz6_2, hcz6_3, hcz6_4, hcz6_5, hcz6_6, hfz6_0, hfz6_1, hfz6_2, hfz6_3, hfz6_4, hfz6_5, hfz6_6⟩ := cells7 BK101.out) | ((with_reducible refine gate_callee (f := 59) rfl ?_);refine glB 8 rfl rfl Tryd.func59 (laws_szName.calls k _ _ l0_0 a1 t102 _ (cv HR0_0 HB) HC0_0.out A3.out) (fun w7 hb => ?_);replace BK101 := b1 BK101 hb;replace HB := b2s bs hb;(try clear hb)))
  go_ret
  exact ⟨o1, bs⟩
 ·replace H := bnd H
  obtain ⟨t103, A8, H⟩ := H
  replace H := ip H
  obtain ⟨c9b0, H⟩ | ⟨c9b0, H⟩ := H
  ·obtain rfl := Option.some.inj H
   go_enter Tryd.func30, Tryd.ntmps30
   go_wp2_with (first | ((with_reducible refine gate_dst (N := 2) rfl ?_);refine bxd (N := 2) rfl HB ?_;clear HB;intro gb101 w10 hg HB BK101 GE101 hb;have GW101 := GE101;clear hb hg;obtain ⟨hcz11_0, hcz11_1, hcz11_2, hcz11_3, hcz11_4, hcz11_5, hcz11_6, hfz11_0, hfz11_1, hfz11_2, hfz11_3, hfz11_4, hfz11_5, hfz11_6⟩ := cells7 BK101.out) | ((with_reducible refine gate_callee (f := 59) rfl ?_);refine glB 8 rfl rfl Tryd.func59 (laws_szName.calls k _ _ l0_0 a1 t102 _ (cv HR0_0 HB) HC0_0.out A3.out) (fun w12 hb => ?_);replace BK101 := b1 BK101 hb;replace HB := b2s bs hb;(try clear hb);obtain ⟨hcz13_0, hcz13_1, hcz13_2, hcz13_3, hcz13_4, hcz13_5, hcz13_6, hfz13_0, hfz13_1, hfz13_2, hfz13_3, hfz13_4, hfz13_5, hfz13_6⟩ := cells7 BK101.out) | ((with_reducible refine gate_callee (f := 59) rfl ?_);refine glB 14 rfl rfl Tryd.func59 (laws_szName.calls k _ _ l0_4 t102 t103 _ (cv HR0_4 HB) HC0_4.out A8.out) (fun w14 hb => ?_);replace BK101 := b1 BK101 hb;replace HB := b2s bs hb;(try clear hb)))
   go_ret
   exact ⟨o1, bs⟩
  ·replace H := bnd H
   obtain ⟨t104, A15, H⟩ := H
   replace H := ip H
   obtain ⟨c16b0, H⟩ | ⟨c16b0, H⟩ := H
   ·obtain rfl := Option.some.inj H
    go_enter Tryd.func30, Tryd.ntmps30
    go_wp2_with (first | ((with_reducible refine gate_dst (N := 2) rfl ?_);refine bxd (N := 2) rfl HB ?_;clear HB;intro gb101 w17 hg HB BK101 GE101 hb;have GW101 := GE101;clear hb hg;obtain ⟨hcz18_0, hcz18_1, hcz18_2, hcz18_3, hcz18_4, hcz18_5, hcz18_6, hfz18_0, hfz18_1, hfz18_2, hfz18_3, hfz18_4, hfz18_5, hfz18_6⟩ := cells7 BK101.out) | ((with_reducible refine gate_callee (f := 59) rfl ?_);refine glB 8 rfl rfl Tryd.func59 (laws_szName.calls k _ _ l0_0 a1 t102 _ (cv HR0_0 HB) HC0_0.out A3.out) (fun w19 hb => ?_);replace BK101 := b1 BK101 hb;replace HB := b2s bs hb;(try clear hb);obtain ⟨hcz20_0, hcz20_1, hcz20_2, hcz20_3, hcz20_4, hcz20_5, hcz20_6, hfz20_0, hfz20_1, hfz20_2, hfz20_3, hfz20_4, hfz20_5, hfz20_6⟩ := cells7 BK101.out) | ((with_reducible refine gate_callee (f := 59) rfl ?_);refine glB 14 rfl rfl Tryd.func59 (laws_szName.calls k _ _ l0_4 t102 t103 _ (cv HR0_4 HB) HC0_4.out A8.out) (fun w21 hb => ?_);replace BK101 := b1 BK101 hb;replace HB := b2s bs hb;(try clear hb);obtain ⟨hcz22_0, hcz22_1, hcz22_2, hcz22_3, hcz22_4, hcz22_5, hcz22_6, hfz22_0, hfz22_1, hfz22_2, hfz22_3, hfz22_4, hfz22_5, hfz22_6⟩ := cells7 BK101.out) | ((with_reducible refine gate_callee (f := 60) rfl ?_);refine glD 20 rfl rfl Tryd.func60 (laws_szByteS.calls _ _ l0_5 t103 t104 _ (cv HR0_5 HB) HC0_5.out A15.out) (fun nd => ?_)))
    go_ret
    exact ⟨o1, bs⟩
   ·replace H := bnd H
    obtain ⟨t105, A23, H⟩ := H
    replace H := ip H
    obtain ⟨c24b0, H⟩ | ⟨c24b0, H⟩ := H
    ·obtain rfl := Option.some.inj H
     go_enter Tryd.func30, Tryd.ntmps30
     go_wp2_with (first | ((with_reducible refine gate_dst (N := 2) rfl ?_);refine bxd (N := 2) rfl HB ?_;clear HB;intro gb101 w25 hg HB BK101 GE101 hb;have GW101 := GE101;clear hb hg;obtain ⟨hcz26_0, hcz26_1, hcz26_2, hcz26_3, hcz26_4, hcz26_5, hcz26_6, hfz26_0, hfz26_1, hfz26_2, hfz26_3, hfz26_4, hfz26_5, hfz26_6⟩ := cells7 BK101.out) | ((with_reducible refine gate_callee (f := 59) rfl ?_);refine glB 8 rfl rfl Tryd.func59 (laws_szName.calls k _ _ l0_0 a1 t102 _ (cv HR0_0 HB) HC0_0.out A3.out) (fun w27 hb => ?_);replace BK101 := b1 BK101 hb;replace HB := b2s bs hb;(try clear hb);obtain ⟨hcz28_0, hcz28_1, hcz28_2, hcz28_3, hcz28_4, hcz28_5, hcz28_6, hfz28_0, hfz28_1, hfz28_2, hfz28_3, hfz28_4, hfz28_5, hfz28_6⟩ := cells7 BK101.out) | ((with_reducible refine gate_callee (f := 59) rfl ?_);refine glB 14 rfl rfl Tryd.func59 (laws_szName.calls k _ _ l0_4 t102 t103 _ (cv HR0_4 HB) HC0_4.out A8.out) (fun w29 hb => ?_);replace BK101 := b1 BK101 hb;replace HB := b2s bs hb;(try clear hb);obtain ⟨hcz30_0, hcz30_1, hcz30_2, hcz30_3, hcz30_4, hcz30_5, hcz30_6, hfz30_0, hfz30_1, hfz30_2, hfz30_3, hfz30_4, hfz30_5, hfz30_6⟩ := cells7 BK101.out) | ((with_reducible refine gate_callee (f := 60) rfl ?_);refine glD 20 rfl rfl Tryd.func60 (laws_szByteS.calls _ _ l0_5 t103 t104 _ (cv HR0_5 HB) HC0_5.out A15.out) (fun nd => ?_)) | ((with_reducible refine gate_callee (f := 61) rfl ?_);refine glD 26 rfl rfl Tryd.func61 (laws_szIntS.calls _ _ l0_6 t104 t105 _ ?side1 HC0_6.out A23.out) (fun nd => ?_);(case side1 => repeat (first | exact (Kd.C_below HR0_6.out bs) | (with_reducible refine Kd.C_alloc ?_ _) | (with_reducible refine Kd.C_drewN ?_ _) | (with_reducible refine Kd.C_drew ?_)))))
     go_ret
     exact ⟨o1, bs⟩
    ·obtain rfl := Option.some.inj H
     go_enter Tryd.func30, Tryd.ntmps30
     go_wp2_with (first | ((with_reducible refine gate_dst (N := 2) rfl ?_);refine bxd (N := 2) rfl HB ?_;clear HB;intro gb101 w31 hg HB BK101 GE101 hb;have GW101 := GE101;clear hb hg;obtain ⟨hcz32_0, hcz32_1, hcz32_2, hcz32_3, hcz32_4, hcz32_5, hcz32_6, hfz32_0, hfz32_1, hfz32_2, hfz32_3, hfz32_4, hfz32_5, hfz32_6⟩ := cells7 BK101.out) | ((with_reducible refine gate_callee (f := 59) rfl ?_);refine glB 8 rfl rfl Tryd.func59 (laws_szName.calls k _ _ l0_0 a1 t102 _ (cv HR0_0 HB) HC0_0.out A3.out) (fun w33 hb => ?_);replace BK101 := b1 BK101 hb;replace HB := b2s bs hb;(try clear hb);obtain ⟨hcz34_0, hcz34_1, hcz34_2, hcz34_3, hcz34_4, hcz34_5, hcz34_6, hfz34_0, hfz34_1, hfz34_2, hfz34_3, hfz34_4, hfz34_5, hfz34_6⟩ := cells7 BK101.out) | ((with_reducible refine gate_callee (f := 59) rfl ?_);refine glB 14 rfl rfl Tryd.func59 (laws_szName.calls k _ _ l0_4 t102 t103 _ (cv HR0_4 HB) HC0_4.out A8.out) (fun w35 hb => ?_);replace BK101 := b1 BK101 hb;replace HB := b2s bs hb;(try clear hb);obtain ⟨hcz36_0, hcz36_1, hcz36_2, hcz36_3, hcz36_4, hcz36_5, hcz36_6, hfz36_0, hfz36_1, hfz36_2, hfz36_3, hfz36_4, hfz36_5, hfz36_6⟩ := cells7 BK101.out) | ((with_reducible refine gate_callee (f := 60) rfl ?_);refine glD 20 rfl rfl Tryd.func60 (laws_szByteS.calls _ _ l0_5 t103 t104 _ (cv HR0_5 HB) HC0_5.out A15.out) (fun nd => ?_)) | ((with_reducible refine gate_callee (f := 61) rfl ?_);refine glD 26 rfl rfl Tryd.func61 (laws_szIntS.calls _ _ l0_6 t104 t105 _ ?side1 HC0_6.out A23.out) (fun nd => ?_);(case side1 => repeat (first | exact (Kd.C_below HR0_6.out bs) | (with_reducible refine Kd.C_alloc ?_ _) | (with_reducible refine Kd.C_drewN ?_ _) | (with_reducible refine Kd.C_drew ?_)))))
     go_ret
     exact ⟨o1, bs⟩

/-! ### laws_toByteS: function 19 -/
def laws_toByteS.l0 : Nat → List Int → List Int → Int → Option (List Int)
 | 0, _, _, _ => none
 | k + 1, x0, x3, x4 => if x4 < (x0.length : Int) then (if 0 ≤ x4 then (if x4 < (x3.length : Int) then (laws_toByteS.l0 k x0 (x3.set (x4 : Int).toNat (rd x0 x4)) (wrap64 (x4 + 1))) else (none)) else (none)) else (some x3)
def laws_toByteS.f (k : Nat) (l0 : List Int) : Option (List Int) := if 0 ≤ (l0.length : Int) then (if ((l0.length : Int) : Int).toNat ≤ 281474976710656 then (laws_toByteS.l0 k l0 (List.replicate ((l0.length : Int) : Int).toNat 0) 0) else (none)) else (none)
set_option maxHeartbeats 8000000 in
set_option maxRecDepth 100000 in
theorem laws_toByteS.calls (k : Nat) (A0 : Option Addr) (c0 : Nat) (l0 : List Int) (r : List Int) (w : World) (hr0 : Kd.C (Kd.int .u8) w A0 l0.length l0) (hc0 : l0.length ≤ c0) (h : laws_toByteS.f k l0 = some r) :
  Calls Tryd.prog 19 #[.slice A0 l0.length c0] w fun e w' => ∃ v0_ : Value, e = .returned (v0_) ∧ Kd.R (Kd.int .u8) 5 w' w.heap.size (fun _ => True) v0_ r ∧ Below w.heap.size w w' := by
 have HR0 := ak hr0
 have HC0 := ak hc0
 clear hr0 hc0
 have HB := ak (Below.refl w.heap.size w)
 have H : (if 0 ≤ (l0.length : Int) then (if ((l0.length : Int) : Int).toNat ≤ 281474976710656 then (laws_toByteS.l0 k l0 (List.replicate ((l0.length : Int) : Int).toNat 0) 0) else (none)) else (none)) = some r := h
 clear h
 replace H := ipE H
 obtain ⟨c2b0, c2b1, H⟩ := H
 replace H := ipE H
 obtain ⟨c3b0, c3b1, H⟩ := H
 obtain ⟨y101, hy101⟩ : ∃ y_ : List Int, y_ = (List.replicate ((l0.length : Int) : Int).toNat 0) := ⟨_, rfl⟩
 (try with_reducible replace H := bnS H)
 (try rw [← hy101] at H)
 have Ny101 := ak hy101
 clear hy101
 have H' := ak H
 clear H
 go_enter Tryd.func19, Tryd.ntmps19
 go_wp2_with (((with_reducible refine gate_dst (N := 7) rfl ?_);refine Kd.R_make (Kd.int .u8) _ 5 rfl (N := 7) rfl 22 _ _ rfl (l0.length : Int) rfl rfl Tryd.underlying22 (.int .u8 0) 1 info5 rfl (by decide) (by omega) 0 (ok := fun _ => True) (okp := fun _ => True) rfl (fun _ hk => hk) trivial (of_decide_eq_true (by first | (with_reducible assumption) | assumption)) (Nat.le_trans (Nat.mul_le_mul_right _ (of_decide_eq_true (by first | (with_reducible assumption) | assumption) : (l0.length : Int).toNat ≤ 281474976710656)) (by omega)) (Below.refl _ _) (Nat.le_refl _) ?_;intro v102 w4 ho5 hb hg_ hnew_;clear hg_ hnew_;(first | rw [← Ny101.out] at ho5 | (simp only [Int.reduceToNat] at ho5; rw [← Ny101.out] at ho5));have HO103 := ak (Kd.R_lower ho5 (below_size (bw HB.out)));replace HB := b2 HB hb;clear hb ho5))
 go_loopg [4] k (fun kq v4 w' => ∃ (x3_1 : List Int) (x4_1 : Int), v4 = .int .i64 x4_1 ∧ Aside0 (laws_toByteS.l0 kq l0 x3_1 x4_1 = some r) ∧ Aside0 (kq ≤ k) ∧ Aside0 (Kd.R (Kd.int .u8) 5 w' w.heap.size (fun _ => True) v102 x3_1) ∧ Aside0 (Below w.heap.size w w'))
 case atStart => exact ⟨(y101), (0), o2, H', ⟨Nat.le_refl _⟩, ⟨rw_ HO103.out⟩, ⟨bw HB.out⟩⟩
 case round =>
  clear H'
  (try clear c2b0)
  (try clear c2b1)
  (try clear c3b0)
  (try clear c3b1)
  obtain ⟨x3_1, x4_1, rfl, HA, HK1, HO_3, HB⟩ := hrel
  cases gk with
  | zero => exact absurd HA.out (by simp [laws_toByteS.l0])
  | succ k1 =>
   have H := HA.out
   clear HA
   simp only [laws_toByteS.l0] at H
   replace H := ip H
   obtain ⟨c6b0, H⟩ | ⟨c6b0, H⟩ := H
   ·replace H := ipN H
    obtain ⟨c7b0, H⟩ := H
    replace H := ipN H
    obtain ⟨c8b0, H⟩ := H
    obtain ⟨y105, hy105⟩ : ∃ y_ : List Int, y_ = (x3_1.set (x4_1 : Int).toNat (rd l0 x4_1)) := ⟨_, rfl⟩
    (try with_reducible replace H := bnS H)
    (try rw [← hy105] at H)
    have Ny105 := ak hy105
    clear hy105
    have H' := ak H
    clear H
    obtain ⟨ad104, rfl, hx104_0, p104, q104⟩ := el_int HR0 HB x4_1
    have p9 : 0 ≤ (x4_1 : Int) := of_decide_eq_true (by first | (with_reducible assumption) | assumption)
    have q9 : (x4_1 : Int) < ((x3_1.length : Int) : Int) := of_decide_eq_true (by first | (with_reducible assumption) | assumption)
    obtain ⟨go9, co9, eo9, gb9, gl9, cl9, HG9⟩ := Kd.R_form HO_3.out (by omega)
    (first | cases eo9 | (injection eo9 with ea_ en_ ec_; (first | subst ea_ | (injection ea_ with ea_; subst ea_)); subst ec_; clear en_))
    have GB9 := ak gb9
    have GG9 := ak HG9
    clear gb9 gl9 HG9
    obtain ⟨hx9_0, hf9_0⟩ := Kd.R_celln 0 HO_3.out (x4_1 : Int) p9 q9
    replace p9 := eq_true p9
    replace q9 := eq_true q9
    have HP10 := Kd.R_putg HO_3.out (x4_1 : Int) (rd l0 x4_1)
    go_wp2_with (((with_reducible refine gate_store (t := 5) (p := 20) rfl ?_);refine store_event (t := 5) (p := 20) (v := ?vo_w11) (w1 := (wr.setCell ⟨go9, (x4_1 : Int).toNat, none⟩ (.int .u8 (rd l0 x4_1)))) ?hg ?ho ?hn ?hr ?_;(case ho => rfl);(case hg => rfl);(case hn => rfl);(case hr => first | (go_simp; done) | (go_simp; rfl));intro w11 hw;have hg : wr.grownBy w11 (some go9) := (by rw [hw]; exact HP10.2);have hp_ : Kd.R (Kd.int .u8) 5 w11 w.heap.size (fun _ => True) (.slice (some ⟨go9, 0, none⟩) x3_1.length co9) y105 := (by rw [hw, Ny105.out]; exact HP10.1);clear HP10;replace HO_3 := ak (hp_);replace HB := ak ((by rw [hw]; exact below_set (HB.out) GB9.out : Below w.heap.size w w11));clear hg hw hp_))
    go_roundg k1
    case measure => have := HK1.out; omega
    case rel => exact ⟨(y105), (wrap64 (x4_1 + 1)), o2, H', ⟨by have := HK1.out; omega⟩, ⟨rw_ HO_3.out⟩, ⟨bw HB.out⟩⟩
   ·obtain rfl := Option.some.inj H
    go_wp2
    go_ret
    exact ⟨_, o1, rw_ HO_3.out, bw HB.out⟩

/-! ### laws_toByteSS: function 91 -/
def laws_toByteSS.l0 : Nat → List (List Int) → List (List Int) → Int → Option ((List (List Int)))
 | 0, _, _, _ => none
 | k + 1, x0, x3, x4 => if x4 < (x0.length : Int) then (if 0 ≤ x4 then ((laws_toByteS.f k (rd_L10 x0 x4)).bind fun t105 => (if x4 < (x3.length : Int) then (laws_toByteSS.l0 k x0 (x3.set (x4 : Int).toNat t105) (wrap64 (x4 + 1))) else (none))) else (none)) else (some x3)
def laws_toByteSS.f (k : Nat) (l0 : List (List Int)) : Option ((List (List Int))) := if 0 ≤ (l0.length : Int) then (if ((l0.length : Int) : Int).toNat ≤ 11728124029610 then (laws_toByteSS.l0 k l0 (List.replicate ((l0.length : Int) : Int).toNat []) 0) else (none)) else (none)
set_option maxHeartbeats 8000000 in
set_option maxRecDepth 100000 in
theorem laws_toByteSS.calls (k : Nat) (A0 : Option Addr) (c0 : Nat) (l0 : List (List Int)) (r : List (List Int)) (w : World) (hr0 : Kd.C (Kd.slice 5 (Kd.int .u8)) w A0 l0.length l0) (hc0 : l0.length ≤ c0) (h : laws_toByteSS.f k l0 = some r) :
  Calls Tryd.prog 91 #[.slice A0 l0.length c0] w fun e w' => ∃ v0_ : Value, e = .returned (v0_) ∧ Kd.S (Kd.slice 5 (Kd.int .u8)) 22 w' w.heap.size (fun _ => True) v0_ r ∧ Below w.heap.size w w' := by
 have HR0 := ak hr0
 have HC0 := ak hc0
 clear hr0 hc0
 have HB := ak (Below.refl w.heap.size w)
 have H : (if 0 ≤ (l0.length : Int) then (if ((l0.length : Int) : Int).toNat ≤ 11728124029610 then (laws_toByteSS.l0 k l0 (List.replicate ((l0.length : Int) : Int).toNat []) 0) else (none)) else (none)) = some r := h
 clear h
 replace H := ipE H
 obtain ⟨c2b0, c2b1, H⟩ := H
 replace H := ipE H
 obtain ⟨c3b0, c3b1, H⟩ := H
 obtain ⟨y101, hy101⟩ : ∃ y_ : List (List Int), y_ = (List.replicate ((l0.length : Int) : Int).toNat []) := ⟨_, rfl⟩
 (try with_reducible replace H := bnS H)
 (try rw [← hy101] at H)
 have Ny101 := ak hy101
 clear hy101
 have H' := ak H
 clear H
 go_enter Tryd.func91, Tryd.ntmps91
 go_wp2_with (((with_reducible refine gate_dst (N := 7) rfl ?_);refine Kd.S_make (Kd.slice 5 (Kd.int .u8)) _ 22 rfl (N := 7) rfl 27 _ _ rfl (l0.length : Int) rfl rfl Tryd.underlying27 (.slice none 0 0) 24 info22 rfl (by decide) (by omega) [] (ok := fun _ => True) (okp := fun _ => True) ⟨_, rfl, Kd.R_nil _ _ _ _ _⟩ (fun _ hk => hk) trivial (of_decide_eq_true (by first | (with_reducible assumption) | assumption)) (Nat.le_trans (Nat.mul_le_mul_right _ (of_decide_eq_true (by first | (with_reducible assumption) | assumption) : (l0.length : Int).toNat ≤ 11728124029610)) (by omega)) (Below.refl _ _) (Nat.le_refl _) ?_;intro v102 w4 ho5 hb hg_ hnew_;clear hg_ hnew_;(first | rw [← Ny101.out] at ho5 | (simp only [Int.reduceToNat] at ho5; rw [← Ny101.out] at ho5));have HO103 := ak (Kd.S_lower ho5 (below_size (bw HB.out)));replace HB := b2 HB hb;clear hb ho5))
 go_loopg [4] k (fun kq v4 w' => ∃ (x3_1 : List (List Int)) (x4_1 : Int), v4 = .int .i64 x4_1 ∧ Aside0 (laws_toByteSS.l0 kq l0 x3_1 x4_1 = some r) ∧ Aside0 (kq ≤ k) ∧ Aside0 (Kd.S (Kd.slice 5 (Kd.int .u8)) 22 w' w.heap.size (fun _ => True) v102 x3_1) ∧ Aside0 (Below w.heap.size w w'))
 case atStart => exact ⟨(y101), (0), o2, H', ⟨Nat.le_refl _⟩, ⟨sw HO103.out⟩, ⟨bw HB.out⟩⟩
 case round =>
  clear H'
  (try clear c2b0)
  (try clear c2b1)
  (try clear c3b0)
  (try clear c3b1)
  obtain ⟨x3_1, x4_1, rfl, HA, HK1, HO_3, HB⟩ := hrel
  cases gk with
  | zero => exact absurd HA.out (by simp [laws_toByteSS.l0])
  | succ k1 =>
   have H := HA.out
   clear HA
   simp only [laws_toByteSS.l0] at H
   replace H := ip H
   obtain ⟨c6b0, H⟩ | ⟨c6b0, H⟩ := H
   ·replace H := ipN H
    obtain ⟨c7b0, H⟩ := H
    replace H := bnd H
    obtain ⟨t105, A8, H⟩ := H
    replace H := ipN H
    obtain ⟨c9b0, H⟩ := H
    obtain ⟨y108, hy108⟩ : ∃ y_ : List (List Int), y_ = (x3_1.set (x4_1 : Int).toNat t105) := ⟨_, rfl⟩
    (try with_reducible replace H := bnS H)
    (try rw [← hy108] at H)
    have Ny108 := ak hy108
    clear hy108
    have H' := ak H
    clear H
    obtain ⟨ad104, A104_0, c104_0, rfl, hx104_0, HC104_0, HR104_0, p104, q104⟩ := el_L10 HR0 HB x4_1
    go_wp2_with (first | ((with_reducible refine gate_callee (f := 19) rfl ?_);refine glG 20 rfl rfl Tryd.func19 (laws_toByteS.calls k1 _ _ (rd_L10 l0 x4_1) t105 _ (cv HR104_0 HB) HC104_0.out A8.out) ?_;rintro e w11 ⟨v106, rfl, ho0, hb⟩;refine ⟨_, rfl, ?_⟩;replace HO_3 := ak (Kd.S_elder' (sw HO_3.out) (Kd.R_base ho0) hb);have HO107 := ak (Kd.R_lower ho0 (below_size (bw HB.out)));replace HB := b2 HB hb;(try clear hb);(try clear ho0);have p10 : 0 ≤ (x4_1 : Int) := of_decide_eq_true (by first | (with_reducible assumption) | assumption);have q10 : (x4_1 : Int) < ((x3_1.length : Int) : Int) := of_decide_eq_true (by first | (with_reducible assumption) | assumption);obtain ⟨go10, co10, eo10, gb10, gl10, cl10, HG10⟩ := Kd.S_form HO_3.out (by omega);(first | cases eo10 | (injection eo10 with ea_ en_ ec_; (first | subst ea_ | (injection ea_ with ea_; subst ea_)); subst ec_; clear en_));have GB10 := ak gb10;have GG10 := ak HG10;clear gb10 gl10 HG10;obtain ⟨_, ce10, hcl10, hM10, hcc10, hfr10, _, _⟩ := Kd.S_elem HO_3.out [] (x4_1 : Int) p10 q10;obtain ⟨ve10_0, rfl, ge10_0⟩ := hM10;have hx10_0 := hcc10 0 _ rfl;have hf10_0 := hfr10 0;(try simp only [show ((Kd.slice 5 (Kd.int .u8))).sz = 1 from rfl, Nat.mul_one, Nat.add_zero] at hx10_0);(try simp only [show ((Kd.slice 5 (Kd.int .u8))).sz = 1 from rfl, Nat.mul_one, Nat.add_zero] at hf10_0);(try clear hcl10);(try clear hcc10);(try clear hfr10);(try clear hM10);replace p10 := eq_true p10;replace q10 := eq_true q10;have n_ := ak (Kd.S_mono (ok' := (fun k_ => some k_ ≠ (v106 : Value).ownBlock)) HO_3.out (fun k_ hk => hk.2));clear HO_3;have HO_3 := n_;clear n_;have HX12 := ak (show Kd.S (Kd.slice 5 (Kd.int .u8)) 22 w11 w.heap.size (fun k_ => ((fun _ => True)) k_ ∧ ¬ ((fun k_ => some k_ = (v106 : Value).ownBlock)) k_) (.slice (some ⟨go10, 0, none⟩) x3_1.length co10) x3_1 from (sw (Kd.S_mono HO_3.out (fun k_ hk => ⟨trivial, fun e_ => hk e_⟩))));obtain ⟨oki12, ce12, hcl12, hM12, hcc12, hfr12, hoki12, hH12⟩ := Kd.S_elem HX12.out [] (x4_1 : Int) (of_decide_eq_true (by first | (with_reducible assumption) | assumption)) (by have h_ : (x4_1 : Int) < ((x3_1.length : Int) : Int) := of_decide_eq_true (by first | (with_reducible assumption) | assumption); first | exact h_ | (have e_ := (Kd.S_reads' HO_3.out).1; omega) | simpa using h_);obtain ⟨ve12_0, rfl, ge12_0⟩ := hM12;have HP12 := Kd.S_seg hH12 (of_decide_eq_true (by first | (with_reducible assumption) | assumption)) (by have h_ : (x4_1 : Int) < ((x3_1.length : Int) : Int) := of_decide_eq_true (by first | (with_reducible assumption) | assumption); first | exact h_ | (have e_ := (Kd.S_reads' HO_3.out).1; omega) | simpa using h_) (seg := [v106]) (j := 0) (show 1 ≤ 1 from by decide) (x' := t105) (Kd.M_row (Kd.R_mono (Kd.R_tight rfl (Kd.R_mono (ok' := fun k_ => ((fun _ => True)) k_ ∧ k_ ≠ go10) (Kd.R_apart' (HO107.out) (Kd.S_typed HO_3.out) (by decide)) (fun k_ hk => ⟨trivial, fun e_ => (hk.2) (by rw [e_]; rfl)⟩))) (fun _ h_ => Or.inr (h_)))) (fun _ hk => hk) (fun k_ hk_ => ((Kd.R_mono (ok' := fun k_ => ((fun _ => True)) k_ ∧ k_ ≠ go10) (Kd.R_apart' (HO107.out) (Kd.S_typed HO_3.out) (by decide)) (fun k_ hk => ⟨trivial, fun e_ => (hk.2) (by rw [e_]; rfl)⟩))).1 k_ hk_.symm);have hx12_0 := hcc12 0 _ rfl;(try simp only [show ((Kd.slice 5 (Kd.int .u8))).sz = 1 from rfl, Nat.mul_one, Nat.add_zero] at hx12_0);have hf12_0 := hfr12 0;(try simp only [show ((Kd.slice 5 (Kd.int .u8))).sz = 1 from rfl, Nat.mul_one, Nat.add_zero] at hf12_0);(try clear hcl12);(try clear hcc12);(try clear hfr12);(try clear hM12);(try clear hoki12);(try clear hH12);(try simp only [show ((Kd.slice 5 (Kd.int .u8))).sz = 1 from rfl, Nat.mul_one, Nat.add_zero] at HP12)) | ((with_reducible refine gate_store (t := 22) (p := 21) rfl ?_);refine store_event (t := 22) (p := 21) (v := ?vo_w13) (w1 := (w11.setCell ⟨go10, (x4_1 : Int).toNat, none⟩ (v106))) ?hg ?ho ?hn ?hr ?_;(case ho => rfl);(case hg => rfl);(case hn => rfl);(case hr => first | (go_simp; done) | (go_simp; rfl) | ((first | (obtain ⟨A_, c_, e_⟩ := Kd.R_slice HO107.out; rw [e_]) | (obtain ⟨A_, c_, e_⟩ := Kd.S_slice HO107.out; rw [e_])); first | (go_simp; done) | (go_simp; rfl)));intro w13 hw;have hg : w11.grownBy w13 (some go10) := (by rw [hw]; exact HP12.2);have hp_ : Kd.S (Kd.slice 5 (Kd.int .u8)) 22 w13 w.heap.size (fun _ => True) (.slice (some ⟨go10, 0, none⟩) x3_1.length co10) y108 := (by rw [hw, Ny108.out]; exact HP12.1);clear HP12;replace HO_3 := ak (hp_);replace HB := ak ((by rw [hw]; exact below_set (HB.out) GB10.out : Below w.heap.size w w13));clear HO107;clear hg hw hp_))
    go_roundg k1
    case measure => have := HK1.out; omega
    case rel => exact ⟨(y108), (wrap64 (x4_1 + 1)), o2, H', ⟨by have := HK1.out; omega⟩, ⟨sw HO_3.out⟩, ⟨bw HB.out⟩⟩
   ·obtain rfl := Option.some.inj H
    go_wp2
    go_ret
    exact ⟨_, o1, sw HO_3.out, bw HB.out⟩

/-! ### laws_toName: function 64 -/
def laws_toName.f (k : Nat) (l0_0 : List (List Int)) : Option ((List (List Int))) := (laws_toByteSS.f k l0_0).bind fun t104 => (some t104)
set_option maxHeartbeats 8000000 in
set_option maxRecDepth 100000 in
theorem laws_toName.calls (k : Nat) (A0_0 : Option Addr) (c0_0 : Nat) (l0_0 : List (List Int)) (r : List (List Int)) (w : World) (hr0_0 : Kd.C (Kd.slice 5 (Kd.int .u8)) w A0_0 l0_0.length l0_0) (hc0_0 : l0_0.length ≤ c0_0) (h : laws_toName.f k l0_0 = some r) :
  Calls Tryd.prog 64 #[.agg #[.slice A0_0 l0_0.length c0_0]] w fun e w' => ∃ v0_ : Value, e = .returned (.agg #[v0_]) ∧ Kd.S (Kd.slice 5 (Kd.int .u8)) 22 w' w.heap.size (fun _ => True) v0_ r ∧ Below w.heap.size w w' := by
 have hu44 := Tryd.underlying44
 have hu29 := Tryd.underlying29
 have HR0_0 := ak hr0_0
 have HC0_0 := ak hc0_0
 clear hr0_0 hc0_0
 have HB := ak (Below.refl w.heap.size w)
 have H : ((laws_toByteSS.f k l0_0).bind fun t104 => (some t104)) = some r := h
 clear h
 replace H := bnd H
 obtain ⟨t104, A2, H⟩ := H
 obtain rfl := Option.some.inj H
 go_enter Tryd.func64, Tryd.ntmps64
 go_wp2_with (first | ((with_reducible refine gate_dst (N := 1) rfl ?_);refine bxd (N := 1) rfl HB ?_;clear HB;intro gb101 w3 hg HB BK101 GE101 hb;have GW101 := GE101;clear hb hg) | ((with_reducible refine gate_dst (N := 2) rfl ?_);refine bxe (N := 2) rfl ?_;intro gb102 hg w4 hbox hb;have BK102 := ak (hbox);have GW102 := b3s hg bs;have GE102 := GW102;replace HB := b2s bs hb;have NB101_102 := b4 hg BK101;have NB102_101 := b5 hg BK101;replace BK101 := b1 BK101 hb;clear hb hbox hg) | ((with_reducible refine gate_dst (N := 3) rfl ?_);refine bxe (N := 3) rfl ?_;intro gb103 hg w5 hbox hb;have BK103 := ak (hbox);have GW103 := b3s hg bs;have GE103 := GW103;replace HB := b2s bs hb;have NB101_103 := b4 hg BK101;have NB103_101 := b5 hg BK101;replace BK101 := b1 BK101 hb;have NB102_103 := b4 hg BK102;have NB103_102 := b5 hg BK102;replace BK102 := b1 BK102 hb;clear hb hbox hg;have hnb6 := NB101_102.out;have hnc6 := NB102_101.out;have hnb7 := NB101_103.out;have hnc7 := NB103_101.out;obtain ⟨hcz8_0, hfz8_0⟩ := cells1 BK101.out) | ((with_reducible refine gate_callee (f := 91) rfl ?_);refine glG 6 rfl rfl Tryd.func91 (laws_toByteSS.calls k _ _ l0_0 t104 _ (cv HR0_0 HB) HC0_0.out A2.out) ?_;rintro e w9 ⟨v105, rfl, ho0, hb⟩;refine ⟨_, rfl, ?_⟩;have HO106 := ak (Kd.S_lower ho0 (below_size bs));replace BK101 := b1 BK101 hb;replace BK102 := b1 BK102 hb;replace BK103 := b1 BK103 hb;replace HB := b2s bs hb;(try clear hb);(try clear ho0);obtain ⟨Ao10, co10, eo10⟩ := Kd.S_slice HO106.out;subst eo10;have hnb11 := NB103_102.out;have hnc11 := NB102_103.out;obtain ⟨hcz12_0, hfz12_0⟩ := cells1 BK103.out;obtain ⟨hcz13_0, hfz13_0⟩ := cells1 BK102.out))
 refine bodyPost_ret (results_cell_row rfl _ _ gb102 29 #[.slice Ao10 t104.length co10] (0, 0) _ rfl (by (with_reducible repeat (first | refine blk_drewN ?_ _ | refine blk_drew ?_ | refine blk_alloc ?_ _)); refine blk_put (cs := #[.slice none 0 0]) ?_ 0 _ rfl; (with_reducible repeat (first | refine blk_drewN ?_ _ | refine blk_drew ?_ | refine blk_alloc ?_ _)); refine blk_far ?_ NB102_103.out _; (with_reducible repeat (first | refine blk_drewN ?_ _ | refine blk_drew ?_ | refine blk_alloc ?_ _)); exact BK102.out) Tryd.underlying29 rfl (by kernel_rfl)) rfl ?_
 exact ⟨_, o1, by (with_reducible repeat (first | apply Kd.S_alloc | apply Kd.S_drewN | apply Kd.S_drew)); exact Kd.S_mono (Kd.S_far (p := ⟨gb102, 0, none⟩) (Kd.S_far (p := ⟨gb103, 0, none⟩) (Kd.S_types (Kd.S_types HO106.out BK103.out (by decide)) BK102.out (by decide)) (fun _ hk => hk.1.2) (.slice Ao10 t104.length co10)) (fun _ hk => hk.2) (.slice Ao10 t104.length co10)) (fun _ hk => trivial), bs⟩

/-! ### laws_toIntS: function 65 -/
def laws_toIntS.l0 : Nat → List Int → List Int → Int → Option (List Int)
 | 0, _, _, _ => none
 | k + 1, x0, x3, x4 => if x4 < (x0.length : Int) then (if 0 ≤ x4 then (if x4 < (x3.length : Int) then (laws_toIntS.l0 k x0 (x3.set (x4 : Int).toNat (rd x0 x4)) (wrap64 (x4 + 1))) else (none)) else (none)) else (some x3)
def laws_toIntS.f (k : Nat) (l0 : List Int) : Option (List Int) := if 0 ≤ (l0.length : Int) then (if ((l0.length : Int) : Int).toNat ≤ 35184372088832 then (laws_toIntS.l0 k l0 (List.replicate ((l0.length : Int) : Int).toNat 0) 0) else (none)) else (none)
set_option maxHeartbeats 8000000 in
set_option maxRecDepth 100000 in
theorem laws_toIntS.calls (k : Nat) (A0 : Option Addr) (c0 : Nat) (l0 : List Int) (r : List Int) (w : World) (hr0 : Kd.C (Kd.int .i64) w A0 l0.length l0) (hc0 : l0.length ≤ c0) (h : laws_toIntS.f k l0 = some r) :
  Calls Tryd.prog 65 #[.slice A0 l0.length c0] w fun e w' => ∃ v0_ : Value, e = .returned (v0_) ∧ Kd.R (Kd.int .i64) 3 w' w.heap.size (fun _ => True) v0_ r ∧ Below w.heap.size w w' := by
 have HR0 := ak hr0
 have HC0 := ak hc0
 clear hr0 hc0
 have HB := ak (Below.refl w.heap.size w)
 have H : (if 0 ≤ (l0.length : Int) then (if ((l0.length : Int) : Int).toNat ≤ 35184372088832 then (laws_toIntS.l0 k l0 (List.replicate ((l0.length : Int) : Int).toNat 0) 0) else (none)) else (none)) = some r := h
 clear h
 replace H := ipE H
 obtain ⟨c2b0, c2b1, H⟩ := H
 replace H := ipE H
 obtain ⟨c3b0, c3b1, H⟩ := H
 obtain ⟨y101, hy101⟩ : ∃ y_ : List Int, y_ = (List.replicate ((l0.length : Int) : Int).toNat 0) := ⟨_, rfl⟩
 (try with_reducible replace H := bnS H)
 (try rw [← hy101] at H)
 have Ny101 := ak hy101
 clear hy101
 have H' := ak H
 clear H
 go_enter Tryd.func65, Tryd.ntmps65
 go_wp2_with (((with_reducible refine gate_dst (N := 7) rfl ?_);refine Kd.R_make (Kd.int .i64) _ 3 rfl (N := 7) rfl 45 _ _ rfl (l0.length : Int) rfl rfl Tryd.underlying45 (.int .i64 0) 8 info3 rfl (by decide) (by omega) 0 (ok := fun _ => True) (okp := fun _ => True) rfl (fun _ hk => hk) trivial (of_decide_eq_true (by first | (with_reducible assumption) | assumption)) (Nat.le_trans (Nat.mul_le_mul_right _ (of_decide_eq_true (by first | (with_reducible assumption) | assumption) : (l0.length : Int).toNat ≤ 35184372088832)) (by omega)) (Below.refl _ _) (Nat.le_refl _) ?_;intro v102 w4 ho5 hb hg_ hnew_;clear hg_ hnew_;(first | rw [← Ny101.out] at ho5 | (simp only [Int.reduceToNat] at ho5; rw [← Ny101.out] at ho5));have HO103 := ak (Kd.R_lower ho5 (below_size (bw HB.out)));replace HB := b2 HB hb;clear hb ho5))
 go_loopg [4] k (fun kq v4 w' => ∃ (x3_1 : List Int) (x4_1 : Int), v4 = .int .i64 x4_1 ∧ Aside0 (laws_toIntS.l0 kq l0 x3_1 x4_1 = some r) ∧ Aside0 (kq ≤ k) ∧ Aside0 (Kd.R (Kd.int .i64) 3 w' w.heap.size (fun _ => True) v102 x3_1) ∧ Aside0 (Below w.heap.size w w'))
 case atStart => exact ⟨(y101), (0), o2, H', ⟨Nat.le_refl _⟩, ⟨rw_ HO103.out⟩, ⟨bw HB.out⟩⟩
 case round =>
  clear H'
  (try clear c2b0)
  (try clear c2b1)
  (try clear c3b0)
  (try clear c3b1)
  obtain ⟨x3_1, x4_1, rfl, HA, HK1, HO_3, HB⟩ := hrel
  cases gk with
  | zero => exact absurd HA.out (by simp [laws_toIntS.l0])
  | succ k1 =>
   have H := HA.out
   clear HA
   simp only [laws_toIntS.l0] at H
   replace H := ip H
   obtain ⟨c6b0, H⟩ | ⟨c6b0, H⟩ := H
   ·replace H := ipN H
    obtain ⟨c7b0, H⟩ := H
    replace H := ipN H
    obtain ⟨c8b0, H⟩ := H
    obtain ⟨y105, hy105⟩ : ∃ y_ : List Int, y_ = (x3_1.set (x4_1 : Int).toNat (rd l0 x4_1)) := ⟨_, rfl⟩
    (try with_reducible replace H := bnS H)
    (try rw [← hy105] at H)
    have Ny105 := ak hy105
    clear hy105
    have H' := ak H
    clear H
    obtain ⟨ad104, rfl, hx104_0, p104, q104⟩ := el_int HR0 HB x4_1
    have p9 : 0 ≤ (x4_1 : Int) := of_decide_eq_true (by first | (with_reducible assumption) | assumption)
    have q9 : (x4_1 : Int) < ((x3_1.length : Int) : Int) := of_decide_eq_true (by first | (with_reducible assumption) | assumption)
    obtain ⟨go9, co9, eo9, gb9, gl9, cl9, HG9⟩ := Kd.R_form HO_3.out (by omega)
    (first | cases eo9 | (injection eo9 with ea_ en_ ec_; (first | subst ea_ | (injection ea_ with ea_; subst ea_)); subst ec_; clear en_))
    have GB9 := ak gb9
    have GG9 := ak HG9
    clear gb9 gl9 HG9
    obtain ⟨hx9_0, hf9_0⟩ := Kd.R_celln 0 HO_3.out (x4_1 : Int) p9 q9
    replace p9 := eq_true p9
    replace q9 := eq_true q9
    have HP10 := Kd.R_putg HO_3.out (x4_1 : Int) (rd l0 x4_1)
    go_wp2_with (((with_reducible refine gate_store (t := 3) (p := 20) rfl ?_);refine store_event (t := 3) (p := 20) (v := ?vo_w11) (w1 := (wr.setCell ⟨go9, (x4_1 : Int).toNat, none⟩ (.int .i64 (rd l0 x4_1)))) ?hg ?ho ?hn ?hr ?_;(case ho => rfl);(case hg => rfl);(case hn => rfl);(case hr => first | (go_simp; done) | (go_simp; rfl));intro w11 hw;have hg : wr.grownBy w11 (some go9) := (by rw [hw]; exact HP10.2);have hp_ : Kd.R (Kd.int .i64) 3 w11 w.heap.size (fun _ => True) (.slice (some ⟨go9, 0, none⟩) x3_1.length co9) y105 := (by rw [hw, Ny105.out]; exact HP10.1);clear HP10;replace HO_3 := ak (hp_);replace HB := ak ((by rw [hw]; exact below_set (HB.out) GB9.out : Below w.heap.size w w11));clear hg hw hp_))
    go_roundg k1
    case measure => have := HK1.out; omega
    case rel => exact ⟨(y105), (wrap64 (x4_1 + 1)), o2, H', ⟨by have := HK1.out; omega⟩, ⟨rw_ HO_3.out⟩, ⟨bw HB.out⟩⟩
   ·obtain rfl := Option.some.inj H
    go_wp2
    go_ret
    exact ⟨_, o1, rw_ HO_3.out, bw HB.out⟩

/-! ### laws_toRr: function 32 -/
def laws_toRr.f (k : Nat) (l0_0 : List (List Int)) (a0_1 : Int) (a0_2 : Int) (a0_3 : Int) (l0_4 : List (List Int)) (l0_5 : List Int) (l0_6 : List Int) : Option ((List (List Int)) × Int × Int × Int × (List (List Int)) × List Int × List Int) := (laws_toName.f k l0_0).bind fun t104 => ((laws_toName.f k l0_4).bind fun t107 => ((laws_toByteS.f k l0_5).bind fun t110 => ((laws_toIntS.f k l0_6).bind fun t113 => (some (t104, a0_1, a0_2, a0_3, t107, t110, t113)))))
set_option maxHeartbeats 8000000 in
set_option maxRecDepth 100000 in
theorem laws_toRr.calls (k : Nat) (A0_0 : Option Addr) (c0_0 : Nat) (l0_0 : List (List Int)) (a0_1 : Int) (a0_2 : Int) (a0_3 : Int) (A0_4 : Option Addr) (c0_4 : Nat) (l0_4 : List (List Int)) (A0_5 : Option Addr) (c0_5 : Nat) (l0_5 : List Int) (A0_6 : Option Addr) (c0_6 : Nat) (l0_6 : List Int) (r1 : List (List Int)) (r2 : Int) (r3 : Int) (r4 : Int) (r5 : List (List Int)) (r6 : List Int) (r7 : List Int) (w : World) (hr0_0 : Kd.C (Kd.slice 5 (Kd.int .u8)) w A0_0 l0_0.length l0_0) (hc0_0 : l0_0.length ≤ c0_0) (hr0_4 : Kd.C (Kd.slice 5 (Kd.int .u8)) w A0_4 l0_4.length l0_4) (hc0_4 : l0_4.length ≤ c0_4) (hr0_5 : Kd.C (Kd.int .u8) w A0_5 l0_5.length l0_5) (hc0_5 : l0_5.length ≤ c0_5) (hr0_6 : Kd.C (Kd.int .i64) w A0_6 l0_6.length l0_6) (hc0_6 : l0_6.length ≤ c0_6) (h : laws_toRr.f k l0_0 a0_1 a0_2 a0_3 l0_4 l0_5 l0_6 = some (r1, r2, r3, r4, r5, r6, r7)) :
  Calls Tryd.prog 32 #[.agg #[.slice A0_0 l0_0.length c0_0, .int .i64 a0_1, .int .i64 a0_2, .int .i64 a0_3, .slice A0_4 l0_4.length c0_4, .slice A0_5 l0_5.length c0_5, .slice A0_6 l0_6.length c0_6]] w fun e w' => ∃ v0_ v4_ v5_ v6_ : Value, e = .returned (.agg #[v0_, .int .i64 r2, .int .i64 r3, .int .i64 r4, v4_, v5_, v6_]) ∧ Kd.S (Kd.slice 5 (Kd.int .u8)) 22 w' w.heap.size (fun k_ => some k_ ≠ (v4_ : Value).ownBlock ∧ some k_ ≠ (v5_ : Value).ownBlock) v0_ r1 ∧ Kd.S (Kd.slice 5 (Kd.int .u8)) 22 w' w.heap.size (fun k_ => some k_ ≠ (v0_ : Value).ownBlock ∧ some k_ ≠ (v5_ : Value).ownBlock) v4_ r5 ∧ Kd.R (Kd.int .u8) 5 w' w.heap.size (fun _ => True) v5_ r6 ∧ Kd.R (Kd.int .i64) 3 w' w.heap.size (fun _ => True) v6_ r7 ∧ Below w.heap.size w w' := by
 have hu47 := Tryd.underlying47
 have hu51 := Tryd.underlying51
 have hu44 := Tryd.underlying44
 have hu29 := Tryd.underlying29
 have HR0_0 := ak hr0_0
 have HC0_0 := ak hc0_0
 clear hr0_0 hc0_0
 have HR0_4 := ak hr0_4
 have HC0_4 := ak hc0_4
 clear hr0_4 hc0_4
 have HR0_5 := ak hr0_5
 have HC0_5 := ak hc0_5
 clear hr0_5 hc0_5
 have HR0_6 := ak hr0_6
 have HC0_6 := ak hc0_6
 clear hr0_6 hc0_6
 have HB := ak (Below.refl w.heap.size w)
 have H : ((laws_toName.f k l0_0).bind fun t104 => ((laws_toName.f k l0_4).bind fun t107 => ((laws_toByteS.f k l0_5).bind fun t110 => ((laws_toIntS.f k l0_6).bind fun t113 => (some (t104, a0_1, a0_2, a0_3, t107, t110, t113)))))) = some (r1, r2, r3, r4, r5, r6, r7) := h
 clear h
 replace H := bnd H
 obtain ⟨t104, A2, H⟩ := H
 replace H := bnd H
 obtain ⟨t107, A3, H⟩ := H
 replace H := bnd H
 obtain ⟨t110, A4, H⟩ := H
 replace H := bnd H
 obtain ⟨t113, A5, H⟩ := H
 simp only [Option.some.injEq, Prod.mk.injEq] at H
 obtain ⟨rfl, rfl, rfl, rfl, rfl, rfl, rfl⟩ := H
 go_enter Tryd.func32, Tryd.ntmps32
 go_wp2_with (first | ((with_reducible refine gate_dst (N := 1) rfl ?_);refine bxd (N := 1) rfl HB ?_;clear HB;intro gb101 w6 hg HB BK101 GE101 hb;have GW101 := GE101;clear hb hg) | ((with_reducible refine gate_dst (N := 2) rfl ?_);refine bxe (N := 2) rfl ?_;intro gb102 hg w7 hbox hb;have BK102 := ak (hbox);have GW102 := b3s hg bs;have GE102 := GW102;replace HB := b2s bs hb;have NB101_102 := b4 hg BK101;have NB102_101 := b5 hg BK101;replace BK101 := b1 BK101 hb;clear hb hbox hg) | ((with_reducible refine gate_dst (N := 3) rfl ?_);refine bxe (N := 3) rfl ?_;intro gb103 hg w8 hbox hb;have BK103 := ak (hbox);have GW103 := b3s hg bs;have GE103 := GW103;replace HB := b2s bs hb;have NB101_103 := b4 hg BK101;have NB103_101 := b5 hg BK101;replace BK101 := b1 BK101 hb;have NB102_103 := b4 hg BK102;have NB103_102 := b5 hg BK102;replace BK102 := b1 BK102 hb;clear hb hbox hg;have hnb9 := NB101_102.out;have hnc9 := NB102_101.out;have hnb10 := NB101_103.out;have hnc10 := NB103_101.out;obtain ⟨hcz11_0, hcz11_1, hcz11_2, hcz11_3, hcz11_4, hcz11_5, hcz11_6, hfz11_0, hfz11_1, hfz11_2, hfz11_3, hfz11_4, hfz11_5, hfz11_6⟩ := cells7 BK101.out) | ((with_reducible refine gate_callee (f := 64) rfl ?_);refine glG 6 rfl rfl Tryd.func64 (laws_toName.calls k _ _ l0_0 t104 _ (cv HR0_0 HB) HC0_0.out A2.out) ?_;rintro e w12 ⟨v105, rfl, ho0, hb⟩;refine ⟨_, rfl, ?_⟩;have HO106 := ak (Kd.S_lower ho0 (below_size bs));replace BK101 := b1 BK101 hb;replace BK102 := b1 BK102 hb;replace BK103 := b1 BK103 hb;replace HB := b2s bs hb;(try clear hb);(try clear ho0);obtain ⟨Ao13, co13, eo13⟩ := Kd.S_slice HO106.out;subst eo13;have hnb14 := NB103_102.out;have hnc14 := NB102_103.out;obtain ⟨hcz15_0, hcz15_1, hcz15_2, hcz15_3, hcz15_4, hcz15_5, hcz15_6, hfz15_0, hfz15_1, hfz15_2, hfz15_3, hfz15_4, hfz15_5, hfz15_6⟩ := cells7 BK103.out;obtain ⟨hcz16_0, hcz16_1, hcz16_2, hcz16_3, hcz16_4, hcz16_5, hcz16_6, hfz16_0, hfz16_1, hfz16_2, hfz16_3, hfz16_4, hfz16_5, hfz16_6⟩ := cells7 BK101.out) | ((with_reducible refine gate_callee (f := 64) rfl ?_);refine glG 19 rfl rfl Tryd.func64 (laws_toName.calls k _ _ l0_4 t107 _ (Kd.C_below HR0_4.out bs) HC0_4.out A3.out) ?_;rintro e w17 ⟨v108, rfl, ho0, hb⟩;refine ⟨_, rfl, ?_⟩;have HO109 := ak (Kd.S_lower (Kd.S_new' ho0 (Kd.S_lt (by (with_reducible repeat (first | apply Kd.S_alloc | apply Kd.S_drewN | apply Kd.S_drew)); exact (Kd.S_mono (Kd.S_far (p := ⟨gb103, 3, none⟩) (Kd.S_far (p := ⟨gb103, 2, none⟩) (Kd.S_far (p := ⟨gb103, 1, none⟩) (Kd.S_far (p := ⟨gb103, 0, none⟩) (Kd.S_types HO106.out BK103.out (by decide)) (fun _ hk => hk.2) (.slice Ao13 t104.length co13)) (fun _ hk => hk.2) (.int .i64 a0_1)) (fun _ hk => hk.2) (.int .i64 a0_2)) (fun _ hk => hk.2) (.int .i64 a0_3)) (fun _ h_ => h_.1))))) (below_size bs));replace HO106 := ak (Kd.S_elder' (by (with_reducible repeat (first | apply Kd.S_alloc | apply Kd.S_drewN | apply Kd.S_drew)); exact (Kd.S_mono (Kd.S_far (p := ⟨gb103, 3, none⟩) (Kd.S_far (p := ⟨gb103, 2, none⟩) (Kd.S_far (p := ⟨gb103, 1, none⟩) (Kd.S_far (p := ⟨gb103, 0, none⟩) (Kd.S_types HO106.out BK103.out (by decide)) (fun _ hk => hk.2) (.slice Ao13 t104.length co13)) (fun _ hk => hk.2) (.int .i64 a0_1)) (fun _ hk => hk.2) (.int .i64 a0_2)) (fun _ hk => hk.2) (.int .i64 a0_3)) (fun _ h_ => h_.1))) (Kd.S_base ho0) hb);replace BK101 := ak (blk_below (g := gb101) (o := .cells #[.slice A0_0 l0_0.length c0_0, .int .i64 a0_1, .int .i64 a0_2, .int .i64 a0_3, .slice A0_4 l0_4.length c0_4, .slice A0_5 l0_5.length c0_5, .slice A0_6 l0_6.length c0_6] 47 (0, 0)) (by (with_reducible repeat (first | refine blk_drewN ?_ _ | refine blk_drew ?_ | refine blk_alloc ?_ _)); refine blk_far ?_ NB101_103.out _; (with_reducible repeat (first | refine blk_drewN ?_ _ | refine blk_drew ?_ | refine blk_alloc ?_ _)); refine blk_far ?_ NB101_103.out _; (with_reducible repeat (first | refine blk_drewN ?_ _ | refine blk_drew ?_ | refine blk_alloc ?_ _)); refine blk_far ?_ NB101_103.out _; (with_reducible repeat (first | refine blk_drewN ?_ _ | refine blk_drew ?_ | refine blk_alloc ?_ _)); refine blk_far ?_ NB101_103.out _; (with_reducible repeat (first | refine blk_drewN ?_ _ | refine blk_drew ?_ | refine blk_alloc ?_ _)); exact BK101.out) hb);replace BK102 := ak (blk_below (g := gb102) (o := .cells #[.slice none 0 0, .int .i64 0, .int .i64 0, .int .i64 0, .slice none 0 0, .slice none 0 0, .slice none 0 0] 51 (0, 0)) (by (with_reducible repeat (first | refine blk_drewN ?_ _ | refine blk_drew ?_ | refine blk_alloc ?_ _)); refine blk_far ?_ NB102_103.out _; (with_reducible repeat (first | refine blk_drewN ?_ _ | refine blk_drew ?_ | refine blk_alloc ?_ _)); refine blk_far ?_ NB102_103.out _; (with_reducible repeat (first | refine blk_drewN ?_ _ | refine blk_drew ?_ | refine blk_alloc ?_ _)); refine blk_far ?_ NB102_103.out _; (with_reducible repeat (first | refine blk_drewN ?_ _ | refine blk_drew ?_ | refine blk_alloc ?_ _)); refine blk_far ?_ NB102_103.out _; (with_reducible repeat (first | refine blk_drewN ?_ _ | refine blk_drew ?_ | refine blk_alloc ?_ _)); exact BK102.out) hb);replace BK103 := ak (blk_below (g := gb103) (o := .cells #[.slice Ao13 t104.length co13, .int .i64 a0_1, .int .i64 a0_2, .int .i64 a0_3, .slice none 0 0, .slice none 0 0, .slice none 0 0] 51 (0, 0)) (by (with_reducible repeat (first | refine blk_drewN ?_ _ | refine blk_drew ?_ | refine blk_alloc ?_ _)); refine blk_put (cs := #[.slice Ao13 t104.length co13, .int .i64 a0_1, .int .i64 a0_2, .int .i64 0, .slice none 0 0, .slice none 0 0, .slice none 0 0]) ?_ 3 _ rfl; (with_reducible repeat (first | refine blk_drewN ?_ _ | refine blk_drew ?_ | refine blk_alloc ?_ _)); refine blk_put (cs := #[.slice Ao13 t104.length co13, .int .i64 a0_1, .int .i64 0, .int .i64 0, .slice none 0 0, .slice none 0 0, .slice none 0 0]) ?_ 2 _ rfl; (with_reducible repeat (first | refine blk_drewN ?_ _ | refine blk_drew ?_ | refine blk_alloc ?_ _)); refine blk_put (cs := #[.slice Ao13 t104.length co13, .int .i64 0, .int .i64 0, .int .i64 0, .slice none 0 0, .slice none 0 0, .slice none 0 0]) ?_ 1 _ rfl; (with_reducible repeat (first | refine blk_drewN ?_ _ | refine blk_drew ?_ | refine blk_alloc ?_ _)); refine blk_put (cs := #[.slice none 0 0, .int .i64 0, .int .i64 0, .int .i64 0, .slice none 0 0, .slice none 0 0, .slice none 0 0]) ?_ 0 _ rfl; (with_reducible repeat (first | refine blk_drewN ?_ _ | refine blk_drew ?_ | refine blk_alloc ?_ _)); exact BK103.out) hb);replace HB := b2s bs hb;(try clear hb);(try clear ho0);obtain ⟨Ao18, co18, eo18⟩ := Kd.S_slice HO109.out;subst eo18;obtain ⟨hcz19_0, hcz19_1, hcz19_2, hcz19_3, hcz19_4, hcz19_5, hcz19_6, hfz19_0, hfz19_1, hfz19_2, hfz19_3, hfz19_4, hfz19_5, hfz19_6⟩ := cells7 BK103.out;obtain ⟨hcz20_0, hcz20_1, hcz20_2, hcz20_3, hcz20_4, hcz20_5, hcz20_6, hfz20_0, hfz20_1, hfz20_2, hfz20_3, hfz20_4, hfz20_5, hfz20_6⟩ := cells7 BK101.out) | ((with_reducible refine gate_callee (f := 19) rfl ?_);refine glG 23 rfl rfl Tryd.func19 (laws_toByteS.calls k _ _ l0_5 t110 _ (Kd.C_below HR0_5.out bs) HC0_5.out A4.out) ?_;rintro e w21 ⟨v111, rfl, ho0, hb⟩;refine ⟨_, rfl, ?_⟩;replace HO106 := ak (Kd.S_elder' (by (with_reducible repeat (first | apply Kd.S_alloc | apply Kd.S_drewN | apply Kd.S_drew)); exact (Kd.S_mono (Kd.S_far (p := ⟨gb103, 4, none⟩) (Kd.S_types HO106.out BK103.out (by decide)) (fun _ hk => hk.2) (.slice Ao18 t107.length co18)) (fun _ h_ => h_.1))) (Kd.R_base ho0) hb);replace HO109 := ak (Kd.S_elder' (by (with_reducible repeat (first | apply Kd.S_alloc | apply Kd.S_drewN | apply Kd.S_drew)); exact (Kd.S_mono (Kd.S_far (p := ⟨gb103, 4, none⟩) (Kd.S_types HO109.out BK103.out (by decide)) (fun _ hk => hk.2) (.slice Ao18 t107.length co18)) (fun _ h_ => h_.1))) (Kd.R_base ho0) hb);have HO112 := ak (Kd.R_lower ho0 (below_size bs));replace BK101 := ak (blk_below (g := gb101) (o := .cells #[.slice A0_0 l0_0.length c0_0, .int .i64 a0_1, .int .i64 a0_2, .int .i64 a0_3, .slice A0_4 l0_4.length c0_4, .slice A0_5 l0_5.length c0_5, .slice A0_6 l0_6.length c0_6] 47 (0, 0)) (by (with_reducible repeat (first | refine blk_drewN ?_ _ | refine blk_drew ?_ | refine blk_alloc ?_ _)); refine blk_far ?_ NB101_103.out _; (with_reducible repeat (first | refine blk_drewN ?_ _ | refine blk_drew ?_ | refine blk_alloc ?_ _)); exact BK101.out) hb);replace BK102 := ak (blk_below (g := gb102) (o := .cells #[.slice none 0 0, .int .i64 0, .int .i64 0, .int .i64 0, .slice none 0 0, .slice none 0 0, .slice none 0 0] 51 (0, 0)) (by (with_reducible repeat (first | refine blk_drewN ?_ _ | refine blk_drew ?_ | refine blk_alloc ?_ _)); refine blk_far ?_ NB102_103.out _; (with_reducible repeat (first | refine blk_drewN ?_ _ | refine blk_drew ?_ | refine blk_alloc ?_ _)); exact BK102.out) hb);replace BK103 := ak (blk_below (g := gb103) (o := .cells #[.slice Ao13 t104.length co13, .int .i64 a0_1, .int .i64 a0_2, .int .i64 a0_3, .slice Ao18 t107.length co18, .slice none 0 0, .slice none 0 0] 51 (0, 0)) (by (with_reducible repeat (first | refine blk_drewN ?_ _ | refine blk_drew ?_ | refine blk_alloc ?_ _)); refine blk_put (cs := #[.slice Ao13 t104.length co13, .int .i64 a0_1, .int .i64 a0_2, .int .i64 a0_3, .slice none 0 0, .slice none 0 0, .slice none 0 0]) ?_ 4 _ rfl; (with_reducible repeat (first | refine blk_drewN ?_ _ | refine blk_drew ?_ | refine blk_alloc ?_ _)); exact BK103.out) hb);replace HB := b2s bs hb;(try clear hb);(try clear ho0);obtain ⟨Ao22, co22, eo22⟩ := Kd.R_slice HO112.out;subst eo22;obtain ⟨hcz23_0, hcz23_1, hcz23_2, hcz23_3, hcz23_4, hcz23_5, hcz23_6, hfz23_0, hfz23_1, hfz23_2, hfz23_3, hfz23_4, hfz23_5, hfz23_6⟩ := cells7 BK103.out;obtain ⟨hcz24_0, hcz24_1, hcz24_2, hcz24_3, hcz24_4, hcz24_5, hcz24_6, hfz24_0, hfz24_1, hfz24_2, hfz24_3, hfz24_4, hfz24_5, hfz24_6⟩ := cells7 BK101.out) | ((with_reducible refine gate_callee (f := 65) rfl ?_);refine glG 27 rfl rfl Tryd.func65 (laws_toIntS.calls k _ _ l0_6 t113 _ (Kd.C_below HR0_6.out bs) HC0_6.out A5.out) ?_;rintro e w25 ⟨v114, rfl, ho0, hb⟩;refine ⟨_, rfl, ?_⟩;replace HO106 := ak (Kd.S_below (by (with_reducible repeat (first | apply Kd.S_alloc | apply Kd.S_drewN | apply Kd.S_drew)); exact (Kd.S_mono (Kd.S_far (p := ⟨gb103, 5, none⟩) (Kd.S_types HO106.out BK103.out (by decide)) (fun _ hk => hk.2) (.slice Ao22 t110.length co22)) (fun _ h_ => h_.1))) hb);replace HO109 := ak (Kd.S_below (by (with_reducible repeat (first | apply Kd.S_alloc | apply Kd.S_drewN | apply Kd.S_drew)); exact (Kd.S_mono (Kd.S_far (p := ⟨gb103, 5, none⟩) (Kd.S_types HO109.out BK103.out (by decide)) (fun _ hk => hk.2) (.slice Ao22 t110.length co22)) (fun _ h_ => h_.1))) hb);replace HO112 := ak (Kd.R_below (by (with_reducible repeat (first | apply Kd.R_alloc | apply Kd.R_drewN | apply Kd.R_drew)); exact (Kd.R_mono (Kd.R_far (p := ⟨gb103, 5, none⟩) (Kd.R_types HO112.out BK103.out (by decide)) (fun _ hk => hk.2) (.slice Ao22 t110.length co22)) (fun _ h_ => h_.1))) hb);have HO115 := ak (Kd.R_lower ho0 (below_size bs));replace BK101 := ak (blk_below (g := gb101) (o := .cells #[.slice A0_0 l0_0.length c0_0, .int .i64 a0_1, .int .i64 a0_2, .int .i64 a0_3, .slice A0_4 l0_4.length c0_4, .slice A0_5 l0_5.length c0_5, .slice A0_6 l0_6.length c0_6] 47 (0, 0)) (by (with_reducible repeat (first | refine blk_drewN ?_ _ | refine blk_drew ?_ | refine blk_alloc ?_ _)); refine blk_far ?_ NB101_103.out _; (with_reducible repeat (first | refine blk_drewN ?_ _ | refine blk_drew ?_ | refine blk_alloc ?_ _)); exact BK101.out) hb);replace BK102 := ak (blk_below (g := gb102) (o := .cells #[.slice none 0 0, .int .i64 0, .int .i64 0, .int .i64 0, .slice none 0 0, .slice none 0 0, .slice none 0 0] 51 (0, 0)) (by (with_reducible repeat (first | refine blk_drewN ?_ _ | refine blk_drew ?_ | refine blk_alloc ?_ _)); refine blk_far ?_ NB102_103.out _; (with_reducible repeat (first | refine blk_drewN ?_ _ | refine blk_drew ?_ | refine blk_alloc ?_ _)); exact BK102.out) hb);replace BK103 := ak (blk_below (g := gb103) (o := .cells #[.slice Ao13 t104.length co13, .int .i64 a0_1, .int .i64 a0_2, .int .i64 a0_3, .slice Ao18 t107.length co18, .slice Ao22 t110.length co22, .slice none 0 0] 51 (0, 0)) (by (with_reducible repeat (first | refine blk_drewN ?_ _ | refine blk_drew ?_ | refine blk_alloc ?_ _)); refine blk_put (cs := #[.slice Ao13 t104.length co13, .int .i64 a0_1, .int .i64 a0_2, .int .i64 a0_3, .slice Ao18 t107.length co18, .slice none 0 0, .slice none 0 0]) ?_ 5 _ rfl; (with_reducible repeat (first | refine blk_drewN ?_ _ | refine blk_drew ?_ | refine blk_alloc ?_ _)); exact BK103.out) hb);replace HB := b2s bs hb;(try clear hb);(try clear ho0);obtain ⟨Ao26, co26, eo26⟩ := Kd.R_slice HO115.out;subst eo26;obtain ⟨hcz27_0, hcz27_1, hcz27_2, hcz27_3, hcz27_4, hcz27_5, hcz27_6, hfz27_0, hfz27_1, hfz27_2, hfz27_3, hfz27_4, hfz27_5, hfz27_6⟩ := cells7 BK103.out;obtain ⟨hcz28_0, hcz28_1, hcz28_2, hcz28_3, hcz28_4, hcz28_5, hcz28_6, hfz28_0, hfz28_1, hfz28_2, hfz28_3, hfz28_4, hfz28_5, hfz28_6⟩ := cells7 BK102.out))
 refine bodyPost_ret (results_cell_row rfl _ _ gb102 51 #[.slice Ao13 t104.length co13, .int .i64 a0_1, .int .i64 a0_2, .int .i64 a0_3, .slice Ao18 t107.length co18, .slice Ao22 t110.length co22, .slice Ao26 t113.length co26] (0, 0) _ rfl (by (with_reducible repeat (first | refine blk_drewN ?_ _ | refine blk_drew ?_ | refine blk_alloc ?_ _)); refine blk_put (cs := #[.slice Ao13 t104.length co13, .int .i64 a0_1, .int .i64 a0_2, .int .i64 a0_3, .slice Ao18 t107.length co18, .slice Ao22 t110.length co22, .slice none 0 0]) ?_ 6 _ rfl; (with_reducible repeat (first | refine blk_drewN ?_ _ | refine blk_drew ?_ | refine blk_alloc ?_ _)); refine blk_put (cs := #[.slice Ao13 t104.length co13, .int .i64 a0_1, .int .i64 a0_2, .int .i64 a0_3, .slice Ao18 t107.length co18, .slice none 0 0, .slice none 0 0]) ?_ 5 _ rfl; (with_reducible repeat (first | refine blk_drewN ?_ _ | refine blk_drew ?_ | refine blk_alloc ?_ _)); refine blk_put (cs := #[.slice Ao13 t104.length co13, .int .i64 a0_1, .int .i64 a0_2, .int .i64 a0_3, .slice none 0 0, .slice none 0 0, .slice none 0 0]) ?_ 4 _ rfl; (with_reducible repeat (first | refine blk_drewN ?_ _ | refine blk_drew ?_ | refine blk_alloc ?_ _)); refine blk_put (cs := #[.slice Ao13 t104.length co13, .int .i64 a0_1, .int .i64 a0_2, .int .i64 0, .slice none 0 0, .slice none 0 0, .slice none 0 0]) ?_ 3 _ rfl; (with_reducible repeat (first | refine blk_drewN ?_ _ | refine blk_drew ?_ | refine blk_alloc ?_ _)); refine blk_put (cs := #[.slice Ao13 t104.length co13, .int .i64 a0_1, .int .i64 0, .int .i64 0, .slice none 0 0, .slice none 0 0, .slice none 0 0]) ?_ 2 _ rfl; (with_reducible repeat (first | refine blk_drewN ?_ _ | refine blk_drew ?_ | refine blk_alloc ?_ _)); refine blk_put (cs := #[.slice Ao13 t104.length co13, .int .i64 0, .int .i64 0, .int .i64 0, .slice none 0 0, .slice none 0 0, .slice none 0 0]) ?_ 1 _ rfl; (with_reducible repeat (first | refine blk_drewN ?_ _ | refine blk_drew ?_ | refine blk_alloc ?_ _)); refine blk_put (cs := #[.slice none 0 0, .int .i64 0, .int .i64 0, .int .i64 0, .slice none 0 0, .slice none 0 0, .slice none 0 0]) ?_ 0 _ rfl; (with_reducible repeat (first | refine blk_drewN ?_ _ | refine blk_drew ?_ | refine blk_alloc ?_ _)); refine blk_far ?_ NB102_103.out _; (with_reducible repeat (first | refine blk_drewN ?_ _ | refine blk_drew ?_ | refine blk_alloc ?_ _)); exact BK102.out) Tryd.underlying51 rfl (by kernel_rfl)) rfl ?_
 exact ⟨_, _, _, _, o1, by (with_reducible repeat (first | apply Kd.S_alloc | apply Kd.S_drewN | apply Kd.S_drew)); exact Kd.S_mono (Kd.S_far (p := ⟨gb102, 6, none⟩) (Kd.S_far (p := ⟨gb102, 5, none⟩) (Kd.S_far (p := ⟨gb102, 4, none⟩) (Kd.S_far (p := ⟨gb102, 3, none⟩) (Kd.S_far (p := ⟨gb102, 2, none⟩) (Kd.S_far (p := ⟨gb102, 1, none⟩) (Kd.S_far (p := ⟨gb102, 0, none⟩) (Kd.S_far (p := ⟨gb103, 6, none⟩) (Kd.S_types (Kd.S_types HO106.out BK103.out (by decide)) BK102.out (by decide)) (fun _ hk => hk.1.2) (.slice Ao26 t113.length co26)) (fun _ hk => hk.2) (.slice Ao13 t104.length co13)) (fun _ hk => hk.2) (.int .i64 a0_1)) (fun _ hk => hk.2) (.int .i64 a0_2)) (fun _ hk => hk.2) (.int .i64 a0_3)) (fun _ hk => hk.2) (.slice Ao18 t107.length co18)) (fun _ hk => hk.2) (.slice Ao22 t110.length co22)) (fun _ hk => hk.2) (.slice Ao26 t113.length co26)) (fun _ hk => ⟨hk.1.1.1.2, hk.1.1.2⟩), by (with_reducible repeat (first | apply Kd.S_alloc | apply Kd.S_drewN | apply Kd.S_drew)); exact Kd.S_mono (Kd.S_far (p := ⟨gb102, 6, none⟩) (Kd.S_far (p := ⟨gb102, 5, none⟩) (Kd.S_far (p := ⟨gb102, 4, none⟩) (Kd.S_far (p := ⟨gb102, 3, none⟩) (Kd.S_far (p := ⟨gb102, 2, none⟩) (Kd.S_far (p := ⟨gb102, 1, none⟩) (Kd.S_far (p := ⟨gb102, 0, none⟩) (Kd.S_far (p := ⟨gb103, 6, none⟩) (Kd.S_types (Kd.S_types HO109.out BK103.out (by decide)) BK102.out (by decide)) (fun _ hk => hk.1.2) (.slice Ao26 t113.length co26)) (fun _ hk => hk.2) (.slice Ao13 t104.length co13)) (fun _ hk => hk.2) (.int .i64 a0_1)) (fun _ hk => hk.2) (.int .i64 a0_2)) (fun _ hk => hk.2) (.int .i64 a0_3)) (fun _ hk => hk.2) (.slice Ao18 t107.length co18)) (fun _ hk => hk.2) (.slice Ao22 t110.length co22)) (fun _ hk => hk.2) (.slice Ao26 t113.length co26)) (fun _ hk => ⟨hk.1.1.1.2, hk.1.1.2⟩), by (with_reducible repeat (first | apply Kd.R_alloc | apply Kd.R_drewN | apply Kd.R_drew)); exact Kd.R_mono (Kd.R_far (p := ⟨gb102, 6, none⟩) (Kd.R_far (p := ⟨gb102, 5, none⟩) (Kd.R_far (p := ⟨gb102, 4, none⟩) (Kd.R_far (p := ⟨gb102, 3, none⟩) (Kd.R_far (p := ⟨gb102, 2, none⟩) (Kd.R_far (p := ⟨gb102, 1, none⟩) (Kd.R_far (p := ⟨gb102, 0, none⟩) (Kd.R_far (p := ⟨gb103, 6, none⟩) (Kd.R_types (Kd.R_types HO112.out BK103.out (by decide)) BK102.out (by decide)) (fun _ hk => hk.1.2) (.slice Ao26 t113.length co26)) (fun _ hk => hk.2) (.slice Ao13 t104.length co13)) (fun _ hk => hk.2) (.int .i64 a0_1)) (fun _ hk => hk.2) (.int .i64 a0_2)) (fun _ hk => hk.2) (.int .i64 a0_3)) (fun _ hk => hk.2) (.slice Ao18 t107.length co18)) (fun _ hk => hk.2) (.slice Ao22 t110.length co22)) (fun _ hk => hk.2) (.slice Ao26 t113.length co26)) (fun _ hk => trivial), by (with_reducible repeat (first | apply Kd.R_alloc | apply Kd.R_drewN | apply Kd.R_drew)); exact Kd.R_mono (Kd.R_far (p := ⟨gb102, 6, none⟩) (Kd.R_far (p := ⟨gb102, 5, none⟩) (Kd.R_far (p := ⟨gb102, 4, none⟩) (Kd.R_far (p := ⟨gb102, 3, none⟩) (Kd.R_far (p := ⟨gb102, 2, none⟩) (Kd.R_far (p := ⟨gb102, 1, none⟩) (Kd.R_far (p := ⟨gb102, 0, none⟩) (Kd.R_far (p := ⟨gb103, 6, none⟩) (Kd.R_types (Kd.R_types HO115.out BK103.out (by decide)) BK102.out (by decide)) (fun _ hk => hk.1.2) (.slice Ao26 t113.length co26)) (fun _ hk => hk.2) (.slice Ao13 t104.length co13)) (fun _ hk => hk.2) (.int .i64 a0_1)) (fun _ hk => hk.2) (.int .i64 a0_2)) (fun _ hk => hk.2) (.int .i64 a0_3)) (fun _ hk => hk.2) (.slice Ao18 t107.length co18)) (fun _ hk => hk.2) (.slice Ao22 t110.length co22)) (fun _ hk => hk.2) (.slice Ao26 t113.length co26)) (fun _ hk => trivial), bs⟩

/-! ### laws_eqByteS: function 10 -/
def laws_eqByteS.l0 : Nat → List Int → List Int → Int → Option (Bool)
 | 0, _, _, _ => none
 | k + 1, x0, x1, x5 => if x5 < (x0.length : Int) then (if 0 ≤ x5 then (if x5 < (x1.length : Int) then (if (rd x0 x5) = (rd x1 x5) then (laws_eqByteS.l0 k x0 x1 (wrap64 (x5 + 1))) else (some false)) else (none)) else (none)) else (some true)
def laws_eqByteS.f (k : Nat) (l0 : List Int) (l1 : List Int) : Option (Bool) := if (l0.length : Int) = (l1.length : Int) then (laws_eqByteS.l0 k l0 l1 0) else (some false)
set_option maxHeartbeats 8000000 in
set_option maxRecDepth 100000 in
theorem laws_eqByteS.calls (k : Nat) (A0 : Option Addr) (c0 : Nat) (l0 : List Int) (A1 : Option Addr) (c1 : Nat) (l1 : List Int) (r : Bool) (w : World) (hr0 : Kd.C (Kd.int .u8) w A0 l0.length l0) (hc0 : l0.length ≤ c0) (hr1 : Kd.C (Kd.int .u8) w A1 l1.length l1) (hc1 : l1.length ≤ c1) (h : laws_eqByteS.f k l0 l1 = some r) :
  Calls Tryd.prog 10 #[.slice A0 l0.length c0, .slice A1 l1.length c1] w fun e w' => e = .returned (.bool r) ∧ Drawn0 w w' := by
 have HR0 := ak hr0
 have HC0 := ak hc0
 clear hr0 hc0
 have HR1 := ak hr1
 have HC1 := ak hc1
 clear hr1 hc1
 have H : (if (l0.length : Int) = (l1.length : Int) then (laws_eqByteS.l0 k l0 l1 0) else (some false)) = some r := h
 clear h
 replace H := ie H
 obtain ⟨c3b0, c3b1, H⟩ | ⟨c3b0, c3b1, H⟩ := H
 ·have c3b2 : (l0.length == l1.length) = true := lnT c3b0
  have H' := ak H
  clear H
  go_enter Tryd.func10, Tryd.ntmps10
  go_wp2
  repeat (go_quiet (fail); try go_wp2)
  go_loopg [5] k (fun kq v5 w' => ∃ (x5_1 : Int), v5 = .int .i64 x5_1 ∧ Aside0 (laws_eqByteS.l0 kq l0 l1 x5_1 = some r) ∧ Aside0 (kq ≤ k) ∧ Drawn0 w w')
  case atStart => exact ⟨(0), o2, H', ⟨Nat.le_refl _⟩, od⟩
  case round =>
   clear H'
   (try clear c1)
   (try clear c3b0)
   (try clear c3b1)
   (try clear c3b2)
   obtain ⟨x5_1, rfl, HA, HK1, ⟨m1, rfl⟩⟩ := hrel
   cases gk with
   | zero => exact absurd HA.out (by simp [laws_eqByteS.l0])
   | succ k1 =>
    have H := HA.out
    clear HA
    simp only [laws_eqByteS.l0] at H
    replace H := ip H
    obtain ⟨c4b0, H⟩ | ⟨c4b0, H⟩ := H
    ·replace H := ipN H
     obtain ⟨c5b0, H⟩ := H
     replace H := ipN H
     obtain ⟨c6b0, H⟩ := H
     replace H := ie H
     obtain ⟨c7b0, c7b1, H⟩ | ⟨c7b0, c7b1, H⟩ := H
     ·have H' := ak H
      clear H
      obtain ⟨ad101, rfl, hx101_0, p101, q101⟩ := el0_int HR0 x5_1
      obtain ⟨ad102, rfl, hx102_0, p102, q102⟩ := el0_int HR1 x5_1
      go_wp2
      repeat (go_quiet (fail); try go_wp2)
      go_roundg k1
      case measure => have := HK1.out; omega
      case rel => exact ⟨(wrap64 (x5_1 + 1)), o2, H', ⟨by have := HK1.out; omega⟩, od⟩
     ·obtain rfl := Option.some.inj H
      obtain ⟨ad101, rfl, hx101_0, p101, q101⟩ := el0_int HR0 x5_1
      obtain ⟨ad102, rfl, hx102_0, p102, q102⟩ := el0_int HR1 x5_1
      go_wp2
      repeat (go_quiet (fail); try go_wp2)
      go_ret
      exact ⟨o2, od⟩
    ·obtain rfl := Option.some.inj H
     go_wp2
     repeat (go_quiet (fail); try go_wp2)
     go_ret
     exact ⟨o2, od⟩
 ·have c3b2 : (l0.length == l1.length) = false := lnF c3b0
  obtain rfl := Option.some.inj H
  go_enter Tryd.func10, Tryd.ntmps10
  go_wp2
  repeat (go_quiet (fail); try go_wp2)
  go_ret
  exact ⟨o2, od⟩

/-! ### laws_eqByteSS: function 42 -/
def laws_eqByteSS.l0 : Nat → List (List Int) → List (List Int) → Int → Option (Bool)
 | 0, _, _, _ => none
 | k + 1, x0, x1, x5 => if x5 < (x0.length : Int) then (if 0 ≤ x5 then (if x5 < (x1.length : Int) then ((laws_eqByteS.f k (rd_L10 x0 x5) (rd_L10 x1 x5)).bind fun t103 => (if t103 = true then (laws_eqByteSS.l0 k x0 x1 (wrap64 (x5 + 1))) else (some false))) else (none)) else (none)) else (some true)
def laws_eqByteSS.f (k : Nat) (l0 : List (List Int)) (l1 : List (List Int)) : Option (Bool) := if (l0.length : Int) = (l1.length : Int) then (laws_eqByteSS.l0 k l0 l1 0) else (some false)
set_option maxHeartbeats 8000000 in
set_option maxRecDepth 100000 in
theorem laws_eqByteSS.calls (k : Nat) (A0 : Option Addr) (c0 : Nat) (l0 : List (List Int)) (A1 : Option Addr) (c1 : Nat) (l1 : List (List Int)) (r : Bool) (w : World) (hr0 : Kd.C (Kd.slice 5 (Kd.int .u8)) w A0 l0.length l0) (hc0 : l0.length ≤ c0) (hr1 : Kd.C (Kd.slice 5 (Kd.int .u8)) w A1 l1.length l1) (hc1 : l1.length ≤ c1) (h : laws_eqByteSS.f k l0 l1 = some r) :
  Calls Tryd.prog 42 #[.slice A0 l0.length c0, .slice A1 l1.length c1] w fun e w' => e = .returned (.bool r) ∧ Drawn0 w w' := by
 have HR0 := ak hr0
 have HC0 := ak hc0
 clear hr0 hc0
 have HR1 := ak hr1
 have HC1 := ak hc1
 clear hr1 hc1
 have H : (if (l0.length : Int) = (l1.length : Int) then (laws_eqByteSS.l0 k l0 l1 0) else (some false)) = some r := h
 clear h
 replace H := ie H
 obtain ⟨c3b0, c3b1, H⟩ | ⟨c3b0, c3b1, H⟩ := H
 ·have c3b2 : (l0.length == l1.length) = true := lnT c3b0
  have H' := ak H
  clear H
  go_enter Tryd.func42, Tryd.ntmps42
  go_wp2
  repeat (go_quiet (fail); try go_wp2)
  go_loopg [5] k (fun kq v5 w' => ∃ (x5_1 : Int), v5 = .int .i64 x5_1 ∧ Aside0 (laws_eqByteSS.l0 kq l0 l1 x5_1 = some r) ∧ Aside0 (kq ≤ k) ∧ Drawn0 w w')
  case atStart => exact ⟨(0), o2, H', ⟨Nat.le_refl _⟩, od⟩
  case round =>
   clear H'
   (try clear c1)
   (try clear c3b0)
   (try clear c3b1)
   (try clear c3b2)
   obtain ⟨x5_1, rfl, HA, HK1, ⟨m1, rfl⟩⟩ := hrel
   cases gk with
   | zero => exact absurd HA.out (by simp [laws_eqByteSS.l0])
   | succ k1 =>
    have H := HA.out
    clear HA
    simp only [laws_eqByteSS.l0] at H
    replace H := ip H
    obtain ⟨c4b0, H⟩ | ⟨c4b0, H⟩ := H
    ·replace H := ipN H
     obtain ⟨c5b0, H⟩ := H
     replace H := ipN H
     obtain ⟨c6b0, H⟩ := H
     replace H := bnd H
     obtain ⟨t103, A7, H⟩ := H
     replace H := ib H
     obtain ⟨rfl, H⟩ | ⟨rfl, H⟩ := H
     ·have H' := ak H
      clear H
      obtain ⟨ad101, A101_0, c101_0, rfl, hx101_0, HC101_0, HR101_0, p101, q101⟩ := el0_L10 HR0 x5_1
      obtain ⟨ad102, A102_0, c102_0, rfl, hx102_0, HC102_0, HR102_0, p102, q102⟩ := el0_L10 HR1 x5_1
      go_wp2_with ((go_at_call 10;(with_reducible refine (laws_eqByteS.calls k1 _ _ (rd_L10 l0 x5_1) _ _ (rd_L10 l1 x5_1) true _ (cd HR101_0) HC101_0.out (cd HR102_0) HC102_0.out A7.out).mono ?_);rintro e w' ⟨rfl, ⟨nd, rfl⟩⟩;(try first | exact ⟨rfl, _, World.drewN_drewN _ _ _⟩ | exact ⟨rfl, _, Eq.trans (World.drewN_drewN _ _ _) (congrArg (World.drewN _) (Nat.add_assoc _ _ _))⟩)))
      repeat (go_quiet ((go_at_call 10;(with_reducible refine (laws_eqByteS.calls k1 _ _ (rd_L10 l0 x5_1) _ _ (rd_L10 l1 x5_1) true _ (cd HR101_0) HC101_0.out (cd HR102_0) HC102_0.out A7.out).mono ?_);rintro e w' ⟨rfl, ⟨nd, rfl⟩⟩;(try first | exact ⟨rfl, _, World.drewN_drewN _ _ _⟩ | exact ⟨rfl, _, Eq.trans (World.drewN_drewN _ _ _) (congrArg (World.drewN _) (Nat.add_assoc _ _ _))⟩))); try go_wp2_with ((go_at_call 10;(with_reducible refine (laws_eqByteS.calls k1 _ _ (rd_L10 l0 x5_1) _ _ (rd_L10 l1 x5_1) true _ (cd HR101_0) HC101_0.out (cd HR102_0) HC102_0.out A7.out).mono ?_);rintro e w' ⟨rfl, ⟨nd, rfl⟩⟩;(try first | exact ⟨rfl, _, World.drewN_drewN _ _ _⟩ | exact ⟨rfl, _, Eq.trans (World.drewN_drewN _ _ _) (congrArg (World.drewN _) (Nat.add_assoc _ _ _))⟩))))
      go_roundg k1
      case measure => have := HK1.out; omega
      case rel => exact ⟨(wrap64 (x5_1 + 1)), o2, H', ⟨by have := HK1.out; omega⟩, od⟩
     ·obtain rfl := Option.some.inj H
      obtain ⟨ad101, A101_0, c101_0, rfl, hx101_0, HC101_0, HR101_0, p101, q101⟩ := el0_L10 HR0 x5_1
      obtain ⟨ad102, A102_0, c102_0, rfl, hx102_0, HC102_0, HR102_0, p102, q102⟩ := el0_L10 HR1 x5_1
      go_wp2_with ((go_at_call 10;(with_reducible refine (laws_eqByteS.calls k1 _ _ (rd_L10 l0 x5_1) _ _ (rd_L10 l1 x5_1) false _ (cd HR101_0) HC101_0.out (cd HR102_0) HC102_0.out A7.out).mono ?_);rintro e w' ⟨rfl, ⟨nd, rfl⟩⟩;(try first | exact ⟨rfl, _, World.drewN_drewN _ _ _⟩ | exact ⟨rfl, _, Eq.trans (World.drewN_drewN _ _ _) (congrArg (World.drewN _) (Nat.add_assoc _ _ _))⟩)))
      repeat (go_quiet ((go_at_call 10;(with_reducible refine (laws_eqByteS.calls k1 _ _ (rd_L10 l0 x5_1) _ _ (rd_L10 l1 x5_1) false _ (cd HR101_0) HC101_0.out (cd HR102_0) HC102_0.out A7.out).mono ?_);rintro e w' ⟨rfl, ⟨nd, rfl⟩⟩;(try first | exact ⟨rfl, _, World.drewN_drewN _ _ _⟩ | exact ⟨rfl, _, Eq.trans (World.drewN_drewN _ _ _) (congrArg (World.drewN _) (Nat.add_assoc _ _ _))⟩))); try go_wp2_with ((go_at_call 10;(with_reducible refine (laws_eqByteS.calls k1 _ _ (rd_L10 l0 x5_1) _ _ (rd_L10 l1 x5_1) false _ (cd HR101_0) HC101_0.out (cd HR102_0) HC102_0.out A7.out).mono ?_);rintro e w' ⟨rfl, ⟨nd, rfl⟩⟩;(try first | exact ⟨rfl, _, World.drewN_drewN _ _ _⟩ | exact ⟨rfl, _, Eq.trans (World.drewN_drewN _ _ _) (congrArg (World.drewN _) (Nat.add_assoc _ _ _))⟩))))
      go_ret
      exact ⟨o2, od⟩
    ·obtain rfl := Option.some.inj H
     go_wp2
     repeat (go_quiet (fail); try go_wp2)
     go_ret
     exact ⟨o2, od⟩
 ·have c3b2 : (l0.length == l1.length) = false := lnF c3b0
  obtain rfl := Option.some.inj H
  go_enter Tryd.func42, Tryd.ntmps42
  go_wp2
  repeat (go_quiet (fail); try go_wp2)
  go_ret
  exact ⟨o2, od⟩

/-! ### laws_eqName: function 15 -/
def laws_eqName.f (k : Nat) (l0_0 : List (List Int)) (l1_0 : List (List Int)) : Option (Bool) := (laws_eqByteSS.f k l0_0 l1_0).bind fun t103 => (if t103 = true then (some true) else (some false))
set_option maxHeartbeats 8000000 in
set_option maxRecDepth 100000 in
theorem laws_eqName.calls (k : Nat) (A0_0 : Option Addr) (c0_0 : Nat) (l0_0 : List (List Int)) (A1_0 : Option Addr) (c1_0 : Nat) (l1_0 : List (List Int)) (r : Bool) (w : World) (hr0_0 : Kd.C (Kd.slice 5 (Kd.int .u8)) w A0_0 l0_0.length l0_0) (hc0_0 : l0_0.length ≤ c0_0) (hr1_0 : Kd.C (Kd.slice 5 (Kd.int .u8)) w A1_0 l1_0.length l1_0) (hc1_0 : l1_0.length ≤ c1_0) (h : laws_eqName.f k l0_0 l1_0 = some r) :
  Calls Tryd.prog 15 #[.agg #[.slice A0_0 l0_0.length c0_0], .agg #[.slice A1_0 l1_0.length c1_0]] w fun e w' => e = .returned (.bool r) ∧ Below w.heap.size w w' := by
 have hu29 := Tryd.underlying29
 have HR0_0 := ak hr0_0
 have HC0_0 := ak hc0_0
 clear hr0_0 hc0_0
 have HR1_0 := ak hr1_0
 have HC1_0 := ak hc1_0
 clear hr1_0 hc1_0
 have HB := ak (Below.refl w.heap.size w)
 have H : ((laws_eqByteSS.f k l0_0 l1_0).bind fun t103 => (if t103 = true then (some true) else (some false))) = some r := h
 clear h
 replace H := bnd H
 obtain ⟨t103, A3, H⟩ := H
 replace H := ib H
 obtain ⟨rfl, H⟩ | ⟨rfl, H⟩ := H
 ·obtain rfl := Option.some.inj H
  go_enter Tryd.func15, Tryd.ntmps15
  go_wp2_with (first | ((with_reducible refine gate_dst (N := 2) rfl ?_);refine bxd (N := 2) rfl HB ?_;clear HB;intro gb101 w5 hg HB BK101 GE101 hb;have GW101 := GE101;clear hb hg) | ((with_reducible refine gate_dst (N := 3) rfl ?_);refine bxe (N := 3) rfl ?_;intro gb102 hg w6 hbox hb;have BK102 := ak (hbox);have GW102 := b3s hg bs;have GE102 := GW102;replace HB := b2s bs hb;have NB101_102 := b4 hg BK101;have NB102_101 := b5 hg BK101;replace BK101 := b1 BK101 hb;clear hb hbox hg;have hnb7 := NB101_102.out;have hnc7 := NB102_101.out;obtain ⟨hcz8_0, hfz8_0⟩ := cells1 BK101.out;obtain ⟨hcz9_0, hfz9_0⟩ := cells1 BK102.out) | ((with_reducible refine gate_callee (f := 42) rfl ?_);refine glD 9 rfl rfl Tryd.func42 (laws_eqByteSS.calls k _ _ l0_0 _ _ l1_0 true _ (cv HR0_0 HB) HC0_0.out (cv HR1_0 HB) HC1_0.out A3.out) (fun nd => ?_)))
  go_ret
  exact ⟨o1, bs⟩
 ·obtain rfl := Option.some.inj H
  go_enter Tryd.func15, Tryd.ntmps15
  go_wp2_with (first | ((with_reducible refine gate_dst (N := 2) rfl ?_);refine bxd (N := 2) rfl HB ?_;clear HB;intro gb101 w10 hg HB BK101 GE101 hb;have GW101 := GE101;clear hb hg) | ((with_reducible refine gate_dst (N := 3) rfl ?_);refine bxe (N := 3) rfl ?_;intro gb102 hg w11 hbox hb;have BK102 := ak (hbox);have GW102 := b3s hg bs;have GE102 := GW102;replace HB := b2s bs hb;have NB101_102 := b4 hg BK101;have NB102_101 := b5 hg BK101;replace BK101 := b1 BK101 hb;clear hb hbox hg;have hnb12 := NB101_102.out;have hnc12 := NB102_101.out;obtain ⟨hcz13_0, hfz13_0⟩ := cells1 BK101.out;obtain ⟨hcz14_0, hfz14_0⟩ := cells1 BK102.out) | ((with_reducible refine gate_callee (f := 42) rfl ?_);refine glD 9 rfl rfl Tryd.func42 (laws_eqByteSS.calls k _ _ l0_0 _ _ l1_0 false _ (cv HR0_0 HB) HC0_0.out (cv HR1_0 HB) HC1_0.out A3.out) (fun nd => ?_)))
  go_ret
  exact ⟨o1, bs⟩

/-! ### laws_eqIntS: function 68 -/
def laws_eqIntS.l0 : Nat → List Int → List Int → Int → Option (Bool)
 | 0, _, _, _ => none
 | k + 1, x0, x1, x5 => if x5 < (x0.length : Int) then (if 0 ≤ x5 then (if x5 < (x1.length : Int) then (if (rd x0 x5) = (rd x1 x5) then (laws_eqIntS.l0 k x0 x1 (wrap64 (x5 + 1))) else (some false)) else (none)) else (none)) else (some true)
def laws_eqIntS.f (k : Nat) (l0 : List Int) (l1 : List Int) : Option (Bool) := if (l0.length : Int) = (l1.length : Int) then (laws_eqIntS.l0 k l0 l1 0) else (some false)
set_option maxHeartbeats 8000000 in
set_option maxRecDepth 100000 in
theorem laws_eqIntS.calls (k : Nat) (A0 : Option Addr) (c0 : Nat) (l0 : List Int) (A1 : Option Addr) (c1 : Nat) (l1 : List Int) (r : Bool) (w : World) (hr0 : Kd.C (Kd.int .i64) w A0 l0.length l0) (hc0 : l0.length ≤ c0) (hr1 : Kd.C (Kd.int .i64) w A1 l1.length l1) (hc1 : l1.length ≤ c1) (h : laws_eqIntS.f k l0 l1 = some r) :
  Calls Tryd.prog 68 #[.slice A0 l0.length c0, .slice A1 l1.length c1] w fun e w' => e = .returned (.bool r) ∧ Drawn0 w w' := by
 have HR0 := ak hr0
 have HC0 := ak hc0
 clear hr0 hc0
 have HR1 := ak hr1
 have HC1 := ak hc1
 clear hr1 hc1
 have H : (if (l0.length : Int) = (l1.length : Int) then (laws_eqIntS.l0 k l0 l1 0) else (some false)) = some r := h
 clear h
 replace H := ie H
 obtain ⟨c3b0, c3b1, H⟩ | ⟨c3b0, c3b1, H⟩ := H
 ·have c3b2 : (l0.length == l1.length) = true := lnT c3b0
  have H' := ak H
  clear H
  go_enter Tryd.func68, Tryd.ntmps68
  go_wp2
  repeat (go_quiet (fail); try go_wp2)
  go_loopg [5] k (fun kq v5 w' => ∃ (x5_1 : Int), v5 = .int .i64 x5_1 ∧ Aside0 (laws_eqIntS.l0 kq l0 l1 x5_1 = some r) ∧ Aside0 (kq ≤ k) ∧ Drawn0 w w')
  case atStart => exact ⟨(0), o2, H', ⟨Nat.le_refl _⟩, od⟩
  case round =>
   clear H'
   (try clear c1)
   (try clear c3b0)
   (try clear c3b1)
   (try clear c3b2)
   obtain ⟨x5_1, rfl, HA, HK1, ⟨m1, rfl⟩⟩ := hrel
   cases gk with
   | zero => exact absurd HA.out (by simp [laws_eqIntS.l0])
   | succ k1 =>
    have H := HA.out
    clear HA
    simp only [laws_eqIntS.l0] at H
    replace H := ip H
    obtain ⟨c4b0, H⟩ | ⟨c4b0, H⟩ := H
    ·replace H := ipN H
     obtain ⟨c5b0, H⟩ := H
     replace H := ipN H
     obtain ⟨c6b0, H⟩ := H
     replace H := ie H
     obtain ⟨c7b0, c7b1, H⟩ | ⟨c7b0, c7b1, H⟩ := H
     ·have H' := ak H
      clear H
      obtain ⟨ad101, rfl, hx101_0, p101, q101⟩ := el0_int HR0 x5_1
      obtain ⟨ad102, rfl, hx102_0, p102, q102⟩ := el0_int HR1 x5_1
      go_wp2
      repeat (go_quiet (fail); try go_wp2)
      go_roundg k1
      case measure => have := HK1.out; omega
      case rel => exact ⟨(wrap64 (x5_1 + 1)), o2, H', ⟨by have := HK1.out; omega⟩, od⟩
     ·obtain rfl := Option.some.inj H
      obtain ⟨ad101, rfl, hx101_0, p101, q101⟩ := el0_int HR0 x5_1
      obtain ⟨ad102, rfl, hx102_0, p102, q102⟩ := el0_int HR1 x5_1
      go_wp2
      repeat (go_quiet (fail); try go_wp2)
      go_ret
      exact ⟨o2, od⟩
    ·obtain rfl := Option.some.inj H
     go_wp2
     repeat (go_quiet (fail); try go_wp2)
     go_ret
     exact ⟨o2, od⟩
 ·have c3b2 : (l0.length == l1.length) = false := lnF c3b0
  obtain rfl := Option.some.inj H
  go_enter Tryd.func68, Tryd.ntmps68
  go_wp2
  repeat (go_quiet (fail); try go_wp2)
  go_ret
  exact ⟨o2, od⟩

/-! ### laws_eqRr: function 34 -/
def laws_eqRr.f (k : Nat) (l0_0 : List (List Int)) (a0_1 : Int) (a0_2 : Int) (a0_3 : Int) (l0_4 : List (List Int)) (l0_5 : List Int) (l0_6 : List Int) (l1_0 : List (List Int)) (a1_1 : Int) (a1_2 : Int) (a1_3 : Int) (l1_4 : List (List Int)) (l1_5 : List Int) (l1_6 : List Int) : Option (Bool) := (laws_eqName.f k l0_0 l1_0).bind fun t103 => (if t103 = true then (if a0_1 = a1_1 then (if a0_2 = a1_2 then (if a0_3 = a1_3 then ((laws_eqName.f k l0_4 l1_4).bind fun t104 => (if t104 = true then ((laws_eqByteS.f k l0_5 l1_5).bind fun t105 => (if t105 = true then ((laws_eqIntS.f k l0_6 l1_6).bind fun t106 => (if t106 = true then (some true) else (some false))) else (some false))) else (some false))) else (some false)) else (some false)) else (some false)) else (some false))
set_option maxHeartbeats 8000000 in
set_option maxRecDepth 100000 in
theorem laws_eqRr.calls (k : Nat) (A0_0 : Option Addr) (c0_0 : Nat) (l0_0 : List (List Int)) (a0_1 : Int) (a0_2 : Int) (a0_3 : Int) (A0_4 : Option Addr) (c0_4 : Nat) (l0_4 : List (List Int)) (A0_5 : Option Addr) (c0_5 : Nat) (l0_5 : List Int) (A0_6 : Option Addr) (c0_6 : Nat) (l0_6 : List Int) (A1_0 : Option Addr) (c1_0 : Nat) (l1_0 : List (List Int)) (a1_1 : Int) (a1_2 : Int) (a1_3 : Int) (A1_4 : Option Addr) (c1_4 : Nat) (l1_4 : List (List Int)) (A1_5 : Option Addr) (c1_5 : Nat) (l1_5 : List Int) (A1_6 : Option Addr) (c1_6 : Nat) (l1_6 : List Int) (r : Bool) (w : World) (hr0_0 : Kd.C (Kd.slice 5 (Kd.int .u8)) w A0_0 l0_0.length l0_0) (hc0_0 : l0_0.length ≤ c0_0) (hr0_4 : Kd.C (Kd.slice 5 (Kd.int .u8)) w A0_4 l0_4.length l0_4) (hc0_4 : l0_4.length ≤ c0_4) (hr0_5 : Kd.C (Kd.int .u8) w A0_5 l0_5.length l0_5) (hc0_5 : l0_5.length ≤ c0_5) (hr0_6 : Kd.C (Kd.int .i64) w A0_6 l0_6.length l0_6) (hc0_6 : l0_6.length ≤ c0_6) (hr1_0 : Kd.C (Kd.slice 5 (Kd.int .u8)) w A1_0 l1_0.length l1_0) (hc1_0 : l1_0.length ≤ c1_0) (hr1_4 : Kd.C (Kd.slice 5 (Kd.int .u8)) w A1_4 l1_4.length l1_4) (hc1_4 : l1_4.length ≤ c1_4) (hr1_5 : Kd.C (Kd.int .u8) w A1_5 l1_5.length l1_5) (hc1_5 : l1_5.length ≤ c1_5) (hr1_6 : Kd.C (Kd.int .i64) w A1_6 l1_6.length l1_6) (hc1_6 : l1_6.length ≤ c1_6) (h : laws_eqRr.f k l0_0 a0_1 a0_2 a0_3 l0_4 l0_5 l0_6 l1_0 a1_1 a1_2 a1_3 l1_4 l1_5 l1_6 = some r) :
  Calls Tryd.prog 34 #[.agg #[.slice A0_0 l0_0.length c0_0, .int .i64 a0_1, .int .i64 a0_2, .int .i64 a0_3, .slice A0_4 l0_4.length c0_4, .slice A0_5 l0_5.length c0_5, .slice A0_6 l0_6.length c0_6], .agg #[.slice A1_0 l1_0.length c1_0, .int .i64 a1_1, .int .i64 a1_2, .int .i64 a1_3, .slice A1_4 l1_4.length c1_4, .slice A1_5 l1_5.length c1_5, .slice A1_6 l1_6.length c1_6]] w fun e w' => e = .returned (.bool r) ∧ Below w.heap.size w w' := by
 have hu51 := Tryd.underlying51
 have hu29 := Tryd.underlying29
 have HR0_0 := ak hr0_0
 have HC0_0 := ak hc0_0
 clear hr0_0 hc0_0
 have HR0_4 := ak hr0_4
 have HC0_4 := ak hc0_4
 clear hr0_4 hc0_4
 have HR0_5 := ak hr0_5
 have HC0_5 := ak hc0_5
 clear hr0_5 hc0_5
 have HR0_6 := ak hr0_6
 have HC0_6 := ak hc0_6
 clear hr0_6 hc0_6
 have HR1_0 := ak hr1_0
 have HC1_0 := ak hc1_0
 clear hr1_0 hc1_0
 have HR1_4 := ak hr1_4
 have HC1_4 := ak hc1_4
 clear hr1_4 hc1_4
 have HR1_5 := ak hr1_5
 have HC1_5 := ak hc1_5
 clear hr1_5 hc1_5
 have HR1_6 := ak hr1_6
 have HC1_6 := ak hc1_6
 clear hr1_6 hc1_6
 have HB := ak (Below.refl w.heap.size w)
 have H : ((laws_eqName.f k l0_0 l1_0).bind fun t103 => (if t103 = true then (if a0_1 = a1_1 then (if a0_2 = a1_2 then (if a0_3 = a1_3 then ((laws_eqName.f k l0_4 l1_4).bind fun t104 => (if t104 = true then ((laws_eqByteS.f k l0_5 l1_5).bind fun t105 => (if t105 = true then ((laws_eqIntS.f k l0_6 l1_6).bind fun t106 => (if t106 = true then (some true) else (some false))) else (some false))) else (some false))) else (some false)) else (some false)) else (some false)) else (some false))) = some r := h
 clear h
 replace H := bnd H
 obtain ⟨t103, A3, H⟩ := H
 replace H := ib H
 obtain ⟨rfl, H⟩ | ⟨rfl, H⟩ := H
 ·replace H := ie H
  obtain ⟨c5b0, c5b1, H⟩ | ⟨c5b0, c5b1, H⟩ := H
  ·replace H := ie H
   obtain ⟨c6b0, c6b1, H⟩ | ⟨c6b0, c6b1, H⟩ := H
   ·replace H := ie H
    obtain ⟨c7b0, c7b1, H⟩ | ⟨c7b0, c7b1, H⟩ := H
    ·replace H := bnd H
     obtain ⟨t104, A8, H⟩ := H
     replace H := ib H
     obtain ⟨rfl, H⟩ | ⟨rfl, H⟩ := H
     ·replace H := bnd H
      obtain ⟨t105, A10, H⟩ := H
      replace H := ib H
      obtain ⟨rfl, H⟩ | ⟨rfl, H⟩ := H
      ·replace H := bnd H
       obtain ⟨t106, A12, H⟩ := H
       replace H := ib H
       obtain ⟨rfl, H⟩ | ⟨rfl, H⟩ := H
       ·obtain rfl := Option.some.inj H
        go_enter Tryd.func34, Tryd.ntmps34
        go_wp2_with (first | ((with_reducible refine gate_dst (N := 2) rfl ?_);refine bxd (N := 2) rfl HB ?_;clear HB;intro gb101 w14 hg HB BK101 GE101 hb;have GW101 := GE101;clear hb hg) | ((with_reducible refine gate_dst (N := 3) rfl ?_);refine bxe (N := 3) rfl ?_;intro gb102 hg w15 hbox hb;have BK102 := ak (hbox);have GW102 := b3s hg bs;have GE102 := GW102;replace HB := b2s bs hb;have NB101_102 := b4 hg BK101;have NB102_101 := b5 hg BK101;replace BK101 := b1 BK101 hb;clear hb hbox hg;have hnb16 := NB101_102.out;have hnc16 := NB102_101.out;obtain ⟨hcz17_0, hcz17_1, hcz17_2, hcz17_3, hcz17_4, hcz17_5, hcz17_6, hfz17_0, hfz17_1, hfz17_2, hfz17_3, hfz17_4, hfz17_5, hfz17_6⟩ := cells7 BK101.out;obtain ⟨hcz18_0, hcz18_1, hcz18_2, hcz18_3, hcz18_4, hcz18_5, hcz18_6, hfz18_0, hfz18_1, hfz18_2, hfz18_3, hfz18_4, hfz18_5, hfz18_6⟩ := cells7 BK102.out) | ((with_reducible refine gate_callee (f := 15) rfl ?_);refine glB 9 rfl rfl Tryd.func15 (laws_eqName.calls k _ _ l0_0 _ _ l1_0 true _ (cv HR0_0 HB) HC0_0.out (cv HR1_0 HB) HC1_0.out A3.out) (fun w19 hb => ?_);replace BK101 := b1 BK101 hb;replace BK102 := b1 BK102 hb;replace HB := b2s bs hb;(try clear hb);obtain ⟨hcz20_0, hcz20_1, hcz20_2, hcz20_3, hcz20_4, hcz20_5, hcz20_6, hfz20_0, hfz20_1, hfz20_2, hfz20_3, hfz20_4, hfz20_5, hfz20_6⟩ := cells7 BK101.out;obtain ⟨hcz21_0, hcz21_1, hcz21_2, hcz21_3, hcz21_4, hcz21_5, hcz21_6, hfz21_0, hfz21_1, hfz21_2, hfz21_3, hfz21_4, hfz21_5, hfz21_6⟩ := cells7 BK102.out) | ((with_reducible refine gate_callee (f := 15) rfl ?_);refine glB 30 rfl rfl Tryd.func15 (laws_eqName.calls k _ _ l0_4 _ _ l1_4 true _ (cv HR0_4 HB) HC0_4.out (cv HR1_4 HB) HC1_4.out A8.out) (fun w22 hb => ?_);replace BK101 := b1 BK101 hb;replace BK102 := b1 BK102 hb;replace HB := b2s bs hb;(try clear hb);obtain ⟨hcz23_0, hcz23_1, hcz23_2, hcz23_3, hcz23_4, hcz23_5, hcz23_6, hfz23_0, hfz23_1, hfz23_2, hfz23_3, hfz23_4, hfz23_5, hfz23_6⟩ := cells7 BK101.out;obtain ⟨hcz24_0, hcz24_1, hcz24_2, hcz24_3, hcz24_4, hcz24_5, hcz24_6, hfz24_0, hfz24_1, hfz24_2, hfz24_3, hfz24_4, hfz24_5, hfz24_6⟩ := cells7 BK102.out) | ((with_reducible refine gate_callee (f := 10) rfl ?_);refine glD 36 rfl rfl Tryd.func10 (laws_eqByteS.calls k _ _ l0_5 _ _ l1_5 true _ (cv HR0_5 HB) HC0_5.out (cv HR1_5 HB) HC1_5.out A10.out) (fun nd => ?_)) | ((with_reducible refine gate_callee (f := 68) rfl ?_);refine glD 42 rfl rfl Tryd.func68 (laws_eqIntS.calls k _ _ l0_6 _ _ l1_6 true _ ?side1 HC0_6.out ?side3 HC1_6.out A12.out) (fun nd => ?_);(case side1 => repeat (first | exact (Kd.C_below HR0_6.out bs) | (with_reducible refine Kd.C_alloc ?_ _) | (with_reducible refine Kd.C_drewN ?_ _) | (with_reducible refine Kd.C_drew ?_)));(case side3 => repeat (first | exact (Kd.C_below HR1_6.out bs) | (with_reducible refine Kd.C_alloc ?_ _) | (with_reducible refine Kd.C_drewN ?_ _) | (with_reducible refine Kd.C_drew ?_)))))
        go_ret
        exact ⟨o1, bs⟩
       ·obtain rfl := Option.some.inj H
        go_enter Tryd.func34, Tryd.ntmps34
        go_wp2_with (first | ((with_reducible refine gate_dst (N := 2) rfl ?_);refine bxd (N := 2) rfl HB ?_;clear HB;intro gb101 w25 hg HB BK101 GE101 hb;have GW101 := GE101;clear hb hg) | ((with_reducible refine gate_dst (N := 3) rfl ?_);refine bxe (N := 3) rfl ?_;intro gb102 hg w26 hbox hb;have BK102 := ak (hbox);have GW102 := b3s hg bs;have GE102 := GW102;replace HB := b2s bs hb;have NB101_102 := b4 hg BK101;have NB102_101 := b5 hg BK101;replace BK101 := b1 BK101 hb;clear hb hbox hg;have hnb27 := NB101_102.out;have hnc27 := NB102_101.out;obtain ⟨hcz28_0, hcz28_1, hcz28_2, hcz28_3, hcz28_4, hcz28_5, hcz28_6, hfz28_0, hfz28_1, hfz28_2, hfz28_3, hfz28_4, hfz28_5, hfz28_6⟩ := cells7 BK101.out;obtain ⟨hcz29_0, hcz29_1, hcz29_2, hcz29_3, hcz29_4, hcz29_5, hcz29_6, hfz29_0, hfz29_1, hfz29_2, hfz29_3, hfz29_4, hfz29_5, hfz29_6⟩ := cells7 BK102.out) | ((with_reducible refine gate_callee (f := 15) rfl ?_);refine glB 9 rfl rfl Tryd.func15 (laws_eqName.calls k _ _ l0_0 _ _ l1_0 true _ (cv HR0_0 HB) HC0_0.out (cv HR1_0 HB) HC1_0.out A3.out) (fun w30 hb => ?_);replace BK101 := b1 BK101 hb;replace BK102 := b1 BK102 hb;replace HB := b2s bs hb;(try clear hb);obtain ⟨hcz31_0, hcz31_1, hcz31_2, hcz31_3, hcz31_4, hcz31_5, hcz31_6, hfz31_0, hfz31_1, hfz31_2, hfz31_3, hfz31_4, hfz31_5, hfz31_6⟩ := cells7 BK101.out;obtain ⟨hcz32_0, hcz32_1, hcz32_2, hcz32_3, hcz32_4, hcz32_5, hcz32_6, hfz32_0, hfz32_1, hfz32_2, hfz32_3, hfz32_4, hfz32_5, hfz32_6⟩ := cells7 BK102.out) | ((with_reducible refine gate_callee (f := 15) rfl ?_);refine glB 30 rfl rfl Tryd.func15 (laws_eqName.calls k _ _ l0_4 _ _ l1_4 true _ (cv HR0_4 HB) HC0_4.out (cv HR1_4 HB) HC1_4.out A8.out) (fun w33 hb => ?_);replace BK101 := b1 BK101 hb;replace BK102 := b1 BK102 hb;replace HB := b2s bs hb;(try clear hb);obtain ⟨hcz34_0, hcz34_1, hcz34_2, hcz34_3, hcz34_4, hcz34_5, hcz34_6, hfz34_0, hfz34_1, hfz34_2, hfz34_3, hfz34_4, hfz34_5, hfz34_6⟩ := cells7 BK101.out;obtain ⟨hcz35_0, hcz35_1, hcz35_2, hcz35_3, hcz35_4, hcz35_5, hcz35_6, hfz35_0, hfz35_1, hfz35_2, hfz35_3, hfz35_4, hfz35_5, hfz35_6⟩ := cells7 BK102.out) | ((with_reducible refine gate_callee (f := 10) rfl ?_);refine glD 36 rfl rfl Tryd.func10 (laws_eqByteS.calls k _ _ l0_5 _ _ l1_5 true _ (cv HR0_5 HB) HC0_5.out (cv HR1_5 HB) HC1_5.out A10.out) (fun nd => ?_)) | ((with_reducible refine gate_callee (f := 68) rfl ?_);refine glD 42 rfl rfl Tryd.func68 (laws_eqIntS.calls k _ _ l0_6 _ _ l1_6 false _ ?side1 HC0_6.out ?side3 HC1_6.out A12.out) (fun nd => ?_);(case side1 => repeat (first | exact (Kd.C_below HR0_6.out bs) | (with_reducible refine Kd.C_alloc ?_ _) | (with_reducible refine Kd.C_drewN ?_ _) | (with_reducible refine Kd.C_drew ?_)));(case side3 => repeat (first | exact (Kd.C_below HR1_6.out bs) | (with_reducible refine Kd.C_alloc ?_ _) | (with_reducible refine Kd.C_drewN ?_ _) | (with_reducible refine Kd.C_drew ?_)))))
        go_ret
        exact ⟨o1, bs⟩
      ·obtain rfl := Option.some.inj H
       go_enter Tryd.func34, Tryd.ntmps34
       go_wp2_with (first | ((with_reducible refine gate_dst (N := 2) rfl ?_);refine bxd (N := 2) rfl HB ?_;clear HB;intro gb101 w36 hg HB BK101 GE101 hb;have GW101 := GE101;clear hb hg) | ((with_reducible refine gate_dst (N := 3) rfl ?_);refine bxe (N := 3) rfl ?_;intro gb102 hg w37 hbox hb;have BK102 := ak (hbox);have GW102 := b3s hg bs;have GE102 := GW102;replace HB := b2s bs hb;have NB101_102 := b4 hg BK101;have NB102_101 := b5 hg BK101;replace BK101 := b1 BK101 hb;clear hb hbox hg;have hnb38 := NB101_102.out;have hnc38 := NB102_101.out;obtain ⟨hcz39_0, hcz39_1, hcz39_2, hcz39_3, hcz39_4, hcz39_5, hcz39_6, hfz39_0, hfz39_1, hfz39_2, hfz39_3, hfz39_4, hfz39_5, hfz39_6⟩ := cells7 BK101.out;obtain ⟨hcz40_0, hcz40_1, hcz40_2, hcz40_3, hcz40_4, hcz40_5, hcz40_6, hfz40_0, hfz40_1, hfz40_2, hfz40_3, hfz40_4, hfz40_5, hfz40_6⟩ := cells7 BK102.out) | ((with_reducible refine gate_callee (f := 15) rfl ?_);refine glB 9 rfl rfl Tryd.func15 (laws_eqName.calls k _ _ l0_0 _ _ l1_0 true _ (cv HR0_0 HB) HC0_0.out (cv HR1_0 HB) HC1_0.out A3.out) (fun w41 hb => ?_);replace BK101 := b1 BK101 hb;replace BK102 := b1 BK102 hb;replace HB := b2s bs hb;(try clear hb);obtain ⟨hcz42_0, hcz42_1, hcz42_2, hcz42_3, hcz42_4, hcz42_5, hcz42_6, hfz42_0, hfz42_1, hfz42_2, hfz42_3, hfz42_4, hfz42_5, hfz42_6⟩ := cells7 BK101.out;obtain ⟨hcz43_0, hcz43_1, hcz43_2, hcz43_3, hcz43_4, hcz43_5, hcz43_6, hfz43_0, hfz43_1, hfz43_2, hfz43_3, hfz43_4, hfz43_5, hfz43_6⟩ := cells7 BK102.out) | ((with_reducible refine gate_callee (f := 15) rfl ?_);refine glB 30 rfl rfl Tryd.func15 (laws_eqName.calls k _ _ l0_4 _ _ l1_4 true _ (cv HR0_4 HB) HC0_4.out (cv HR1_4 HB) HC1_4.out A8.out) (fun w44 hb => ?_);replace BK101 := b1 BK101 hb;replace BK102 := b1 BK102 hb;replace HB := b2s bs hb;(try clear hb);obtain ⟨hcz45_0, hcz45_1, hcz45_2, hcz45_3, hcz45_4, hcz45_5, hcz45_6, hfz45_0, hfz45_1, hfz45_2, hfz45_3, hfz45_4, hfz45_5, hfz45_6⟩ := cells7 BK101.out;obtain ⟨hcz46_0, hcz46_1, hcz46_2, hcz46_3, hcz46_4, hcz46_5, hcz46_6, hfz46_0, hfz46_1, hfz46_2, hfz46_3, hfz46_4, hfz46_5, hfz46_6⟩ := cells7 BK102.out) | ((with_reducible refine gate_callee (f := 10) rfl ?_);refine glD 36 rfl rfl Tryd.func10 (laws_eqByteS.calls k _ _ l0_5 _ _ l1_5 false _ (cv HR0_5 HB) HC0_5.out (cv HR1_5 HB) HC1_5.out A10.out) (fun nd => ?_)))
       go_ret
       exact ⟨o1, bs⟩
     ·obtain rfl := Option.some.inj H
      go_enter Tryd.func34, Tryd.ntmps34
      go_wp2_with (first | ((with_reducible refine gate_dst (N := 2) rfl ?_);refine bxd (N := 2) rfl HB ?_;clear HB;intro gb101 w47 hg HB BK101 GE101 hb;have GW101 := GE101;clear hb hg) | ((with_reducible refine gate_dst (N := 3) rfl ?_);refine bxe (N := 3) rfl ?_;intro gb102 hg w48 hbox hb;have BK102 := ak (hbox);have GW102 := b3s hg bs;have GE102 := GW102;replace HB := b2s bs hb;have NB101_102 := b4 hg BK101;have NB102_101 := b5 hg BK101;replace BK101 := b1 BK101 hb;clear hb hbox hg;have hnb49 := NB101_102.out;have hnc49 := NB102_101.out;obtain ⟨hcz50_0, hcz50_1, hcz50_2, hcz50_3, hcz50_4, hcz50_5, hcz50_6, hfz50_0, hfz50_1, hfz50_2, hfz50_3, hfz50_4, hfz50_5, hfz50_6⟩ := cells7 BK101.out;obtain ⟨hcz51_0, hcz51_1, hcz51_2, hcz51_3, hcz51_4, hcz51_5, hcz51_6, hfz51_0, hfz51_1, hfz51_2, hfz51_3, hfz51_4, hfz51_5, hfz51_6⟩ := cells7 BK102.out) | ((with_reducible refine gate_callee (f := 15) rfl ?_);refine glB 9 rfl rfl Tryd.func15 (laws_eqName.calls k _ _ l0_0 _ _ l1_0 true _ (cv HR0_0 HB) HC0_0.out (cv HR1_0 HB) HC1_0.out A3.out) (fun w52 hb => ?_);replace BK101 := b1 BK101 hb;replace BK102 := b1 BK102 hb;replace HB := b2s bs hb;(try clear hb);obtain ⟨hcz53_0, hcz53_1, hcz53_2, hcz53_3, hcz53_4, hcz53_5, hcz53_6, hfz53_0, hfz53_1, hfz53_2, hfz53_3, hfz53_4, hfz53_5, hfz53_6⟩ := cells7 BK101.out;obtain ⟨hcz54_0, hcz54_1, hcz54_2, hcz54_3, hcz54_4, hcz54_5, hcz54_6, hfz54_0, hfz54_1, hfz54_2, hfz54_3, hfz54_4, hfz54_5, hfz54_6⟩ := cells7 BK102.out) | ((with_reducible refine gate_callee (f := 15) rfl ?_);refine glB 30 rfl rfl Tryd.func15 (laws_eqName.calls k _ _ l0_4 _ _ l1_4 false _ (cv HR0_4 HB) HC0_4.out (cv HR1_4 HB) HC1_4.out A8.out) (fun w55 hb => ?_);replace BK101 := b1 BK101 hb;replace BK102 := b1 BK102 hb;replace HB := b2s bs hb;(try clear hb)))
      go_ret
      exact ⟨o1, bs⟩
    ·obtain rfl := Option.some.inj H
     go_enter Tryd.func34, Tryd.ntmps34
     go_wp2_with (first | ((with_reducible refine gate_dst (N := 2) rfl ?_);refine bxd (N := 2) rfl HB ?_;clear HB;intro gb101 w56 hg HB BK101 GE101 hb;have GW101 := GE101;clear hb hg) | ((with_reducible refine gate_dst (N := 3) rfl ?_);refine bxe (N := 3) rfl ?_;intro gb102 hg w57 hbox hb;have BK102 := ak (hbox);have GW102 := b3s hg bs;have GE102 := GW102;replace HB := b2s bs hb;have NB101_102 := b4 hg BK101;have NB102_101 := b5 hg BK101;replace BK101 := b1 BK101 hb;clear hb hbox hg;have hnb58 := NB101_102.out;have hnc58 := NB102_101.out;obtain ⟨hcz59_0, hcz59_1, hcz59_2, hcz59_3, hcz59_4, hcz59_5, hcz59_6, hfz59_0, hfz59_1, hfz59_2, hfz59_3, hfz59_4, hfz59_5, hfz59_6⟩ := cells7 BK101.out;obtain ⟨hcz60_0, hcz60_1, hcz60_2, hcz60_3, hcz60_4, hcz60_5, hcz60_6, hfz60_0, hfz60_1, hfz60_2, hfz60_3, hfz60_4, hfz60_5, hfz60_6⟩ := cells7 BK102.out) | ((with_reducible refine gate_callee (f := 15) rfl ?_);refine glB 9 rfl rfl Tryd.func15 (laws_eqName.calls k _ _ l0_0 _ _ l1_0 true _ (cv HR0_0 HB) HC0_0.out (cv HR1_0 HB) HC1_0.out A3.out) (fun w61 hb => ?_);replace BK101 := b1 BK101 hb;replace BK102 := b1 BK102 hb;replace HB := b2s bs hb;(try clear hb);obtain ⟨hcz62_0, hcz62_1, hcz62_2, hcz62_3, hcz62_4, hcz62_5, hcz62_6, hfz62_0, hfz62_1, hfz62_2, hfz62_3, hfz62_4, hfz62_5, hfz62_6⟩ := cells7 BK101.out;obtain ⟨hcz63_0, hcz63_1, hcz63_2, hcz63_3, hcz63_4, hcz63_5, hcz63_6, hfz63_0, hfz63_1, hfz63_2, hfz63_3, hfz63_4, hfz63_5, hfz63_6⟩ := cells7 BK102.out))
     go_ret
     exact ⟨o1, bs⟩
   ·obtain rfl := Option.some.inj H
    go_enter Tryd.func34, Tryd.ntmps34
    go_wp2_with (first | ((with_reducible refine gate_dst (N := 2) rfl ?_);refine bxd (N := 2) rfl HB ?_;clear HB;intro gb101 w64 hg HB BK101 GE101 hb;have GW101 := GE101;clear hb hg) | ((with_reducible refine gate_dst (N := 3) rfl ?_);refine bxe (N := 3) rfl ?_;intro gb102 hg w65 hbox hb;have BK102 := ak (hbox);have GW102 := b3s hg bs;have GE102 := GW102;replace HB := b2s bs hb;have NB101_102 := b4 hg BK101;have NB102_101 := b5 hg BK101;replace BK101 := b1 BK101 hb;clear hb hbox hg;have hnb66 := NB101_102.out;have hnc66 := NB102_101.out;obtain ⟨hcz67_0, hcz67_1, hcz67_2, hcz67_3, hcz67_4, hcz67_5, hcz67_6, hfz67_0, hfz67_1, hfz67_2, hfz67_3, hfz67_4, hfz67_5, hfz67_6⟩ := cells7 BK101.out;obtain ⟨hcz68_0, hcz68_1, hcz68_2, hcz68_3, hcz68_4, hcz68_5, hcz68_6, hfz68_0, hfz68_1, hfz68_2, hfz68_3, hfz68_4, hfz68_5, hfz68_6⟩ := cells7 BK102.out) | ((with_reducible refine gate_callee (f := 15) rfl ?_);refine glB 9 rfl rfl Tryd.func15 (laws_eqName.calls k _ _ l0_0 _ _ l1_0 true _ (cv HR0_0 HB) HC0_0.out (cv HR1_0 HB) HC1_0.out A3.out) (fun w69 hb => ?_);replace BK101 := b1 BK101 hb;replace BK102 := b1 BK102 hb;replace HB := b2s bs hb;(try clear hb);obtain ⟨hcz70_0, hcz70_1, hcz70_2, hcz70_3, hcz70_4, hcz70_5, hcz70_6, hfz70_0, hfz70_1, hfz70_2, hfz70_3, hfz70_4, hfz70_5, hfz70_6⟩ := cells7 BK101.out;obtain ⟨hcz71_0, hcz71_1, hcz71_2, hcz71_3, hcz71_4, hcz71_5, hcz71_6, hfz71_0, hfz71_1, hfz71_2, hfz71_3, hfz71_4, hfz71_5, hfz71_6⟩ := cells7 BK102.out))
    go_ret
    exact ⟨o1, bs⟩
  ·obtain rfl := Option.some.inj H
   go_enter Tryd.func34, Tryd.ntmps34
   go_wp2_with (first | ((with_reducible refine gate_dst (N := 2) rfl ?_);refine bxd (N := 2) rfl HB ?_;clear HB;intro gb101 w72 hg HB BK101 GE101 hb;have GW101 := GE101;clear hb hg) | ((with_reducible refine gate_dst (N := 3) rfl ?_);refine bxe (N := 3) rfl ?_;intro gb102 hg w73 hbox hb;have BK102 := ak (hbox);have GW102 := b3s hg bs;have GE102 := GW102;replace HB := b2s bs hb;have NB101_102 := b4 hg BK101;have NB102_101 := b5 hg BK101;replace BK101 := b1 BK101 hb;clear hb hbox hg;have hnb74 := NB101_102.out;have hnc74 := NB102_101.out;obtain ⟨hcz75_0, hcz75_1, hcz75_2, hcz75_3, hcz75_4, hcz75_5, hcz75_6, hfz75_0, hfz75_1, hfz75_2, hfz75_3, hfz75_4, hfz75_5, hfz75_6⟩ := cells7 BK101.out;obtain ⟨hcz76_0, hcz76_1, hcz76_2, hcz76_3, hcz76_4, hcz76_5, hcz76_6, hfz76_0, hfz76_1, hfz76_2, hfz76_3, hfz76_4, hfz76_5, hfz76_6⟩ := cells7 BK102.out) | ((with_reducible refine gate_callee (f := 15) rfl ?_);refine glB 9 rfl rfl Tryd.func15 (laws_eqName.calls k _ _ l0_0 _ _ l1_0 true _ (cv HR0_0 HB) HC0_0.out (cv HR1_0 HB) HC1_0.out A3.out) (fun w77 hb => ?_);replace BK101 := b1 BK101 hb;replace BK102 := b1 BK102 hb;replace HB := b2s bs hb;(try clear hb);obtain ⟨hcz78_0, hcz78_1, hcz78_2, hcz78_3, hcz78_4, hcz78_5, hcz78_6, hfz78_0, hfz78_1, hfz78_2, hfz78_3, hfz78_4, hfz78_5, hfz78_6⟩ := cells7 BK101.out;obtain ⟨hcz79_0, hcz79_1, hcz79_2, hcz79_3, hcz79_4, hcz79_5, hcz79_6, hfz79_0, hfz79_1, hfz79_2, hfz79_3, hfz79_4, hfz79_5, hfz79_6⟩ := cells7 BK102.out))
   go_ret
   exact ⟨o1, bs⟩
 ·obtain rfl := Option.some.inj H
  go_enter Tryd.func34, Tryd.ntmps34
  go_wp2_with (first | ((with_reducible refine gate_dst (N := 2) rfl ?_);refine bxd (N := 2) rfl HB ?_;clear HB;intro gb101 w80 hg HB BK101 GE101 hb;have GW101 := GE101;clear hb hg) | ((with_reducible refine gate_dst (N := 3) rfl ?_);refine bxe (N := 3) rfl ?_;intro gb102 hg w81 hbox hb;have BK102 := ak (hbox);have GW102 := b3s hg bs;have GE102 := GW102;replace HB := b2s bs hb;have NB101_102 := b4 hg BK101;have NB102_101 := b5 hg BK101;replace BK101 := b1 BK101 hb;clear hb hbox hg;have hnb82 := NB101_102.out;have hnc82 := NB102_101.out;obtain ⟨hcz83_0, hcz83_1, hcz83_2, hcz83_3, hcz83_4, hcz83_5, hcz83_6, hfz83_0, hfz83_1, hfz83_2, hfz83_3, hfz83_4, hfz83_5, hfz83_6⟩ := cells7 BK101.out;obtain ⟨hcz84_0, hcz84_1, hcz84_2, hcz84_3, hcz84_4, hcz84_5, hcz84_6, hfz84_0, hfz84_1, hfz84_2, hfz84_3, hfz84_4, hfz84_5, hfz84_6⟩ := cells7 BK102.out) | ((with_reducible refine gate_callee (f := 15) rfl ?_);refine glB 9 rfl rfl Tryd.func15 (laws_eqName.calls k _ _ l0_0 _ _ l1_0 false _ (cv HR0_0 HB) HC0_0.out (cv HR1_0 HB) HC1_0.out A3.out) (fun w85 hb => ?_);replace BK101 := b1 BK101 hb;replace BK102 := b1 BK102 hb;replace HB := b2s bs hb;(try clear hb)))
  go_ret
  exact ⟨o1, bs⟩

/-! ### laws_markRr: function 35 -/

/-- What is written over n numbers, numbers from k on. -/
def laws_markRr.mkI (k : Int) (n : Nat) : List Int := (List.range n).map fun (j : Nat) => k + (j : Int)
theorem laws_markRr.mkI_len (k : Int) (n : Nat) : (laws_markRr.mkI k n).length = n := by simp [laws_markRr.mkI]
theorem laws_markRr.mkI_set (k : Int) (l : List Int) (i : Nat) (h : i < l.length) : (laws_markRr.mkI k i ++ l.drop i).set i (k + i) = laws_markRr.mkI k (i + 1) ++ l.drop (i + 1) := by
 rw [List.set_append_right _ _ (by rw [laws_markRr.mkI_len]; omega), laws_markRr.mkI_len, Nat.sub_self, List.drop_eq_getElem_cons h, List.set_cons_zero]
 unfold laws_markRr.mkI
 rw [List.range_succ, List.map_append, List.append_assoc]
 rfl
set_option maxHeartbeats 8000000 in
set_option maxRecDepth 100000 in
/-- markIntS: numbers are written over the numbers of an own row. -/
theorem laws_markRr.ints (P : Nat → Prop) (u : Value) (l : List Int) (k0 : Int) (base : Nat) (w : World) (h : Kd.R (Kd.int .i64) 3 w base P u l) (h0 : 0 ≤ k0) (h1 : k0 + l.length ≤ 4611686018427387904) :
  Calls Tryd.prog 69 #[u, .int .i64 k0] w fun e w' => e = .returned (.int .i64 (k0 + l.length)) ∧ Mark P w w' ∧ Kd.R (Kd.int .i64) 3 w' base P u (laws_markRr.mkI k0 l.length) := by
 have HO := Aside0.mk h
 clear h
 go_enter Tryd.func69, Tryd.ntmps69
 go_wp2
 go_loopg [1, 5] l.length (fun kq v1 v5 w' => ∃ i : Nat, i ≤ l.length ∧ l.length - i ≤ kq ∧ v1 = .int .i64 (k0 + i) ∧ v5 = .int .i64 i ∧ Aside0 (Kd.R (Kd.int .i64) 3 w' base P u (laws_markRr.mkI k0 i ++ l.drop i)) ∧ Aside0 (Mark P w w'))
 case atStart => exact ⟨0, Nat.zero_le _, by omega, by simp, rfl, ⟨by simpa [laws_markRr.mkI] using HO.out⟩, ⟨Mark.refl _ _⟩⟩
 case round =>
  clear HO
  obtain ⟨i, hi, hg, rfl, rfl, HO, HM⟩ := hrel
  have hlen : (laws_markRr.mkI k0 i ++ l.drop i).length = l.length := by rw [List.length_append, laws_markRr.mkI_len, List.length_drop]; omega
  by_cases hlt : i < l.length
  ·have hset := Aside0.mk (laws_markRr.mkI_set k0 l i hlt)
   generalize laws_markRr.mkI k0 i ++ l.drop i = xs at HO hlen hset
   obtain ⟨Ao6, co6, eo6⟩ := Kd.R_slice HO.out
   subst eo6
   have p5 : 0 ≤ (i : Int) := by omega
   have q5 : (i : Int) < ((xs.length : Int) : Int) := by omega
   obtain ⟨go5, co5, eo5, gb5, gl5, cl5, HG5⟩ := Kd.R_form HO.out (by omega)
   (first | cases eo5 | (injection eo5 with ea_ en_ ec_; (first | subst ea_ | (injection ea_ with ea_; subst ea_)); subst ec_; clear en_))
   have GG5 := Aside0.mk HG5
   clear gb5 gl5 HG5
   obtain ⟨hx5, hf5⟩ := Kd.R_celln 0 HO.out (i : Int) p5 q5
   have hti : ((i : Int)).toNat = i := by omega
   have HP7 := Aside0.mk (Kd.R_putg HO.out (i : Int) (k0 + i))
   rw [hti] at hx5 hf5 HP7
   have HC := Aside0.mk ((blk_cell GG5.out i).symm.trans hx5)
   clear hti hlen
   have HPo := Aside0.mk (HO.out.1 go5 rfl)
   go_wp2_with (first | ((with_reducible refine gate_store (t := 3) (p := 15) rfl ?_); refine store_event (t := 3) (p := 15) (v := ?vo_w8) (w1 := (wr.setCell ⟨go5, i, none⟩ (.int .i64 (k0 + i)))) ?hg ?ho ?hn ?hr ?_; (case ho => rfl); (case hg => rfl); (case hn => rfl); (case hr => first | (go_simp; done) | (go_simp; rfl)); intro w8 hw; replace HO : Aside0 (Kd.R (Kd.int .i64) 3 w8 base P (.slice (some ⟨go5, 0, none⟩) xs.length co6) (laws_markRr.mkI k0 (i + 1) ++ l.drop (i + 1))) := ⟨by rw [hw, ← hset.out]; exact HP7.out.1⟩; replace HM : Aside0 (Mark P w w8) := ⟨by rw [hw]; exact HM.out.trans (Mark.set GG5.out HC.out HPo.out)⟩; clear HP7 hw))
   go_roundg (l.length - (i + 1))
   case measure => omega
   case rel => exact ⟨i + 1, by omega, by omega, by go_num, by go_num, HO, HM⟩
  ·have : i = l.length := by omega
   subst this
   rw [List.drop_of_length_le (Nat.le_refl _), List.append_nil] at HO hlen
   obtain ⟨xs, hxs⟩ : ∃ xs, laws_markRr.mkI k0 l.length = xs := ⟨_, rfl⟩
   rw [hxs] at HO hlen
   have HX := Aside0.mk hxs
   clear hxs
   obtain ⟨Ao9, co9, eo9⟩ := Kd.R_slice HO.out
   subst eo9
   have hlz : ¬ (l.length : Int) < (xs.length : Int) := by omega
   clear hlen
   go_wp2
   go_ret
   exact ⟨rfl, HM.out, by rw [HX.out]; exact HO.out⟩

theorem laws_markRr.sum_sh {xs ys : List (List Int)} (h : ShL (ShL (fun _ _ => True)) xs ys) : laws_markByteSS.sum ys = laws_markByteSS.sum xs := by
 obtain ⟨h1, h2⟩ := h
 induction xs generalizing ys with
 | nil => have := List.eq_nil_of_length_eq_zero h1; subst this; rfl
 | cons x xs ih =>
  cases ys with
  | nil => simp at h1
  | cons y ys =>
   have e := (h2 0 x y rfl rfl).1
   have := ih (ys := ys) (by simpa using h1) (fun j a b ha hb => h2 (j + 1) a b (by simpa using ha) (by simpa using hb))
   simp only [laws_markByteSS.sum, List.map_cons, List.sum_cons] at this ⊢
   omega
def laws_markRr.n (l0_0 l0_4 : List (List Int)) (l0_5 l0_6 : List Int) : Nat := laws_markByteSS.sum l0_0 + laws_markByteSS.sum l0_4 + l0_5.length + l0_6.length
set_option maxHeartbeats 8000000 in
set_option maxRecDepth 100000 in
theorem laws_markRr.marks (P : Nat → Prop) (u0 u4 u5 u6 : Value) (l0 : List (List Int)) (b1 b2 b3 : Int) (l4 : List (List Int)) (l5 l6 : List Int) (a1 : Int) (base : Nat) (w : World) (h0 : Kd.S (Kd.slice 5 (Kd.int .u8)) 22 w base P u0 l0) (h4 : Kd.S (Kd.slice 5 (Kd.int .u8)) 22 w base P u4 l4) (h5 : Kd.R (Kd.int .u8) 5 w base P u5 l5) (h6 : Kd.R (Kd.int .i64) 3 w base P u6 l6) (hP : ∀ k, P k → k < w.heap.size) (ha : 0 ≤ a1) (hb : a1 + (laws_markRr.n l0 l4 l5 l6 : Int) ≤ 4611686018427387904) :
  Calls Tryd.prog 35 #[.agg #[u0, .int .i64 b1, .int .i64 b2, .int .i64 b3, u4, u5, u6], .int .i64 a1] w fun e w' => e = .returned (.int .i64 (a1 + (laws_markRr.n l0 l4 l5 l6 : Int))) ∧ Mark P w w' := by
 have H0 := Aside0.mk h0
 have H4 := Aside0.mk h4
 have H5 := Aside0.mk h5
 have H6 := Aside0.mk h6
 have HB := Aside0.mk (Below.refl w.heap.size w)
 obtain ⟨A0, c0, rfl⟩ : ∃ A c, u0 = .slice A l0.length c := by obtain ⟨A, c, rfl, _⟩ := Kd.R_reads (Kd.S_R h0); exact ⟨A, c, rfl⟩
 obtain ⟨A4, c4, rfl⟩ : ∃ A c, u4 = .slice A l4.length c := by obtain ⟨A, c, rfl, _⟩ := Kd.R_reads (Kd.S_R h4); exact ⟨A, c, rfl⟩
 obtain ⟨A5, c5, rfl⟩ : ∃ A c, u5 = .slice A l5.length c := by obtain ⟨A, c, rfl, _⟩ := Kd.R_reads h5; exact ⟨A, c, rfl⟩
 obtain ⟨A6, c6, rfl⟩ : ∃ A c, u6 = .slice A l6.length c := by obtain ⟨A, c, rfl, _⟩ := Kd.R_reads h6; exact ⟨A, c, rfl⟩
 obtain ⟨n0, e0⟩ : ∃ n, laws_markByteSS.sum l0 = n := ⟨_, rfl⟩
 obtain ⟨n4, e4⟩ : ∃ n, laws_markByteSS.sum l4 = n := ⟨_, rfl⟩
 have hn : laws_markRr.n l0 l4 l5 l6 = n0 + n4 + l5.length + l6.length := by unfold laws_markRr.n; rw [e0, e4]
 rw [hn] at hb ⊢
 have E0 := Aside0.mk e0
 have E4 := Aside0.mk e4
 have hq : a1 + (n0 : Int) + (n4 : Int) + (l5.length : Int) + (l6.length : Int) ≤ 4611686018427387904 := by omega
 clear h0 h4 h5 h6 e0 e4 hn hb
 go_enter Tryd.func35, Tryd.ntmps35
 go_wp2_with (first | ((with_reducible refine gate_dst (N := 2) rfl ?_); refine boxed (N := 2) rfl rfl (cs := #[.slice A0 l0.length c0, .int .i64 b1, .int .i64 b2, .int .i64 b3, .slice A4 l4.length c4, .slice A5 l5.length c5, .slice A6 l6.length c6]) (t := 51) HB.out (by first | (go_simp; done) | (go_simp; rfl)) ?_; clear HB; intro gb w2 hg HB BK GE hb; clear hg hb; obtain ⟨hz0, hz1, hz2, hz3, hz4, hz5, hz6, hf0, hf1, hf2, hf3, hf4, hf5, hf6⟩ := cells7 BK.out) | (go_at_call 16; (with_reducible refine (laws_markName.marks P (.slice A0 l0.length c0) l0 a1 base w2 ?s1 ?s2 ?s3).mono ?_); (case s1 => exact Kd.S_below H0.out HB.out); (case s2 => exact ha); (case s3 => rw [E0.out]; omega); rintro e w3 ⟨rfl, hm, _⟩; clear hz0 hz1 hz2 hz3 hz4 hz5 hz6 hf0 hf1 hf2 hf3 hf4 hf5 hf6; obtain ⟨l4', sh4, h4'⟩ := stab_S (stab_slice _ (stab_int _)) hm (Kd.S_below H4.out HB.out); obtain ⟨l5', sh5, h5'⟩ := stab_R (stab_int _) hm (Kd.R_below H5.out HB.out); obtain ⟨l6', sh6, h6'⟩ := stab_R (stab_int _) hm (Kd.R_below H6.out HB.out); have G4 := Aside0.mk h4'; have G5 := Aside0.mk h5'; have G6 := Aside0.mk h6'; have F4 := Aside0.mk ((laws_markRr.sum_sh sh4).trans E4.out); have F5 := Aside0.mk sh5.1; have F6 := Aside0.mk sh6.1; have HM := Aside0.mk ((Mark.of_below HB.out).trans hm); replace BK := Aside0.mk ((hm.out gb (blk_lt BK.out) (fun hp => by have h1 := hP gb hp; have h2 := GE.out; omega)).trans BK.out); rw [E0.out]; clear sh4 sh5 sh6 h4' h5' h6' hm; obtain ⟨hz0, hz1, hz2, hz3, hz4, hz5, hz6, hf0, hf1, hf2, hf3, hf4, hf5, hf6⟩ := cells7 BK.out) | (go_at_call 16; (with_reducible refine (laws_markName.marks P (.slice A4 l4.length c4) l4' (a1 + (n0 : Int)) base w3 ?s1 ?s2 ?s3).mono ?_); (case s1 => exact G4.out); (case s2 => omega); (case s3 => rw [F4.out]; omega); rintro e w4 ⟨rfl, hm, _⟩; clear hz0 hz1 hz2 hz3 hz4 hz5 hz6 hf0 hf1 hf2 hf3 hf4 hf5 hf6; obtain ⟨l5b, sh5, h5'⟩ := stab_R (stab_int _) hm G5.out; obtain ⟨l6b, sh6, h6'⟩ := stab_R (stab_int _) hm G6.out; replace G5 := Aside0.mk h5'; replace G6 := Aside0.mk h6'; replace F5 := Aside0.mk (sh5.1.trans F5.out); replace F6 := Aside0.mk (sh6.1.trans F6.out); replace HM := Aside0.mk (HM.out.trans hm); replace BK := Aside0.mk ((hm.out gb (blk_lt BK.out) (fun hp => by have h1 := hP gb hp; have h2 := GE.out; omega)).trans BK.out); rw [F4.out]; clear sh5 sh6 h5' h6' hm; obtain ⟨hz0, hz1, hz2, hz3, hz4, hz5, hz6, hf0, hf1, hf2, hf3, hf4, hf5, hf6⟩ := cells7 BK.out) | (go_at_call 11; (with_reducible refine (laws_markByteSS.bytes P _ l5b (a1 + (n0 : Int) + (n4 : Int)) base w4 ?s1 ?s2 ?s3).mono ?_); (case s1 => exact G5.out); (case s2 => omega); (case s3 => rw [F5.out]; omega); rintro e w5 ⟨rfl, hm, _⟩; clear hz0 hz1 hz2 hz3 hz4 hz5 hz6 hf0 hf1 hf2 hf3 hf4 hf5 hf6; obtain ⟨l6c, sh6, h6'⟩ := stab_R (stab_int _) hm G6.out; replace G6 := Aside0.mk h6'; replace F6 := Aside0.mk (sh6.1.trans F6.out); replace HM := Aside0.mk (HM.out.trans hm); replace BK := Aside0.mk ((hm.out gb (blk_lt BK.out) (fun hp => by have h1 := hP gb hp; have h2 := GE.out; omega)).trans BK.out); rw [F5.out]; clear sh6 h6' hm; obtain ⟨hz0, hz1, hz2, hz3, hz4, hz5, hz6, hf0, hf1, hf2, hf3, hf4, hf5, hf6⟩ := cells7 BK.out) | (go_at_call 69; (with_reducible refine (laws_markRr.ints P _ l6c (a1 + (n0 : Int) + (n4 : Int) + (l5.length : Int)) base w5 ?s1 ?s2 ?s3).mono ?_); (case s1 => exact G6.out); (case s2 => omega); (case s3 => rw [F6.out]; omega); rintro e w6 ⟨rfl, hm, _⟩; replace HM := Aside0.mk (HM.out.trans hm); rw [F6.out]; clear hm))
 go_ret
 exact ⟨by show Ending.returned (.int .i64 (a1 + (n0 : Int) + (n4 : Int) + (l5.length : Int) + (l6.length : Int))) = _; rw [show a1 + (n0 : Int) + (n4 : Int) + (l5.length : Int) + (l6.length : Int) = a1 + ((n0 + n4 + l5.length + l6.length : Nat) : Int) from by omega], HM.out⟩
/-! ### laws_heldByteS: function 12 -/
def laws_heldByteS.l0 : Nat → List Int → Int → Int → Option (Int)
 | 0, _, _, _ => none
 | k + 1, x0, x1, x5 => if x5 < (x0.length : Int) then (if 0 ≤ x5 then (if (rd x0 x5) = ((x1) % 256) then (laws_heldByteS.l0 k x0 (wrap64 (x1 + 1)) (wrap64 (x5 + 1))) else (some (-1))) else (none)) else (some x1)
def laws_heldByteS.f (k : Nat) (l0 : List Int) (a1 : Int) : Option (Int) := laws_heldByteS.l0 k l0 a1 0
set_option maxHeartbeats 8000000 in
set_option maxRecDepth 100000 in
theorem laws_heldByteS.calls (k : Nat) (A0 : Option Addr) (c0 : Nat) (l0 : List Int) (a1 : Int) (r : Int) (w : World) (hr0 : Kd.C (Kd.int .u8) w A0 l0.length l0) (hc0 : l0.length ≤ c0) (h : laws_heldByteS.f k l0 a1 = some r) :
  Calls Tryd.prog 12 #[.slice A0 l0.length c0, .int .i64 a1] w fun e w' => e = .returned (.int .i64 r) ∧ Drawn0 w w' := by
 have HR0 := ak hr0
 have HC0 := ak hc0
 clear hr0 hc0
 have H : (laws_heldByteS.l0 k l0 a1 0) = some r := h
 clear h
 have H' := ak H
 clear H
 go_enter Tryd.func12, Tryd.ntmps12
 go_wp2
 go_loopg [1, 5] k (fun kq v1 v5 w' => ∃ (x1_1 : Int) (x5_1 : Int), v1 = .int .i64 x1_1 ∧ v5 = .int .i64 x5_1 ∧ Aside0 (laws_heldByteS.l0 kq l0 x1_1 x5_1 = some r) ∧ Aside0 (kq ≤ k) ∧ Drawn0 w w')
 case atStart => exact ⟨(a1), (0), o2, o2, H', ⟨Nat.le_refl _⟩, od⟩
 case round =>
  clear H'
  obtain ⟨x1_1, x5_1, rfl, rfl, HA, HK1, ⟨m1, rfl⟩⟩ := hrel
  cases gk with
  | zero => exact absurd HA.out (by simp [laws_heldByteS.l0])
  | succ k1 =>
   have H := HA.out
   clear HA
   simp only [laws_heldByteS.l0] at H
   replace H := ip H
   obtain ⟨c3b0, H⟩ | ⟨c3b0, H⟩ := H
   ·replace H := ipN H
    obtain ⟨c4b0, H⟩ := H
    replace H := ie H
    obtain ⟨c5b0, c5b1, H⟩ | ⟨c5b0, c5b1, H⟩ := H
    ·have H' := ak H
     clear H
     obtain ⟨ad101, rfl, hx101_0, p101, q101⟩ := el0_int HR0 x5_1
     go_wp2
     go_roundg k1
     case measure => have := HK1.out; omega
     case rel => exact ⟨(wrap64 (x1_1 + 1)), (wrap64 (x5_1 + 1)), o2, o2, H', ⟨by have := HK1.out; omega⟩, od⟩
    ·obtain rfl := Option.some.inj H
     obtain ⟨ad101, rfl, hx101_0, p101, q101⟩ := el0_int HR0 x5_1
     go_wp2
     go_ret
     exact ⟨o2, od⟩
   ·obtain rfl := Option.some.inj H
    go_wp2
    go_ret
    exact ⟨o2, od⟩

/-! ### laws_markByteS: function 11 -/
def laws_markByteS.l0 : Nat → List Int → Int → Int → Option (Int × List Int)
 | 0, _, _, _ => none
 | k + 1, x0, x1, x5 => if x5 < (x0.length : Int) then (if 0 ≤ x5 then (laws_markByteS.l0 k (x0.set (x5 : Int).toNat ((x1) % 256)) (wrap64 (x1 + 1)) (wrap64 (x5 + 1))) else (none)) else (some (x1, x0))
def laws_markByteS.f (k : Nat) (l0 : List Int) (a1 : Int) : Option (Int × List Int) := laws_markByteS.l0 k l0 a1 0
theorem laws_markByteS.callsZ (k : Nat) (P0_ : Nat → Prop) (u9000_ : Value) (l0 : List Int) (a1 : Int) (r1 : Int) (r2 : List Int) (w0 w : World) (hB : Below w0.heap.size w0 w) (ho0 : Zr 5 w w0.heap.size P0_ u9000_ l0) (h : laws_markByteS.f k l0 a1 = some (r1, r2)) :
  Calls Tryd.prog 11 #[u9000_, .int .i64 a1] w fun e w' => e = .returned (.int .i64 r1) ∧ Zr 5 w' w0.heap.size (fun k_ => (P0_ k_ ∨ w.heap.size ≤ k_)) u9000_ r2 ∧ Below w0.heap.size w0 w' ∧ Kept w w' (fun k_ => P0_ k_) := by
 have HO0 := ak (show Zr 5 w w0.heap.size (fun k_ => (P0_ k_ ∨ w.heap.size ≤ k_)) u9000_ l0 from Z_mono ho0 (fun k_ hk => (.inl hk)))
 have HK := ak (Kept.refl w (fun k_ => P0_ k_))
 have HW0 := ak hB.size
 have HB := ak hB
 clear hB
 have H : (laws_markByteS.l0 k l0 a1 0) = some (r1, r2) := h
 clear h
 have H' := ak H
 clear H
 go_enter Tryd.func11, Tryd.ntmps11
 go_wp2
 go_loopg [1, 5] k (fun kq v1 v5 w' => ∃ (x0_1 : List Int) (x1_1 : Int) (x5_1 : Int), v1 = .int .i64 x1_1 ∧ v5 = .int .i64 x5_1 ∧ Aside0 (laws_markByteS.l0 kq x0_1 x1_1 x5_1 = some (r1, r2)) ∧ Aside0 (kq ≤ k) ∧ Aside0 (Zr 5 w' w0.heap.size (fun k_ => (P0_ k_ ∨ w.heap.size ≤ k_)) u9000_ x0_1) ∧ Aside0 (Kept w w' (fun k_ => P0_ k_)) ∧ Aside0 (Below w0.heap.size w0 w'))
 case atStart => exact ⟨(l0), (a1), (0), o2, o2, H', ⟨Nat.le_refl _⟩, ⟨zw_ HO0.out⟩, ⟨by repeat (first | (with_reducible first | exact HK.out | apply Kept.alloc | apply Kept.drewN | apply Kept.drew) | exact HK.out)⟩, ⟨bw HB.out⟩⟩
 case round =>
  clear H'
  obtain ⟨x0_1, x1_1, x5_1, rfl, rfl, HA, HK1, HO_0, HK, HB⟩ := hrel
  cases gk with
  | zero => exact absurd HA.out (by simp [laws_markByteS.l0])
  | succ k1 =>
   have H := HA.out
   clear HA
   simp only [laws_markByteS.l0] at H
   replace H := ip H
   obtain ⟨c3b0, H⟩ | ⟨c3b0, H⟩ := H
   ·replace H := ipN H
    obtain ⟨c4b0, H⟩ := H
    obtain ⟨y101, hy101⟩ : ∃ y_ : List Int, y_ = (x0_1.set (x5_1 : Int).toNat ((x1_1) % 256)) := ⟨_, rfl⟩
    (try with_reducible replace H := bnS H)
    (try rw [← hy101] at H)
    have Ny101 := ak hy101
    clear hy101
    have H' := ak H
    clear H
    obtain ⟨Ao6, co6, eo6⟩ := Z_slice HO_0.out
    subst eo6
    have p5 : 0 ≤ (x5_1 : Int) := of_decide_eq_true (by first | (with_reducible assumption) | assumption)
    have q5 : (x5_1 : Int) < ((x0_1.length : Int) : Int) := of_decide_eq_true (by first | (with_reducible assumption) | assumption)
    obtain ⟨go5, co5, eo5, gb5, gl5, cl5, fr5, HG5⟩ := Z_form HO_0.out (by omega)
    (first | cases eo5 | (injection eo5 with ea_ en_ ec_; (first | subst ea_ | (injection ea_ with ea_; subst ea_)); subst ec_; clear en_))
    have GB5 := ak gb5
    have GG5 := ak HG5
    clear gb5 gl5 HG5
    have HMgo5 := ak (show (P0_ go5 ∨ w.heap.size ≤ go5) from (Z_ok HO_0.out _ rfl))
    obtain ⟨hx5_0, hf5_0⟩ := Z_celln 0 HO_0.out (x5_1 : Int) p5 q5
    replace p5 := eq_true p5
    replace q5 := eq_true q5
    have HP7 := Z_putg HO_0.out (x5_1 : Int) ((x1_1) % 256)
    go_wp2_with (((with_reducible refine gate_store (t := 5) (p := 16) rfl ?_);refine store_event (t := 5) (p := 16) (v := ?vo_w8) (w1 := (wr.setCell ⟨go5, (x5_1 : Int).toNat, none⟩ (.int .u8 ((x1_1) % 256)))) ?hg ?ho ?hn ?hr ?_;(case ho => rfl);(case hg => rfl);(case hn => rfl);(case hr => first | (go_simp; done) | (go_simp; rfl));intro w8 hw;have hg : wr.grownBy w8 (some go5) := (by rw [hw]; exact HP7.2);have hp_ : Zr 5 w8 w0.heap.size (fun k_ => (P0_ k_ ∨ w.heap.size ≤ k_)) (.slice (some ⟨go5, 0, none⟩) x0_1.length co6) y101 := (by rw [hw, Ny101.out]; exact HP7.1);clear HP7;replace HB := ak ((by rw [hw]; exact below_set (HB.out) GB5.out : Below w0.heap.size w0 w8));replace HK := ak (Kept.of_grown (S := (fun k_ => P0_ k_)) hg (by repeat (first | (with_reducible first | exact HK.out | apply Kept.alloc | apply Kept.drewN | apply Kept.drew) | exact HK.out)) (fun k_ e_ => (Z_ok HO_0.out k_ e_)));replace HO_0 := ak (hp_);clear hg hw hp_))
    go_roundg k1
    case measure => have := HK1.out; omega
    case rel => exact ⟨(y101), (wrap64 (x1_1 + 1)), (wrap64 (x5_1 + 1)), o2, o2, H', ⟨by have := HK1.out; omega⟩, ⟨zw_ HO_0.out⟩, ⟨by repeat (first | (with_reducible first | exact HK.out | apply Kept.alloc | apply Kept.drewN | apply Kept.drew) | exact HK.out)⟩, ⟨bw HB.out⟩⟩
   ·simp only [Option.some.injEq, Prod.mk.injEq] at H
    obtain ⟨rfl, rfl⟩ := H
    obtain ⟨Ao9, co9, eo9⟩ := Z_slice HO_0.out
    subst eo9
    go_wp2
    go_ret
    exact ⟨o1, zw_ HO_0.out, bw HB.out, by repeat (first | (with_reducible first | exact HK.out | apply Kept.alloc | apply Kept.drewN | apply Kept.drew) | exact HK.out)⟩

theorem rrtext_out (k : Nat) (A0 : Option Addr) (c0 : Nat) (nm : List (List Int)) (ty ttl addr : Int) (A4 : Option Addr) (c4 : Nat) (tn : List (List Int)) (A5 : Option Addr) (c5 : Nat) (tx : List Int) (A6 : Option Addr) (c6 : Nat) (nu : List Int) (u : Int) (w : World)
    (hr0 : Kd.C (Kd.slice 5 (Kd.int .u8)) w A0 nm.length nm) (hc0 : nm.length ≤ c0) (hr4 : Kd.C (Kd.slice 5 (Kd.int .u8)) w A4 tn.length tn) (hc4 : tn.length ≤ c4) (hr5 : Kd.C (Kd.int .u8) w A5 tx.length tx) (hc5 : tx.length ≤ c5) (hr6 : Kd.C (Kd.int .i64) w A6 nu.length nu) (hc6 : nu.length ≤ c6)
    (hz : laws_szRr.f k nm ty ttl addr tn tx nu 1048576 = some u) (hu : u < 0) :
    Calls Tryd.prog 7 #[.agg #[.slice A0 nm.length c0, .int .i64 ty, .int .i64 ttl, .int .i64 addr, .slice A4 tn.length c4, .slice A5 tx.length c5, .slice A6 nu.length c6]] w fun e w' => e = .returned (.bool true) ∧ Below w.heap.size w w' := by
  have HZ := ak hz
  clear hz
  go_enter Tryd.func7, Tryd.ntmps7
  go_wp2_with (fail)
  have HB := ak (below_alloc (Below.refl w.heap.size w) (.cells #[.slice A0 nm.length c0, .int .i64 ty, .int .i64 ttl, .int .i64 addr, .slice A4 tn.length c4, .slice A5 tx.length c5, .slice A6 nu.length c6] 47))
  refine (laws_szRr.calls k A0 c0 nm ty ttl addr A4 c4 tn A5 c5 tx A6 c6 nu 1048576 u _ (Kd.C_alloc hr0 _) hc0 (Kd.C_alloc hr4 _) hc4 (Kd.C_alloc hr5 _) hc5 (Kd.C_alloc hr6 _) hc6 HZ.out).mono ?_
  rintro e w2 ⟨rfl, hb⟩
  replace HB := b2s HB.out hb
  clear HZ hr0 hr4 hr5 hr6 hb
  go_wp2
  go_ret
  exact ⟨rfl, HB.out⟩
set_option maxHeartbeats 16000000 in
set_option maxRecDepth 100000 in
theorem rrtext_law (k : Nat) (A0 : Option Addr) (c0 : Nat) (nm : List (List Int)) (ty ttl addr : Int) (A4 : Option Addr) (c4 : Nat) (tn : List (List Int)) (A5 : Option Addr) (c5 : Nat) (tx : List Int) (A6 : Option Addr) (c6 : Nat) (nu : List Int) (u : Int) (r M : List Int) (w : World) (hT : TabA w)
    (hr0 : Kd.C (Kd.slice 5 (Kd.int .u8)) w A0 nm.length nm) (hc0 : nm.length ≤ c0) (hr4 : Kd.C (Kd.slice 5 (Kd.int .u8)) w A4 tn.length tn) (hc4 : tn.length ≤ c4) (hr5 : Kd.C (Kd.int .u8) w A5 tx.length tx) (hc5 : tx.length ≤ c5) (hr6 : Kd.C (Kd.int .i64) w A6 nu.length nu) (hc6 : nu.length ≤ c6)
    (hz : laws_szRr.f k nm ty ttl addr tn tx nu 1048576 = some u) (hu : ¬ u < 0) (hto : laws_toRr.f k nm ty ttl addr tn tx nu = some (nm, ty, ttl, addr, tn, tx, nu))
    (hs : Rr3 k nm ty ttl addr tn tx nu r) (hi : Rr67 k nm ty ttl addr tn tx nu r) (he : laws_eqByteS.f k r r = some true) (hq : laws_eqRr.f k nm ty ttl addr tn tx nu nm ty ttl addr tn tx nu = some true)
    (hn : laws_markRr.n nm tn tx nu ≤ 8000000) (hm : laws_markByteS.f k r 1 = some (1 + (r.length : Int), M)) (hM : M.length = r.length) (hh : laws_heldByteS.f k M 1 = some (1 + (r.length : Int))) :
    Calls Tryd.prog 7 #[.agg #[.slice A0 nm.length c0, .int .i64 ty, .int .i64 ttl, .int .i64 addr, .slice A4 tn.length c4, .slice A5 tx.length c5, .slice A6 nu.length c6]] w fun e w' => e = .returned (.bool true) ∧ Below w.heap.size w w' := by
  have HT := ak hT
  have HR0 := ak hr0
  have HC0 := ak hc0
  have HR4 := ak hr4
  have HC4 := ak hc4
  have HR5 := ak hr5
  have HC5 := ak hc5
  have HR6 := ak hr6
  have HC6 := ak hc6
  have HZ := ak hz
  have HTO := ak hto
  have HS := ak hs
  have HI := ak hi
  have HE := ak he
  have HQ := ak hq
  have HN := ak hn
  have HM := ak hm
  have HH := ak hh
  clear hT hr0 hc0 hr4 hc4 hr5 hc5 hr6 hc6 hz hto hs hi he hq hn hm hh
  go_enter Tryd.func7, Tryd.ntmps7
  go_wp2_with (fail)
  obtain ⟨W1, hW1⟩ : ∃ W, W = w.alloc (.cells #[.slice A0 nm.length c0, .int .i64 ty, .int .i64 ttl, .int .i64 addr, .slice A4 tn.length c4, .slice A5 tx.length c5, .slice A6 nu.length c6] 47) := ⟨_, rfl⟩
  obtain ⟨b1, hb1⟩ : ∃ b, b = w.heap.size := ⟨_, rfl⟩
  have BK := ak (show W1.heap[b1]? = some (.cells #[.slice A0 nm.length c0, .int .i64 ty, .int .i64 ttl, .int .i64 addr, .slice A4 tn.length c4, .slice A5 tx.length c5, .slice A6 nu.length c6] 47 (0, 0)) by rw [hW1, hb1]; exact heap_alloc_new w _)
  have HB := ak (show Below w.heap.size w W1 by rw [hW1]; exact below_alloc (Below.refl _ _) _)
  rw [← hW1, ← hb1]
  clear hW1 hb1
  refine (laws_szRr.calls k A0 c0 nm ty ttl addr A4 c4 tn A5 c5 tx A6 c6 nu 1048576 u W1 (Kd.C_below HR0.out HB.out) HC0.out (Kd.C_below HR4.out HB.out) HC4.out (Kd.C_below HR5.out HB.out) HC5.out (Kd.C_below HR6.out HB.out) HC6.out HZ.out).mono ?_
  rintro e w2 ⟨rfl, hb⟩
  replace BK := ak (blk_below BK.out hb)
  replace HB := b2s HB.out hb
  have h0 := (blk_cell BK.out 0).trans rfl
  have h1 := (blk_cell BK.out 1).trans rfl
  have h2 := (blk_cell BK.out 2).trans rfl
  have h3 := (blk_cell BK.out 3).trans rfl
  have h4 := (blk_cell BK.out 4).trans rfl
  have h5 := (blk_cell BK.out 5).trans rfl
  have h6 := (blk_cell BK.out 6).trans rfl
  clear hb HZ
  go_wp2_with (fail)
  refine (laws_toRr.calls k A0 c0 nm ty ttl addr A4 c4 tn A5 c5 tx A6 c6 nu nm ty ttl addr tn tx nu _ (Kd.C_below HR0.out HB.out) HC0.out (Kd.C_below HR4.out HB.out) HC4.out (Kd.C_below HR5.out HB.out) HC5.out (Kd.C_below HR6.out HB.out) HC6.out HTO.out).mono ?_
  rintro e w3 ⟨v0, v4, v5, v6, rfl, s0, s4, s5, s6, hb⟩
  obtain ⟨B0, d0, rfl, l0, g0⟩ := Kd.S_reads s0
  obtain ⟨B4, d4, rfl, l4, g4⟩ := Kd.S_reads s4
  obtain ⟨B5, d5, rfl, l5, g5⟩ := Kd.R_reads s5
  obtain ⟨B6, d6, rfl, l6, g6⟩ := Kd.R_reads s6
  replace BK := ak (blk_below BK.out hb)
  replace HB := b2s HB.out hb
  have G0 := ak g0
  have G4 := ak g4
  have G5 := ak g5
  have G6 := ak g6
  have L0 := ak l0
  have L4 := ak l4
  have L5 := ak l5
  have L6 := ak l6
  clear hb s0 s4 s5 s6 g0 g4 g5 g6 l0 l4 l5 l6 h0 h1 h2 h3 h4 h5 h6
  go_wp2_with (fail)
  refine (rrtext_any k B0 d0 nm ty ttl addr B4 d4 tn B5 d5 tx B6 d6 nu r w3 G0.out L0.out G4.out L4.out G5.out L5.out G6.out L6.out HS.out).mono ?_
  rintro e w4 ⟨vw, rfl, ho, hb⟩
  obtain ⟨Aw, cw, rfl, lw, gw⟩ := Kd.R_reads ho
  replace BK := ak (blk_below BK.out hb)
  replace HB := b2s HB.out hb
  have GW := ak gw
  have LW := ak lw
  have h0 := (blk_cell BK.out 0).trans rfl
  have h1 := (blk_cell BK.out 1).trans rfl
  have h2 := (blk_cell BK.out 2).trans rfl
  have h3 := (blk_cell BK.out 3).trans rfl
  have h4 := (blk_cell BK.out 4).trans rfl
  have h5 := (blk_cell BK.out 5).trans rfl
  have h6 := (blk_cell BK.out 6).trans rfl
  clear hb ho lw gw G0 G4 G5 G6 L0 L4 L5 L6 HS
  go_wp2_with (fail)
  refine (laws_toRr.calls k A0 c0 nm ty ttl addr A4 c4 tn A5 c5 tx A6 c6 nu nm ty ttl addr tn tx nu _ (Kd.C_below HR0.out HB.out) HC0.out (Kd.C_below HR4.out HB.out) HC4.out (Kd.C_below HR5.out HB.out) HC5.out (Kd.C_below HR6.out HB.out) HC6.out HTO.out).mono ?_
  rintro e w5 ⟨v0, v4, v5, v6, rfl, s0, s4, s5, s6, hb⟩
  have S0 := ak (S_btw s0)
  have S4 := ak (S_btw s4)
  have S5 := ak (R_btw s5)
  have S6 := ak (R_btw s6)
  obtain ⟨B0, d0, rfl, l0, _⟩ := Kd.S_reads s0
  obtain ⟨B4, d4, rfl, l4, _⟩ := Kd.S_reads s4
  obtain ⟨B5, d5, rfl, l5, _⟩ := Kd.R_reads s5
  obtain ⟨B6, d6, rfl, l6, _⟩ := Kd.R_reads s6
  have L0 := ak l0
  have L4 := ak l4
  have L5 := ak l5
  have L6 := ak l6
  have HB4 := ak hb
  have N45 := ak (show w4.heap.size ≤ w5.heap.size from hb.size)
  replace HR0 := ak (Kd.C_below HR0.out HB.out)
  replace HR4 := ak (Kd.C_below HR4.out HB.out)
  replace HR5 := ak (Kd.C_below HR5.out HB.out)
  replace HR6 := ak (Kd.C_below HR6.out HB.out)
  replace HT := ak (tab_below HT.out HB.out)
  clear hb s0 s4 s5 s6 l0 l4 l5 l6 h0 h1 h2 h3 h4 h5 h6
  obtain ⟨W6, hW6⟩ : ∃ W, W = w5.alloc (.cells #[.slice B0 nm.length d0, .int .i64 ty, .int .i64 ttl, .int .i64 addr, .slice B4 tn.length d4, .slice B5 tx.length d5, .slice B6 nu.length d6] 51) := ⟨_, rfl⟩
  obtain ⟨b6, hb6⟩ : ∃ b, b = w5.heap.size := ⟨_, rfl⟩
  have B6K := ak (show W6.heap[b6]? = some (.cells #[.slice B0 nm.length d0, .int .i64 ty, .int .i64 ttl, .int .i64 addr, .slice B4 tn.length d4, .slice B5 tx.length d5, .slice B6 nu.length d6] 51 (0, 0)) by rw [hW6, hb6]; exact heap_alloc_new w5 _)
  have HB56 := ak (show Below w5.heap.size w5 W6 by rw [hW6]; exact below_alloc (Below.refl _ _) _)
  have N56 := ak (show w5.heap.size ≤ b6 by omega)
  have N6 := ak (show W6.heap.size = w5.heap.size + 1 by rw [hW6]; exact Array.size_push _)
  replace S0 := ak (Kd.S_below S0.out HB56.out)
  replace S4 := ak (Kd.S_below S4.out HB56.out)
  replace S5 := ak (Kd.R_below S5.out HB56.out)
  replace S6 := ak (Kd.R_below S6.out HB56.out)
  replace HB4 := b2s HB4.out HB56.out
  go_wp2_with (fail)
  rw [← hW6, ← hb6]
  clear hW6 hb6 HB56
  have GB0 := ak (show Kd.C (Kd.slice 5 (Kd.int .u8)) W6 B0 nm.length nm from (Kd.S_reads' S0.out).2.2)
  have GB4 := ak (show Kd.C (Kd.slice 5 (Kd.int .u8)) W6 B4 tn.length tn from (Kd.S_reads' S4.out).2.2)
  have GB5 := ak (show Kd.C (Kd.int .u8) W6 B5 tx.length tx by obtain ⟨A, c, e, _, h⟩ := Kd.R_reads S5.out; injection e with e _ _; rw [e]; exact h)
  have GB6 := ak (show Kd.C (Kd.int .i64) W6 B6 nu.length nu by obtain ⟨A, c, e, _, h⟩ := Kd.R_reads S6.out; injection e with e _ _; rw [e]; exact h)
  refine (irrtext_any k B0 d0 nm ty ttl addr B4 d4 tn B5 d5 tx B6 d6 nu r W6 GB0.out L0.out GB4.out L4.out GB5.out L5.out GB6.out L6.out (tab_below HT.out HB4.out) HI.out).mono ?_
  rintro e w7 ⟨vg, rfl, hg, hb⟩
  obtain ⟨Ag, cg, rfl⟩ := Z_slice hg
  have N46 := ak (show w5.heap.size ≤ W6.heap.size from by have := N6.out; omega)
  have G := ak (Z_lower (Z_all hg (p := fun k => W6.heap.size ≤ k) (Z_base hg)) HB4.out.size)
  have LG := ak (Z_reads' hg).2.1
  replace B6K := ak (blk_below B6K.out hb)
  replace S0 := ak (Kd.S_below S0.out hb)
  replace S4 := ak (Kd.S_below S4.out hb)
  replace S5 := ak (Kd.R_below S5.out hb)
  replace S6 := ak (Kd.R_below S6.out hb)
  replace GB0 := ak (Kd.C_below GB0.out hb)
  replace GB4 := ak (Kd.C_below GB4.out hb)
  replace GB5 := ak (Kd.C_below GB5.out hb)
  replace GB6 := ak (Kd.C_below GB6.out hb)
  have HB6 := ak hb
  replace HB4 := b2s HB4.out hb
  clear hb hg
  go_wp2_with (fail)
  refine (laws_eqByteS.calls k Ag cg r Aw cw r true w7 (Z_reads' G.out).2.2 LG.out (Kd.C_below GW.out HB4.out) LW.out HE.out).mono ?_
  rintro e w8 ⟨rfl, hd⟩
  have hb := hd.below
  clear hd
  replace B6K := ak (blk_below B6K.out hb)
  replace S0 := ak (Kd.S_below S0.out hb)
  replace S4 := ak (Kd.S_below S4.out hb)
  replace S5 := ak (Kd.R_below S5.out hb)
  replace S6 := ak (Kd.R_below S6.out hb)
  replace GB0 := ak (Kd.C_below GB0.out hb)
  replace GB4 := ak (Kd.C_below GB4.out hb)
  replace GB5 := ak (Kd.C_below GB5.out hb)
  replace GB6 := ak (Kd.C_below GB6.out hb)
  replace G := ak (Z_below G.out hb)
  replace HB6 := b2s HB6.out hb
  replace HB4 := b2s HB4.out hb
  have BKN := ak (blk_below BK.out HB4.out)
  clear hb
  clear GB0 GB4 GB5 GB6
  go_wp2_with (fail)
  go_region_held3 (fun w' => w'.cell? ⟨b6, 0, none⟩ = some (.slice B0 nm.length d0) ∧ w'.cell? ⟨b6, 1, none⟩ = some (.int .i64 ty) ∧ w'.cell? ⟨b6, 2, none⟩ = some (.int .i64 ttl) ∧ w'.cell? ⟨b6, 3, none⟩ = some (.int .i64 addr) ∧ w'.cell? ⟨b6, 4, none⟩ = some (.slice B4 tn.length d4) ∧ w'.cell? ⟨b6, 5, none⟩ = some (.slice B5 tx.length d5) ∧ w'.cell? ⟨b6, 6, none⟩ = some (.slice B6 nu.length d6) ∧ w'.cell? ⟨b1, 0, none⟩ = some (.slice A0 nm.length c0) ∧ w'.cell? ⟨b1, 1, none⟩ = some (.int .i64 ty) ∧ w'.cell? ⟨b1, 2, none⟩ = some (.int .i64 ttl) ∧ w'.cell? ⟨b1, 3, none⟩ = some (.int .i64 addr) ∧ w'.cell? ⟨b1, 4, none⟩ = some (.slice A4 tn.length c4) ∧ w'.cell? ⟨b1, 5, none⟩ = some (.slice A5 tx.length c5) ∧ w'.cell? ⟨b1, 6, none⟩ = some (.slice A6 nu.length c6)) (first | exact ⟨(blk_cell (bk B6K.out) 0).trans rfl, (blk_cell (bk B6K.out) 1).trans rfl, (blk_cell (bk B6K.out) 2).trans rfl, (blk_cell (bk B6K.out) 3).trans rfl, (blk_cell (bk B6K.out) 4).trans rfl, (blk_cell (bk B6K.out) 5).trans rfl, (blk_cell (bk B6K.out) 6).trans rfl, (blk_cell (bk BKN.out) 0).trans rfl, (blk_cell (bk BKN.out) 1).trans rfl, (blk_cell (bk BKN.out) 2).trans rfl, (blk_cell (bk BKN.out) 3).trans rfl, (blk_cell (bk BKN.out) 4).trans rfl, (blk_cell (bk BKN.out) 5).trans rfl, (blk_cell (bk BKN.out) 6).trans rfl⟩ | go_keep)
    (first
      | (go_at_call 32; refine (laws_toRr.calls k A0 c0 nm ty ttl addr A4 c4 tn A5 c5 tx A6 c6 nu nm ty ttl addr tn tx nu _ (Kd.C_below HR0.out (bw HB4.out)) HC0.out (Kd.C_below HR4.out (bw HB4.out)) HC4.out (Kd.C_below HR5.out (bw HB4.out)) HC5.out (Kd.C_below HR6.out (bw HB4.out)) HC6.out HTO.out).mono ?_; rintro e w9 ⟨v0, v4, v5, v6, rfl, s0, s4, s5, s6, hb⟩; obtain ⟨D0, f0, rfl, l0, g0⟩ := Kd.S_reads s0; obtain ⟨D4, f4, rfl, l4, g4⟩ := Kd.S_reads s4; obtain ⟨D5, f5, rfl, l5, g5⟩ := Kd.R_reads s5; obtain ⟨D6, f6, rfl, l6, g6⟩ := Kd.R_reads s6; have E0 := ak s0; have E4 := ak s4; have E5 := ak s5; have E6 := ak s6; have M0 := ak l0; have M4 := ak l4; have M5 := ak l5; have M6 := ak l6; replace B6K := ak (blk_below (bk B6K.out) hb); replace BKN := ak (blk_below (bk BKN.out) hb); replace S0 := ak (Kd.S_below (sw S0.out) hb); replace S4 := ak (Kd.S_below (sw S4.out) hb); replace S5 := ak (Kd.R_below (rw_ S5.out) hb); replace S6 := ak (Kd.R_below (rw_ S6.out) hb); replace G := ak (Z_below (zw_ G.out) hb); replace HB6 := b2s (bw HB6.out) hb; replace HB4 := b2s (bw HB4.out) hb; clear hb s0 s4 s5 s6 g0 g4 g5 g6 l0 l4 l5 l6)
      | (go_at_call 34; refine (laws_eqRr.calls k B0 d0 nm ty ttl addr B4 d4 tn B5 d5 tx B6 d6 nu D0 f0 nm ty ttl addr D4 f4 tn D5 f5 tx D6 f6 nu true _ (Kd.S_reads' (sw S0.out)).2.2 L0.out (Kd.S_reads' (sw S4.out)).2.2 L4.out (Kd.R_reads' (rw_ S5.out)).2.2 L5.out (Kd.R_reads' (rw_ S6.out)).2.2 L6.out (Kd.S_reads' (sw E0.out)).2.2 M0.out (Kd.S_reads' (sw E4.out)).2.2 M4.out (Kd.R_reads' (rw_ E5.out)).2.2 M5.out (Kd.R_reads' (rw_ E6.out)).2.2 M6.out HQ.out).mono ?_; rintro e w10 ⟨rfl, hb⟩; replace B6K := ak (blk_below (bk B6K.out) hb); replace BKN := ak (blk_below (bk BKN.out) hb); replace S0 := ak (Kd.S_below (sw S0.out) hb); replace S4 := ak (Kd.S_below (sw S4.out) hb); replace S5 := ak (Kd.R_below (rw_ S5.out) hb); replace S6 := ak (Kd.R_below (rw_ S6.out) hb); replace G := ak (Z_below (zw_ G.out) hb); replace HB6 := b2s (bw HB6.out) hb; replace HB4 := b2s (bw HB4.out) hb; clear hb E0 E4 E5 E6 M0 M4 M5 M6))
  have q0 := (blk_cell B6K.out 0).trans rfl
  have q1 := (blk_cell B6K.out 1).trans rfl
  have q2 := (blk_cell B6K.out 2).trans rfl
  have q3 := (blk_cell B6K.out 3).trans rfl
  have q4 := (blk_cell B6K.out 4).trans rfl
  have q5 := (blk_cell B6K.out 5).trans rfl
  have q6 := (blk_cell B6K.out 6).trans rfl
  obtain ⟨n, hn⟩ : ∃ n : Int, (laws_markRr.n nm tn tx nu : Int) = n := ⟨_, rfl⟩
  have hn0 : 0 ≤ n := by omega
  have hn1 : n ≤ 8000000 := by have := HN.out; omega
  go_wp2_with (fail)
  refine (laws_markRr.marks (Btw w4.heap.size w5.heap.size) (.slice B0 nm.length d0) (.slice B4 tn.length d4) (.slice B5 tx.length d5) (.slice B6 nu.length d6) nm ty ttl addr tn tx nu 1 w4.heap.size w10 S0.out S4.out S5.out S6.out (fun k hk => by have := hk.2; have := HB6.out.size; have := N46.out; omega) (by omega) (by rw [hn]; omega)).mono ?_
  rintro e w11 ⟨rfl, hmk⟩
  rw [hn]
  have HB6s := ak (show W6.heap.size ≤ w11.heap.size from Nat.le_trans HB6.out.size hmk.size)
  replace G := ak (show Zr 5 w11 w4.heap.size (fun k => W6.heap.size ≤ k) (.slice Ag r.length cg) r from Z_step G.out (fun k hk hlt => hmk.out k hlt (fun hp => by have := hp.2; have := N46.out; omega)))
  replace HB4 := ak (hmk.below0 HB4.out HB4.out.size (Nat.le_refl _))
  clear hmk S0 S4 S5 S6 B6K BKN HB6 q0 q1 q2 q3 q4 q5 q6 HQ
  have hng : ¬ (1 + n < 0) := by omega
  go_wp2_with (fail)
  refine (laws_eqByteS.calls k Ag cg r Aw cw r true w11 (Z_reads' G.out).2.2 LG.out (Kd.C_below GW.out HB4.out) LW.out HE.out).mono ?_
  rintro e w12 ⟨rfl, hd⟩
  have hb := hd.below
  clear hd
  replace G := ak (Z_below G.out hb)
  replace HB4 := b2s HB4.out hb
  clear hb
  go_wp2_with (fail)
  refine (laws_markByteS.callsZ k (fun k => W6.heap.size ≤ k) (.slice Ag r.length cg) r 1 (1 + (r.length : Int)) M w4 w12 HB4.out G.out HM.out).mono ?_
  rintro e w13 ⟨rfl, hg, hb, hk⟩
  have GM := ak (show Kd.C (Kd.int .u8) w13 Ag M.length M from by obtain ⟨e, _, h⟩ := Z_reads' hg; exact h)
  replace HB4 := ak hb
  have hrl : (0 : Int) ≤ r.length := by omega
  have LM := ak (show M.length ≤ cg by rw [hM]; exact LG.out)
  have hcall := fun W h => laws_heldByteS.calls k Ag cg M 1 (1 + (r.length : Int)) W h LM.out HH.out
  rw [hM] at hcall GM
  have HCALL := ak hcall
  clear hg hb hk hcall G HM
  go_wp2_with (fail)
  refine (HCALL.out w13 (by rw [← hM]; exact hM ▸ GM.out)).mono ?_
  rintro e w14 ⟨rfl, hd⟩
  have hb := hd.below
  replace HB4 := b2s HB4.out hb
  replace GM := ak (Kd.C_below GM.out hb)
  have hnr : ¬ (1 + (r.length : Int) < 0) := by omega
  have hnb : ((1 + (r.length : Int)) != (1 + (r.length : Int))) = false := by simp
  have BKN := ak (blk_below BK.out HB4.out)
  have h0 := (blk_cell BKN.out 0).trans rfl
  have h1 := (blk_cell BKN.out 1).trans rfl
  have h2 := (blk_cell BKN.out 2).trans rfl
  have h3 := (blk_cell BKN.out 3).trans rfl
  have h4 := (blk_cell BKN.out 4).trans rfl
  have h5 := (blk_cell BKN.out 5).trans rfl
  have h6 := (blk_cell BKN.out 6).trans rfl
  clear hb hd
  go_wp2_with (fail)
  refine (laws_toRr.calls k A0 c0 nm ty ttl addr A4 c4 tn A5 c5 tx A6 c6 nu nm ty ttl addr tn tx nu _ (Kd.C_below HR0.out HB4.out) HC0.out (Kd.C_below HR4.out HB4.out) HC4.out (Kd.C_below HR5.out HB4.out) HC5.out (Kd.C_below HR6.out HB4.out) HC6.out HTO.out).mono ?_
  rintro e w15 ⟨v0, v4, v5, v6, rfl, s0, s4, s5, s6, hb⟩
  obtain ⟨D0, f0, rfl, l0, g0⟩ := Kd.S_reads s0
  obtain ⟨D4, f4, rfl, l4, g4⟩ := Kd.S_reads s4
  obtain ⟨D5, f5, rfl, l5, g5⟩ := Kd.R_reads s5
  obtain ⟨D6, f6, rfl, l6, g6⟩ := Kd.R_reads s6
  have E0 := ak g0
  have E4 := ak g4
  have E5 := ak g5
  have E6 := ak g6
  replace HB4 := b2s HB4.out hb
  replace GM := ak (Kd.C_below GM.out hb)
  clear hb s0 s4 s5 s6 g0 g4 g5 g6 h0 h1 h2 h3 h4 h5 h6 BKN hnr hnb
  go_wp2_with (fail)
  refine (irrtext_any k D0 f0 nm ty ttl addr D4 f4 tn D5 f5 tx D6 f6 nu r w15 E0.out l0 E4.out l4 E5.out l5 E6.out l6 (tab_below HT.out HB4.out) HI.out).mono ?_
  rintro e w16 ⟨vh, rfl, hg, hb⟩
  obtain ⟨Ah, ch, rfl⟩ := Z_slice hg
  have GH := ak (Z_reads' hg).2.2
  have LH := ak (Z_reads' hg).2.1
  replace HB4 := b2s HB4.out hb
  replace GM := ak (Kd.C_below GM.out hb)
  clear hb hg E0 E4 E5 E6
  go_wp2_with (fail)
  refine (laws_eqByteS.calls k Ah ch r Aw cw r true w16 GH.out LH.out (Kd.C_below GW.out HB4.out) LW.out HE.out).mono ?_
  rintro e w17 ⟨rfl, hd⟩
  have hb := hd.below
  replace HB4 := b2s HB4.out hb
  replace GM := ak (Kd.C_below GM.out hb)
  clear hb hd GH
  go_wp2_with (fail)
  refine (HCALL.out w17 GM.out).mono ?_
  rintro e w18 ⟨rfl, hd⟩
  replace HB4 := b2s HB4.out hd.below
  have hnr : ¬ (1 + (r.length : Int) < 0) := by omega
  have hnb : ((1 + (r.length : Int)) != (1 + (r.length : Int))) = false := by simp
  clear hd GM
  go_wp2
  go_ret
  exact ⟨rfl, below_step HB.out HB4.out⟩

/-! ### impl_get: function 55 -/
/-! ### spec_Dotted: function 8 -/
def spec_Dotted.f (k : Nat) (a0 : Int) : Option (List Int) := if a0 < 0 then (some ([] : List Int)) else (if a0 ≥ 4294967296 then (some ([] : List Int)) else ((spec_l1dotted.f k a0).bind fun t101 => (some t101)))
/-! ### laws_FnExactDotted: function 3 -/
end Go.Proofs.YtkmchjdioplfjaaDoor.Q
