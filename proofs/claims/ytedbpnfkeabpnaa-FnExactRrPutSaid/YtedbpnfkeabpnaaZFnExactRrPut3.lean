/- Printed by a program of this session (wip/myprint.py), which drives the kit's printer: functions and what their calls do. -/
import Derived.Test.YtedbpnfkeabpnaaZFnExactRrPut0
import Derived.Test.YtedbpnfkeabpnaaZFnExactRrPut1
import Derived.Test.YtedbpnfkeabpnaaZFnExactRrPut2
namespace Go.Proofs.Ytedbpnfkeabpnaa.Q
open Go.RowKit Go Go.Proofs.YtedbpnfkeabpnaaW.PrintWords Go.Proofs.YtedbpnfkeabpnaaW.PrintLast Go.Proofs.YtedbpnfkeabpnaaW.PrintMore
attribute [local go_sem] max2_int min2_int max_two min_two max_three min_three max_four min_four   -- for this text's walks alone
set_option linter.unusedVariables false
set_option linter.unusedSimpArgs false

/-! ### laws_FnExactRrPut: function 12 -/
def laws_FnExactRrPut.f (k : Nat) (l0 : List Int) (l1_0 : List (List Int)) (a1_1 : Int) (a1_2 : Int) (a1_3 : Int) (l1_4 : List (List Int)) (l1_5 : List Int) (l1_6 : List Int) : Option (Bool) := if (l0.length : Int) > 1048576 then (some true) else ((laws_szRr.f k l1_0 a1_1 a1_2 a1_3 l1_4 l1_5 l1_6 1048576).bind fun t102 => (if t102 < 0 then (some true) else ((laws_toByteS.f k l0).bind fun t103 => ((laws_toRr.f k l1_0 a1_1 a1_2 a1_3 l1_4 l1_5 l1_6).bind fun bt106 => ((spec_RrPut.f k t103 bt106.1 bt106.2.1 bt106.2.2.1 bt106.2.2.2.1 bt106.2.2.2.2.1 bt106.2.2.2.2.2.1 bt106.2.2.2.2.2.2).bind fun bt121 => ((laws_toByteS.f k l0).bind fun t125 => ((laws_toRr.f k l1_0 a1_1 a1_2 a1_3 l1_4 l1_5 l1_6).bind fun bt128 => ((impl_RrPut.f k t125 bt128.1 bt128.2.1 bt128.2.2.1 bt128.2.2.2.1 bt128.2.2.2.2.1 bt128.2.2.2.2.2.1 bt128.2.2.2.2.2.2).bind fun bt144 => ((laws_eqByteS.f k bt144.1 bt121.1).bind fun t148 => (if t148 = true then (if (bt144.2 != bt121.2) = true then (none) else ((laws_toByteS.f k l0).bind fun t149 => ((laws_eqByteS.f k t125 t149).bind fun t152 => (if t152 = true then ((laws_toRr.f k l1_0 a1_1 a1_2 a1_3 l1_4 l1_5 l1_6).bind fun bt153 => ((laws_eqRr.f k bt128.1 bt128.2.1 bt128.2.2.1 bt128.2.2.2.1 bt128.2.2.2.2.1 bt128.2.2.2.2.2.1 bt128.2.2.2.2.2.2 bt153.1 bt153.2.1 bt153.2.2.1 bt153.2.2.2.1 bt153.2.2.2.2.1 bt153.2.2.2.2.2.1 bt153.2.2.2.2.2.2).bind fun t168 => (if t168 = true then ((laws_markByteS.f k t125 1).bind fun bt169 => ((laws_markRr.f bt128.1 bt128.2.1 bt128.2.2.1 bt128.2.2.2.1 bt128.2.2.2.2.1 bt128.2.2.2.2.2.1 bt128.2.2.2.2.2.2 bt169.1).bind fun t171 => (if t171 < 0 then (none) else ((laws_eqByteS.f k bt144.1 bt121.1).bind fun t172 => (if t172 = true then ((laws_markByteS.f k bt144.1 1).bind fun bt173 => ((laws_heldByteS.f k bt173.2 1).bind fun t175 => (if t175 < 0 then (none) else (if t175 = bt173.1 then ((laws_toByteS.f k l0).bind fun t176 => ((laws_toRr.f k l1_0 a1_1 a1_2 a1_3 l1_4 l1_5 l1_6).bind fun bt179 => ((impl_RrPut.f k t176 bt179.1 bt179.2.1 bt179.2.2.1 bt179.2.2.2.1 bt179.2.2.2.2.1 bt179.2.2.2.2.2.1 bt179.2.2.2.2.2.2).bind fun bt194 => ((laws_eqByteS.f k bt194.1 bt121.1).bind fun t198 => (if t198 = true then (if (bt194.2 != bt121.2) = true then (none) else ((laws_heldByteS.f k bt173.2 1).bind fun t199 => (if t199 < 0 then (none) else (if t199 = bt173.1 then (some true) else (none))))) else (none)))))) else (none))))) else (none)))))) else (none)))) else (none))))) else (none)))))))))))
theorem laws_FnExactRrPut.mono : ∀ a0 a1 a2 a3 a4 a5 a6 a7 k, LeO (laws_FnExactRrPut.f k a0 a1 a2 a3 a4 a5 a6 a7) (laws_FnExactRrPut.f (k + 1) a0 a1 a2 a3 a4 a5 a6 a7) := by
 intro a0 a1 a2 a3 a4 a5 a6 a7 k
 unfold laws_FnExactRrPut.f
 repeat' first
   | (with_reducible exact impl_RrPut.mono _ _ _ _ _ _ _ _ _)
   | (with_reducible exact laws_eqByteS.mono _ _ _)
   | (with_reducible exact laws_eqRr.mono _ _ _ _ _ _ _ _ _ _ _ _ _ _ _)
   | (with_reducible exact laws_heldByteS.mono _ _ _)
   | (with_reducible exact laws_markByteS.mono _ _ _)
   | (with_reducible exact laws_szRr.mono _ _ _ _ _ _ _ _ _)
   | (with_reducible exact laws_toByteS.mono _ _)
   | (with_reducible exact laws_toRr.mono _ _ _ _ _ _ _ _)
   | (with_reducible exact spec_RrPut.mono _ _ _ _ _ _ _ _ _)
   | (with_reducible exact LeO.refl _)
   | (with_reducible exact LeO.none _)
   | (with_reducible refine LeO.ite ?_ ?_)
   | (with_reducible refine LeO.bind ?_ (fun _ => ?_))
   | exact impl_RrPut.mono _ _ _ _ _ _ _ _ _
   | exact laws_eqByteS.mono _ _ _
   | exact laws_eqRr.mono _ _ _ _ _ _ _ _ _ _ _ _ _ _ _
   | exact laws_heldByteS.mono _ _ _
   | exact laws_markByteS.mono _ _ _
   | exact laws_szRr.mono _ _ _ _ _ _ _ _ _
   | exact laws_toByteS.mono _ _
   | exact laws_toRr.mono _ _ _ _ _ _ _ _
   | exact spec_RrPut.mono _ _ _ _ _ _ _ _ _
   | exact LeO.none _
   | refine LeO.ite ?_ ?_
   | refine LeO.bind ?_ (fun _ => ?_)
def laws_FnExactRrPut.T7 : Bool × List (List Nat × List Nat) := (true, [([], []), ([0], [0]), ([], []), ([2, 1], [2]), ([1, 3, 3], [1, 3]), ([4], [4]), ([5], [5]), ([5], [5]), ([6, 4, 0, 1, 2, 3, 4, 5, 6], [6]), ([7, 8, 0, 1, 2, 3, 4, 5, 6, 7, 8], [7])])
def laws_FnExactRrPut.B7 : List Nat := [0, 1, 0, 7, 15, 31, 63, 63, 127, 511]
theorem laws_FnExactRrPut.tab7 : rtab .any (opsOf Try.f12 7) = laws_FnExactRrPut.T7 := by kernel_rfl
theorem laws_FnExactRrPut.bits7 : waitsOk laws_FnExactRrPut.T7.2 laws_FnExactRrPut.B7 = true := by kernel_rfl
def laws_FnExactRrPut.T30 : Bool × List (List Nat × List Nat) := (true, [([], []), ([0], [0]), ([], []), ([2, 1], [2]), ([1, 3, 3], [1, 3]), ([4], [4]), ([5], [5]), ([5], [5]), ([6, 4, 0, 1, 2, 3, 4, 5, 6], [6]), ([7, 8, 0, 1, 2, 3, 4, 5, 6, 7, 8], [7])])
def laws_FnExactRrPut.B30 : List Nat := [0, 1, 0, 7, 15, 31, 63, 63, 127, 511]
theorem laws_FnExactRrPut.tab30 : rtab .any (opsOf Try.f12 30) = laws_FnExactRrPut.T30 := by kernel_rfl
theorem laws_FnExactRrPut.bits30 : waitsOk laws_FnExactRrPut.T30.2 laws_FnExactRrPut.B30 = true := by kernel_rfl
set_option maxHeartbeats 8000000 in
set_option maxRecDepth 100000 in
theorem laws_FnExactRrPut.calls (k : Nat) (A0 : Option Addr) (c0 : Nat) (l0 : List Int) (A1_0 : Option Addr) (c1_0 : Nat) (l1_0 : List (List Int)) (a1_1 : Int) (a1_2 : Int) (a1_3 : Int) (A1_4 : Option Addr) (c1_4 : Nat) (l1_4 : List (List Int)) (A1_5 : Option Addr) (c1_5 : Nat) (l1_5 : List Int) (A1_6 : Option Addr) (c1_6 : Nat) (l1_6 : List Int) (r : Bool) (w : World) (hr0 : Kd.C (Kd.int .u8) w A0 l0.length l0) (hc0 : l0.length ≤ c0) (hr1_0 : Kd.C (Kd.slice 5 (Kd.int .u8)) w A1_0 l1_0.length l1_0) (hc1_0 : l1_0.length ≤ c1_0) (hr1_4 : Kd.C (Kd.slice 5 (Kd.int .u8)) w A1_4 l1_4.length l1_4) (hc1_4 : l1_4.length ≤ c1_4) (hr1_5 : Kd.C (Kd.int .u8) w A1_5 l1_5.length l1_5) (hc1_5 : l1_5.length ≤ c1_5) (hr1_6 : Kd.C (Kd.int .i64) w A1_6 l1_6.length l1_6) (hc1_6 : l1_6.length ≤ c1_6) (h : laws_FnExactRrPut.f k l0 l1_0 a1_1 a1_2 a1_3 l1_4 l1_5 l1_6 = some r) :
  Calls Try.prog 12 #[.slice A0 l0.length c0, .agg #[.slice A1_0 l1_0.length c1_0, .int .i64 a1_1, .int .i64 a1_2, .int .i64 a1_3, .slice A1_4 l1_4.length c1_4, .slice A1_5 l1_5.length c1_5, .slice A1_6 l1_6.length c1_6]] w fun e w' => e = .returned (.bool r) ∧ Below w.heap.size w w' := by
 have hu44 := Try.underlying44
 have hu48 := Try.underlying48
 have HR0 := Aside0.mk hr0
 have HC0 := Aside0.mk hc0
 clear hr0 hc0
 have HR1_0 := Aside0.mk hr1_0
 have HC1_0 := Aside0.mk hc1_0
 clear hr1_0 hc1_0
 have HR1_4 := Aside0.mk hr1_4
 have HC1_4 := Aside0.mk hc1_4
 clear hr1_4 hc1_4
 have HR1_5 := Aside0.mk hr1_5
 have HC1_5 := Aside0.mk hc1_5
 clear hr1_5 hc1_5
 have HR1_6 := Aside0.mk hr1_6
 have HC1_6 := Aside0.mk hc1_6
 clear hr1_6 hc1_6
 have HB := Aside0.mk (Below.refl w.heap.size w)
 have H : (if (l0.length : Int) > 1048576 then (some true) else ((laws_szRr.f k l1_0 a1_1 a1_2 a1_3 l1_4 l1_5 l1_6 1048576).bind fun t102 => (if t102 < 0 then (some true) else ((laws_toByteS.f k l0).bind fun t103 => ((laws_toRr.f k l1_0 a1_1 a1_2 a1_3 l1_4 l1_5 l1_6).bind fun bt106 => ((spec_RrPut.f k t103 bt106.1 bt106.2.1 bt106.2.2.1 bt106.2.2.2.1 bt106.2.2.2.2.1 bt106.2.2.2.2.2.1 bt106.2.2.2.2.2.2).bind fun bt121 => ((laws_toByteS.f k l0).bind fun t125 => ((laws_toRr.f k l1_0 a1_1 a1_2 a1_3 l1_4 l1_5 l1_6).bind fun bt128 => ((impl_RrPut.f k t125 bt128.1 bt128.2.1 bt128.2.2.1 bt128.2.2.2.1 bt128.2.2.2.2.1 bt128.2.2.2.2.2.1 bt128.2.2.2.2.2.2).bind fun bt144 => ((laws_eqByteS.f k bt144.1 bt121.1).bind fun t148 => (if t148 = true then (if (bt144.2 != bt121.2) = true then (none) else ((laws_toByteS.f k l0).bind fun t149 => ((laws_eqByteS.f k t125 t149).bind fun t152 => (if t152 = true then ((laws_toRr.f k l1_0 a1_1 a1_2 a1_3 l1_4 l1_5 l1_6).bind fun bt153 => ((laws_eqRr.f k bt128.1 bt128.2.1 bt128.2.2.1 bt128.2.2.2.1 bt128.2.2.2.2.1 bt128.2.2.2.2.2.1 bt128.2.2.2.2.2.2 bt153.1 bt153.2.1 bt153.2.2.1 bt153.2.2.2.1 bt153.2.2.2.2.1 bt153.2.2.2.2.2.1 bt153.2.2.2.2.2.2).bind fun t168 => (if t168 = true then ((laws_markByteS.f k t125 1).bind fun bt169 => ((laws_markRr.f bt128.1 bt128.2.1 bt128.2.2.1 bt128.2.2.2.1 bt128.2.2.2.2.1 bt128.2.2.2.2.2.1 bt128.2.2.2.2.2.2 bt169.1).bind fun t171 => (if t171 < 0 then (none) else ((laws_eqByteS.f k bt144.1 bt121.1).bind fun t172 => (if t172 = true then ((laws_markByteS.f k bt144.1 1).bind fun bt173 => ((laws_heldByteS.f k bt173.2 1).bind fun t175 => (if t175 < 0 then (none) else (if t175 = bt173.1 then ((laws_toByteS.f k l0).bind fun t176 => ((laws_toRr.f k l1_0 a1_1 a1_2 a1_3 l1_4 l1_5 l1_6).bind fun bt179 => ((impl_RrPut.f k t176 bt179.1 bt179.2.1 bt179.2.2.1 bt179.2.2.2.1 bt179.2.2.2.2.1 bt179.2.2.2.2.2.1 bt179.2.2.2.2.2.2).bind fun bt194 => ((laws_eqByteS.f k bt194.1 bt121.1).bind fun t198 => (if t198 = true then (if (bt194.2 != bt121.2) = true then (none) else ((laws_heldByteS.f k bt173.2 1).bind fun t199 => (if t199 < 0 then (none) else (if t199 = bt173.1 then (some true) else (none))))) else (none)))))) else (none))))) else (none)))))) else (none)))) else (none))))) else (none)))))))))))) = some r := h
 clear h
 by_cases c3 : (l0.length : Int) > 1048576
 ·rw [if_pos c3] at H
  have c3b0 : decide (1048576 < (l0.length : Int)) = true := decide_eq_true c3
  have c3b1 : decide (1048576 < l0.length) = true := decide_eq_true (by omega)
  clear c3
  obtain rfl := Option.some.inj H
  go_enter Try.func12, Try.ntmps12
  go_wp2_with (first | ((with_reducible refine gate_dst (N := 3) rfl ?_); refine boxed (N := 3) rfl rfl (cs := #[.slice A1_0 l1_0.length c1_0, .int .i64 a1_1, .int .i64 a1_2, .int .i64 a1_3, .slice A1_4 l1_4.length c1_4, .slice A1_5 l1_5.length c1_5, .slice A1_6 l1_6.length c1_6]) (t := 44) HB.out (by first | (go_simp; done) | (go_simp; rfl)) ?_; clear HB; intro gb101 w4 hg HB BK101 GE101 hb; have GW101 := GE101; clear hb hg))
  go_ret
  exact ⟨by first | rfl | (simp [errW_none, errW_some] <;> rfl) | (simp [*, errW_none, errW_some] <;> rfl), by repeat (first | exact bw HB.out | refine below_set ?_ GE101.out)⟩
 ·rw [if_neg c3] at H
  have c3b0 : decide (1048576 < (l0.length : Int)) = false := decide_eq_false c3
  have c3b1 : decide (1048576 < l0.length) = false := decide_eq_false (by omega)
  clear c3
  replace H := Option.bind_eq_some_iff.mp H
  obtain ⟨t102, A50, H⟩ := H
  replace H : (if t102 < 0 then (some true) else ((laws_toByteS.f k l0).bind fun t103 => ((laws_toRr.f k l1_0 a1_1 a1_2 a1_3 l1_4 l1_5 l1_6).bind fun bt106 => ((spec_RrPut.f k t103 bt106.1 bt106.2.1 bt106.2.2.1 bt106.2.2.2.1 bt106.2.2.2.2.1 bt106.2.2.2.2.2.1 bt106.2.2.2.2.2.2).bind fun bt121 => ((laws_toByteS.f k l0).bind fun t125 => ((laws_toRr.f k l1_0 a1_1 a1_2 a1_3 l1_4 l1_5 l1_6).bind fun bt128 => ((impl_RrPut.f k t125 bt128.1 bt128.2.1 bt128.2.2.1 bt128.2.2.2.1 bt128.2.2.2.2.1 bt128.2.2.2.2.2.1 bt128.2.2.2.2.2.2).bind fun bt144 => ((laws_eqByteS.f k bt144.1 bt121.1).bind fun t148 => (if t148 = true then (if (bt144.2 != bt121.2) = true then (none) else ((laws_toByteS.f k l0).bind fun t149 => ((laws_eqByteS.f k t125 t149).bind fun t152 => (if t152 = true then ((laws_toRr.f k l1_0 a1_1 a1_2 a1_3 l1_4 l1_5 l1_6).bind fun bt153 => ((laws_eqRr.f k bt128.1 bt128.2.1 bt128.2.2.1 bt128.2.2.2.1 bt128.2.2.2.2.1 bt128.2.2.2.2.2.1 bt128.2.2.2.2.2.2 bt153.1 bt153.2.1 bt153.2.2.1 bt153.2.2.2.1 bt153.2.2.2.2.1 bt153.2.2.2.2.2.1 bt153.2.2.2.2.2.2).bind fun t168 => (if t168 = true then ((laws_markByteS.f k t125 1).bind fun bt169 => ((laws_markRr.f bt128.1 bt128.2.1 bt128.2.2.1 bt128.2.2.2.1 bt128.2.2.2.2.1 bt128.2.2.2.2.2.1 bt128.2.2.2.2.2.2 bt169.1).bind fun t171 => (if t171 < 0 then (none) else ((laws_eqByteS.f k bt144.1 bt121.1).bind fun t172 => (if t172 = true then ((laws_markByteS.f k bt144.1 1).bind fun bt173 => ((laws_heldByteS.f k bt173.2 1).bind fun t175 => (if t175 < 0 then (none) else (if t175 = bt173.1 then ((laws_toByteS.f k l0).bind fun t176 => ((laws_toRr.f k l1_0 a1_1 a1_2 a1_3 l1_4 l1_5 l1_6).bind fun bt179 => ((impl_RrPut.f k t176 bt179.1 bt179.2.1 bt179.2.2.1 bt179.2.2.2.1 bt179.2.2.2.2.1 bt179.2.2.2.2.2.1 bt179.2.2.2.2.2.2).bind fun bt194 => ((laws_eqByteS.f k bt194.1 bt121.1).bind fun t198 => (if t198 = true then (if (bt194.2 != bt121.2) = true then (none) else ((laws_heldByteS.f k bt173.2 1).bind fun t199 => (if t199 < 0 then (none) else (if t199 = bt173.1 then (some true) else (none))))) else (none)))))) else (none))))) else (none)))))) else (none)))) else (none))))) else (none)))))))))) = some r := H
  have A5 := Aside0.mk A50
  clear A50
  by_cases c6 : t102 < 0
  ·rw [if_pos c6] at H
   have c6b0 : decide (t102 < 0) = true := decide_eq_true c6
   clear c6
   obtain rfl := Option.some.inj H
   go_enter Try.func12, Try.ntmps12
   go_wp2_with (first | ((with_reducible refine gate_dst (N := 3) rfl ?_); refine boxed (N := 3) rfl rfl (cs := #[.slice A1_0 l1_0.length c1_0, .int .i64 a1_1, .int .i64 a1_2, .int .i64 a1_3, .slice A1_4 l1_4.length c1_4, .slice A1_5 l1_5.length c1_5, .slice A1_6 l1_6.length c1_6]) (t := 44) HB.out (by first | (go_simp; done) | (go_simp; rfl)) ?_; clear HB; intro gb101 w7 hg HB BK101 GE101 hb; have GW101 := GE101; clear hb hg; obtain ⟨hcz8_0, hcz8_1, hcz8_2, hcz8_3, hcz8_4, hcz8_5, hcz8_6, hfz8_0, hfz8_1, hfz8_2, hfz8_3, hfz8_4, hfz8_5, hfz8_6⟩ := cells7 BK101.out) | ((with_reducible refine gate_callee (f := 28) rfl ?_); refine goesL_ (some 22) rfl rfl Try.func28 (by kernel_rfl) rfl #[.agg #[.slice A1_0 l1_0.length c1_0, .int .i64 a1_1, .int .i64 a1_2, .int .i64 a1_3, .slice A1_4 l1_4.length c1_4, .slice A1_5 l1_5.length c1_5, .slice A1_6 l1_6.length c1_6], .int .i64 1048576] rfl (by (try simp only [List.map_toArray, List.map_cons, List.map_nil]); first | done | rfl | (simp only [List.length_drop, List.length_take]; rfl)) ?_; (with_reducible refine (laws_szRr.calls k _ _ l1_0 a1_1 a1_2 a1_3 _ _ l1_4 _ _ l1_5 _ _ l1_6 1048576 t102 _ ?side1 ?side2 ?side3 ?side4 ?side5 ?side6 ?side7 ?side8 A5.out).mono ?_); (case side1 => exact cw HR1_0.out HB.out); (case side2 => exact HC1_0.out); (case side3 => exact cw HR1_4.out HB.out); (case side4 => exact HC1_4.out); (case side5 => exact cw HR1_5.out HB.out); (case side6 => exact HC1_5.out); (case side7 => exact cw HR1_6.out HB.out); (case side8 => exact HC1_6.out); rintro e w9 ⟨rfl, hb⟩; refine ⟨_, rfl, ?_⟩; replace BK101 := Aside0.mk (blk_below (bk BK101.out) hb); replace HB := Aside0.mk (below_step (by repeat (first | exact bw HB.out | refine below_set ?_ GE101.out)) hb); (try clear hb)))
   go_ret
   exact ⟨by first | rfl | (simp [errW_none, errW_some] <;> rfl) | (simp [*, errW_none, errW_some] <;> rfl), by repeat (first | exact bw HB.out | refine below_set ?_ GE101.out)⟩
  ·rw [if_neg c6] at H
   have c6b0 : decide (t102 < 0) = false := decide_eq_false c6
   clear c6
   replace H := Option.bind_eq_some_iff.mp H
   obtain ⟨t103, A100, H⟩ := H
   replace H : ((laws_toRr.f k l1_0 a1_1 a1_2 a1_3 l1_4 l1_5 l1_6).bind fun bt106 => ((spec_RrPut.f k t103 bt106.1 bt106.2.1 bt106.2.2.1 bt106.2.2.2.1 bt106.2.2.2.2.1 bt106.2.2.2.2.2.1 bt106.2.2.2.2.2.2).bind fun bt121 => ((laws_toByteS.f k l0).bind fun t125 => ((laws_toRr.f k l1_0 a1_1 a1_2 a1_3 l1_4 l1_5 l1_6).bind fun bt128 => ((impl_RrPut.f k t125 bt128.1 bt128.2.1 bt128.2.2.1 bt128.2.2.2.1 bt128.2.2.2.2.1 bt128.2.2.2.2.2.1 bt128.2.2.2.2.2.2).bind fun bt144 => ((laws_eqByteS.f k bt144.1 bt121.1).bind fun t148 => (if t148 = true then (if (bt144.2 != bt121.2) = true then (none) else ((laws_toByteS.f k l0).bind fun t149 => ((laws_eqByteS.f k t125 t149).bind fun t152 => (if t152 = true then ((laws_toRr.f k l1_0 a1_1 a1_2 a1_3 l1_4 l1_5 l1_6).bind fun bt153 => ((laws_eqRr.f k bt128.1 bt128.2.1 bt128.2.2.1 bt128.2.2.2.1 bt128.2.2.2.2.1 bt128.2.2.2.2.2.1 bt128.2.2.2.2.2.2 bt153.1 bt153.2.1 bt153.2.2.1 bt153.2.2.2.1 bt153.2.2.2.2.1 bt153.2.2.2.2.2.1 bt153.2.2.2.2.2.2).bind fun t168 => (if t168 = true then ((laws_markByteS.f k t125 1).bind fun bt169 => ((laws_markRr.f bt128.1 bt128.2.1 bt128.2.2.1 bt128.2.2.2.1 bt128.2.2.2.2.1 bt128.2.2.2.2.2.1 bt128.2.2.2.2.2.2 bt169.1).bind fun t171 => (if t171 < 0 then (none) else ((laws_eqByteS.f k bt144.1 bt121.1).bind fun t172 => (if t172 = true then ((laws_markByteS.f k bt144.1 1).bind fun bt173 => ((laws_heldByteS.f k bt173.2 1).bind fun t175 => (if t175 < 0 then (none) else (if t175 = bt173.1 then ((laws_toByteS.f k l0).bind fun t176 => ((laws_toRr.f k l1_0 a1_1 a1_2 a1_3 l1_4 l1_5 l1_6).bind fun bt179 => ((impl_RrPut.f k t176 bt179.1 bt179.2.1 bt179.2.2.1 bt179.2.2.2.1 bt179.2.2.2.2.1 bt179.2.2.2.2.2.1 bt179.2.2.2.2.2.2).bind fun bt194 => ((laws_eqByteS.f k bt194.1 bt121.1).bind fun t198 => (if t198 = true then (if (bt194.2 != bt121.2) = true then (none) else ((laws_heldByteS.f k bt173.2 1).bind fun t199 => (if t199 < 0 then (none) else (if t199 = bt173.1 then (some true) else (none))))) else (none)))))) else (none))))) else (none)))))) else (none)))) else (none))))) else (none)))))))) = some r := H
   have A10 := Aside0.mk A100
   clear A100
   replace H := Option.bind_eq_some_iff.mp H
   obtain ⟨⟨t106, t109, t110, t111, t112, t115, t118⟩, A110, H⟩ := H
   replace H : ((spec_RrPut.f k t103 t106 t109 t110 t111 t112 t115 t118).bind fun bt121 => ((laws_toByteS.f k l0).bind fun t125 => ((laws_toRr.f k l1_0 a1_1 a1_2 a1_3 l1_4 l1_5 l1_6).bind fun bt128 => ((impl_RrPut.f k t125 bt128.1 bt128.2.1 bt128.2.2.1 bt128.2.2.2.1 bt128.2.2.2.2.1 bt128.2.2.2.2.2.1 bt128.2.2.2.2.2.2).bind fun bt144 => ((laws_eqByteS.f k bt144.1 bt121.1).bind fun t148 => (if t148 = true then (if (bt144.2 != bt121.2) = true then (none) else ((laws_toByteS.f k l0).bind fun t149 => ((laws_eqByteS.f k t125 t149).bind fun t152 => (if t152 = true then ((laws_toRr.f k l1_0 a1_1 a1_2 a1_3 l1_4 l1_5 l1_6).bind fun bt153 => ((laws_eqRr.f k bt128.1 bt128.2.1 bt128.2.2.1 bt128.2.2.2.1 bt128.2.2.2.2.1 bt128.2.2.2.2.2.1 bt128.2.2.2.2.2.2 bt153.1 bt153.2.1 bt153.2.2.1 bt153.2.2.2.1 bt153.2.2.2.2.1 bt153.2.2.2.2.2.1 bt153.2.2.2.2.2.2).bind fun t168 => (if t168 = true then ((laws_markByteS.f k t125 1).bind fun bt169 => ((laws_markRr.f bt128.1 bt128.2.1 bt128.2.2.1 bt128.2.2.2.1 bt128.2.2.2.2.1 bt128.2.2.2.2.2.1 bt128.2.2.2.2.2.2 bt169.1).bind fun t171 => (if t171 < 0 then (none) else ((laws_eqByteS.f k bt144.1 bt121.1).bind fun t172 => (if t172 = true then ((laws_markByteS.f k bt144.1 1).bind fun bt173 => ((laws_heldByteS.f k bt173.2 1).bind fun t175 => (if t175 < 0 then (none) else (if t175 = bt173.1 then ((laws_toByteS.f k l0).bind fun t176 => ((laws_toRr.f k l1_0 a1_1 a1_2 a1_3 l1_4 l1_5 l1_6).bind fun bt179 => ((impl_RrPut.f k t176 bt179.1 bt179.2.1 bt179.2.2.1 bt179.2.2.2.1 bt179.2.2.2.2.1 bt179.2.2.2.2.2.1 bt179.2.2.2.2.2.2).bind fun bt194 => ((laws_eqByteS.f k bt194.1 bt121.1).bind fun t198 => (if t198 = true then (if (bt194.2 != bt121.2) = true then (none) else ((laws_heldByteS.f k bt173.2 1).bind fun t199 => (if t199 < 0 then (none) else (if t199 = bt173.1 then (some true) else (none))))) else (none)))))) else (none))))) else (none)))))) else (none)))) else (none))))) else (none))))))) = some r := H
   have A11 := Aside0.mk A110
   clear A110
   replace H := Option.bind_eq_some_iff.mp H
   obtain ⟨⟨t121, t124⟩, A120, H⟩ := H
   replace H : ((laws_toByteS.f k l0).bind fun t125 => ((laws_toRr.f k l1_0 a1_1 a1_2 a1_3 l1_4 l1_5 l1_6).bind fun bt128 => ((impl_RrPut.f k t125 bt128.1 bt128.2.1 bt128.2.2.1 bt128.2.2.2.1 bt128.2.2.2.2.1 bt128.2.2.2.2.2.1 bt128.2.2.2.2.2.2).bind fun bt144 => ((laws_eqByteS.f k bt144.1 t121).bind fun t148 => (if t148 = true then (if (bt144.2 != t124) = true then (none) else ((laws_toByteS.f k l0).bind fun t149 => ((laws_eqByteS.f k t125 t149).bind fun t152 => (if t152 = true then ((laws_toRr.f k l1_0 a1_1 a1_2 a1_3 l1_4 l1_5 l1_6).bind fun bt153 => ((laws_eqRr.f k bt128.1 bt128.2.1 bt128.2.2.1 bt128.2.2.2.1 bt128.2.2.2.2.1 bt128.2.2.2.2.2.1 bt128.2.2.2.2.2.2 bt153.1 bt153.2.1 bt153.2.2.1 bt153.2.2.2.1 bt153.2.2.2.2.1 bt153.2.2.2.2.2.1 bt153.2.2.2.2.2.2).bind fun t168 => (if t168 = true then ((laws_markByteS.f k t125 1).bind fun bt169 => ((laws_markRr.f bt128.1 bt128.2.1 bt128.2.2.1 bt128.2.2.2.1 bt128.2.2.2.2.1 bt128.2.2.2.2.2.1 bt128.2.2.2.2.2.2 bt169.1).bind fun t171 => (if t171 < 0 then (none) else ((laws_eqByteS.f k bt144.1 t121).bind fun t172 => (if t172 = true then ((laws_markByteS.f k bt144.1 1).bind fun bt173 => ((laws_heldByteS.f k bt173.2 1).bind fun t175 => (if t175 < 0 then (none) else (if t175 = bt173.1 then ((laws_toByteS.f k l0).bind fun t176 => ((laws_toRr.f k l1_0 a1_1 a1_2 a1_3 l1_4 l1_5 l1_6).bind fun bt179 => ((impl_RrPut.f k t176 bt179.1 bt179.2.1 bt179.2.2.1 bt179.2.2.2.1 bt179.2.2.2.2.1 bt179.2.2.2.2.2.1 bt179.2.2.2.2.2.2).bind fun bt194 => ((laws_eqByteS.f k bt194.1 t121).bind fun t198 => (if t198 = true then (if (bt194.2 != t124) = true then (none) else ((laws_heldByteS.f k bt173.2 1).bind fun t199 => (if t199 < 0 then (none) else (if t199 = bt173.1 then (some true) else (none))))) else (none)))))) else (none))))) else (none)))))) else (none)))) else (none))))) else (none)))))) = some r := H
   have A12 := Aside0.mk A120
   clear A120
   replace H := Option.bind_eq_some_iff.mp H
   obtain ⟨t125, A130, H⟩ := H
   replace H : ((laws_toRr.f k l1_0 a1_1 a1_2 a1_3 l1_4 l1_5 l1_6).bind fun bt128 => ((impl_RrPut.f k t125 bt128.1 bt128.2.1 bt128.2.2.1 bt128.2.2.2.1 bt128.2.2.2.2.1 bt128.2.2.2.2.2.1 bt128.2.2.2.2.2.2).bind fun bt144 => ((laws_eqByteS.f k bt144.1 t121).bind fun t148 => (if t148 = true then (if (bt144.2 != t124) = true then (none) else ((laws_toByteS.f k l0).bind fun t149 => ((laws_eqByteS.f k t125 t149).bind fun t152 => (if t152 = true then ((laws_toRr.f k l1_0 a1_1 a1_2 a1_3 l1_4 l1_5 l1_6).bind fun bt153 => ((laws_eqRr.f k bt128.1 bt128.2.1 bt128.2.2.1 bt128.2.2.2.1 bt128.2.2.2.2.1 bt128.2.2.2.2.2.1 bt128.2.2.2.2.2.2 bt153.1 bt153.2.1 bt153.2.2.1 bt153.2.2.2.1 bt153.2.2.2.2.1 bt153.2.2.2.2.2.1 bt153.2.2.2.2.2.2).bind fun t168 => (if t168 = true then ((laws_markByteS.f k t125 1).bind fun bt169 => ((laws_markRr.f bt128.1 bt128.2.1 bt128.2.2.1 bt128.2.2.2.1 bt128.2.2.2.2.1 bt128.2.2.2.2.2.1 bt128.2.2.2.2.2.2 bt169.1).bind fun t171 => (if t171 < 0 then (none) else ((laws_eqByteS.f k bt144.1 t121).bind fun t172 => (if t172 = true then ((laws_markByteS.f k bt144.1 1).bind fun bt173 => ((laws_heldByteS.f k bt173.2 1).bind fun t175 => (if t175 < 0 then (none) else (if t175 = bt173.1 then ((laws_toByteS.f k l0).bind fun t176 => ((laws_toRr.f k l1_0 a1_1 a1_2 a1_3 l1_4 l1_5 l1_6).bind fun bt179 => ((impl_RrPut.f k t176 bt179.1 bt179.2.1 bt179.2.2.1 bt179.2.2.2.1 bt179.2.2.2.2.1 bt179.2.2.2.2.2.1 bt179.2.2.2.2.2.2).bind fun bt194 => ((laws_eqByteS.f k bt194.1 t121).bind fun t198 => (if t198 = true then (if (bt194.2 != t124) = true then (none) else ((laws_heldByteS.f k bt173.2 1).bind fun t199 => (if t199 < 0 then (none) else (if t199 = bt173.1 then (some true) else (none))))) else (none)))))) else (none))))) else (none)))))) else (none)))) else (none))))) else (none))))) = some r := H
   have A13 := Aside0.mk A130
   clear A130
   replace H := Option.bind_eq_some_iff.mp H
   obtain ⟨⟨t128, t131, t132, t133, t134, t137, t140⟩, A140, H⟩ := H
   replace H : ((impl_RrPut.f k t125 t128 t131 t132 t133 t134 t137 t140).bind fun bt144 => ((laws_eqByteS.f k bt144.1 t121).bind fun t148 => (if t148 = true then (if (bt144.2 != t124) = true then (none) else ((laws_toByteS.f k l0).bind fun t149 => ((laws_eqByteS.f k t125 t149).bind fun t152 => (if t152 = true then ((laws_toRr.f k l1_0 a1_1 a1_2 a1_3 l1_4 l1_5 l1_6).bind fun bt153 => ((laws_eqRr.f k t128 t131 t132 t133 t134 t137 t140 bt153.1 bt153.2.1 bt153.2.2.1 bt153.2.2.2.1 bt153.2.2.2.2.1 bt153.2.2.2.2.2.1 bt153.2.2.2.2.2.2).bind fun t168 => (if t168 = true then ((laws_markByteS.f k t125 1).bind fun bt169 => ((laws_markRr.f t128 t131 t132 t133 t134 t137 t140 bt169.1).bind fun t171 => (if t171 < 0 then (none) else ((laws_eqByteS.f k bt144.1 t121).bind fun t172 => (if t172 = true then ((laws_markByteS.f k bt144.1 1).bind fun bt173 => ((laws_heldByteS.f k bt173.2 1).bind fun t175 => (if t175 < 0 then (none) else (if t175 = bt173.1 then ((laws_toByteS.f k l0).bind fun t176 => ((laws_toRr.f k l1_0 a1_1 a1_2 a1_3 l1_4 l1_5 l1_6).bind fun bt179 => ((impl_RrPut.f k t176 bt179.1 bt179.2.1 bt179.2.2.1 bt179.2.2.2.1 bt179.2.2.2.2.1 bt179.2.2.2.2.2.1 bt179.2.2.2.2.2.2).bind fun bt194 => ((laws_eqByteS.f k bt194.1 t121).bind fun t198 => (if t198 = true then (if (bt194.2 != t124) = true then (none) else ((laws_heldByteS.f k bt173.2 1).bind fun t199 => (if t199 < 0 then (none) else (if t199 = bt173.1 then (some true) else (none))))) else (none)))))) else (none))))) else (none)))))) else (none)))) else (none))))) else (none)))) = some r := H
   have A14 := Aside0.mk A140
   clear A140
   replace H := Option.bind_eq_some_iff.mp H
   obtain ⟨⟨t144, t147⟩, A150, H⟩ := H
   replace H : ((laws_eqByteS.f k t144 t121).bind fun t148 => (if t148 = true then (if (t147 != t124) = true then (none) else ((laws_toByteS.f k l0).bind fun t149 => ((laws_eqByteS.f k t125 t149).bind fun t152 => (if t152 = true then ((laws_toRr.f k l1_0 a1_1 a1_2 a1_3 l1_4 l1_5 l1_6).bind fun bt153 => ((laws_eqRr.f k t128 t131 t132 t133 t134 t137 t140 bt153.1 bt153.2.1 bt153.2.2.1 bt153.2.2.2.1 bt153.2.2.2.2.1 bt153.2.2.2.2.2.1 bt153.2.2.2.2.2.2).bind fun t168 => (if t168 = true then ((laws_markByteS.f k t125 1).bind fun bt169 => ((laws_markRr.f t128 t131 t132 t133 t134 t137 t140 bt169.1).bind fun t171 => (if t171 < 0 then (none) else ((laws_eqByteS.f k t144 t121).bind fun t172 => (if t172 = true then ((laws_markByteS.f k t144 1).bind fun bt173 => ((laws_heldByteS.f k bt173.2 1).bind fun t175 => (if t175 < 0 then (none) else (if t175 = bt173.1 then ((laws_toByteS.f k l0).bind fun t176 => ((laws_toRr.f k l1_0 a1_1 a1_2 a1_3 l1_4 l1_5 l1_6).bind fun bt179 => ((impl_RrPut.f k t176 bt179.1 bt179.2.1 bt179.2.2.1 bt179.2.2.2.1 bt179.2.2.2.2.1 bt179.2.2.2.2.2.1 bt179.2.2.2.2.2.2).bind fun bt194 => ((laws_eqByteS.f k bt194.1 t121).bind fun t198 => (if t198 = true then (if (bt194.2 != t124) = true then (none) else ((laws_heldByteS.f k bt173.2 1).bind fun t199 => (if t199 < 0 then (none) else (if t199 = bt173.1 then (some true) else (none))))) else (none)))))) else (none))))) else (none)))))) else (none)))) else (none))))) else (none))) = some r := H
   have A15 := Aside0.mk A150
   clear A150
   replace H := Option.bind_eq_some_iff.mp H
   obtain ⟨t148, A160, H⟩ := H
   replace H : (if t148 = true then (if (t147 != t124) = true then (none) else ((laws_toByteS.f k l0).bind fun t149 => ((laws_eqByteS.f k t125 t149).bind fun t152 => (if t152 = true then ((laws_toRr.f k l1_0 a1_1 a1_2 a1_3 l1_4 l1_5 l1_6).bind fun bt153 => ((laws_eqRr.f k t128 t131 t132 t133 t134 t137 t140 bt153.1 bt153.2.1 bt153.2.2.1 bt153.2.2.2.1 bt153.2.2.2.2.1 bt153.2.2.2.2.2.1 bt153.2.2.2.2.2.2).bind fun t168 => (if t168 = true then ((laws_markByteS.f k t125 1).bind fun bt169 => ((laws_markRr.f t128 t131 t132 t133 t134 t137 t140 bt169.1).bind fun t171 => (if t171 < 0 then (none) else ((laws_eqByteS.f k t144 t121).bind fun t172 => (if t172 = true then ((laws_markByteS.f k t144 1).bind fun bt173 => ((laws_heldByteS.f k bt173.2 1).bind fun t175 => (if t175 < 0 then (none) else (if t175 = bt173.1 then ((laws_toByteS.f k l0).bind fun t176 => ((laws_toRr.f k l1_0 a1_1 a1_2 a1_3 l1_4 l1_5 l1_6).bind fun bt179 => ((impl_RrPut.f k t176 bt179.1 bt179.2.1 bt179.2.2.1 bt179.2.2.2.1 bt179.2.2.2.2.1 bt179.2.2.2.2.2.1 bt179.2.2.2.2.2.2).bind fun bt194 => ((laws_eqByteS.f k bt194.1 t121).bind fun t198 => (if t198 = true then (if (bt194.2 != t124) = true then (none) else ((laws_heldByteS.f k bt173.2 1).bind fun t199 => (if t199 < 0 then (none) else (if t199 = bt173.1 then (some true) else (none))))) else (none)))))) else (none))))) else (none)))))) else (none)))) else (none))))) else (none)) = some r := H
   have A16 := Aside0.mk A160
   clear A160
   by_cases c17 : t148 = true
   ·subst c17
    have H1 : (if (t147 != t124) = true then (none) else ((laws_toByteS.f k l0).bind fun t149 => ((laws_eqByteS.f k t125 t149).bind fun t152 => (if t152 = true then ((laws_toRr.f k l1_0 a1_1 a1_2 a1_3 l1_4 l1_5 l1_6).bind fun bt153 => ((laws_eqRr.f k t128 t131 t132 t133 t134 t137 t140 bt153.1 bt153.2.1 bt153.2.2.1 bt153.2.2.2.1 bt153.2.2.2.2.1 bt153.2.2.2.2.2.1 bt153.2.2.2.2.2.2).bind fun t168 => (if t168 = true then ((laws_markByteS.f k t125 1).bind fun bt169 => ((laws_markRr.f t128 t131 t132 t133 t134 t137 t140 bt169.1).bind fun t171 => (if t171 < 0 then (none) else ((laws_eqByteS.f k t144 t121).bind fun t172 => (if t172 = true then ((laws_markByteS.f k t144 1).bind fun bt173 => ((laws_heldByteS.f k bt173.2 1).bind fun t175 => (if t175 < 0 then (none) else (if t175 = bt173.1 then ((laws_toByteS.f k l0).bind fun t176 => ((laws_toRr.f k l1_0 a1_1 a1_2 a1_3 l1_4 l1_5 l1_6).bind fun bt179 => ((impl_RrPut.f k t176 bt179.1 bt179.2.1 bt179.2.2.1 bt179.2.2.2.1 bt179.2.2.2.2.1 bt179.2.2.2.2.2.1 bt179.2.2.2.2.2.2).bind fun bt194 => ((laws_eqByteS.f k bt194.1 t121).bind fun t198 => (if t198 = true then (if (bt194.2 != t124) = true then (none) else ((laws_heldByteS.f k bt173.2 1).bind fun t199 => (if t199 < 0 then (none) else (if t199 = bt173.1 then (some true) else (none))))) else (none)))))) else (none))))) else (none)))))) else (none)))) else (none))))) = some r := by rw [if_pos rfl] at H; exact H
    clear H
    have H := H1
    clear H1
    by_cases c18 : (t147 != t124) = true
    ·rw [if_pos c18] at H
     exact absurd H (by simp)
    ·rw [if_neg c18] at H
     have c18b0 : (t147 != t124) = false := by simpa using c18
     (try (have c18b1 : decide (t147 = t124) = true := by simpa using c18))
     (try (have c18b2 : (t147 == t124) = true := by simpa using c18))
     clear c18
     replace H := Option.bind_eq_some_iff.mp H
     obtain ⟨t149, A190, H⟩ := H
     replace H : ((laws_eqByteS.f k t125 t149).bind fun t152 => (if t152 = true then ((laws_toRr.f k l1_0 a1_1 a1_2 a1_3 l1_4 l1_5 l1_6).bind fun bt153 => ((laws_eqRr.f k t128 t131 t132 t133 t134 t137 t140 bt153.1 bt153.2.1 bt153.2.2.1 bt153.2.2.2.1 bt153.2.2.2.2.1 bt153.2.2.2.2.2.1 bt153.2.2.2.2.2.2).bind fun t168 => (if t168 = true then ((laws_markByteS.f k t125 1).bind fun bt169 => ((laws_markRr.f t128 t131 t132 t133 t134 t137 t140 bt169.1).bind fun t171 => (if t171 < 0 then (none) else ((laws_eqByteS.f k t144 t121).bind fun t172 => (if t172 = true then ((laws_markByteS.f k t144 1).bind fun bt173 => ((laws_heldByteS.f k bt173.2 1).bind fun t175 => (if t175 < 0 then (none) else (if t175 = bt173.1 then ((laws_toByteS.f k l0).bind fun t176 => ((laws_toRr.f k l1_0 a1_1 a1_2 a1_3 l1_4 l1_5 l1_6).bind fun bt179 => ((impl_RrPut.f k t176 bt179.1 bt179.2.1 bt179.2.2.1 bt179.2.2.2.1 bt179.2.2.2.2.1 bt179.2.2.2.2.2.1 bt179.2.2.2.2.2.2).bind fun bt194 => ((laws_eqByteS.f k bt194.1 t121).bind fun t198 => (if t198 = true then (if (bt194.2 != t124) = true then (none) else ((laws_heldByteS.f k bt173.2 1).bind fun t199 => (if t199 < 0 then (none) else (if t199 = bt173.1 then (some true) else (none))))) else (none)))))) else (none))))) else (none)))))) else (none)))) else (none))) = some r := H
     have A19 := Aside0.mk A190
     clear A190
     replace H := Option.bind_eq_some_iff.mp H
     obtain ⟨t152, A200, H⟩ := H
     replace H : (if t152 = true then ((laws_toRr.f k l1_0 a1_1 a1_2 a1_3 l1_4 l1_5 l1_6).bind fun bt153 => ((laws_eqRr.f k t128 t131 t132 t133 t134 t137 t140 bt153.1 bt153.2.1 bt153.2.2.1 bt153.2.2.2.1 bt153.2.2.2.2.1 bt153.2.2.2.2.2.1 bt153.2.2.2.2.2.2).bind fun t168 => (if t168 = true then ((laws_markByteS.f k t125 1).bind fun bt169 => ((laws_markRr.f t128 t131 t132 t133 t134 t137 t140 bt169.1).bind fun t171 => (if t171 < 0 then (none) else ((laws_eqByteS.f k t144 t121).bind fun t172 => (if t172 = true then ((laws_markByteS.f k t144 1).bind fun bt173 => ((laws_heldByteS.f k bt173.2 1).bind fun t175 => (if t175 < 0 then (none) else (if t175 = bt173.1 then ((laws_toByteS.f k l0).bind fun t176 => ((laws_toRr.f k l1_0 a1_1 a1_2 a1_3 l1_4 l1_5 l1_6).bind fun bt179 => ((impl_RrPut.f k t176 bt179.1 bt179.2.1 bt179.2.2.1 bt179.2.2.2.1 bt179.2.2.2.2.1 bt179.2.2.2.2.2.1 bt179.2.2.2.2.2.2).bind fun bt194 => ((laws_eqByteS.f k bt194.1 t121).bind fun t198 => (if t198 = true then (if (bt194.2 != t124) = true then (none) else ((laws_heldByteS.f k bt173.2 1).bind fun t199 => (if t199 < 0 then (none) else (if t199 = bt173.1 then (some true) else (none))))) else (none)))))) else (none))))) else (none)))))) else (none)))) else (none)) = some r := H
     have A20 := Aside0.mk A200
     clear A200
     by_cases c21 : t152 = true
     ·subst c21
      have H1 : ((laws_toRr.f k l1_0 a1_1 a1_2 a1_3 l1_4 l1_5 l1_6).bind fun bt153 => ((laws_eqRr.f k t128 t131 t132 t133 t134 t137 t140 bt153.1 bt153.2.1 bt153.2.2.1 bt153.2.2.2.1 bt153.2.2.2.2.1 bt153.2.2.2.2.2.1 bt153.2.2.2.2.2.2).bind fun t168 => (if t168 = true then ((laws_markByteS.f k t125 1).bind fun bt169 => ((laws_markRr.f t128 t131 t132 t133 t134 t137 t140 bt169.1).bind fun t171 => (if t171 < 0 then (none) else ((laws_eqByteS.f k t144 t121).bind fun t172 => (if t172 = true then ((laws_markByteS.f k t144 1).bind fun bt173 => ((laws_heldByteS.f k bt173.2 1).bind fun t175 => (if t175 < 0 then (none) else (if t175 = bt173.1 then ((laws_toByteS.f k l0).bind fun t176 => ((laws_toRr.f k l1_0 a1_1 a1_2 a1_3 l1_4 l1_5 l1_6).bind fun bt179 => ((impl_RrPut.f k t176 bt179.1 bt179.2.1 bt179.2.2.1 bt179.2.2.2.1 bt179.2.2.2.2.1 bt179.2.2.2.2.2.1 bt179.2.2.2.2.2.2).bind fun bt194 => ((laws_eqByteS.f k bt194.1 t121).bind fun t198 => (if t198 = true then (if (bt194.2 != t124) = true then (none) else ((laws_heldByteS.f k bt173.2 1).bind fun t199 => (if t199 < 0 then (none) else (if t199 = bt173.1 then (some true) else (none))))) else (none)))))) else (none))))) else (none)))))) else (none)))) = some r := by rw [if_pos rfl] at H; exact H
      clear H
      have H := H1
      clear H1
      replace H := Option.bind_eq_some_iff.mp H
      obtain ⟨⟨t153, t156, t157, t158, t159, t162, t165⟩, A220, H⟩ := H
      replace H : ((laws_eqRr.f k t128 t131 t132 t133 t134 t137 t140 t153 t156 t157 t158 t159 t162 t165).bind fun t168 => (if t168 = true then ((laws_markByteS.f k t125 1).bind fun bt169 => ((laws_markRr.f t128 t131 t132 t133 t134 t137 t140 bt169.1).bind fun t171 => (if t171 < 0 then (none) else ((laws_eqByteS.f k t144 t121).bind fun t172 => (if t172 = true then ((laws_markByteS.f k t144 1).bind fun bt173 => ((laws_heldByteS.f k bt173.2 1).bind fun t175 => (if t175 < 0 then (none) else (if t175 = bt173.1 then ((laws_toByteS.f k l0).bind fun t176 => ((laws_toRr.f k l1_0 a1_1 a1_2 a1_3 l1_4 l1_5 l1_6).bind fun bt179 => ((impl_RrPut.f k t176 bt179.1 bt179.2.1 bt179.2.2.1 bt179.2.2.2.1 bt179.2.2.2.2.1 bt179.2.2.2.2.2.1 bt179.2.2.2.2.2.2).bind fun bt194 => ((laws_eqByteS.f k bt194.1 t121).bind fun t198 => (if t198 = true then (if (bt194.2 != t124) = true then (none) else ((laws_heldByteS.f k bt173.2 1).bind fun t199 => (if t199 < 0 then (none) else (if t199 = bt173.1 then (some true) else (none))))) else (none)))))) else (none))))) else (none)))))) else (none))) = some r := H
      have A22 := Aside0.mk A220
      clear A220
      replace H := Option.bind_eq_some_iff.mp H
      obtain ⟨t168, A230, H⟩ := H
      replace H : (if t168 = true then ((laws_markByteS.f k t125 1).bind fun bt169 => ((laws_markRr.f t128 t131 t132 t133 t134 t137 t140 bt169.1).bind fun t171 => (if t171 < 0 then (none) else ((laws_eqByteS.f k t144 t121).bind fun t172 => (if t172 = true then ((laws_markByteS.f k t144 1).bind fun bt173 => ((laws_heldByteS.f k bt173.2 1).bind fun t175 => (if t175 < 0 then (none) else (if t175 = bt173.1 then ((laws_toByteS.f k l0).bind fun t176 => ((laws_toRr.f k l1_0 a1_1 a1_2 a1_3 l1_4 l1_5 l1_6).bind fun bt179 => ((impl_RrPut.f k t176 bt179.1 bt179.2.1 bt179.2.2.1 bt179.2.2.2.1 bt179.2.2.2.2.1 bt179.2.2.2.2.2.1 bt179.2.2.2.2.2.2).bind fun bt194 => ((laws_eqByteS.f k bt194.1 t121).bind fun t198 => (if t198 = true then (if (bt194.2 != t124) = true then (none) else ((laws_heldByteS.f k bt173.2 1).bind fun t199 => (if t199 < 0 then (none) else (if t199 = bt173.1 then (some true) else (none))))) else (none)))))) else (none))))) else (none)))))) else (none)) = some r := H
      have A23 := Aside0.mk A230
      clear A230
      by_cases c24 : t168 = true
      ·subst c24
       have H1 : ((laws_markByteS.f k t125 1).bind fun bt169 => ((laws_markRr.f t128 t131 t132 t133 t134 t137 t140 bt169.1).bind fun t171 => (if t171 < 0 then (none) else ((laws_eqByteS.f k t144 t121).bind fun t172 => (if t172 = true then ((laws_markByteS.f k t144 1).bind fun bt173 => ((laws_heldByteS.f k bt173.2 1).bind fun t175 => (if t175 < 0 then (none) else (if t175 = bt173.1 then ((laws_toByteS.f k l0).bind fun t176 => ((laws_toRr.f k l1_0 a1_1 a1_2 a1_3 l1_4 l1_5 l1_6).bind fun bt179 => ((impl_RrPut.f k t176 bt179.1 bt179.2.1 bt179.2.2.1 bt179.2.2.2.1 bt179.2.2.2.2.1 bt179.2.2.2.2.2.1 bt179.2.2.2.2.2.2).bind fun bt194 => ((laws_eqByteS.f k bt194.1 t121).bind fun t198 => (if t198 = true then (if (bt194.2 != t124) = true then (none) else ((laws_heldByteS.f k bt173.2 1).bind fun t199 => (if t199 < 0 then (none) else (if t199 = bt173.1 then (some true) else (none))))) else (none)))))) else (none))))) else (none)))))) = some r := by rw [if_pos rfl] at H; exact H
       clear H
       have H := H1
       clear H1
       replace H := Option.bind_eq_some_iff.mp H
       obtain ⟨⟨t169, t170⟩, A250, H⟩ := H
       replace H : ((laws_markRr.f t128 t131 t132 t133 t134 t137 t140 t169).bind fun t171 => (if t171 < 0 then (none) else ((laws_eqByteS.f k t144 t121).bind fun t172 => (if t172 = true then ((laws_markByteS.f k t144 1).bind fun bt173 => ((laws_heldByteS.f k bt173.2 1).bind fun t175 => (if t175 < 0 then (none) else (if t175 = bt173.1 then ((laws_toByteS.f k l0).bind fun t176 => ((laws_toRr.f k l1_0 a1_1 a1_2 a1_3 l1_4 l1_5 l1_6).bind fun bt179 => ((impl_RrPut.f k t176 bt179.1 bt179.2.1 bt179.2.2.1 bt179.2.2.2.1 bt179.2.2.2.2.1 bt179.2.2.2.2.2.1 bt179.2.2.2.2.2.2).bind fun bt194 => ((laws_eqByteS.f k bt194.1 t121).bind fun t198 => (if t198 = true then (if (bt194.2 != t124) = true then (none) else ((laws_heldByteS.f k bt173.2 1).bind fun t199 => (if t199 < 0 then (none) else (if t199 = bt173.1 then (some true) else (none))))) else (none)))))) else (none))))) else (none))))) = some r := H
       have A25 := Aside0.mk A250
       clear A250
       replace H := Option.bind_eq_some_iff.mp H
       obtain ⟨t171, A260, H⟩ := H
       replace H : (if t171 < 0 then (none) else ((laws_eqByteS.f k t144 t121).bind fun t172 => (if t172 = true then ((laws_markByteS.f k t144 1).bind fun bt173 => ((laws_heldByteS.f k bt173.2 1).bind fun t175 => (if t175 < 0 then (none) else (if t175 = bt173.1 then ((laws_toByteS.f k l0).bind fun t176 => ((laws_toRr.f k l1_0 a1_1 a1_2 a1_3 l1_4 l1_5 l1_6).bind fun bt179 => ((impl_RrPut.f k t176 bt179.1 bt179.2.1 bt179.2.2.1 bt179.2.2.2.1 bt179.2.2.2.2.1 bt179.2.2.2.2.2.1 bt179.2.2.2.2.2.2).bind fun bt194 => ((laws_eqByteS.f k bt194.1 t121).bind fun t198 => (if t198 = true then (if (bt194.2 != t124) = true then (none) else ((laws_heldByteS.f k bt173.2 1).bind fun t199 => (if t199 < 0 then (none) else (if t199 = bt173.1 then (some true) else (none))))) else (none)))))) else (none))))) else (none)))) = some r := H
       have A26 := Aside0.mk A260
       clear A260
       by_cases c27 : t171 < 0
       ·rw [if_pos c27] at H
        exact absurd H (by simp)
       ·rw [if_neg c27] at H
        have c27b0 : decide (t171 < 0) = false := decide_eq_false c27
        clear c27
        replace H := Option.bind_eq_some_iff.mp H
        obtain ⟨t172, A280, H⟩ := H
        replace H : (if t172 = true then ((laws_markByteS.f k t144 1).bind fun bt173 => ((laws_heldByteS.f k bt173.2 1).bind fun t175 => (if t175 < 0 then (none) else (if t175 = bt173.1 then ((laws_toByteS.f k l0).bind fun t176 => ((laws_toRr.f k l1_0 a1_1 a1_2 a1_3 l1_4 l1_5 l1_6).bind fun bt179 => ((impl_RrPut.f k t176 bt179.1 bt179.2.1 bt179.2.2.1 bt179.2.2.2.1 bt179.2.2.2.2.1 bt179.2.2.2.2.2.1 bt179.2.2.2.2.2.2).bind fun bt194 => ((laws_eqByteS.f k bt194.1 t121).bind fun t198 => (if t198 = true then (if (bt194.2 != t124) = true then (none) else ((laws_heldByteS.f k bt173.2 1).bind fun t199 => (if t199 < 0 then (none) else (if t199 = bt173.1 then (some true) else (none))))) else (none)))))) else (none))))) else (none)) = some r := H
        have A28 := Aside0.mk A280
        clear A280
        by_cases c29 : t172 = true
        ·subst c29
         have H1 : ((laws_markByteS.f k t144 1).bind fun bt173 => ((laws_heldByteS.f k bt173.2 1).bind fun t175 => (if t175 < 0 then (none) else (if t175 = bt173.1 then ((laws_toByteS.f k l0).bind fun t176 => ((laws_toRr.f k l1_0 a1_1 a1_2 a1_3 l1_4 l1_5 l1_6).bind fun bt179 => ((impl_RrPut.f k t176 bt179.1 bt179.2.1 bt179.2.2.1 bt179.2.2.2.1 bt179.2.2.2.2.1 bt179.2.2.2.2.2.1 bt179.2.2.2.2.2.2).bind fun bt194 => ((laws_eqByteS.f k bt194.1 t121).bind fun t198 => (if t198 = true then (if (bt194.2 != t124) = true then (none) else ((laws_heldByteS.f k bt173.2 1).bind fun t199 => (if t199 < 0 then (none) else (if t199 = bt173.1 then (some true) else (none))))) else (none)))))) else (none))))) = some r := by rw [if_pos rfl] at H; exact H
         clear H
         have H := H1
         clear H1
         replace H := Option.bind_eq_some_iff.mp H
         obtain ⟨⟨t173, t174⟩, A300, H⟩ := H
         replace H : ((laws_heldByteS.f k t174 1).bind fun t175 => (if t175 < 0 then (none) else (if t175 = t173 then ((laws_toByteS.f k l0).bind fun t176 => ((laws_toRr.f k l1_0 a1_1 a1_2 a1_3 l1_4 l1_5 l1_6).bind fun bt179 => ((impl_RrPut.f k t176 bt179.1 bt179.2.1 bt179.2.2.1 bt179.2.2.2.1 bt179.2.2.2.2.1 bt179.2.2.2.2.2.1 bt179.2.2.2.2.2.2).bind fun bt194 => ((laws_eqByteS.f k bt194.1 t121).bind fun t198 => (if t198 = true then (if (bt194.2 != t124) = true then (none) else ((laws_heldByteS.f k t174 1).bind fun t199 => (if t199 < 0 then (none) else (if t199 = t173 then (some true) else (none))))) else (none)))))) else (none)))) = some r := H
         have A30 := Aside0.mk A300
         clear A300
         replace H := Option.bind_eq_some_iff.mp H
         obtain ⟨t175, A310, H⟩ := H
         replace H : (if t175 < 0 then (none) else (if t175 = t173 then ((laws_toByteS.f k l0).bind fun t176 => ((laws_toRr.f k l1_0 a1_1 a1_2 a1_3 l1_4 l1_5 l1_6).bind fun bt179 => ((impl_RrPut.f k t176 bt179.1 bt179.2.1 bt179.2.2.1 bt179.2.2.2.1 bt179.2.2.2.2.1 bt179.2.2.2.2.2.1 bt179.2.2.2.2.2.2).bind fun bt194 => ((laws_eqByteS.f k bt194.1 t121).bind fun t198 => (if t198 = true then (if (bt194.2 != t124) = true then (none) else ((laws_heldByteS.f k t174 1).bind fun t199 => (if t199 < 0 then (none) else (if t199 = t173 then (some true) else (none))))) else (none)))))) else (none))) = some r := H
         have A31 := Aside0.mk A310
         clear A310
         by_cases c32 : t175 < 0
         ·rw [if_pos c32] at H
          exact absurd H (by simp)
         ·rw [if_neg c32] at H
          have c32b0 : decide (t175 < 0) = false := decide_eq_false c32
          clear c32
          by_cases c33 : t175 = t173
          ·rw [if_pos c33] at H
           have c33b0 : (t175 == t173) = true := beq_iff_eq.mpr c33
           have c33b1 : (t175 != t173) = false := bne_eq_false_iff_eq.mpr c33
           clear c33
           replace H := Option.bind_eq_some_iff.mp H
           obtain ⟨t176, A340, H⟩ := H
           replace H : ((laws_toRr.f k l1_0 a1_1 a1_2 a1_3 l1_4 l1_5 l1_6).bind fun bt179 => ((impl_RrPut.f k t176 bt179.1 bt179.2.1 bt179.2.2.1 bt179.2.2.2.1 bt179.2.2.2.2.1 bt179.2.2.2.2.2.1 bt179.2.2.2.2.2.2).bind fun bt194 => ((laws_eqByteS.f k bt194.1 t121).bind fun t198 => (if t198 = true then (if (bt194.2 != t124) = true then (none) else ((laws_heldByteS.f k t174 1).bind fun t199 => (if t199 < 0 then (none) else (if t199 = t173 then (some true) else (none))))) else (none))))) = some r := H
           have A34 := Aside0.mk A340
           clear A340
           replace H := Option.bind_eq_some_iff.mp H
           obtain ⟨⟨t179, t182, t183, t184, t185, t188, t191⟩, A350, H⟩ := H
           replace H : ((impl_RrPut.f k t176 t179 t182 t183 t184 t185 t188 t191).bind fun bt194 => ((laws_eqByteS.f k bt194.1 t121).bind fun t198 => (if t198 = true then (if (bt194.2 != t124) = true then (none) else ((laws_heldByteS.f k t174 1).bind fun t199 => (if t199 < 0 then (none) else (if t199 = t173 then (some true) else (none))))) else (none)))) = some r := H
           have A35 := Aside0.mk A350
           clear A350
           replace H := Option.bind_eq_some_iff.mp H
           obtain ⟨⟨t194, t197⟩, A360, H⟩ := H
           replace H : ((laws_eqByteS.f k t194 t121).bind fun t198 => (if t198 = true then (if (t197 != t124) = true then (none) else ((laws_heldByteS.f k t174 1).bind fun t199 => (if t199 < 0 then (none) else (if t199 = t173 then (some true) else (none))))) else (none))) = some r := H
           have A36 := Aside0.mk A360
           clear A360
           replace H := Option.bind_eq_some_iff.mp H
           obtain ⟨t198, A370, H⟩ := H
           replace H : (if t198 = true then (if (t197 != t124) = true then (none) else ((laws_heldByteS.f k t174 1).bind fun t199 => (if t199 < 0 then (none) else (if t199 = t173 then (some true) else (none))))) else (none)) = some r := H
           have A37 := Aside0.mk A370
           clear A370
           by_cases c38 : t198 = true
           ·subst c38
            have H1 : (if (t197 != t124) = true then (none) else ((laws_heldByteS.f k t174 1).bind fun t199 => (if t199 < 0 then (none) else (if t199 = t173 then (some true) else (none))))) = some r := by rw [if_pos rfl] at H; exact H
            clear H
            have H := H1
            clear H1
            by_cases c39 : (t197 != t124) = true
            ·rw [if_pos c39] at H
             exact absurd H (by simp)
            ·rw [if_neg c39] at H
             have c39b0 : (t197 != t124) = false := by simpa using c39
             (try (have c39b1 : decide (t197 = t124) = true := by simpa using c39))
             (try (have c39b2 : (t197 == t124) = true := by simpa using c39))
             clear c39
             replace H := Option.bind_eq_some_iff.mp H
             obtain ⟨t199, A400, H⟩ := H
             replace H : (if t199 < 0 then (none) else (if t199 = t173 then (some true) else (none))) = some r := H
             have A40 := Aside0.mk A400
             clear A400
             by_cases c41 : t199 < 0
             ·rw [if_pos c41] at H
              exact absurd H (by simp)
             ·rw [if_neg c41] at H
              have c41b0 : decide (t199 < 0) = false := decide_eq_false c41
              clear c41
              by_cases c42 : t199 = t173
              ·rw [if_pos c42] at H
               have c42b0 : (t199 == t173) = true := beq_iff_eq.mpr c42
               have c42b1 : (t199 != t173) = false := bne_eq_false_iff_eq.mpr c42
               clear c42
               obtain rfl := Option.some.inj H
               go_enter Try.func12, Try.ntmps12
               try go_wp2_with (first | ((with_reducible refine gate_dst (N := 3) rfl ?_); refine boxed (N := 3) rfl rfl (cs := #[.slice A1_0 l1_0.length c1_0, .int .i64 a1_1, .int .i64 a1_2, .int .i64 a1_3, .slice A1_4 l1_4.length c1_4, .slice A1_5 l1_5.length c1_5, .slice A1_6 l1_6.length c1_6]) (t := 44) HB.out (by first | (go_simp; done) | (go_simp; rfl)) ?_; clear HB; intro gb101 w43 hg HB BK101 GE101 hb; have GW101 := GE101; clear hb hg; obtain ⟨hcz44_0, hcz44_1, hcz44_2, hcz44_3, hcz44_4, hcz44_5, hcz44_6, hfz44_0, hfz44_1, hfz44_2, hfz44_3, hfz44_4, hfz44_5, hfz44_6⟩ := cells7 BK101.out) | ((with_reducible refine gate_callee (f := 28) rfl ?_); refine goesL_ (some 22) rfl rfl Try.func28 (by kernel_rfl) rfl #[.agg #[.slice A1_0 l1_0.length c1_0, .int .i64 a1_1, .int .i64 a1_2, .int .i64 a1_3, .slice A1_4 l1_4.length c1_4, .slice A1_5 l1_5.length c1_5, .slice A1_6 l1_6.length c1_6], .int .i64 1048576] rfl (by (try simp only [List.map_toArray, List.map_cons, List.map_nil]); first | done | rfl | (simp only [List.length_drop, List.length_take]; rfl)) ?_; (with_reducible refine (laws_szRr.calls k _ _ l1_0 a1_1 a1_2 a1_3 _ _ l1_4 _ _ l1_5 _ _ l1_6 1048576 t102 _ ?side1 ?side2 ?side3 ?side4 ?side5 ?side6 ?side7 ?side8 A5.out).mono ?_); (case side1 => exact cw HR1_0.out HB.out); (case side2 => exact HC1_0.out); (case side3 => exact cw HR1_4.out HB.out); (case side4 => exact HC1_4.out); (case side5 => exact cw HR1_5.out HB.out); (case side6 => exact HC1_5.out); (case side7 => exact cw HR1_6.out HB.out); (case side8 => exact HC1_6.out); rintro e w45 ⟨rfl, hb⟩; refine ⟨_, rfl, ?_⟩; replace BK101 := Aside0.mk (blk_below (bk BK101.out) hb); replace HB := Aside0.mk (below_step (by repeat (first | exact bw HB.out | refine below_set ?_ GE101.out)) hb); (try clear hb)))
               have n0_ := Aside0.mk (blk_drew BK101.out)
               have n1_ := Aside0.mk (below_drew1 HB.out)
               clear BK101
               clear HB
               have BK101 := n0_
               have HB := n1_
               clear n0_ n1_
               refine start_ (n := 10) (S := fun w' => w'.cell? ⟨gb101, 0, none⟩ = some (.slice A1_0 l1_0.length c1_0) ∧ w'.cell? ⟨gb101, 1, none⟩ = some (.int .i64 a1_1) ∧ w'.cell? ⟨gb101, 2, none⟩ = some (.int .i64 a1_2) ∧ w'.cell? ⟨gb101, 3, none⟩ = some (.int .i64 a1_3) ∧ w'.cell? ⟨gb101, 4, none⟩ = some (.slice A1_4 l1_4.length c1_4) ∧ w'.cell? ⟨gb101, 5, none⟩ = some (.slice A1_5 l1_5.length c1_5) ∧ w'.cell? ⟨gb101, 6, none⟩ = some (.slice A1_6 l1_6.length c1_6)) (ds := []) (bA 10 0) (by kernel_rfl) rfl rfl ⟨(blk_cell BK101.out 0).trans rfl, (blk_cell BK101.out 1).trans rfl, (blk_cell BK101.out 2).trans rfl, (blk_cell BK101.out 3).trans rfl, (blk_cell BK101.out 4).trans rfl, (blk_cell BK101.out 5).trans rfl, (blk_cell BK101.out 6).trans rfl⟩ (fun hHeld => ?_); refine with_tabW laws_FnExactRrPut.tab7 laws_FnExactRrPut.bits7 (fun HT_ HW_ => ?_)
               generalize w45.drew = w46 at BK101 HB hHeld ⊢
               refine pu_ HT_ 0 26 (bA 10 1) (v := ?_) (a' := ?_) rfl rfl (by kernel_rfl) (fun _ _ _ h => h) (by rfl) ?_ ?_ ?_; rotate_left; intro w'; go_simp; with_reducible rfl; rotate_left; go_simp; rfl
               refine take_ (i := 2) (N := some 28) (v := ?_) (a' := ?_) (bA 10 5) rfl rfl (take_ofW HT_.out HW_.out (by kernel_rfl)) (fun _ _ _ h => h) (Or.inl ⟨by rfl, ?_⟩) hHeld ?_ ?_
               rotate_left; rintro w' ⟨s0, s1, s2, s3, s4, s5, s6⟩; go_simp; with_reducible rfl; rotate_left; go_simp; rfl
               refine one_ (i := 1) (N := some 27) (bA 10 7) rfl rfl (one_of HT_.out (by kernel_rfl)) (by decide) (fun K hK => ?_)
               refine goes_ Try.func19 (by kernel_rfl) rfl #[.slice A0 l0.length c0] (by rfl) rfl rfl (by (try simp only [List.map_toArray, List.map_cons, List.map_nil]); first | done | rfl | (simp only [List.length_drop, List.length_take]; rfl)) ?_
               with_reducible refine (laws_toByteS.calls k _ _ l0 t103 _ ?side1 ?side2 A10.out).mono ?_
               (case side1 => exact cw HR0.out HB.out)
               (case side2 => exact HC0.out)
               rintro e w47 ⟨v104, rfl, ho0, hb⟩
               refine ⟨_, rfl, ?_⟩
               have n0_ := Aside0.mk (Kd.R_lower ho0 (below_size (by repeat (first | exact bw HB.out | refine below_set ?_ GE101.out))))
               have n1_ := Aside0.mk (blk_below (bk BK101.out) hb)
               have n2_ := Aside0.mk (below_step (by repeat (first | exact bw HB.out | refine below_set ?_ GE101.out)) hb)
               clear BK101
               clear HB
               have HO105 := n0_
               have BK101 := n1_
               have HB := n2_
               clear n0_ n1_ n2_
               (try clear hb)
               (try clear hb2)
               (try clear hk)
               (try clear hi)
               (try clear ho0)
               refine hK.out _ _ ⟨(blk_cell BK101.out 0).trans rfl, (blk_cell BK101.out 1).trans rfl, (blk_cell BK101.out 2).trans rfl, (blk_cell BK101.out 3).trans rfl, (blk_cell BK101.out 4).trans rfl, (blk_cell BK101.out 5).trans rfl, (blk_cell BK101.out 6).trans rfl⟩ (fun hHeld => ?_)
               clear hK K
               refine norm_ (a' := ?_) ?_ ?_; rotate_left; go_simp; rfl
               refine one_ (i := 3) (N := some 29) (bA 10 15) rfl rfl (one_of HT_.out (by kernel_rfl)) (by decide) (fun K hK => ?_)
               refine goes_ Try.func30 (by kernel_rfl) rfl #[.agg #[.slice A1_0 l1_0.length c1_0, .int .i64 a1_1, .int .i64 a1_2, .int .i64 a1_3, .slice A1_4 l1_4.length c1_4, .slice A1_5 l1_5.length c1_5, .slice A1_6 l1_6.length c1_6]] (by rfl) rfl rfl (by (try simp only [List.map_toArray, List.map_cons, List.map_nil]); first | done | rfl | (simp only [List.length_drop, List.length_take]; rfl)) ?_
               with_reducible refine (laws_toRr.calls k _ _ l1_0 a1_1 a1_2 a1_3 _ _ l1_4 _ _ l1_5 _ _ l1_6 t106 t109 t110 t111 t112 t115 t118 _ ?side1 ?side2 ?side3 ?side4 ?side5 ?side6 ?side7 ?side8 A11.out).mono ?_
               (case side1 => exact cw HR1_0.out HB.out)
               (case side2 => exact HC1_0.out)
               (case side3 => exact cw HR1_4.out HB.out)
               (case side4 => exact HC1_4.out)
               (case side5 => exact cw HR1_5.out HB.out)
               (case side6 => exact HC1_5.out)
               (case side7 => exact cw HR1_6.out HB.out)
               (case side8 => exact HC1_6.out)
               rintro e w48 ⟨v107, v113, v116, v119, rfl, ho0, ho1, ho2, ho3, hb⟩
               refine ⟨_, rfl, ?_⟩
               have n0_ := Aside0.mk (Kd.R_elder' (rw_ HO105.out) (Kd.R_base ho2) hb)
               have n1_ := Aside0.mk (Kd.S_lower (Kd.S_new' ho0 (Kd.R_lt (rw_ HO105.out))) (below_size (by repeat (first | exact bw HB.out | refine below_set ?_ GE101.out))))
               have n2_ := Aside0.mk (Kd.S_lower (Kd.S_new' ho1 (Kd.R_lt (rw_ HO105.out))) (below_size (by repeat (first | exact bw HB.out | refine below_set ?_ GE101.out))))
               have n3_ := Aside0.mk (Kd.R_lower (Kd.R_new' ho2 (Kd.R_lt (rw_ HO105.out))) (below_size (by repeat (first | exact bw HB.out | refine below_set ?_ GE101.out))))
               have n4_ := Aside0.mk (Kd.R_lower ho3 (below_size (by repeat (first | exact bw HB.out | refine below_set ?_ GE101.out))))
               have n5_ := Aside0.mk (blk_below (bk BK101.out) hb)
               have n6_ := Aside0.mk (below_step (by repeat (first | exact bw HB.out | refine below_set ?_ GE101.out)) hb)
               clear HO105
               clear BK101
               clear HB
               have HO105 := n0_
               have HO108 := n1_
               have HO114 := n2_
               have HO117 := n3_
               have HO120 := n4_
               have BK101 := n5_
               have HB := n6_
               clear n0_ n1_ n2_ n3_ n4_ n5_ n6_
               (try clear hb)
               (try clear hb2)
               (try clear hk)
               (try clear hi)
               (try clear ho0)
               (try clear ho1)
               (try clear ho2)
               (try clear ho3)
               obtain ⟨Ao49, co49, eo49⟩ := Kd.R_slice HO105.out
               (first | subst eo49 | (injection eo49 with f1_ f2_ f3_; have f4_ := f1_.symm; have f5_ := f3_.symm; clear f1_ f2_ f3_; subst f4_; subst f5_))
               obtain ⟨Ao50, co50, eo50⟩ := Kd.S_slice HO108.out
               (first | subst eo50 | (injection eo50 with f1_ f2_ f3_; have f4_ := f1_.symm; have f5_ := f3_.symm; clear f1_ f2_ f3_; subst f4_; subst f5_))
               obtain ⟨Ao51, co51, eo51⟩ := Kd.S_slice HO114.out
               (first | subst eo51 | (injection eo51 with f1_ f2_ f3_; have f4_ := f1_.symm; have f5_ := f3_.symm; clear f1_ f2_ f3_; subst f4_; subst f5_))
               obtain ⟨Ao52, co52, eo52⟩ := Kd.R_slice HO117.out
               (first | subst eo52 | (injection eo52 with f1_ f2_ f3_; have f4_ := f1_.symm; have f5_ := f3_.symm; clear f1_ f2_ f3_; subst f4_; subst f5_))
               obtain ⟨Ao53, co53, eo53⟩ := Kd.R_slice HO120.out
               (first | subst eo53 | (injection eo53 with f1_ f2_ f3_; have f4_ := f1_.symm; have f5_ := f3_.symm; clear f1_ f2_ f3_; subst f4_; subst f5_))
               refine hK.out _ _ ⟨(blk_cell BK101.out 0).trans rfl, (blk_cell BK101.out 1).trans rfl, (blk_cell BK101.out 2).trans rfl, (blk_cell BK101.out 3).trans rfl, (blk_cell BK101.out 4).trans rfl, (blk_cell BK101.out 5).trans rfl, (blk_cell BK101.out 6).trans rfl⟩ (fun hHeld => ?_)
               clear hK K
               refine norm_ (a' := ?_) ?_ ?_; rotate_left; go_simp; rfl
               refine one_ (i := 4) (N := some 30) (bA 10 31) rfl rfl (one_of HT_.out (by kernel_rfl)) (by decide) (fun K hK => ?_)
               refine goes_ Try.func47 (by kernel_rfl) rfl #[.slice Ao49 t103.length co49, .agg #[.slice Ao50 t106.length co50, .int .i64 t109, .int .i64 t110, .int .i64 t111, .slice Ao51 t112.length co51, .slice Ao52 t115.length co52, .slice Ao53 t118.length co53]] (by rfl) rfl rfl (by (try simp only [List.map_toArray, List.map_cons, List.map_nil]); first | done | rfl | (simp only [List.length_drop, List.length_take]; rfl)) ?_
               with_reducible refine (spec_RrPut.calls k _ _ t103 _ _ t106 t109 t110 t111 _ _ t112 _ _ t115 _ _ t118 t121 t124 _ ?side1 ?side2 ?side3 ?side4 ?side5 ?side6 ?side7 ?side8 ?side9 ?side10 A12.out).mono ?_
               (case side1 => repeat (first | exact (Kd.R_reads' HO105.out).2.2 | (with_reducible refine Kd.C_alloc ?_ _) | (with_reducible refine Kd.C_drewN ?_ _) | (with_reducible refine Kd.C_drew ?_)))
               (case side2 => exact (Kd.R_reads' HO105.out).2.1)
               (case side3 => repeat (first | exact (Kd.S_reads' HO108.out).2.2 | (with_reducible refine Kd.C_alloc ?_ _) | (with_reducible refine Kd.C_drewN ?_ _) | (with_reducible refine Kd.C_drew ?_)))
               (case side4 => exact (Kd.S_reads' HO108.out).2.1)
               (case side5 => repeat (first | exact (Kd.S_reads' HO114.out).2.2 | (with_reducible refine Kd.C_alloc ?_ _) | (with_reducible refine Kd.C_drewN ?_ _) | (with_reducible refine Kd.C_drew ?_)))
               (case side6 => exact (Kd.S_reads' HO114.out).2.1)
               (case side7 => repeat (first | exact (Kd.R_reads' HO117.out).2.2 | (with_reducible refine Kd.C_alloc ?_ _) | (with_reducible refine Kd.C_drewN ?_ _) | (with_reducible refine Kd.C_drew ?_)))
               (case side8 => exact (Kd.R_reads' HO117.out).2.1)
               (case side9 => repeat (first | exact (Kd.R_reads' HO120.out).2.2 | (with_reducible refine Kd.C_alloc ?_ _) | (with_reducible refine Kd.C_drewN ?_ _) | (with_reducible refine Kd.C_drew ?_)))
               (case side10 => exact (Kd.R_reads' HO120.out).2.1)
               rintro e w54 ⟨v122, rfl, ho0, hb⟩
               refine ⟨_, rfl, ?_⟩
               have n0_ := Aside0.mk (Kd.R_elder' (rw_ HO105.out) (Kd.R_base ho0) hb)
               have n1_ := Aside0.mk (Kd.S_elder' (sw HO108.out) (Kd.R_base ho0) hb)
               have n2_ := Aside0.mk (Kd.S_elder' (sw HO114.out) (Kd.R_base ho0) hb)
               have n3_ := Aside0.mk (Kd.R_elder' (rw_ HO117.out) (Kd.R_base ho0) hb)
               have n4_ := Aside0.mk (Kd.R_below (rw_ HO120.out) hb)
               have n5_ := Aside0.mk (Kd.R_lower (Kd.R_new' (Kd.R_new' ho0 (Kd.R_lt (rw_ HO105.out))) (Kd.R_lt (rw_ HO117.out))) (below_size (by repeat (first | exact bw HB.out | refine below_set ?_ GE101.out))))
               have n6_ := Aside0.mk (blk_below (bk BK101.out) hb)
               have n7_ := Aside0.mk (below_step (by repeat (first | exact bw HB.out | refine below_set ?_ GE101.out)) hb)
               clear HO105
               clear HO108
               clear HO114
               clear HO117
               clear HO120
               clear BK101
               clear HB
               have HO105 := n0_
               have HO108 := n1_
               have HO114 := n2_
               have HO117 := n3_
               have HO120 := n4_
               have HO123 := n5_
               have BK101 := n6_
               have HB := n7_
               clear n0_ n1_ n2_ n3_ n4_ n5_ n6_ n7_
               (try clear hb)
               (try clear hb2)
               (try clear hk)
               (try clear hi)
               (try clear ho0)
               refine hK.out _ _ ⟨(blk_cell BK101.out 0).trans rfl, (blk_cell BK101.out 1).trans rfl, (blk_cell BK101.out 2).trans rfl, (blk_cell BK101.out 3).trans rfl, (blk_cell BK101.out 4).trans rfl, (blk_cell BK101.out 5).trans rfl, (blk_cell BK101.out 6).trans rfl⟩ (fun hHeld => ?_)
               clear hK K
               refine norm_ (a' := ?_) ?_ ?_; rotate_left; go_simp; rfl
               refine pu_ HT_ 5 25 (bA 10 63) (v := ?_) (a' := ?_) rfl rfl (by kernel_rfl) (fun _ _ _ h => h) (by rfl) ?_ ?_ ?_; rotate_left; intro w'; go_simp; with_reducible rfl; rotate_left; go_simp; rfl
               refine pu_ HT_ 6 31 (bA 10 127) (v := ?_) (a' := ?_) rfl rfl (by kernel_rfl) (fun _ _ _ h => h) (by rfl) ?_ ?_ ?_; rotate_left; intro w'; go_simp; with_reducible rfl; rotate_left; go_simp; rfl
               refine pu_ HT_ 7 32 (bA 10 255) (v := ?_) (a' := ?_) rfl rfl (by kernel_rfl) (fun _ _ _ h => h) (by rfl) ?_ ?_ ?_; rotate_left; intro w'; go_simp; with_reducible rfl; rotate_left; go_simp; rfl
               refine pu_ HT_ 8 6 (bA 10 511) (v := ?_) (a' := ?_) rfl rfl (by kernel_rfl) (fun _ _ _ h => h) (by rfl) ?_ ?_ ?_; rotate_left; intro w'; go_simp; with_reducible rfl; rotate_left; go_simp; rfl
               refine pu_ HT_ 9 7 (bA 10 1023) (v := ?_) (a' := ?_) rfl rfl (by kernel_rfl) (fun _ _ _ h => h) (by rfl) ?_ ?_ ?_; rotate_left; intro w'; go_simp; with_reducible rfl; rotate_left; go_simp; rfl
               refine done_ (done_of HT_.out (by kernel_rfl)) ?_
               try go_wp2_with (first | ((with_reducible refine gate_callee (f := 19) rfl ?_); refine goesL_ (some 34) rfl rfl Try.func19 (by kernel_rfl) rfl #[.slice A0 l0.length c0] rfl (by (try simp only [List.map_toArray, List.map_cons, List.map_nil]); first | done | rfl | (simp only [List.length_drop, List.length_take]; rfl)) ?_; (with_reducible refine (laws_toByteS.calls k _ _ l0 t125 _ ?side1 ?side2 A13.out).mono ?_); (case side1 => exact cw HR0.out HB.out); (case side2 => exact HC0.out); rintro e w55 ⟨v126, rfl, ho0, hb⟩; refine ⟨_, rfl, ?_⟩; replace HO108 := Aside0.mk (Kd.S_elder' (sw HO108.out) (Kd.R_base ho0) hb); replace HO114 := Aside0.mk (Kd.S_elder' (sw HO114.out) (Kd.R_base ho0) hb); replace HO120 := Aside0.mk (Kd.R_below (rw_ HO120.out) hb); have HO127 := Aside0.mk (Kd.R_lower (Kd.R_new' (Kd.R_new' (Kd.R_new' ho0 (Kd.R_lt (rw_ HO105.out))) (Kd.R_lt (rw_ HO117.out))) (Kd.R_lt (rw_ HO123.out))) (below_size (by repeat (first | exact bw HB.out | refine below_set ?_ GE101.out)))); replace HO105 := Aside0.mk (Kd.R_elder' (rw_ HO105.out) (Kd.R_base ho0) hb); replace HO117 := Aside0.mk (Kd.R_elder' (rw_ HO117.out) (Kd.R_base ho0) hb); replace HO123 := Aside0.mk (Kd.R_elder' (rw_ HO123.out) (Kd.R_base ho0) hb); replace BK101 := Aside0.mk (blk_below (bk BK101.out) hb); replace HB := Aside0.mk (below_step (by repeat (first | exact bw HB.out | refine below_set ?_ GE101.out)) hb); (try clear hb); (try clear ho0); obtain ⟨hcz56_0, hcz56_1, hcz56_2, hcz56_3, hcz56_4, hcz56_5, hcz56_6, hfz56_0, hfz56_1, hfz56_2, hfz56_3, hfz56_4, hfz56_5, hfz56_6⟩ := cells7 BK101.out) | ((with_reducible refine gate_callee (f := 30) rfl ?_); refine goesL_ (some 36) rfl rfl Try.func30 (by kernel_rfl) rfl #[.agg #[.slice A1_0 l1_0.length c1_0, .int .i64 a1_1, .int .i64 a1_2, .int .i64 a1_3, .slice A1_4 l1_4.length c1_4, .slice A1_5 l1_5.length c1_5, .slice A1_6 l1_6.length c1_6]] rfl (by (try simp only [List.map_toArray, List.map_cons, List.map_nil]); first | done | rfl | (simp only [List.length_drop, List.length_take]; rfl)) ?_; (with_reducible refine (laws_toRr.calls k _ _ l1_0 a1_1 a1_2 a1_3 _ _ l1_4 _ _ l1_5 _ _ l1_6 t128 t131 t132 t133 t134 t137 t140 _ ?side1 ?side2 ?side3 ?side4 ?side5 ?side6 ?side7 ?side8 A14.out).mono ?_); (case side1 => exact cw HR1_0.out HB.out); (case side2 => exact HC1_0.out); (case side3 => exact cw HR1_4.out HB.out); (case side4 => exact HC1_4.out); (case side5 => exact cw HR1_5.out HB.out); (case side6 => exact HC1_5.out); (case side7 => exact cw HR1_6.out HB.out); (case side8 => exact HC1_6.out); rintro e w57 ⟨v129, v135, v138, v141, rfl, ho0, ho1, ho2, ho3, hb⟩; refine ⟨_, rfl, ?_⟩; have HO130 := Aside0.mk (Kd.S_lower (Kd.S_new' (Kd.S_new' (Kd.S_new' (Kd.S_new' (Kd.S_new' (Kd.S_new' ho0 (Kd.R_lt (rw_ HO105.out))) (Kd.S_lt (sw HO108.out))) (Kd.S_lt (sw HO114.out))) (Kd.R_lt (rw_ HO117.out))) (Kd.R_lt (rw_ HO123.out))) (Kd.R_lt (rw_ HO127.out))) (below_size (by repeat (first | exact bw HB.out | refine below_set ?_ GE101.out)))); have HO136 := Aside0.mk (Kd.S_lower (Kd.S_new' (Kd.S_new' (Kd.S_new' (Kd.S_new' (Kd.S_new' (Kd.S_new' ho1 (Kd.R_lt (rw_ HO105.out))) (Kd.S_lt (sw HO108.out))) (Kd.S_lt (sw HO114.out))) (Kd.R_lt (rw_ HO117.out))) (Kd.R_lt (rw_ HO123.out))) (Kd.R_lt (rw_ HO127.out))) (below_size (by repeat (first | exact bw HB.out | refine below_set ?_ GE101.out)))); replace HO108 := Aside0.mk (Kd.S_mono (Kd.S_told (Kd.S_told (Kd.S_told (Kd.S_old (sw HO108.out) hb) (Kd.S_base ho0)) (Kd.S_base ho1)) (Kd.R_base ho2)) (fun _ h_ => h_.1)); replace HO114 := Aside0.mk (Kd.S_mono (Kd.S_told (Kd.S_told (Kd.S_told (Kd.S_old (sw HO114.out) hb) (Kd.S_base ho0)) (Kd.S_base ho1)) (Kd.R_base ho2)) (fun _ h_ => h_.1)); have HO139 := Aside0.mk (Kd.R_lower (Kd.R_new' (Kd.R_new' (Kd.R_new' (Kd.R_new' ho2 (Kd.R_lt (rw_ HO105.out))) (Kd.R_lt (rw_ HO117.out))) (Kd.R_lt (rw_ HO123.out))) (Kd.R_lt (rw_ HO127.out))) (below_size (by repeat (first | exact bw HB.out | refine below_set ?_ GE101.out)))); replace HO105 := Aside0.mk (Kd.R_elder' (rw_ HO105.out) (Kd.R_base ho2) hb); replace HO117 := Aside0.mk (Kd.R_elder' (rw_ HO117.out) (Kd.R_base ho2) hb); replace HO123 := Aside0.mk (Kd.R_elder' (rw_ HO123.out) (Kd.R_base ho2) hb); replace HO127 := Aside0.mk (Kd.R_elder' (rw_ HO127.out) (Kd.R_base ho2) hb); have HO142 := Aside0.mk (Kd.R_lower (Kd.R_new' ho3 (Kd.R_lt (rw_ HO120.out))) (below_size (by repeat (first | exact bw HB.out | refine below_set ?_ GE101.out)))); replace HO120 := Aside0.mk (Kd.R_elder' (rw_ HO120.out) (Kd.R_base ho3) hb); replace BK101 := Aside0.mk (blk_below (bk BK101.out) hb); replace HB := Aside0.mk (below_step (by repeat (first | exact bw HB.out | refine below_set ?_ GE101.out)) hb); (try clear hb); (try clear ho0); (try clear ho1); (try clear ho2); (try clear ho3)) | ((with_reducible refine gate_dst (N := 9) rfl ?_); refine box_event ?hg (N := 9) ?hd (cs := #[.slice none 0 0, .int .i64 0, .int .i64 0, .int .i64 0, .slice none 0 0, .slice none 0 0, .slice none 0 0]) (t := 48) ?hr ?_; (case hd => rfl); (case hg => rfl); (case hr => first | (go_simp; done) | (go_simp; rfl)); intro gb143 hg w58 hbox hb; replace HO105 := Aside0.mk (Kd.R_below (rw_ HO105.out) hb); replace HO108 := Aside0.mk (Kd.S_below (sw HO108.out) hb); replace HO114 := Aside0.mk (Kd.S_below (sw HO114.out) hb); replace HO117 := Aside0.mk (Kd.R_below (rw_ HO117.out) hb); replace HO120 := Aside0.mk (Kd.R_below (rw_ HO120.out) hb); replace HO123 := Aside0.mk (Kd.R_below (rw_ HO123.out) hb); replace HO127 := Aside0.mk (Kd.R_below (rw_ HO127.out) hb); replace HO130 := Aside0.mk (Kd.S_below (sw HO130.out) hb); replace HO136 := Aside0.mk (Kd.S_below (sw HO136.out) hb); replace HO139 := Aside0.mk (Kd.R_below (rw_ HO139.out) hb); replace HO142 := Aside0.mk (Kd.R_below (rw_ HO142.out) hb); have BK143 := Aside0.mk (hbox); have GW143 := Aside0.mk ((by rw [hg]; exact (below_size (by repeat (first | exact bw HB.out | refine below_set ?_ GE101.out))) : w.heap.size ≤ gb143)); have GE143 := Aside0.mk ((by rw [hg]; exact (below_size (by repeat (first | exact bw HB.out | refine below_set ?_ GE101.out))) : w.heap.size ≤ gb143)); replace HB := Aside0.mk (below_step (by repeat (first | exact bw HB.out | refine below_set ?_ GE101.out)) hb); have NB101_143 := Aside0.mk ((by rw [hg]; exact Nat.ne_of_lt (blk_lt (bk BK101.out)) : gb101 ≠ gb143)); have NB143_101 := Aside0.mk ((by rw [hg]; exact Nat.ne_of_gt (blk_lt (bk BK101.out)) : gb143 ≠ gb101)); replace BK101 := Aside0.mk (blk_below (bk BK101.out) hb); clear hb hbox hg; obtain ⟨Ao59, co59, eo59⟩ := Kd.S_slice HO130.out; subst eo59; have hnb60 := NB143_101.out; have hnc60 := NB101_143.out; obtain ⟨hcz61_0, hcz61_1, hcz61_2, hcz61_3, hcz61_4, hcz61_5, hcz61_6, hfz61_0, hfz61_1, hfz61_2, hfz61_3, hfz61_4, hfz61_5, hfz61_6⟩ := cells7 BK143.out; obtain ⟨Ao62, co62, eo62⟩ := Kd.S_slice HO136.out; subst eo62; obtain ⟨Ao63, co63, eo63⟩ := Kd.R_slice HO139.out; subst eo63; obtain ⟨Ao64, co64, eo64⟩ := Kd.R_slice HO142.out; subst eo64) | ((with_reducible refine gate_store (t := 48) (p := 9) rfl ?_); refine store_event (t := 48) (p := 9) (v := ?vo_w65) (w1 := (((((((w58.setCell ⟨gb143, 0, none⟩ (.slice Ao59 t128.length co59)).setCell ⟨gb143, 1, none⟩ (.int .i64 t131)).setCell ⟨gb143, 2, none⟩ (.int .i64 t132)).setCell ⟨gb143, 3, none⟩ (.int .i64 t133)).setCell ⟨gb143, 4, none⟩ (.slice Ao62 t134.length co62)).setCell ⟨gb143, 5, none⟩ (.slice Ao63 t137.length co63)).setCell ⟨gb143, 6, none⟩ (.slice Ao64 t140.length co64))) ?hg ?ho ?hn ?hr ?_; (case ho => rfl); (case hg => rfl); (case hn => rfl); (case hr => first | (go_simp; done) | (go_simp; rfl)); intro w65 hw; have n0_ : Aside0 (Kd.R (Kd.int .u8) 5 w65 w.heap.size (fun k_ => some k_ ≠ (.slice Ao52 t115.length co52 : Value).ownBlock ∧ some k_ ≠ (v122 : Value).ownBlock ∧ some k_ ≠ (v126 : Value).ownBlock ∧ some k_ ≠ (.slice Ao63 t137.length co63 : Value).ownBlock) (.slice Ao49 t103.length co49) t103) := ⟨(by rw [hw]; exact (by (with_reducible repeat (first | apply Kd.R_alloc | apply Kd.R_drewN | apply Kd.R_drew)); exact Kd.R_mono (Kd.R_far (p := ⟨gb143, 6, none⟩) (Kd.R_far (p := ⟨gb143, 5, none⟩) (Kd.R_far (p := ⟨gb143, 4, none⟩) (Kd.R_far (p := ⟨gb143, 3, none⟩) (Kd.R_far (p := ⟨gb143, 2, none⟩) (Kd.R_far (p := ⟨gb143, 1, none⟩) (Kd.R_far (p := ⟨gb143, 0, none⟩) (Kd.R_types HO105.out BK143.out (by decide)) (fun _ hk => hk.2) (.slice Ao59 t128.length co59)) (fun _ hk => hk.2) (.int .i64 t131)) (fun _ hk => hk.2) (.int .i64 t132)) (fun _ hk => hk.2) (.int .i64 t133)) (fun _ hk => hk.2) (.slice Ao62 t134.length co62)) (fun _ hk => hk.2) (.slice Ao63 t137.length co63)) (fun _ hk => hk.2) (.slice Ao64 t140.length co64)) (fun _ hk => ⟨hk.1.1.1.1.2, ⟨hk.1.1.1.2, ⟨hk.1.1.2, hk.1.2⟩⟩⟩)))⟩; have n1_ : Aside0 (Kd.S (Kd.slice 5 (Kd.int .u8)) 31 w65 w.heap.size (fun k_ => some k_ ≠ (.slice Ao49 t103.length co49 : Value).ownBlock ∧ some k_ ≠ (.slice Ao51 t112.length co51 : Value).ownBlock ∧ some k_ ≠ (.slice Ao52 t115.length co52 : Value).ownBlock ∧ some k_ ≠ (v122 : Value).ownBlock ∧ some k_ ≠ (v126 : Value).ownBlock ∧ some k_ ≠ (.slice Ao59 t128.length co59 : Value).ownBlock ∧ some k_ ≠ (.slice Ao62 t134.length co62 : Value).ownBlock ∧ some k_ ≠ (.slice Ao63 t137.length co63 : Value).ownBlock) (.slice Ao50 t106.length co50) t106) := ⟨(by rw [hw]; exact (by (with_reducible repeat (first | apply Kd.S_alloc | apply Kd.S_drewN | apply Kd.S_drew)); exact Kd.S_mono (Kd.S_far (p := ⟨gb143, 6, none⟩) (Kd.S_far (p := ⟨gb143, 5, none⟩) (Kd.S_far (p := ⟨gb143, 4, none⟩) (Kd.S_far (p := ⟨gb143, 3, none⟩) (Kd.S_far (p := ⟨gb143, 2, none⟩) (Kd.S_far (p := ⟨gb143, 1, none⟩) (Kd.S_far (p := ⟨gb143, 0, none⟩) (Kd.S_types HO108.out BK143.out (by decide)) (fun _ hk => hk.2) (.slice Ao59 t128.length co59)) (fun _ hk => hk.2) (.int .i64 t131)) (fun _ hk => hk.2) (.int .i64 t132)) (fun _ hk => hk.2) (.int .i64 t133)) (fun _ hk => hk.2) (.slice Ao62 t134.length co62)) (fun _ hk => hk.2) (.slice Ao63 t137.length co63)) (fun _ hk => hk.2) (.slice Ao64 t140.length co64)) (fun _ hk => ⟨hk.1.1.1.1.1.1.2, ⟨hk.1.1.1.1.1.1.1.1, ⟨hk.1.1.1.1.1.1.1.2, ⟨hk.1.1.1.1.1.2, ⟨hk.1.1.1.1.2, ⟨hk.1.1.1.2, ⟨hk.1.1.2, hk.1.2⟩⟩⟩⟩⟩⟩⟩)))⟩; have n2_ : Aside0 (Kd.S (Kd.slice 5 (Kd.int .u8)) 31 w65 w.heap.size (fun k_ => some k_ ≠ (.slice Ao49 t103.length co49 : Value).ownBlock ∧ some k_ ≠ (.slice Ao50 t106.length co50 : Value).ownBlock ∧ some k_ ≠ (.slice Ao52 t115.length co52 : Value).ownBlock ∧ some k_ ≠ (v122 : Value).ownBlock ∧ some k_ ≠ (v126 : Value).ownBlock ∧ some k_ ≠ (.slice Ao59 t128.length co59 : Value).ownBlock ∧ some k_ ≠ (.slice Ao62 t134.length co62 : Value).ownBlock ∧ some k_ ≠ (.slice Ao63 t137.length co63 : Value).ownBlock) (.slice Ao51 t112.length co51) t112) := ⟨(by rw [hw]; exact (by (with_reducible repeat (first | apply Kd.S_alloc | apply Kd.S_drewN | apply Kd.S_drew)); exact Kd.S_mono (Kd.S_far (p := ⟨gb143, 6, none⟩) (Kd.S_far (p := ⟨gb143, 5, none⟩) (Kd.S_far (p := ⟨gb143, 4, none⟩) (Kd.S_far (p := ⟨gb143, 3, none⟩) (Kd.S_far (p := ⟨gb143, 2, none⟩) (Kd.S_far (p := ⟨gb143, 1, none⟩) (Kd.S_far (p := ⟨gb143, 0, none⟩) (Kd.S_types HO114.out BK143.out (by decide)) (fun _ hk => hk.2) (.slice Ao59 t128.length co59)) (fun _ hk => hk.2) (.int .i64 t131)) (fun _ hk => hk.2) (.int .i64 t132)) (fun _ hk => hk.2) (.int .i64 t133)) (fun _ hk => hk.2) (.slice Ao62 t134.length co62)) (fun _ hk => hk.2) (.slice Ao63 t137.length co63)) (fun _ hk => hk.2) (.slice Ao64 t140.length co64)) (fun _ hk => ⟨hk.1.1.1.1.1.1.2, ⟨hk.1.1.1.1.1.1.1.1, ⟨hk.1.1.1.1.1.1.1.2, ⟨hk.1.1.1.1.1.2, ⟨hk.1.1.1.1.2, ⟨hk.1.1.1.2, ⟨hk.1.1.2, hk.1.2⟩⟩⟩⟩⟩⟩⟩)))⟩; have n3_ : Aside0 (Kd.R (Kd.int .u8) 5 w65 w.heap.size (fun k_ => some k_ ≠ (.slice Ao49 t103.length co49 : Value).ownBlock ∧ some k_ ≠ (v122 : Value).ownBlock ∧ some k_ ≠ (v126 : Value).ownBlock ∧ some k_ ≠ (.slice Ao63 t137.length co63 : Value).ownBlock) (.slice Ao52 t115.length co52) t115) := ⟨(by rw [hw]; exact (by (with_reducible repeat (first | apply Kd.R_alloc | apply Kd.R_drewN | apply Kd.R_drew)); exact Kd.R_mono (Kd.R_far (p := ⟨gb143, 6, none⟩) (Kd.R_far (p := ⟨gb143, 5, none⟩) (Kd.R_far (p := ⟨gb143, 4, none⟩) (Kd.R_far (p := ⟨gb143, 3, none⟩) (Kd.R_far (p := ⟨gb143, 2, none⟩) (Kd.R_far (p := ⟨gb143, 1, none⟩) (Kd.R_far (p := ⟨gb143, 0, none⟩) (Kd.R_types HO117.out BK143.out (by decide)) (fun _ hk => hk.2) (.slice Ao59 t128.length co59)) (fun _ hk => hk.2) (.int .i64 t131)) (fun _ hk => hk.2) (.int .i64 t132)) (fun _ hk => hk.2) (.int .i64 t133)) (fun _ hk => hk.2) (.slice Ao62 t134.length co62)) (fun _ hk => hk.2) (.slice Ao63 t137.length co63)) (fun _ hk => hk.2) (.slice Ao64 t140.length co64)) (fun _ hk => ⟨hk.1.1.1.1.2, ⟨hk.1.1.1.2, ⟨hk.1.1.2, hk.1.2⟩⟩⟩)))⟩; have n4_ : Aside0 (Kd.R (Kd.int .i64) 3 w65 w.heap.size (fun k_ => some k_ ≠ (.slice Ao64 t140.length co64 : Value).ownBlock) (.slice Ao53 t118.length co53) t118) := ⟨(by rw [hw]; exact (by (with_reducible repeat (first | apply Kd.R_alloc | apply Kd.R_drewN | apply Kd.R_drew)); exact Kd.R_mono (Kd.R_far (p := ⟨gb143, 6, none⟩) (Kd.R_far (p := ⟨gb143, 5, none⟩) (Kd.R_far (p := ⟨gb143, 4, none⟩) (Kd.R_far (p := ⟨gb143, 3, none⟩) (Kd.R_far (p := ⟨gb143, 2, none⟩) (Kd.R_far (p := ⟨gb143, 1, none⟩) (Kd.R_far (p := ⟨gb143, 0, none⟩) (Kd.R_types HO120.out BK143.out (by decide)) (fun _ hk => hk.2) (.slice Ao59 t128.length co59)) (fun _ hk => hk.2) (.int .i64 t131)) (fun _ hk => hk.2) (.int .i64 t132)) (fun _ hk => hk.2) (.int .i64 t133)) (fun _ hk => hk.2) (.slice Ao62 t134.length co62)) (fun _ hk => hk.2) (.slice Ao63 t137.length co63)) (fun _ hk => hk.2) (.slice Ao64 t140.length co64)) (fun _ hk => hk.1.2)))⟩; have n5_ : Aside0 (Kd.R (Kd.int .u8) 5 w65 w.heap.size (fun k_ => some k_ ≠ (.slice Ao49 t103.length co49 : Value).ownBlock ∧ some k_ ≠ (.slice Ao52 t115.length co52 : Value).ownBlock ∧ some k_ ≠ (v126 : Value).ownBlock ∧ some k_ ≠ (.slice Ao63 t137.length co63 : Value).ownBlock) v122 t121) := ⟨(by rw [hw]; exact (by (with_reducible repeat (first | apply Kd.R_alloc | apply Kd.R_drewN | apply Kd.R_drew)); exact Kd.R_mono (Kd.R_far (p := ⟨gb143, 6, none⟩) (Kd.R_far (p := ⟨gb143, 5, none⟩) (Kd.R_far (p := ⟨gb143, 4, none⟩) (Kd.R_far (p := ⟨gb143, 3, none⟩) (Kd.R_far (p := ⟨gb143, 2, none⟩) (Kd.R_far (p := ⟨gb143, 1, none⟩) (Kd.R_far (p := ⟨gb143, 0, none⟩) (Kd.R_types HO123.out BK143.out (by decide)) (fun _ hk => hk.2) (.slice Ao59 t128.length co59)) (fun _ hk => hk.2) (.int .i64 t131)) (fun _ hk => hk.2) (.int .i64 t132)) (fun _ hk => hk.2) (.int .i64 t133)) (fun _ hk => hk.2) (.slice Ao62 t134.length co62)) (fun _ hk => hk.2) (.slice Ao63 t137.length co63)) (fun _ hk => hk.2) (.slice Ao64 t140.length co64)) (fun _ hk => ⟨hk.1.1.1.1.2, ⟨hk.1.1.1.2, ⟨hk.1.1.2, hk.1.2⟩⟩⟩)))⟩; have n6_ : Aside0 (Kd.R (Kd.int .u8) 5 w65 w.heap.size (fun k_ => some k_ ≠ (.slice Ao49 t103.length co49 : Value).ownBlock ∧ some k_ ≠ (.slice Ao52 t115.length co52 : Value).ownBlock ∧ some k_ ≠ (v122 : Value).ownBlock ∧ some k_ ≠ (.slice Ao63 t137.length co63 : Value).ownBlock) v126 t125) := ⟨(by rw [hw]; exact (by (with_reducible repeat (first | apply Kd.R_alloc | apply Kd.R_drewN | apply Kd.R_drew)); exact Kd.R_mono (Kd.R_far (p := ⟨gb143, 6, none⟩) (Kd.R_far (p := ⟨gb143, 5, none⟩) (Kd.R_far (p := ⟨gb143, 4, none⟩) (Kd.R_far (p := ⟨gb143, 3, none⟩) (Kd.R_far (p := ⟨gb143, 2, none⟩) (Kd.R_far (p := ⟨gb143, 1, none⟩) (Kd.R_far (p := ⟨gb143, 0, none⟩) (Kd.R_types HO127.out BK143.out (by decide)) (fun _ hk => hk.2) (.slice Ao59 t128.length co59)) (fun _ hk => hk.2) (.int .i64 t131)) (fun _ hk => hk.2) (.int .i64 t132)) (fun _ hk => hk.2) (.int .i64 t133)) (fun _ hk => hk.2) (.slice Ao62 t134.length co62)) (fun _ hk => hk.2) (.slice Ao63 t137.length co63)) (fun _ hk => hk.2) (.slice Ao64 t140.length co64)) (fun _ hk => ⟨hk.1.1.1.1.2, ⟨hk.1.1.1.2, ⟨hk.1.1.2, hk.1.2⟩⟩⟩)))⟩; have n7_ : Aside0 (Kd.S (Kd.slice 5 (Kd.int .u8)) 31 w65 w.heap.size (fun k_ => some k_ ≠ (.slice Ao49 t103.length co49 : Value).ownBlock ∧ some k_ ≠ (.slice Ao50 t106.length co50 : Value).ownBlock ∧ some k_ ≠ (.slice Ao51 t112.length co51 : Value).ownBlock ∧ some k_ ≠ (.slice Ao52 t115.length co52 : Value).ownBlock ∧ some k_ ≠ (v122 : Value).ownBlock ∧ some k_ ≠ (v126 : Value).ownBlock ∧ some k_ ≠ (.slice Ao62 t134.length co62 : Value).ownBlock ∧ some k_ ≠ (.slice Ao63 t137.length co63 : Value).ownBlock) (.slice Ao59 t128.length co59) t128) := ⟨(by rw [hw]; exact (by (with_reducible repeat (first | apply Kd.S_alloc | apply Kd.S_drewN | apply Kd.S_drew)); exact Kd.S_mono (Kd.S_far (p := ⟨gb143, 6, none⟩) (Kd.S_far (p := ⟨gb143, 5, none⟩) (Kd.S_far (p := ⟨gb143, 4, none⟩) (Kd.S_far (p := ⟨gb143, 3, none⟩) (Kd.S_far (p := ⟨gb143, 2, none⟩) (Kd.S_far (p := ⟨gb143, 1, none⟩) (Kd.S_far (p := ⟨gb143, 0, none⟩) (Kd.S_types HO130.out BK143.out (by decide)) (fun _ hk => hk.2) (.slice Ao59 t128.length co59)) (fun _ hk => hk.2) (.int .i64 t131)) (fun _ hk => hk.2) (.int .i64 t132)) (fun _ hk => hk.2) (.int .i64 t133)) (fun _ hk => hk.2) (.slice Ao62 t134.length co62)) (fun _ hk => hk.2) (.slice Ao63 t137.length co63)) (fun _ hk => hk.2) (.slice Ao64 t140.length co64)) (fun _ hk => ⟨hk.1.1.1.1.1.1.2, ⟨hk.1.1.1.1.1.2, ⟨hk.1.1.1.1.2, ⟨hk.1.1.1.2, ⟨hk.1.1.2, ⟨hk.1.2, ⟨hk.1.1.1.1.1.1.1.1, hk.1.1.1.1.1.1.1.2⟩⟩⟩⟩⟩⟩⟩)))⟩; have n8_ : Aside0 (Kd.S (Kd.slice 5 (Kd.int .u8)) 31 w65 w.heap.size (fun k_ => some k_ ≠ (.slice Ao49 t103.length co49 : Value).ownBlock ∧ some k_ ≠ (.slice Ao50 t106.length co50 : Value).ownBlock ∧ some k_ ≠ (.slice Ao51 t112.length co51 : Value).ownBlock ∧ some k_ ≠ (.slice Ao52 t115.length co52 : Value).ownBlock ∧ some k_ ≠ (v122 : Value).ownBlock ∧ some k_ ≠ (v126 : Value).ownBlock ∧ some k_ ≠ (.slice Ao59 t128.length co59 : Value).ownBlock ∧ some k_ ≠ (.slice Ao63 t137.length co63 : Value).ownBlock) (.slice Ao62 t134.length co62) t134) := ⟨(by rw [hw]; exact (by (with_reducible repeat (first | apply Kd.S_alloc | apply Kd.S_drewN | apply Kd.S_drew)); exact Kd.S_mono (Kd.S_far (p := ⟨gb143, 6, none⟩) (Kd.S_far (p := ⟨gb143, 5, none⟩) (Kd.S_far (p := ⟨gb143, 4, none⟩) (Kd.S_far (p := ⟨gb143, 3, none⟩) (Kd.S_far (p := ⟨gb143, 2, none⟩) (Kd.S_far (p := ⟨gb143, 1, none⟩) (Kd.S_far (p := ⟨gb143, 0, none⟩) (Kd.S_types HO136.out BK143.out (by decide)) (fun _ hk => hk.2) (.slice Ao59 t128.length co59)) (fun _ hk => hk.2) (.int .i64 t131)) (fun _ hk => hk.2) (.int .i64 t132)) (fun _ hk => hk.2) (.int .i64 t133)) (fun _ hk => hk.2) (.slice Ao62 t134.length co62)) (fun _ hk => hk.2) (.slice Ao63 t137.length co63)) (fun _ hk => hk.2) (.slice Ao64 t140.length co64)) (fun _ hk => ⟨hk.1.1.1.1.1.1.2, ⟨hk.1.1.1.1.1.2, ⟨hk.1.1.1.1.2, ⟨hk.1.1.1.2, ⟨hk.1.1.2, ⟨hk.1.2, ⟨hk.1.1.1.1.1.1.1.1, hk.1.1.1.1.1.1.1.2⟩⟩⟩⟩⟩⟩⟩)))⟩; have n9_ : Aside0 (Kd.R (Kd.int .u8) 5 w65 w.heap.size (fun k_ => some k_ ≠ (.slice Ao49 t103.length co49 : Value).ownBlock ∧ some k_ ≠ (.slice Ao52 t115.length co52 : Value).ownBlock ∧ some k_ ≠ (v122 : Value).ownBlock ∧ some k_ ≠ (v126 : Value).ownBlock) (.slice Ao63 t137.length co63) t137) := ⟨(by rw [hw]; exact (by (with_reducible repeat (first | apply Kd.R_alloc | apply Kd.R_drewN | apply Kd.R_drew)); exact Kd.R_mono (Kd.R_far (p := ⟨gb143, 6, none⟩) (Kd.R_far (p := ⟨gb143, 5, none⟩) (Kd.R_far (p := ⟨gb143, 4, none⟩) (Kd.R_far (p := ⟨gb143, 3, none⟩) (Kd.R_far (p := ⟨gb143, 2, none⟩) (Kd.R_far (p := ⟨gb143, 1, none⟩) (Kd.R_far (p := ⟨gb143, 0, none⟩) (Kd.R_types HO139.out BK143.out (by decide)) (fun _ hk => hk.2) (.slice Ao59 t128.length co59)) (fun _ hk => hk.2) (.int .i64 t131)) (fun _ hk => hk.2) (.int .i64 t132)) (fun _ hk => hk.2) (.int .i64 t133)) (fun _ hk => hk.2) (.slice Ao62 t134.length co62)) (fun _ hk => hk.2) (.slice Ao63 t137.length co63)) (fun _ hk => hk.2) (.slice Ao64 t140.length co64)) (fun _ hk => ⟨hk.1.1.1.1.2, ⟨hk.1.1.1.2, ⟨hk.1.1.2, hk.1.2⟩⟩⟩)))⟩; have n10_ : Aside0 (Kd.R (Kd.int .i64) 3 w65 w.heap.size (fun k_ => some k_ ≠ (.slice Ao53 t118.length co53 : Value).ownBlock) (.slice Ao64 t140.length co64) t140) := ⟨(by rw [hw]; exact (by (with_reducible repeat (first | apply Kd.R_alloc | apply Kd.R_drewN | apply Kd.R_drew)); exact Kd.R_mono (Kd.R_far (p := ⟨gb143, 6, none⟩) (Kd.R_far (p := ⟨gb143, 5, none⟩) (Kd.R_far (p := ⟨gb143, 4, none⟩) (Kd.R_far (p := ⟨gb143, 3, none⟩) (Kd.R_far (p := ⟨gb143, 2, none⟩) (Kd.R_far (p := ⟨gb143, 1, none⟩) (Kd.R_far (p := ⟨gb143, 0, none⟩) (Kd.R_types HO142.out BK143.out (by decide)) (fun _ hk => hk.2) (.slice Ao59 t128.length co59)) (fun _ hk => hk.2) (.int .i64 t131)) (fun _ hk => hk.2) (.int .i64 t132)) (fun _ hk => hk.2) (.int .i64 t133)) (fun _ hk => hk.2) (.slice Ao62 t134.length co62)) (fun _ hk => hk.2) (.slice Ao63 t137.length co63)) (fun _ hk => hk.2) (.slice Ao64 t140.length co64)) (fun _ hk => hk.1.2)))⟩; have n11_ : Aside0 (w65.heap[gb101]? = some (.cells #[.slice A1_0 l1_0.length c1_0, .int .i64 a1_1, .int .i64 a1_2, .int .i64 a1_3, .slice A1_4 l1_4.length c1_4, .slice A1_5 l1_5.length c1_5, .slice A1_6 l1_6.length c1_6] 44 (0, 0))) := ⟨(by rw [hw]; exact (by (with_reducible repeat (first | refine blk_drewN ?_ _ | refine blk_drew ?_ | refine blk_alloc ?_ _)); refine blk_far ?_ NB101_143.out _; (with_reducible repeat (first | refine blk_drewN ?_ _ | refine blk_drew ?_ | refine blk_alloc ?_ _)); refine blk_far ?_ NB101_143.out _; (with_reducible repeat (first | refine blk_drewN ?_ _ | refine blk_drew ?_ | refine blk_alloc ?_ _)); refine blk_far ?_ NB101_143.out _; (with_reducible repeat (first | refine blk_drewN ?_ _ | refine blk_drew ?_ | refine blk_alloc ?_ _)); refine blk_far ?_ NB101_143.out _; (with_reducible repeat (first | refine blk_drewN ?_ _ | refine blk_drew ?_ | refine blk_alloc ?_ _)); refine blk_far ?_ NB101_143.out _; (with_reducible repeat (first | refine blk_drewN ?_ _ | refine blk_drew ?_ | refine blk_alloc ?_ _)); refine blk_far ?_ NB101_143.out _; (with_reducible repeat (first | refine blk_drewN ?_ _ | refine blk_drew ?_ | refine blk_alloc ?_ _)); refine blk_far ?_ NB101_143.out _; (with_reducible repeat (first | refine blk_drewN ?_ _ | refine blk_drew ?_ | refine blk_alloc ?_ _)); exact BK101.out))⟩; have n12_ : Aside0 (w65.heap[gb143]? = some (.cells #[.slice Ao59 t128.length co59, .int .i64 t131, .int .i64 t132, .int .i64 t133, .slice Ao62 t134.length co62, .slice Ao63 t137.length co63, .slice Ao64 t140.length co64] 48 (0, 0))) := ⟨(by rw [hw]; exact (by (with_reducible repeat (first | refine blk_drewN ?_ _ | refine blk_drew ?_ | refine blk_alloc ?_ _)); refine blk_put (cs := #[.slice Ao59 t128.length co59, .int .i64 t131, .int .i64 t132, .int .i64 t133, .slice Ao62 t134.length co62, .slice Ao63 t137.length co63, .slice none 0 0]) ?_ 6 _ rfl; (with_reducible repeat (first | refine blk_drewN ?_ _ | refine blk_drew ?_ | refine blk_alloc ?_ _)); refine blk_put (cs := #[.slice Ao59 t128.length co59, .int .i64 t131, .int .i64 t132, .int .i64 t133, .slice Ao62 t134.length co62, .slice none 0 0, .slice none 0 0]) ?_ 5 _ rfl; (with_reducible repeat (first | refine blk_drewN ?_ _ | refine blk_drew ?_ | refine blk_alloc ?_ _)); refine blk_put (cs := #[.slice Ao59 t128.length co59, .int .i64 t131, .int .i64 t132, .int .i64 t133, .slice none 0 0, .slice none 0 0, .slice none 0 0]) ?_ 4 _ rfl; (with_reducible repeat (first | refine blk_drewN ?_ _ | refine blk_drew ?_ | refine blk_alloc ?_ _)); refine blk_put (cs := #[.slice Ao59 t128.length co59, .int .i64 t131, .int .i64 t132, .int .i64 0, .slice none 0 0, .slice none 0 0, .slice none 0 0]) ?_ 3 _ rfl; (with_reducible repeat (first | refine blk_drewN ?_ _ | refine blk_drew ?_ | refine blk_alloc ?_ _)); refine blk_put (cs := #[.slice Ao59 t128.length co59, .int .i64 t131, .int .i64 0, .int .i64 0, .slice none 0 0, .slice none 0 0, .slice none 0 0]) ?_ 2 _ rfl; (with_reducible repeat (first | refine blk_drewN ?_ _ | refine blk_drew ?_ | refine blk_alloc ?_ _)); refine blk_put (cs := #[.slice Ao59 t128.length co59, .int .i64 0, .int .i64 0, .int .i64 0, .slice none 0 0, .slice none 0 0, .slice none 0 0]) ?_ 1 _ rfl; (with_reducible repeat (first | refine blk_drewN ?_ _ | refine blk_drew ?_ | refine blk_alloc ?_ _)); refine blk_put (cs := #[.slice none 0 0, .int .i64 0, .int .i64 0, .int .i64 0, .slice none 0 0, .slice none 0 0, .slice none 0 0]) ?_ 0 _ rfl; (with_reducible repeat (first | refine blk_drewN ?_ _ | refine blk_drew ?_ | refine blk_alloc ?_ _)); exact BK143.out))⟩; have n13_ : Aside0 (Below w.heap.size w w65) := ⟨(by rw [hw]; exact (by repeat (first | exact bw HB.out | refine below_set ?_ GE101.out | refine below_set ?_ GE143.out)))⟩; clear hw; clear HO105; clear HO108; clear HO114; clear HO117; clear HO120; clear HO123; clear HO127; clear HO130; clear HO136; clear HO139; clear HO142; clear BK101; clear BK143; clear HB; have HO105 := n0_; have HO108 := n1_; have HO114 := n2_; have HO117 := n3_; have HO120 := n4_; have HO123 := n5_; have HO127 := n6_; have HO130 := n7_; have HO136 := n8_; have HO139 := n9_; have HO142 := n10_; have BK101 := n11_; have BK143 := n12_; have HB := n13_; clear n0_ n1_ n2_ n3_ n4_ n5_ n6_ n7_ n8_ n9_ n10_ n11_ n12_ n13_; obtain ⟨hcz66_0, hcz66_1, hcz66_2, hcz66_3, hcz66_4, hcz66_5, hcz66_6, hfz66_0, hfz66_1, hfz66_2, hfz66_3, hfz66_4, hfz66_5, hfz66_6⟩ := cells7 BK143.out; obtain ⟨Ao67, co67, eo67⟩ := Kd.R_slice HO127.out; subst eo67) | ((with_reducible refine gate_callee (f := 48) rfl ?_); refine goesL_ (some 40) rfl rfl Try.func48 (by kernel_rfl) rfl #[.slice Ao67 t125.length co67, .agg #[.slice Ao59 t128.length co59, .int .i64 t131, .int .i64 t132, .int .i64 t133, .slice Ao62 t134.length co62, .slice Ao63 t137.length co63, .slice Ao64 t140.length co64]] rfl (by (try simp only [List.map_toArray, List.map_cons, List.map_nil]); first | done | rfl | (simp only [List.length_drop, List.length_take]; rfl)) ?_; (with_reducible refine (impl_RrPut.calls k (fun k_ => some k_ = (.slice Ao67 t125.length co67 : Value).ownBlock) _ _ t125 _ _ t128 t131 t132 t133 _ _ t134 _ _ t137 _ _ t140 t144 t147 _ ?side1 ?side2 ?side3 ?side4 ?side5 ?side6 ?side7 ?side8 ?side9 A15.out).mono ?_); (case side1 => exact Kd.R_V (Kd.R_tight rfl (Kd.R_types (Kd.R_types (Kd.R_apart' (Kd.R_apart' (Kd.R_apart' (Kd.R_apart' (Kd.R_apart' (Kd.R_apart' (HO127.out) (Kd.S_typed HO108.out) (by decide)) (Kd.S_typed HO114.out) (by decide)) (Kd.R_typed HO120.out) (by decide)) (Kd.S_typed HO130.out) (by decide)) (Kd.S_typed HO136.out) (by decide)) (Kd.R_typed HO142.out) (by decide)) BK101.out (by decide)) BK143.out (by decide)))); (case side2 => repeat (first | exact (Kd.S_reads' HO130.out).2.2 | (with_reducible refine Kd.C_alloc ?_ _) | (with_reducible refine Kd.C_drewN ?_ _) | (with_reducible refine Kd.C_drew ?_))); (case side3 => exact (Kd.S_reads' HO130.out).2.1); (case side4 => repeat (first | exact (Kd.S_reads' HO136.out).2.2 | (with_reducible refine Kd.C_alloc ?_ _) | (with_reducible refine Kd.C_drewN ?_ _) | (with_reducible refine Kd.C_drew ?_))); (case side5 => exact (Kd.S_reads' HO136.out).2.1); (case side6 => repeat (first | exact (Kd.R_reads' HO139.out).2.2 | (with_reducible refine Kd.C_alloc ?_ _) | (with_reducible refine Kd.C_drewN ?_ _) | (with_reducible refine Kd.C_drew ?_))); (case side7 => exact (Kd.R_reads' HO139.out).2.1); (case side8 => repeat (first | exact (Kd.R_reads' HO142.out).2.2 | (with_reducible refine Kd.C_alloc ?_ _) | (with_reducible refine Kd.C_drewN ?_ _) | (with_reducible refine Kd.C_drew ?_))); (case side9 => exact (Kd.R_reads' HO142.out).2.1); rintro e w68 ⟨v145, rfl, ho0, hb⟩; refine ⟨_, rfl, ?_⟩; replace HO108 := Aside0.mk (Kd.S_elder' (sw HO108.out) (Kd.R_base ho0) hb); replace HO114 := Aside0.mk (Kd.S_elder' (sw HO114.out) (Kd.R_base ho0) hb); replace HO120 := Aside0.mk (Kd.R_below (rw_ HO120.out) hb); replace HO130 := Aside0.mk (Kd.S_elder' (sw HO130.out) (Kd.R_base ho0) hb); replace HO136 := Aside0.mk (Kd.S_elder' (sw HO136.out) (Kd.R_base ho0) hb); replace HO142 := Aside0.mk (Kd.R_below (rw_ HO142.out) hb); have HO146 := Aside0.mk (Kd.R_lower (Kd.R_new' (Kd.R_new' (Kd.R_new' (Kd.R_new' (Kd.R_new' (Kd.R_mono (ok' := fun k_ => True) ho0 (fun _ hk_ => trivial)) (Kd.R_lt (rw_ HO105.out))) (Kd.R_lt (rw_ HO117.out))) (Kd.R_lt (rw_ HO123.out))) (Kd.R_lt (rw_ HO127.out))) (Kd.R_lt (rw_ HO139.out))) (below_size (by repeat (first | exact bw HB.out | refine below_set ?_ GE101.out | refine below_set ?_ GE143.out)))); replace HO105 := Aside0.mk (Kd.R_elder' (rw_ HO105.out) (Kd.R_base ho0) hb); replace HO117 := Aside0.mk (Kd.R_elder' (rw_ HO117.out) (Kd.R_base ho0) hb); replace HO123 := Aside0.mk (Kd.R_elder' (rw_ HO123.out) (Kd.R_base ho0) hb); replace HO127 := Aside0.mk (Kd.R_elder' (rw_ HO127.out) (Kd.R_base ho0) hb); replace HO139 := Aside0.mk (Kd.R_elder' (rw_ HO139.out) (Kd.R_base ho0) hb); replace BK101 := Aside0.mk (blk_below (bk BK101.out) hb); replace BK143 := Aside0.mk (blk_below (bk BK143.out) hb); replace HB := Aside0.mk (below_step (by repeat (first | exact bw HB.out | refine below_set ?_ GE101.out | refine below_set ?_ GE143.out)) hb); (try clear hb); (try clear ho0); obtain ⟨Ao69, co69, eo69⟩ := Kd.R_slice HO146.out; subst eo69; obtain ⟨Ao70, co70, eo70⟩ := Kd.R_slice HO123.out; subst eo70) | ((with_reducible refine gate_callee (f := 21) rfl ?_); refine goesL_ (some 45) rfl rfl Try.func21 (by kernel_rfl) rfl #[.slice Ao69 t144.length co69, .slice Ao70 t121.length co70] rfl (by (try simp only [List.map_toArray, List.map_cons, List.map_nil]); first | done | rfl | (simp only [List.length_drop, List.length_take]; rfl)) ?_; (with_reducible refine (laws_eqByteS.calls k _ _ t144 _ _ t121 true _ ?side1 ?side2 ?side3 ?side4 A16.out).mono ?_); (case side1 => repeat (first | exact (Kd.R_reads' HO146.out).2.2 | (with_reducible refine Kd.C_alloc ?_ _) | (with_reducible refine Kd.C_drewN ?_ _) | (with_reducible refine Kd.C_drew ?_))); (case side2 => exact (Kd.R_reads' HO146.out).2.1); (case side3 => repeat (first | exact (Kd.R_reads' HO123.out).2.2 | (with_reducible refine Kd.C_alloc ?_ _) | (with_reducible refine Kd.C_drewN ?_ _) | (with_reducible refine Kd.C_drew ?_))); (case side4 => exact (Kd.R_reads' HO123.out).2.1); rintro e w' ⟨rfl, ⟨nd, rfl⟩⟩; refine ⟨_, rfl, ?_⟩) | ((with_reducible refine gate_callee (f := 19) rfl ?_); refine goesL_ (some 54) rfl rfl Try.func19 (by kernel_rfl) rfl #[.slice A0 l0.length c0] rfl (by (try simp only [List.map_toArray, List.map_cons, List.map_nil]); first | done | rfl | (simp only [List.length_drop, List.length_take]; rfl)) ?_; (with_reducible refine (laws_toByteS.calls k _ _ l0 t149 _ ?side1 ?side2 A19.out).mono ?_); (case side1 => repeat (first | exact (Kd.C_below HR0.out (by repeat (first | exact bw HB.out | refine below_set ?_ GE101.out | refine below_set ?_ GE143.out))) | (with_reducible refine Kd.C_alloc ?_ _) | (with_reducible refine Kd.C_drewN ?_ _) | (with_reducible refine Kd.C_drew ?_))); (case side2 => exact HC0.out); rintro e w71 ⟨v150, rfl, ho0, hb⟩; refine ⟨_, rfl, ?_⟩; replace HO108 := Aside0.mk (Kd.S_elder' (sw HO108.out) (Kd.R_base ho0) hb); replace HO114 := Aside0.mk (Kd.S_elder' (sw HO114.out) (Kd.R_base ho0) hb); replace HO120 := Aside0.mk (Kd.R_below (rw_ HO120.out) hb); replace HO130 := Aside0.mk (Kd.S_elder' (sw HO130.out) (Kd.R_base ho0) hb); replace HO136 := Aside0.mk (Kd.S_elder' (sw HO136.out) (Kd.R_base ho0) hb); replace HO142 := Aside0.mk (Kd.R_below (rw_ HO142.out) hb); have HO151 := Aside0.mk (Kd.R_lower (Kd.R_new' (Kd.R_new' (Kd.R_new' (Kd.R_new' (Kd.R_new' (Kd.R_new' ho0 (Kd.R_lt (rw_ HO105.out))) (Kd.R_lt (rw_ HO117.out))) (Kd.R_lt (rw_ HO123.out))) (Kd.R_lt (rw_ HO127.out))) (Kd.R_lt (rw_ HO139.out))) (Kd.R_lt (rw_ HO146.out))) (below_size (by repeat (first | exact bw HB.out | refine below_set ?_ GE101.out | refine below_set ?_ GE143.out)))); replace HO105 := Aside0.mk (Kd.R_elder' (rw_ HO105.out) (Kd.R_base ho0) hb); replace HO117 := Aside0.mk (Kd.R_elder' (rw_ HO117.out) (Kd.R_base ho0) hb); replace HO123 := Aside0.mk (Kd.R_elder' (rw_ HO123.out) (Kd.R_base ho0) hb); replace HO127 := Aside0.mk (Kd.R_elder' (rw_ HO127.out) (Kd.R_base ho0) hb); replace HO139 := Aside0.mk (Kd.R_elder' (rw_ HO139.out) (Kd.R_base ho0) hb); replace HO146 := Aside0.mk (Kd.R_elder' (rw_ HO146.out) (Kd.R_base ho0) hb); replace BK101 := Aside0.mk (blk_below (bk BK101.out) hb); replace BK143 := Aside0.mk (blk_below (bk BK143.out) hb); replace HB := Aside0.mk (below_step (by repeat (first | exact bw HB.out | refine below_set ?_ GE101.out | refine below_set ?_ GE143.out)) hb); (try clear hb); (try clear ho0); obtain ⟨Ao72, co72, eo72⟩ := Kd.R_slice HO151.out; subst eo72) | ((with_reducible refine gate_callee (f := 21) rfl ?_); refine goesL_ (some 55) rfl rfl Try.func21 (by kernel_rfl) rfl #[.slice Ao67 t125.length co67, .slice Ao72 t149.length co72] rfl (by (try simp only [List.map_toArray, List.map_cons, List.map_nil]); first | done | rfl | (simp only [List.length_drop, List.length_take]; rfl)) ?_; (with_reducible refine (laws_eqByteS.calls k _ _ t125 _ _ t149 true _ ?side1 ?side2 ?side3 ?side4 A20.out).mono ?_); (case side1 => repeat (first | exact (Kd.R_reads' HO127.out).2.2 | (with_reducible refine Kd.C_alloc ?_ _) | (with_reducible refine Kd.C_drewN ?_ _) | (with_reducible refine Kd.C_drew ?_))); (case side2 => exact (Kd.R_reads' HO127.out).2.1); (case side3 => repeat (first | exact (Kd.R_reads' HO151.out).2.2 | (with_reducible refine Kd.C_alloc ?_ _) | (with_reducible refine Kd.C_drewN ?_ _) | (with_reducible refine Kd.C_drew ?_))); (case side4 => exact (Kd.R_reads' HO151.out).2.1); rintro e w' ⟨rfl, ⟨nd, rfl⟩⟩; refine ⟨_, rfl, ?_⟩))
               (try (rw [drewN_self w71]; generalize hq_ : World.drewN w71 _ = w71; replace HO105 := Aside0.mk (Kd.R_at hq_ HO105.out); replace HO108 := Aside0.mk (Kd.S_at hq_ HO108.out); replace HO114 := Aside0.mk (Kd.S_at hq_ HO114.out); replace HO117 := Aside0.mk (Kd.R_at hq_ HO117.out); replace HO120 := Aside0.mk (Kd.R_at hq_ HO120.out); replace HO123 := Aside0.mk (Kd.R_at hq_ HO123.out); replace HO127 := Aside0.mk (Kd.R_at hq_ HO127.out); replace HO130 := Aside0.mk (Kd.S_at hq_ HO130.out); replace HO136 := Aside0.mk (Kd.S_at hq_ HO136.out); replace HO139 := Aside0.mk (Kd.R_at hq_ HO139.out); replace HO142 := Aside0.mk (Kd.R_at hq_ HO142.out); replace HO146 := Aside0.mk (Kd.R_at hq_ HO146.out); replace HO151 := Aside0.mk (Kd.R_at hq_ HO151.out); replace BK101 := Aside0.mk (blk_at hq_ BK101.out); replace BK143 := Aside0.mk (blk_at hq_ BK143.out); replace HB := Aside0.mk (below_at hq_ HB.out); clear hq_))
               have n0_ := Aside0.mk (Kd.R_drew HO105.out)
               have n1_ := Aside0.mk (Kd.S_drew HO108.out)
               have n2_ := Aside0.mk (Kd.S_drew HO114.out)
               have n3_ := Aside0.mk (Kd.R_drew HO117.out)
               have n4_ := Aside0.mk (Kd.R_drew HO120.out)
               have n5_ := Aside0.mk (Kd.R_drew HO123.out)
               have n6_ := Aside0.mk (Kd.R_drew HO127.out)
               have n7_ := Aside0.mk (Kd.S_drew HO130.out)
               have n8_ := Aside0.mk (Kd.S_drew HO136.out)
               have n9_ := Aside0.mk (Kd.R_drew HO139.out)
               have n10_ := Aside0.mk (Kd.R_drew HO142.out)
               have n11_ := Aside0.mk (Kd.R_drew HO146.out)
               have n12_ := Aside0.mk (Kd.R_drew HO151.out)
               have n13_ := Aside0.mk (blk_drew BK101.out)
               have n14_ := Aside0.mk (blk_drew BK143.out)
               have n15_ := Aside0.mk (below_drew1 HB.out)
               clear HO105
               clear HO108
               clear HO114
               clear HO117
               clear HO120
               clear HO123
               clear HO127
               clear HO130
               clear HO136
               clear HO139
               clear HO142
               clear HO146
               clear HO151
               clear BK101
               clear BK143
               clear HB
               have HO105 := n0_
               have HO108 := n1_
               have HO114 := n2_
               have HO117 := n3_
               have HO120 := n4_
               have HO123 := n5_
               have HO127 := n6_
               have HO130 := n7_
               have HO136 := n8_
               have HO139 := n9_
               have HO142 := n10_
               have HO146 := n11_
               have HO151 := n12_
               have BK101 := n13_
               have BK143 := n14_
               have HB := n15_
               clear n0_ n1_ n2_ n3_ n4_ n5_ n6_ n7_ n8_ n9_ n10_ n11_ n12_ n13_ n14_ n15_
               refine start_ (n := 5) (S := fun w' => w'.cell? ⟨gb143, 0, none⟩ = some (.slice Ao59 t128.length co59) ∧ w'.cell? ⟨gb143, 1, none⟩ = some (.int .i64 t131) ∧ w'.cell? ⟨gb143, 2, none⟩ = some (.int .i64 t132) ∧ w'.cell? ⟨gb143, 3, none⟩ = some (.int .i64 t133) ∧ w'.cell? ⟨gb143, 4, none⟩ = some (.slice Ao62 t134.length co62) ∧ w'.cell? ⟨gb143, 5, none⟩ = some (.slice Ao63 t137.length co63) ∧ w'.cell? ⟨gb143, 6, none⟩ = some (.slice Ao64 t140.length co64) ∧ w'.cell? ⟨gb101, 0, none⟩ = some (.slice A1_0 l1_0.length c1_0) ∧ w'.cell? ⟨gb101, 1, none⟩ = some (.int .i64 a1_1) ∧ w'.cell? ⟨gb101, 2, none⟩ = some (.int .i64 a1_2) ∧ w'.cell? ⟨gb101, 3, none⟩ = some (.int .i64 a1_3) ∧ w'.cell? ⟨gb101, 4, none⟩ = some (.slice A1_4 l1_4.length c1_4) ∧ w'.cell? ⟨gb101, 5, none⟩ = some (.slice A1_5 l1_5.length c1_5) ∧ w'.cell? ⟨gb101, 6, none⟩ = some (.slice A1_6 l1_6.length c1_6)) (ds := []) #[false, false, false, false, false] (by kernel_rfl) rfl rfl ⟨(blk_cell BK143.out 0).trans rfl, (blk_cell BK143.out 1).trans rfl, (blk_cell BK143.out 2).trans rfl, (blk_cell BK143.out 3).trans rfl, (blk_cell BK143.out 4).trans rfl, (blk_cell BK143.out 5).trans rfl, (blk_cell BK143.out 6).trans rfl, (blk_cell BK101.out 0).trans rfl, (blk_cell BK101.out 1).trans rfl, (blk_cell BK101.out 2).trans rfl, (blk_cell BK101.out 3).trans rfl, (blk_cell BK101.out 4).trans rfl, (blk_cell BK101.out 5).trans rfl, (blk_cell BK101.out 6).trans rfl⟩ (fun hHeld => ?_)
               generalize w71.drew = w73 at HO105 HO108 HO114 HO117 HO120 HO123 HO127 HO130 HO136 HO139 HO142 HO146 HO151 BK101 BK143 HB hHeld ⊢
               refine take_ (i := 0) (N := some 57) (v := ?_) (a' := ?_) #[true, false, false, false, false] rfl rfl (by kernel_rfl) (fun _ _ _ h => h) (Or.inl ⟨by rfl, ?_⟩) hHeld ?_ ?_
               rotate_left; rintro w' ⟨s0, s1, s2, s3, s4, s5, s6, s7, s8, s9, s10, s11, s12, s13⟩; go_simp; with_reducible rfl; rotate_left; go_simp; rfl
               refine take_ (i := 1) (N := some 58) (v := ?_) (a' := ?_) #[true, true, false, false, false] rfl rfl (by kernel_rfl) (fun _ _ _ h => h) (Or.inl ⟨by rfl, ?_⟩) hHeld ?_ ?_
               rotate_left; rintro w' ⟨s0, s1, s2, s3, s4, s5, s6, s7, s8, s9, s10, s11, s12, s13⟩; go_simp; with_reducible rfl; rotate_left; go_simp; rfl
               refine one_ (i := 2) (N := some 59) #[true, true, true, false, false] rfl rfl (by kernel_rfl) (by decide) (fun K hK => ?_)
               refine goes_ Try.func30 (by kernel_rfl) rfl #[.agg #[.slice A1_0 l1_0.length c1_0, .int .i64 a1_1, .int .i64 a1_2, .int .i64 a1_3, .slice A1_4 l1_4.length c1_4, .slice A1_5 l1_5.length c1_5, .slice A1_6 l1_6.length c1_6]] (by rfl) rfl rfl (by (try simp only [List.map_toArray, List.map_cons, List.map_nil]); first | done | rfl | (simp only [List.length_drop, List.length_take]; rfl)) ?_
               with_reducible refine (laws_toRr.calls k _ _ l1_0 a1_1 a1_2 a1_3 _ _ l1_4 _ _ l1_5 _ _ l1_6 t153 t156 t157 t158 t159 t162 t165 _ ?side1 ?side2 ?side3 ?side4 ?side5 ?side6 ?side7 ?side8 A22.out).mono ?_
               (case side1 => exact cw HR1_0.out HB.out)
               (case side2 => exact HC1_0.out)
               (case side3 => exact cw HR1_4.out HB.out)
               (case side4 => exact HC1_4.out)
               (case side5 => exact cw HR1_5.out HB.out)
               (case side6 => exact HC1_5.out)
               (case side7 => exact cw HR1_6.out HB.out)
               (case side8 => exact HC1_6.out)
               rintro e w74 ⟨v154, v160, v163, v166, rfl, ho0, ho1, ho2, ho3, hb⟩
               refine ⟨_, rfl, ?_⟩
               have n0_ := Aside0.mk (Kd.R_elder' (rw_ HO105.out) (Kd.R_base ho2) hb)
               have n1_ := Aside0.mk (Kd.S_mono (Kd.S_told (Kd.S_told (Kd.S_told (Kd.S_old (sw HO108.out) hb) (Kd.S_base ho0)) (Kd.S_base ho1)) (Kd.R_base ho2)) (fun _ h_ => h_.1))
               have n2_ := Aside0.mk (Kd.S_mono (Kd.S_told (Kd.S_told (Kd.S_told (Kd.S_old (sw HO114.out) hb) (Kd.S_base ho0)) (Kd.S_base ho1)) (Kd.R_base ho2)) (fun _ h_ => h_.1))
               have n3_ := Aside0.mk (Kd.R_elder' (rw_ HO117.out) (Kd.R_base ho2) hb)
               have n4_ := Aside0.mk (Kd.R_elder' (rw_ HO120.out) (Kd.R_base ho3) hb)
               have n5_ := Aside0.mk (Kd.R_elder' (rw_ HO123.out) (Kd.R_base ho2) hb)
               have n6_ := Aside0.mk (Kd.R_elder' (rw_ HO127.out) (Kd.R_base ho2) hb)
               have n7_ := Aside0.mk (Kd.S_mono (Kd.S_told (Kd.S_told (Kd.S_told (Kd.S_old (sw HO130.out) hb) (Kd.S_base ho0)) (Kd.S_base ho1)) (Kd.R_base ho2)) (fun _ h_ => h_.1))
               have n8_ := Aside0.mk (Kd.S_mono (Kd.S_told (Kd.S_told (Kd.S_told (Kd.S_old (sw HO136.out) hb) (Kd.S_base ho0)) (Kd.S_base ho1)) (Kd.R_base ho2)) (fun _ h_ => h_.1))
               have n9_ := Aside0.mk (Kd.R_elder' (rw_ HO139.out) (Kd.R_base ho2) hb)
               have n10_ := Aside0.mk (Kd.R_elder' (rw_ HO142.out) (Kd.R_base ho3) hb)
               have n11_ := Aside0.mk (Kd.R_elder' (rw_ HO146.out) (Kd.R_base ho2) hb)
               have n12_ := Aside0.mk (Kd.R_elder' (rw_ HO151.out) (Kd.R_base ho2) hb)
               have n13_ := Aside0.mk (Kd.S_lower (Kd.S_new' (Kd.S_new' (Kd.S_new' (Kd.S_new' (Kd.S_new' (Kd.S_new' (Kd.S_new' (Kd.S_new' (Kd.S_new' (Kd.S_new' (Kd.S_new' ho0 (Kd.R_lt (rw_ HO105.out))) (Kd.S_lt (sw HO108.out))) (Kd.S_lt (sw HO114.out))) (Kd.R_lt (rw_ HO117.out))) (Kd.R_lt (rw_ HO123.out))) (Kd.R_lt (rw_ HO127.out))) (Kd.S_lt (sw HO130.out))) (Kd.S_lt (sw HO136.out))) (Kd.R_lt (rw_ HO139.out))) (Kd.R_lt (rw_ HO146.out))) (Kd.R_lt (rw_ HO151.out))) (below_size (by repeat (first | exact bw HB.out | refine below_set ?_ GE101.out | refine below_set ?_ GE143.out))))
               have n14_ := Aside0.mk (Kd.S_lower (Kd.S_new' (Kd.S_new' (Kd.S_new' (Kd.S_new' (Kd.S_new' (Kd.S_new' (Kd.S_new' (Kd.S_new' (Kd.S_new' (Kd.S_new' (Kd.S_new' ho1 (Kd.R_lt (rw_ HO105.out))) (Kd.S_lt (sw HO108.out))) (Kd.S_lt (sw HO114.out))) (Kd.R_lt (rw_ HO117.out))) (Kd.R_lt (rw_ HO123.out))) (Kd.R_lt (rw_ HO127.out))) (Kd.S_lt (sw HO130.out))) (Kd.S_lt (sw HO136.out))) (Kd.R_lt (rw_ HO139.out))) (Kd.R_lt (rw_ HO146.out))) (Kd.R_lt (rw_ HO151.out))) (below_size (by repeat (first | exact bw HB.out | refine below_set ?_ GE101.out | refine below_set ?_ GE143.out))))
               have n15_ := Aside0.mk (Kd.R_lower (Kd.R_new' (Kd.R_new' (Kd.R_new' (Kd.R_new' (Kd.R_new' (Kd.R_new' (Kd.R_new' ho2 (Kd.R_lt (rw_ HO105.out))) (Kd.R_lt (rw_ HO117.out))) (Kd.R_lt (rw_ HO123.out))) (Kd.R_lt (rw_ HO127.out))) (Kd.R_lt (rw_ HO139.out))) (Kd.R_lt (rw_ HO146.out))) (Kd.R_lt (rw_ HO151.out))) (below_size (by repeat (first | exact bw HB.out | refine below_set ?_ GE101.out | refine below_set ?_ GE143.out))))
               have n16_ := Aside0.mk (Kd.R_lower (Kd.R_new' (Kd.R_new' ho3 (Kd.R_lt (rw_ HO120.out))) (Kd.R_lt (rw_ HO142.out))) (below_size (by repeat (first | exact bw HB.out | refine below_set ?_ GE101.out | refine below_set ?_ GE143.out))))
               have n17_ := Aside0.mk (blk_below (bk BK101.out) hb)
               have n18_ := Aside0.mk (blk_below (bk BK143.out) hb)
               have n19_ := Aside0.mk (below_step (by repeat (first | exact bw HB.out | refine below_set ?_ GE101.out | refine below_set ?_ GE143.out)) hb)
               clear HO105
               clear HO108
               clear HO114
               clear HO117
               clear HO120
               clear HO123
               clear HO127
               clear HO130
               clear HO136
               clear HO139
               clear HO142
               clear HO146
               clear HO151
               clear BK101
               clear BK143
               clear HB
               have HO105 := n0_
               have HO108 := n1_
               have HO114 := n2_
               have HO117 := n3_
               have HO120 := n4_
               have HO123 := n5_
               have HO127 := n6_
               have HO130 := n7_
               have HO136 := n8_
               have HO139 := n9_
               have HO142 := n10_
               have HO146 := n11_
               have HO151 := n12_
               have HO155 := n13_
               have HO161 := n14_
               have HO164 := n15_
               have HO167 := n16_
               have BK101 := n17_
               have BK143 := n18_
               have HB := n19_
               clear n0_ n1_ n2_ n3_ n4_ n5_ n6_ n7_ n8_ n9_ n10_ n11_ n12_ n13_ n14_ n15_ n16_ n17_ n18_ n19_
               (try clear hb)
               (try clear hb2)
               (try clear hk)
               (try clear hi)
               (try clear ho0)
               (try clear ho1)
               (try clear ho2)
               (try clear ho3)
               obtain ⟨Ao75, co75, eo75⟩ := Kd.S_slice HO155.out
               (first | subst eo75 | (injection eo75 with f1_ f2_ f3_; have f4_ := f1_.symm; have f5_ := f3_.symm; clear f1_ f2_ f3_; subst f4_; subst f5_))
               obtain ⟨Ao76, co76, eo76⟩ := Kd.S_slice HO161.out
               (first | subst eo76 | (injection eo76 with f1_ f2_ f3_; have f4_ := f1_.symm; have f5_ := f3_.symm; clear f1_ f2_ f3_; subst f4_; subst f5_))
               obtain ⟨Ao77, co77, eo77⟩ := Kd.R_slice HO164.out
               (first | subst eo77 | (injection eo77 with f1_ f2_ f3_; have f4_ := f1_.symm; have f5_ := f3_.symm; clear f1_ f2_ f3_; subst f4_; subst f5_))
               obtain ⟨Ao78, co78, eo78⟩ := Kd.R_slice HO167.out
               (first | subst eo78 | (injection eo78 with f1_ f2_ f3_; have f4_ := f1_.symm; have f5_ := f3_.symm; clear f1_ f2_ f3_; subst f4_; subst f5_))
               refine hK.out _ _ ⟨(blk_cell BK143.out 0).trans rfl, (blk_cell BK143.out 1).trans rfl, (blk_cell BK143.out 2).trans rfl, (blk_cell BK143.out 3).trans rfl, (blk_cell BK143.out 4).trans rfl, (blk_cell BK143.out 5).trans rfl, (blk_cell BK143.out 6).trans rfl, (blk_cell BK101.out 0).trans rfl, (blk_cell BK101.out 1).trans rfl, (blk_cell BK101.out 2).trans rfl, (blk_cell BK101.out 3).trans rfl, (blk_cell BK101.out 4).trans rfl, (blk_cell BK101.out 5).trans rfl, (blk_cell BK101.out 6).trans rfl⟩ (fun hHeld => ?_)
               clear hK K
               refine norm_ (a' := ?_) ?_ ?_; rotate_left; go_simp; rfl
               refine one_ (i := 3) (N := some 60) #[true, true, true, true, false] rfl rfl (by kernel_rfl) (by decide) (fun K hK => ?_)
               refine goes_ Try.func32 (by kernel_rfl) rfl #[.agg #[.slice Ao59 t128.length co59, .int .i64 t131, .int .i64 t132, .int .i64 t133, .slice Ao62 t134.length co62, .slice Ao63 t137.length co63, .slice Ao64 t140.length co64], .agg #[.slice Ao75 t153.length co75, .int .i64 t156, .int .i64 t157, .int .i64 t158, .slice Ao76 t159.length co76, .slice Ao77 t162.length co77, .slice Ao78 t165.length co78]] (by rfl) rfl rfl (by (try simp only [List.map_toArray, List.map_cons, List.map_nil]); first | done | rfl | (simp only [List.length_drop, List.length_take]; rfl)) ?_
               with_reducible refine (laws_eqRr.calls k _ _ t128 t131 t132 t133 _ _ t134 _ _ t137 _ _ t140 _ _ t153 t156 t157 t158 _ _ t159 _ _ t162 _ _ t165 true _ ?side1 ?side2 ?side3 ?side4 ?side5 ?side6 ?side7 ?side8 ?side9 ?side10 ?side11 ?side12 ?side13 ?side14 ?side15 ?side16 A23.out).mono ?_
               (case side1 => repeat (first | exact (Kd.S_reads' HO130.out).2.2 | (with_reducible refine Kd.C_alloc ?_ _) | (with_reducible refine Kd.C_drewN ?_ _) | (with_reducible refine Kd.C_drew ?_)))
               (case side2 => exact (Kd.S_reads' HO130.out).2.1)
               (case side3 => repeat (first | exact (Kd.S_reads' HO136.out).2.2 | (with_reducible refine Kd.C_alloc ?_ _) | (with_reducible refine Kd.C_drewN ?_ _) | (with_reducible refine Kd.C_drew ?_)))
               (case side4 => exact (Kd.S_reads' HO136.out).2.1)
               (case side5 => repeat (first | exact (Kd.R_reads' HO139.out).2.2 | (with_reducible refine Kd.C_alloc ?_ _) | (with_reducible refine Kd.C_drewN ?_ _) | (with_reducible refine Kd.C_drew ?_)))
               (case side6 => exact (Kd.R_reads' HO139.out).2.1)
               (case side7 => repeat (first | exact (Kd.R_reads' HO142.out).2.2 | (with_reducible refine Kd.C_alloc ?_ _) | (with_reducible refine Kd.C_drewN ?_ _) | (with_reducible refine Kd.C_drew ?_)))
               (case side8 => exact (Kd.R_reads' HO142.out).2.1)
               (case side9 => repeat (first | exact (Kd.S_reads' HO155.out).2.2 | (with_reducible refine Kd.C_alloc ?_ _) | (with_reducible refine Kd.C_drewN ?_ _) | (with_reducible refine Kd.C_drew ?_)))
               (case side10 => exact (Kd.S_reads' HO155.out).2.1)
               (case side11 => repeat (first | exact (Kd.S_reads' HO161.out).2.2 | (with_reducible refine Kd.C_alloc ?_ _) | (with_reducible refine Kd.C_drewN ?_ _) | (with_reducible refine Kd.C_drew ?_)))
               (case side12 => exact (Kd.S_reads' HO161.out).2.1)
               (case side13 => repeat (first | exact (Kd.R_reads' HO164.out).2.2 | (with_reducible refine Kd.C_alloc ?_ _) | (with_reducible refine Kd.C_drewN ?_ _) | (with_reducible refine Kd.C_drew ?_)))
               (case side14 => exact (Kd.R_reads' HO164.out).2.1)
               (case side15 => repeat (first | exact (Kd.R_reads' HO167.out).2.2 | (with_reducible refine Kd.C_alloc ?_ _) | (with_reducible refine Kd.C_drewN ?_ _) | (with_reducible refine Kd.C_drew ?_)))
               (case side16 => exact (Kd.R_reads' HO167.out).2.1)
               rintro e w79 ⟨rfl, hb⟩
               refine ⟨_, rfl, ?_⟩
               have n0_ := Aside0.mk (Kd.R_below (rw_ HO105.out) hb)
               have n1_ := Aside0.mk (Kd.S_below (sw HO108.out) hb)
               have n2_ := Aside0.mk (Kd.S_below (sw HO114.out) hb)
               have n3_ := Aside0.mk (Kd.R_below (rw_ HO117.out) hb)
               have n4_ := Aside0.mk (Kd.R_below (rw_ HO120.out) hb)
               have n5_ := Aside0.mk (Kd.R_below (rw_ HO123.out) hb)
               have n6_ := Aside0.mk (Kd.R_below (rw_ HO127.out) hb)
               have n7_ := Aside0.mk (Kd.S_below (sw HO130.out) hb)
               have n8_ := Aside0.mk (Kd.S_below (sw HO136.out) hb)
               have n9_ := Aside0.mk (Kd.R_below (rw_ HO139.out) hb)
               have n10_ := Aside0.mk (Kd.R_below (rw_ HO142.out) hb)
               have n11_ := Aside0.mk (Kd.R_below (rw_ HO146.out) hb)
               have n12_ := Aside0.mk (Kd.R_below (rw_ HO151.out) hb)
               have n13_ := Aside0.mk (Kd.S_below (sw HO155.out) hb)
               have n14_ := Aside0.mk (Kd.S_below (sw HO161.out) hb)
               have n15_ := Aside0.mk (Kd.R_below (rw_ HO164.out) hb)
               have n16_ := Aside0.mk (Kd.R_below (rw_ HO167.out) hb)
               have n17_ := Aside0.mk (blk_below (bk BK101.out) hb)
               have n18_ := Aside0.mk (blk_below (bk BK143.out) hb)
               have n19_ := Aside0.mk (below_step (by repeat (first | exact bw HB.out | refine below_set ?_ GE101.out | refine below_set ?_ GE143.out)) hb)
               clear HO105
               clear HO108
               clear HO114
               clear HO117
               clear HO120
               clear HO123
               clear HO127
               clear HO130
               clear HO136
               clear HO139
               clear HO142
               clear HO146
               clear HO151
               clear HO155
               clear HO161
               clear HO164
               clear HO167
               clear BK101
               clear BK143
               clear HB
               have HO105 := n0_
               have HO108 := n1_
               have HO114 := n2_
               have HO117 := n3_
               have HO120 := n4_
               have HO123 := n5_
               have HO127 := n6_
               have HO130 := n7_
               have HO136 := n8_
               have HO139 := n9_
               have HO142 := n10_
               have HO146 := n11_
               have HO151 := n12_
               have HO155 := n13_
               have HO161 := n14_
               have HO164 := n15_
               have HO167 := n16_
               have BK101 := n17_
               have BK143 := n18_
               have HB := n19_
               clear n0_ n1_ n2_ n3_ n4_ n5_ n6_ n7_ n8_ n9_ n10_ n11_ n12_ n13_ n14_ n15_ n16_ n17_ n18_ n19_
               (try clear hb)
               (try clear hb2)
               (try clear hk)
               (try clear hi)
               refine hK.out _ _ ⟨(blk_cell BK143.out 0).trans rfl, (blk_cell BK143.out 1).trans rfl, (blk_cell BK143.out 2).trans rfl, (blk_cell BK143.out 3).trans rfl, (blk_cell BK143.out 4).trans rfl, (blk_cell BK143.out 5).trans rfl, (blk_cell BK143.out 6).trans rfl, (blk_cell BK101.out 0).trans rfl, (blk_cell BK101.out 1).trans rfl, (blk_cell BK101.out 2).trans rfl, (blk_cell BK101.out 3).trans rfl, (blk_cell BK101.out 4).trans rfl, (blk_cell BK101.out 5).trans rfl, (blk_cell BK101.out 6).trans rfl⟩ (fun hHeld => ?_)
               clear hK K
               refine norm_ (a' := ?_) ?_ ?_; rotate_left; go_simp; rfl
               refine pure_ (i := 4) (N := some 61) (v := ?_) (a' := ?_) #[true, true, true, true, true] rfl rfl (by kernel_rfl) (fun _ _ _ h => h) (Or.inl ⟨by rfl, ?_⟩) ?_ ?_
               rotate_left; intro w'; go_simp; with_reducible rfl; rotate_left; go_simp; rfl
               refine done_ (by kernel_rfl) ?_
               try go_wp2_with (first | ((with_reducible refine gate_callee (f := 22) rfl ?_); refine goesL_ (some 64) rfl rfl Try.func22 (by kernel_rfl) rfl #[.slice Ao67 t125.length co67, .int .i64 1] rfl (by (try simp only [List.map_toArray, List.map_cons, List.map_nil]); first | done | rfl | (simp only [List.length_drop, List.length_take]; rfl)) ?_; (with_reducible refine (laws_markByteS.calls k (fun k_ => some k_ = (.slice Ao67 t125.length co67 : Value).ownBlock) (.slice Ao67 t125.length co67) t125 1 t169 t170 w _ ?side1 ?side2 A25.out).mono ?_); (case side1 => repeat (first | (with_reducible first | exact HB.out | apply below_alloc | apply pw_below_drewN | apply below_drew1 | refine below_set ?_ GE101.out | refine below_set ?_ GE143.out) | exact HB.out)); (case side2 => exact Kd.R_tight rfl HO127.out); rintro e w80 ⟨rfl, hy0, hb, hkp⟩; refine ⟨_, rfl, ?_⟩; replace BK101 := Aside0.mk (blk_kept (bk BK101.out) hkp (fun hs_ => (fun e_ => (Kd.R_ne HO127.out BK101.out (by decide)) e_) hs_)); replace HO105 := Aside0.mk (Kd.R_mono (ok' := fun k_ => some k_ ≠ (.slice Ao52 t115.length co52 : Value).ownBlock ∧ some k_ ≠ (.slice Ao70 t121.length co70 : Value).ownBlock ∧ some k_ ≠ (.slice Ao67 t125.length co67 : Value).ownBlock ∧ some k_ ≠ (.slice Ao63 t137.length co63 : Value).ownBlock ∧ some k_ ≠ (.slice Ao69 t144.length co69 : Value).ownBlock ∧ some k_ ≠ (.slice Ao72 t149.length co72 : Value).ownBlock ∧ some k_ ≠ (.slice Ao77 t162.length co77 : Value).ownBlock) (Kd.R_keptB (HO105.out) hkp (fun k_ hk_ hs_ => (hk_.1.1.1.2.2.1) hs_)) (fun k_ hk_ => ⟨hk_.1.1.1.1.1, hk_.1.1.1.1.2.1, hk_.1.1.1.1.2.2.1, hk_.1.1.1.1.2.2.2, hk_.1.1.1.2, hk_.1.1.2, hk_.1.2⟩)); replace HO108 := Aside0.mk (Kd.S_mono (ok' := fun k_ => some k_ ≠ (.slice Ao49 t103.length co49 : Value).ownBlock ∧ some k_ ≠ (.slice Ao51 t112.length co51 : Value).ownBlock ∧ some k_ ≠ (.slice Ao52 t115.length co52 : Value).ownBlock ∧ some k_ ≠ (.slice Ao70 t121.length co70 : Value).ownBlock ∧ some k_ ≠ (.slice Ao67 t125.length co67 : Value).ownBlock ∧ some k_ ≠ (.slice Ao59 t128.length co59 : Value).ownBlock ∧ some k_ ≠ (.slice Ao62 t134.length co62 : Value).ownBlock ∧ some k_ ≠ (.slice Ao63 t137.length co63 : Value).ownBlock ∧ some k_ ≠ (.slice Ao69 t144.length co69 : Value).ownBlock ∧ some k_ ≠ (.slice Ao72 t149.length co72 : Value).ownBlock ∧ some k_ ≠ (.slice Ao75 t153.length co75 : Value).ownBlock ∧ some k_ ≠ (.slice Ao76 t159.length co76 : Value).ownBlock ∧ some k_ ≠ (.slice Ao77 t162.length co77 : Value).ownBlock) (Kd.S_keptB (HO108.out) hkp (fun k_ hk_ hs_ => (hk_.1.1.1.1.1.2.2.2.2.1) hs_)) (fun k_ hk_ => ⟨hk_.1.1.1.1.1.1.1, hk_.1.1.1.1.1.1.2.1, hk_.1.1.1.1.1.1.2.2.1, hk_.1.1.1.1.1.1.2.2.2.1, hk_.1.1.1.1.1.1.2.2.2.2.1, hk_.1.1.1.1.1.1.2.2.2.2.2.1, hk_.1.1.1.1.1.1.2.2.2.2.2.2.1, hk_.1.1.1.1.1.1.2.2.2.2.2.2.2, hk_.1.1.1.1.1.2, hk_.1.1.1.1.2, hk_.1.1.1.2, hk_.1.1.2, hk_.1.2⟩)); replace HO114 := Aside0.mk (Kd.S_mono (ok' := fun k_ => some k_ ≠ (.slice Ao49 t103.length co49 : Value).ownBlock ∧ some k_ ≠ (.slice Ao50 t106.length co50 : Value).ownBlock ∧ some k_ ≠ (.slice Ao52 t115.length co52 : Value).ownBlock ∧ some k_ ≠ (.slice Ao70 t121.length co70 : Value).ownBlock ∧ some k_ ≠ (.slice Ao67 t125.length co67 : Value).ownBlock ∧ some k_ ≠ (.slice Ao59 t128.length co59 : Value).ownBlock ∧ some k_ ≠ (.slice Ao62 t134.length co62 : Value).ownBlock ∧ some k_ ≠ (.slice Ao63 t137.length co63 : Value).ownBlock ∧ some k_ ≠ (.slice Ao69 t144.length co69 : Value).ownBlock ∧ some k_ ≠ (.slice Ao72 t149.length co72 : Value).ownBlock ∧ some k_ ≠ (.slice Ao75 t153.length co75 : Value).ownBlock ∧ some k_ ≠ (.slice Ao76 t159.length co76 : Value).ownBlock ∧ some k_ ≠ (.slice Ao77 t162.length co77 : Value).ownBlock) (Kd.S_keptB (HO114.out) hkp (fun k_ hk_ hs_ => (hk_.1.1.1.1.1.2.2.2.2.1) hs_)) (fun k_ hk_ => ⟨hk_.1.1.1.1.1.1.1, hk_.1.1.1.1.1.1.2.1, hk_.1.1.1.1.1.1.2.2.1, hk_.1.1.1.1.1.1.2.2.2.1, hk_.1.1.1.1.1.1.2.2.2.2.1, hk_.1.1.1.1.1.1.2.2.2.2.2.1, hk_.1.1.1.1.1.1.2.2.2.2.2.2.1, hk_.1.1.1.1.1.1.2.2.2.2.2.2.2, hk_.1.1.1.1.1.2, hk_.1.1.1.1.2, hk_.1.1.1.2, hk_.1.1.2, hk_.1.2⟩)); replace HO117 := Aside0.mk (Kd.R_mono (ok' := fun k_ => some k_ ≠ (.slice Ao49 t103.length co49 : Value).ownBlock ∧ some k_ ≠ (.slice Ao70 t121.length co70 : Value).ownBlock ∧ some k_ ≠ (.slice Ao67 t125.length co67 : Value).ownBlock ∧ some k_ ≠ (.slice Ao63 t137.length co63 : Value).ownBlock ∧ some k_ ≠ (.slice Ao69 t144.length co69 : Value).ownBlock ∧ some k_ ≠ (.slice Ao72 t149.length co72 : Value).ownBlock ∧ some k_ ≠ (.slice Ao77 t162.length co77 : Value).ownBlock) (Kd.R_keptB (HO117.out) hkp (fun k_ hk_ hs_ => (hk_.1.1.1.2.2.1) hs_)) (fun k_ hk_ => ⟨hk_.1.1.1.1.1, hk_.1.1.1.1.2.1, hk_.1.1.1.1.2.2.1, hk_.1.1.1.1.2.2.2, hk_.1.1.1.2, hk_.1.1.2, hk_.1.2⟩)); replace HO120 := Aside0.mk (Kd.R_mono (ok' := fun k_ => some k_ ≠ (.slice Ao64 t140.length co64 : Value).ownBlock ∧ some k_ ≠ (.slice Ao78 t165.length co78 : Value).ownBlock) (Kd.R_keptB ((Kd.R_apart' HO120.out (Kd.R_typed HO127.out) (by decide))) hkp (fun k_ hk_ hs_ => (hk_.2) hs_)) (fun k_ hk_ => ⟨hk_.1.1.1, hk_.1.1.2⟩)); replace HO123 := Aside0.mk (Kd.R_mono (ok' := fun k_ => some k_ ≠ (.slice Ao49 t103.length co49 : Value).ownBlock ∧ some k_ ≠ (.slice Ao52 t115.length co52 : Value).ownBlock ∧ some k_ ≠ (.slice Ao67 t125.length co67 : Value).ownBlock ∧ some k_ ≠ (.slice Ao63 t137.length co63 : Value).ownBlock ∧ some k_ ≠ (.slice Ao69 t144.length co69 : Value).ownBlock ∧ some k_ ≠ (.slice Ao72 t149.length co72 : Value).ownBlock ∧ some k_ ≠ (.slice Ao77 t162.length co77 : Value).ownBlock) (Kd.R_keptB (HO123.out) hkp (fun k_ hk_ hs_ => (hk_.1.1.1.2.2.1) hs_)) (fun k_ hk_ => ⟨hk_.1.1.1.1.1, hk_.1.1.1.1.2.1, hk_.1.1.1.1.2.2.1, hk_.1.1.1.1.2.2.2, hk_.1.1.1.2, hk_.1.1.2, hk_.1.2⟩)); replace HO130 := Aside0.mk (Kd.S_mono (ok' := fun k_ => some k_ ≠ (.slice Ao49 t103.length co49 : Value).ownBlock ∧ some k_ ≠ (.slice Ao50 t106.length co50 : Value).ownBlock ∧ some k_ ≠ (.slice Ao51 t112.length co51 : Value).ownBlock ∧ some k_ ≠ (.slice Ao52 t115.length co52 : Value).ownBlock ∧ some k_ ≠ (.slice Ao70 t121.length co70 : Value).ownBlock ∧ some k_ ≠ (.slice Ao67 t125.length co67 : Value).ownBlock ∧ some k_ ≠ (.slice Ao62 t134.length co62 : Value).ownBlock ∧ some k_ ≠ (.slice Ao63 t137.length co63 : Value).ownBlock ∧ some k_ ≠ (.slice Ao69 t144.length co69 : Value).ownBlock ∧ some k_ ≠ (.slice Ao72 t149.length co72 : Value).ownBlock ∧ some k_ ≠ (.slice Ao75 t153.length co75 : Value).ownBlock ∧ some k_ ≠ (.slice Ao76 t159.length co76 : Value).ownBlock ∧ some k_ ≠ (.slice Ao77 t162.length co77 : Value).ownBlock) (Kd.S_keptB (HO130.out) hkp (fun k_ hk_ hs_ => (hk_.1.1.1.1.1.2.2.2.2.2.1) hs_)) (fun k_ hk_ => ⟨hk_.1.1.1.1.1.1.1, hk_.1.1.1.1.1.1.2.1, hk_.1.1.1.1.1.1.2.2.1, hk_.1.1.1.1.1.1.2.2.2.1, hk_.1.1.1.1.1.1.2.2.2.2.1, hk_.1.1.1.1.1.1.2.2.2.2.2.1, hk_.1.1.1.1.1.1.2.2.2.2.2.2.1, hk_.1.1.1.1.1.1.2.2.2.2.2.2.2, hk_.1.1.1.1.1.2, hk_.1.1.1.1.2, hk_.1.1.1.2, hk_.1.1.2, hk_.1.2⟩)); replace HO136 := Aside0.mk (Kd.S_mono (ok' := fun k_ => some k_ ≠ (.slice Ao49 t103.length co49 : Value).ownBlock ∧ some k_ ≠ (.slice Ao50 t106.length co50 : Value).ownBlock ∧ some k_ ≠ (.slice Ao51 t112.length co51 : Value).ownBlock ∧ some k_ ≠ (.slice Ao52 t115.length co52 : Value).ownBlock ∧ some k_ ≠ (.slice Ao70 t121.length co70 : Value).ownBlock ∧ some k_ ≠ (.slice Ao67 t125.length co67 : Value).ownBlock ∧ some k_ ≠ (.slice Ao59 t128.length co59 : Value).ownBlock ∧ some k_ ≠ (.slice Ao63 t137.length co63 : Value).ownBlock ∧ some k_ ≠ (.slice Ao69 t144.length co69 : Value).ownBlock ∧ some k_ ≠ (.slice Ao72 t149.length co72 : Value).ownBlock ∧ some k_ ≠ (.slice Ao75 t153.length co75 : Value).ownBlock ∧ some k_ ≠ (.slice Ao76 t159.length co76 : Value).ownBlock ∧ some k_ ≠ (.slice Ao77 t162.length co77 : Value).ownBlock) (Kd.S_keptB (HO136.out) hkp (fun k_ hk_ hs_ => (hk_.1.1.1.1.1.2.2.2.2.2.1) hs_)) (fun k_ hk_ => ⟨hk_.1.1.1.1.1.1.1, hk_.1.1.1.1.1.1.2.1, hk_.1.1.1.1.1.1.2.2.1, hk_.1.1.1.1.1.1.2.2.2.1, hk_.1.1.1.1.1.1.2.2.2.2.1, hk_.1.1.1.1.1.1.2.2.2.2.2.1, hk_.1.1.1.1.1.1.2.2.2.2.2.2.1, hk_.1.1.1.1.1.1.2.2.2.2.2.2.2, hk_.1.1.1.1.1.2, hk_.1.1.1.1.2, hk_.1.1.1.2, hk_.1.1.2, hk_.1.2⟩)); replace HO139 := Aside0.mk (Kd.R_mono (ok' := fun k_ => some k_ ≠ (.slice Ao49 t103.length co49 : Value).ownBlock ∧ some k_ ≠ (.slice Ao52 t115.length co52 : Value).ownBlock ∧ some k_ ≠ (.slice Ao70 t121.length co70 : Value).ownBlock ∧ some k_ ≠ (.slice Ao67 t125.length co67 : Value).ownBlock ∧ some k_ ≠ (.slice Ao69 t144.length co69 : Value).ownBlock ∧ some k_ ≠ (.slice Ao72 t149.length co72 : Value).ownBlock ∧ some k_ ≠ (.slice Ao77 t162.length co77 : Value).ownBlock) (Kd.R_keptB (HO139.out) hkp (fun k_ hk_ hs_ => (hk_.1.1.1.2.2.2) hs_)) (fun k_ hk_ => ⟨hk_.1.1.1.1.1, hk_.1.1.1.1.2.1, hk_.1.1.1.1.2.2.1, hk_.1.1.1.1.2.2.2, hk_.1.1.1.2, hk_.1.1.2, hk_.1.2⟩)); replace HO142 := Aside0.mk (Kd.R_mono (ok' := fun k_ => some k_ ≠ (.slice Ao53 t118.length co53 : Value).ownBlock ∧ some k_ ≠ (.slice Ao78 t165.length co78 : Value).ownBlock) (Kd.R_keptB ((Kd.R_apart' HO142.out (Kd.R_typed HO127.out) (by decide))) hkp (fun k_ hk_ hs_ => (hk_.2) hs_)) (fun k_ hk_ => ⟨hk_.1.1.1, hk_.1.1.2⟩)); replace BK143 := Aside0.mk (blk_kept (bk BK143.out) hkp (fun hs_ => (fun e_ => (Kd.R_ne HO127.out BK143.out (by decide)) e_) hs_)); replace HO146 := Aside0.mk (Kd.R_mono (ok' := fun k_ => some k_ ≠ (.slice Ao49 t103.length co49 : Value).ownBlock ∧ some k_ ≠ (.slice Ao52 t115.length co52 : Value).ownBlock ∧ some k_ ≠ (.slice Ao70 t121.length co70 : Value).ownBlock ∧ some k_ ≠ (.slice Ao67 t125.length co67 : Value).ownBlock ∧ some k_ ≠ (.slice Ao63 t137.length co63 : Value).ownBlock ∧ some k_ ≠ (.slice Ao72 t149.length co72 : Value).ownBlock ∧ some k_ ≠ (.slice Ao77 t162.length co77 : Value).ownBlock) (Kd.R_keptB (HO146.out) hkp (fun k_ hk_ hs_ => (hk_.1.1.1.2) hs_)) (fun k_ hk_ => ⟨hk_.1.1.1.1.1.1.1.2, hk_.1.1.1.1.1.1.2, hk_.1.1.1.1.1.2, hk_.1.1.1.1.2, hk_.1.1.1.2, hk_.1.1.2, hk_.1.2⟩)); replace HO151 := Aside0.mk (Kd.R_mono (ok' := fun k_ => some k_ ≠ (.slice Ao49 t103.length co49 : Value).ownBlock ∧ some k_ ≠ (.slice Ao52 t115.length co52 : Value).ownBlock ∧ some k_ ≠ (.slice Ao70 t121.length co70 : Value).ownBlock ∧ some k_ ≠ (.slice Ao67 t125.length co67 : Value).ownBlock ∧ some k_ ≠ (.slice Ao63 t137.length co63 : Value).ownBlock ∧ some k_ ≠ (.slice Ao69 t144.length co69 : Value).ownBlock ∧ some k_ ≠ (.slice Ao77 t162.length co77 : Value).ownBlock) (Kd.R_keptB (HO151.out) hkp (fun k_ hk_ hs_ => (hk_.1.1.1.2) hs_)) (fun k_ hk_ => ⟨hk_.1.1.1.1.1.1.1.2, hk_.1.1.1.1.1.1.2, hk_.1.1.1.1.1.2, hk_.1.1.1.1.2, hk_.1.1.1.2, hk_.1.1.2, hk_.1.2⟩)); replace HO155 := Aside0.mk (Kd.S_mono (ok' := fun k_ => some k_ ≠ (.slice Ao49 t103.length co49 : Value).ownBlock ∧ some k_ ≠ (.slice Ao50 t106.length co50 : Value).ownBlock ∧ some k_ ≠ (.slice Ao51 t112.length co51 : Value).ownBlock ∧ some k_ ≠ (.slice Ao52 t115.length co52 : Value).ownBlock ∧ some k_ ≠ (.slice Ao70 t121.length co70 : Value).ownBlock ∧ some k_ ≠ (.slice Ao67 t125.length co67 : Value).ownBlock ∧ some k_ ≠ (.slice Ao59 t128.length co59 : Value).ownBlock ∧ some k_ ≠ (.slice Ao62 t134.length co62 : Value).ownBlock ∧ some k_ ≠ (.slice Ao63 t137.length co63 : Value).ownBlock ∧ some k_ ≠ (.slice Ao69 t144.length co69 : Value).ownBlock ∧ some k_ ≠ (.slice Ao72 t149.length co72 : Value).ownBlock ∧ some k_ ≠ (.slice Ao76 t159.length co76 : Value).ownBlock ∧ some k_ ≠ (.slice Ao77 t162.length co77 : Value).ownBlock) (Kd.S_keptB (HO155.out) hkp (fun k_ hk_ hs_ => (hk_.1.1.1.1.1.2) hs_)) (fun k_ hk_ => ⟨hk_.1.1.1.1.1.1.1.1.1.1.1.2, hk_.1.1.1.1.1.1.1.1.1.1.2, hk_.1.1.1.1.1.1.1.1.1.2, hk_.1.1.1.1.1.1.1.1.2, hk_.1.1.1.1.1.1.1.2, hk_.1.1.1.1.1.1.2, hk_.1.1.1.1.1.2, hk_.1.1.1.1.2, hk_.1.1.1.2, hk_.1.1.2, hk_.1.2, hk_.1.1.1.1.1.1.1.1.1.1.1.1.1, hk_.1.1.1.1.1.1.1.1.1.1.1.1.2⟩)); replace HO161 := Aside0.mk (Kd.S_mono (ok' := fun k_ => some k_ ≠ (.slice Ao49 t103.length co49 : Value).ownBlock ∧ some k_ ≠ (.slice Ao50 t106.length co50 : Value).ownBlock ∧ some k_ ≠ (.slice Ao51 t112.length co51 : Value).ownBlock ∧ some k_ ≠ (.slice Ao52 t115.length co52 : Value).ownBlock ∧ some k_ ≠ (.slice Ao70 t121.length co70 : Value).ownBlock ∧ some k_ ≠ (.slice Ao67 t125.length co67 : Value).ownBlock ∧ some k_ ≠ (.slice Ao59 t128.length co59 : Value).ownBlock ∧ some k_ ≠ (.slice Ao62 t134.length co62 : Value).ownBlock ∧ some k_ ≠ (.slice Ao63 t137.length co63 : Value).ownBlock ∧ some k_ ≠ (.slice Ao69 t144.length co69 : Value).ownBlock ∧ some k_ ≠ (.slice Ao72 t149.length co72 : Value).ownBlock ∧ some k_ ≠ (.slice Ao75 t153.length co75 : Value).ownBlock ∧ some k_ ≠ (.slice Ao77 t162.length co77 : Value).ownBlock) (Kd.S_keptB (HO161.out) hkp (fun k_ hk_ hs_ => (hk_.1.1.1.1.1.2) hs_)) (fun k_ hk_ => ⟨hk_.1.1.1.1.1.1.1.1.1.1.1.2, hk_.1.1.1.1.1.1.1.1.1.1.2, hk_.1.1.1.1.1.1.1.1.1.2, hk_.1.1.1.1.1.1.1.1.2, hk_.1.1.1.1.1.1.1.2, hk_.1.1.1.1.1.1.2, hk_.1.1.1.1.1.2, hk_.1.1.1.1.2, hk_.1.1.1.2, hk_.1.1.2, hk_.1.2, hk_.1.1.1.1.1.1.1.1.1.1.1.1.1, hk_.1.1.1.1.1.1.1.1.1.1.1.1.2⟩)); replace HO164 := Aside0.mk (Kd.R_mono (ok' := fun k_ => some k_ ≠ (.slice Ao49 t103.length co49 : Value).ownBlock ∧ some k_ ≠ (.slice Ao52 t115.length co52 : Value).ownBlock ∧ some k_ ≠ (.slice Ao70 t121.length co70 : Value).ownBlock ∧ some k_ ≠ (.slice Ao67 t125.length co67 : Value).ownBlock ∧ some k_ ≠ (.slice Ao63 t137.length co63 : Value).ownBlock ∧ some k_ ≠ (.slice Ao69 t144.length co69 : Value).ownBlock ∧ some k_ ≠ (.slice Ao72 t149.length co72 : Value).ownBlock) (Kd.R_keptB (HO164.out) hkp (fun k_ hk_ hs_ => (hk_.1.1.1.2) hs_)) (fun k_ hk_ => ⟨hk_.1.1.1.1.1.1.1.2, hk_.1.1.1.1.1.1.2, hk_.1.1.1.1.1.2, hk_.1.1.1.1.2, hk_.1.1.1.2, hk_.1.1.2, hk_.1.2⟩)); replace HO167 := Aside0.mk (Kd.R_mono (ok' := fun k_ => some k_ ≠ (.slice Ao53 t118.length co53 : Value).ownBlock ∧ some k_ ≠ (.slice Ao64 t140.length co64 : Value).ownBlock) (Kd.R_keptB ((Kd.R_apart' HO167.out (Kd.R_typed HO127.out) (by decide))) hkp (fun k_ hk_ hs_ => (hk_.2) hs_)) (fun k_ hk_ => ⟨hk_.1.1.1.2, hk_.1.1.2⟩)); replace HO127 := Aside0.mk (Kd.R_reok rfl hy0 (fun k_ e_ => HO127.out.1 k_ e_)); replace HB := Aside0.mk (hb); (try clear hb); (try clear hkp); (try clear hy0); obtain ⟨hcz81_0, hcz81_1, hcz81_2, hcz81_3, hcz81_4, hcz81_5, hcz81_6, hfz81_0, hfz81_1, hfz81_2, hfz81_3, hfz81_4, hfz81_5, hfz81_6⟩ := cells7 BK143.out) | ((with_reducible refine gate_callee (f := 42) rfl ?_); refine goesL_ (some 67) rfl rfl Try.func42 (by kernel_rfl) rfl #[.agg #[.slice Ao59 t128.length co59, .int .i64 t131, .int .i64 t132, .int .i64 t133, .slice Ao62 t134.length co62, .slice Ao63 t137.length co63, .slice Ao64 t140.length co64], .int .i64 t169] rfl (by (try simp only [List.map_toArray, List.map_cons, List.map_nil]); first | done | rfl | (simp only [List.length_drop, List.length_take]; rfl)) ?_; (with_reducible refine (laws_markRr.calls (fun k_ => (some k_ ≠ (.slice Ao49 t103.length co49 : Value).ownBlock ∧ (some k_ ≠ (.slice Ao50 t106.length co50 : Value).ownBlock ∧ (some k_ ≠ (.slice Ao51 t112.length co51 : Value).ownBlock ∧ (some k_ ≠ (.slice Ao52 t115.length co52 : Value).ownBlock ∧ (some k_ ≠ (.slice Ao70 t121.length co70 : Value).ownBlock ∧ (some k_ ≠ (.slice Ao67 t125.length co67 : Value).ownBlock ∧ (some k_ ≠ (.slice Ao62 t134.length co62 : Value).ownBlock ∧ (some k_ ≠ (.slice Ao63 t137.length co63 : Value).ownBlock ∧ (some k_ ≠ (.slice Ao69 t144.length co69 : Value).ownBlock ∧ (some k_ ≠ (.slice Ao72 t149.length co72 : Value).ownBlock ∧ (some k_ ≠ (.slice Ao75 t153.length co75 : Value).ownBlock ∧ (some k_ ≠ (.slice Ao76 t159.length co76 : Value).ownBlock ∧ some k_ ≠ (.slice Ao77 t162.length co77 : Value).ownBlock)))))))))))) ∧ w.heap.size ≤ k_ ∧ k_ < w80.heap.size ∧ ∃ q_, q_ ∈ 31 :: ((Kd.slice 5 (Kd.int .u8))).E ∧ ∃ c_, w80.heap[k_]? = some (Obj.cells c_ q_ (0, 0))) (.slice Ao59 t128.length co59) t128 t131 t132 t133 (fun k_ => (some k_ ≠ (.slice Ao49 t103.length co49 : Value).ownBlock ∧ (some k_ ≠ (.slice Ao50 t106.length co50 : Value).ownBlock ∧ (some k_ ≠ (.slice Ao51 t112.length co51 : Value).ownBlock ∧ (some k_ ≠ (.slice Ao52 t115.length co52 : Value).ownBlock ∧ (some k_ ≠ (.slice Ao70 t121.length co70 : Value).ownBlock ∧ (some k_ ≠ (.slice Ao67 t125.length co67 : Value).ownBlock ∧ (some k_ ≠ (.slice Ao59 t128.length co59 : Value).ownBlock ∧ (some k_ ≠ (.slice Ao63 t137.length co63 : Value).ownBlock ∧ (some k_ ≠ (.slice Ao69 t144.length co69 : Value).ownBlock ∧ (some k_ ≠ (.slice Ao72 t149.length co72 : Value).ownBlock ∧ (some k_ ≠ (.slice Ao75 t153.length co75 : Value).ownBlock ∧ (some k_ ≠ (.slice Ao76 t159.length co76 : Value).ownBlock ∧ some k_ ≠ (.slice Ao77 t162.length co77 : Value).ownBlock)))))))))))) ∧ w.heap.size ≤ k_ ∧ k_ < w80.heap.size ∧ ∃ q_, q_ ∈ 31 :: ((Kd.slice 5 (Kd.int .u8))).E ∧ ∃ c_, w80.heap[k_]? = some (Obj.cells c_ q_ (0, 0))) (.slice Ao62 t134.length co62) t134 (fun k_ => some k_ = (.slice Ao63 t137.length co63 : Value).ownBlock) (.slice Ao63 t137.length co63) t137 (fun k_ => some k_ = (.slice Ao64 t140.length co64 : Value).ownBlock) (.slice Ao64 t140.length co64) t140 t169 t171 w _ ?side1 ?side2 ?side3 ?side4 ?side5 A26.out).mono ?_); (case side1 => repeat (first | (with_reducible first | exact HB.out | apply below_alloc | apply pw_below_drewN | apply below_drew1 | refine below_set ?_ GE101.out | refine below_set ?_ GE143.out) | exact HB.out)); (case side2 => (with_reducible repeat (first | apply Kd.S_alloc | apply Kd.S_drewN | apply Kd.S_drew)); exact Kd.S_bound HO130.out); (case side3 => (with_reducible repeat (first | apply Kd.S_alloc | apply Kd.S_drewN | apply Kd.S_drew)); exact Kd.S_bound HO136.out); (case side4 => exact Kd.R_tight rfl HO139.out); (case side5 => exact Kd.R_tight rfl HO142.out); rintro e w82 ⟨rfl, hb, hkp⟩; refine ⟨_, rfl, ?_⟩; replace BK101 := Aside0.mk (blk_kept (bk BK101.out) hkp (fun hs_ => Or.elim hs_ (fun e_ => (fun e_ => typed_not BK101.out (by decide) e_.2.2.2) e_) (fun e_ => Or.elim e_ (fun e_ => (fun e_ => typed_not BK101.out (by decide) e_.2.2.2) e_) (fun e_ => Or.elim e_ (fun e_ => (fun e_ => (Kd.R_ne HO139.out BK101.out (by decide)) e_) e_) (fun e_ => (fun e_ => (Kd.R_ne HO142.out BK101.out (by decide)) e_) e_))))); replace HO105 := Aside0.mk (Kd.R_mono (ok' := fun k_ => some k_ ≠ (.slice Ao52 t115.length co52 : Value).ownBlock ∧ some k_ ≠ (.slice Ao70 t121.length co70 : Value).ownBlock ∧ some k_ ≠ (.slice Ao67 t125.length co67 : Value).ownBlock ∧ some k_ ≠ (.slice Ao69 t144.length co69 : Value).ownBlock ∧ some k_ ≠ (.slice Ao72 t149.length co72 : Value).ownBlock ∧ some k_ ≠ (.slice Ao77 t162.length co77 : Value).ownBlock) (R_keptD (Kd.R_apart' HO105.out (Kd.R_typed HO142.out) (by decide)) rfl hkp (fun k_ ek_ hk_ hs_ => Or.elim hs_ (fun e_ => (fun e_ => (e_.1.1) ek_) e_) (fun e_ => Or.elim e_ (fun e_ => (fun e_ => (e_.1.1) ek_) e_) (fun e_ => Or.elim e_ (fun e_ => (hk_.1.2.2.2.1) e_) (fun e_ => (hk_.2) e_))))) (fun k_ hk_ => ⟨hk_.1.1.1, hk_.1.1.2.1, hk_.1.1.2.2.1, hk_.1.1.2.2.2.2.1, hk_.1.1.2.2.2.2.2.1, hk_.1.1.2.2.2.2.2.2⟩)); replace HO117 := Aside0.mk (Kd.R_mono (ok' := fun k_ => some k_ ≠ (.slice Ao49 t103.length co49 : Value).ownBlock ∧ some k_ ≠ (.slice Ao70 t121.length co70 : Value).ownBlock ∧ some k_ ≠ (.slice Ao67 t125.length co67 : Value).ownBlock ∧ some k_ ≠ (.slice Ao69 t144.length co69 : Value).ownBlock ∧ some k_ ≠ (.slice Ao72 t149.length co72 : Value).ownBlock ∧ some k_ ≠ (.slice Ao77 t162.length co77 : Value).ownBlock) (R_keptD (Kd.R_apart' HO117.out (Kd.R_typed HO142.out) (by decide)) rfl hkp (fun k_ ek_ hk_ hs_ => Or.elim hs_ (fun e_ => (fun e_ => (e_.1.2.2.2.1) ek_) e_) (fun e_ => Or.elim e_ (fun e_ => (fun e_ => (e_.1.2.2.2.1) ek_) e_) (fun e_ => Or.elim e_ (fun e_ => (hk_.1.2.2.2.1) e_) (fun e_ => (hk_.2) e_))))) (fun k_ hk_ => ⟨hk_.1.1.1, hk_.1.1.2.1, hk_.1.1.2.2.1, hk_.1.1.2.2.2.2.1, hk_.1.1.2.2.2.2.2.1, hk_.1.1.2.2.2.2.2.2⟩)); replace HO120 := Aside0.mk (Kd.R_mono (ok' := fun k_ => some k_ ≠ (.slice Ao78 t165.length co78 : Value).ownBlock) (R_keptD (Kd.R_apart' HO120.out (Kd.R_typed HO139.out) (by decide)) rfl hkp (fun k_ ek_ hk_ hs_ => Or.elim hs_ (fun e_ => (fun e_ => row_not HO120.out (by decide) ek_ e_.2.2.2) e_) (fun e_ => Or.elim e_ (fun e_ => (fun e_ => row_not HO120.out (by decide) ek_ e_.2.2.2) e_) (fun e_ => Or.elim e_ (fun e_ => (hk_.2) e_) (fun e_ => (hk_.1.1) e_))))) (fun k_ hk_ => hk_.1.1.2)); replace HO123 := Aside0.mk (Kd.R_mono (ok' := fun k_ => some k_ ≠ (.slice Ao49 t103.length co49 : Value).ownBlock ∧ some k_ ≠ (.slice Ao52 t115.length co52 : Value).ownBlock ∧ some k_ ≠ (.slice Ao67 t125.length co67 : Value).ownBlock ∧ some k_ ≠ (.slice Ao69 t144.length co69 : Value).ownBlock ∧ some k_ ≠ (.slice Ao72 t149.length co72 : Value).ownBlock ∧ some k_ ≠ (.slice Ao77 t162.length co77 : Value).ownBlock) (R_keptD (Kd.R_apart' HO123.out (Kd.R_typed HO142.out) (by decide)) rfl hkp (fun k_ ek_ hk_ hs_ => Or.elim hs_ (fun e_ => (fun e_ => (e_.1.2.2.2.2.1) ek_) e_) (fun e_ => Or.elim e_ (fun e_ => (fun e_ => (e_.1.2.2.2.2.1) ek_) e_) (fun e_ => Or.elim e_ (fun e_ => (hk_.1.2.2.2.1) e_) (fun e_ => (hk_.2) e_))))) (fun k_ hk_ => ⟨hk_.1.1.1, hk_.1.1.2.1, hk_.1.1.2.2.1, hk_.1.1.2.2.2.2.1, hk_.1.1.2.2.2.2.2.1, hk_.1.1.2.2.2.2.2.2⟩)); replace HO127 := Aside0.mk (Kd.R_mono (ok' := fun k_ => some k_ ≠ (.slice Ao49 t103.length co49 : Value).ownBlock ∧ some k_ ≠ (.slice Ao52 t115.length co52 : Value).ownBlock ∧ some k_ ≠ (.slice Ao70 t121.length co70 : Value).ownBlock ∧ some k_ ≠ (.slice Ao69 t144.length co69 : Value).ownBlock ∧ some k_ ≠ (.slice Ao72 t149.length co72 : Value).ownBlock ∧ some k_ ≠ (.slice Ao77 t162.length co77 : Value).ownBlock) (R_keptD (Kd.R_apart' HO127.out (Kd.R_typed HO142.out) (by decide)) rfl hkp (fun k_ ek_ hk_ hs_ => Or.elim hs_ (fun e_ => (fun e_ => (e_.1.2.2.2.2.2.1) ek_) e_) (fun e_ => Or.elim e_ (fun e_ => (fun e_ => (e_.1.2.2.2.2.2.1) ek_) e_) (fun e_ => Or.elim e_ (fun e_ => (hk_.1.1.1.1.2.2.2) e_) (fun e_ => (hk_.2) e_))))) (fun k_ hk_ => ⟨hk_.1.1.1.1.1.1, hk_.1.1.1.1.1.2.1, hk_.1.1.1.1.1.2.2.1, hk_.1.1.1.1.2, hk_.1.1.1.2, hk_.1.1.2⟩)); replace BK143 := Aside0.mk (blk_kept (bk BK143.out) hkp (fun hs_ => Or.elim hs_ (fun e_ => (fun e_ => typed_not BK143.out (by decide) e_.2.2.2) e_) (fun e_ => Or.elim e_ (fun e_ => (fun e_ => typed_not BK143.out (by decide) e_.2.2.2) e_) (fun e_ => Or.elim e_ (fun e_ => (fun e_ => (Kd.R_ne HO139.out BK143.out (by decide)) e_) e_) (fun e_ => (fun e_ => (Kd.R_ne HO142.out BK143.out (by decide)) e_) e_))))); replace HO146 := Aside0.mk (Kd.R_mono (ok' := fun k_ => some k_ ≠ (.slice Ao49 t103.length co49 : Value).ownBlock ∧ some k_ ≠ (.slice Ao52 t115.length co52 : Value).ownBlock ∧ some k_ ≠ (.slice Ao70 t121.length co70 : Value).ownBlock ∧ some k_ ≠ (.slice Ao67 t125.length co67 : Value).ownBlock ∧ some k_ ≠ (.slice Ao72 t149.length co72 : Value).ownBlock ∧ some k_ ≠ (.slice Ao77 t162.length co77 : Value).ownBlock) (R_keptD (Kd.R_apart' HO146.out (Kd.R_typed HO142.out) (by decide)) rfl hkp (fun k_ ek_ hk_ hs_ => Or.elim hs_ (fun e_ => (fun e_ => (e_.1.2.2.2.2.2.2.2.2.1) ek_) e_) (fun e_ => Or.elim e_ (fun e_ => (fun e_ => (e_.1.2.2.2.2.2.2.2.2.1) ek_) e_) (fun e_ => Or.elim e_ (fun e_ => (hk_.1.2.2.2.2.1) e_) (fun e_ => (hk_.2) e_))))) (fun k_ hk_ => ⟨hk_.1.1.1, hk_.1.1.2.1, hk_.1.1.2.2.1, hk_.1.1.2.2.2.1, hk_.1.1.2.2.2.2.2.1, hk_.1.1.2.2.2.2.2.2⟩)); replace HO151 := Aside0.mk (Kd.R_mono (ok' := fun k_ => some k_ ≠ (.slice Ao49 t103.length co49 : Value).ownBlock ∧ some k_ ≠ (.slice Ao52 t115.length co52 : Value).ownBlock ∧ some k_ ≠ (.slice Ao70 t121.length co70 : Value).ownBlock ∧ some k_ ≠ (.slice Ao67 t125.length co67 : Value).ownBlock ∧ some k_ ≠ (.slice Ao69 t144.length co69 : Value).ownBlock ∧ some k_ ≠ (.slice Ao77 t162.length co77 : Value).ownBlock) (R_keptD (Kd.R_apart' HO151.out (Kd.R_typed HO142.out) (by decide)) rfl hkp (fun k_ ek_ hk_ hs_ => Or.elim hs_ (fun e_ => (fun e_ => (e_.1.2.2.2.2.2.2.2.2.2.1) ek_) e_) (fun e_ => Or.elim e_ (fun e_ => (fun e_ => (e_.1.2.2.2.2.2.2.2.2.2.1) ek_) e_) (fun e_ => Or.elim e_ (fun e_ => (hk_.1.2.2.2.2.1) e_) (fun e_ => (hk_.2) e_))))) (fun k_ hk_ => ⟨hk_.1.1.1, hk_.1.1.2.1, hk_.1.1.2.2.1, hk_.1.1.2.2.2.1, hk_.1.1.2.2.2.2.2.1, hk_.1.1.2.2.2.2.2.2⟩)); replace HO164 := Aside0.mk (Kd.R_mono (ok' := fun k_ => some k_ ≠ (.slice Ao49 t103.length co49 : Value).ownBlock ∧ some k_ ≠ (.slice Ao52 t115.length co52 : Value).ownBlock ∧ some k_ ≠ (.slice Ao70 t121.length co70 : Value).ownBlock ∧ some k_ ≠ (.slice Ao67 t125.length co67 : Value).ownBlock ∧ some k_ ≠ (.slice Ao69 t144.length co69 : Value).ownBlock ∧ some k_ ≠ (.slice Ao72 t149.length co72 : Value).ownBlock) (R_keptD (Kd.R_apart' HO164.out (Kd.R_typed HO142.out) (by decide)) rfl hkp (fun k_ ek_ hk_ hs_ => Or.elim hs_ (fun e_ => (fun e_ => (e_.1.2.2.2.2.2.2.2.2.2.2.2.2) ek_) e_) (fun e_ => Or.elim e_ (fun e_ => (fun e_ => (e_.1.2.2.2.2.2.2.2.2.2.2.2.2) ek_) e_) (fun e_ => Or.elim e_ (fun e_ => (hk_.1.2.2.2.2.1) e_) (fun e_ => (hk_.2) e_))))) (fun k_ hk_ => ⟨hk_.1.1.1, hk_.1.1.2.1, hk_.1.1.2.2.1, hk_.1.1.2.2.2.1, hk_.1.1.2.2.2.2.2.1, hk_.1.1.2.2.2.2.2.2⟩)); replace HO167 := Aside0.mk (Kd.R_mono (ok' := fun k_ => some k_ ≠ (.slice Ao53 t118.length co53 : Value).ownBlock) (R_keptD (Kd.R_apart' HO167.out (Kd.R_typed HO139.out) (by decide)) rfl hkp (fun k_ ek_ hk_ hs_ => Or.elim hs_ (fun e_ => (fun e_ => row_not HO167.out (by decide) ek_ e_.2.2.2) e_) (fun e_ => Or.elim e_ (fun e_ => (fun e_ => row_not HO167.out (by decide) ek_ e_.2.2.2) e_) (fun e_ => Or.elim e_ (fun e_ => (hk_.2) e_) (fun e_ => (hk_.1.2) e_))))) (fun k_ hk_ => hk_.1.1.1)); replace HB := Aside0.mk (hb); clear HO130 HO136 HO139 HO142; (try clear hb); (try clear hkp)) | (go_at_call 21; (with_reducible refine (laws_eqByteS.calls k _ _ t144 _ _ t121 true _ ?side1 ?side2 ?side3 ?side4 A28.out).mono ?_); (case side1 => repeat (first | exact (Kd.R_reads' HO146.out).2.2 | (with_reducible refine Kd.C_alloc ?_ _) | (with_reducible refine Kd.C_drewN ?_ _) | (with_reducible refine Kd.C_drew ?_))); (case side2 => exact (Kd.R_reads' HO146.out).2.1); (case side3 => repeat (first | exact (Kd.R_reads' HO123.out).2.2 | (with_reducible refine Kd.C_alloc ?_ _) | (with_reducible refine Kd.C_drewN ?_ _) | (with_reducible refine Kd.C_drew ?_))); (case side4 => exact (Kd.R_reads' HO123.out).2.1); rintro e w' ⟨rfl, ⟨nd, rfl⟩⟩) | ((with_reducible refine gate_callee (f := 22) rfl ?_); refine goesL_ (some 83) rfl rfl Try.func22 (by kernel_rfl) rfl #[.slice Ao69 t144.length co69, .int .i64 1] rfl (by (try simp only [List.map_toArray, List.map_cons, List.map_nil]); first | done | rfl | (simp only [List.length_drop, List.length_take]; rfl)) ?_; (with_reducible refine (laws_markByteS.calls k (fun k_ => some k_ = (.slice Ao69 t144.length co69 : Value).ownBlock) (.slice Ao69 t144.length co69) t144 1 t173 t174 w _ ?side1 ?side2 A30.out).mono ?_); (case side1 => repeat (first | (with_reducible first | exact HB.out | apply below_alloc | apply pw_below_drewN | apply below_drew1 | refine below_set ?_ GE101.out | refine below_set ?_ GE143.out) | exact HB.out)); (case side2 => exact Kd.R_tight rfl HO146.out); rintro e w83 ⟨rfl, hy0, hb, hkp⟩; refine ⟨_, rfl, ?_⟩; replace BK101 := Aside0.mk (blk_kept (bk BK101.out) hkp (fun hs_ => (fun e_ => (Kd.R_ne HO146.out BK101.out (by decide)) e_) hs_)); replace HO105 := Aside0.mk (Kd.R_mono (ok' := fun k_ => some k_ ≠ (.slice Ao52 t115.length co52 : Value).ownBlock ∧ some k_ ≠ (.slice Ao70 t121.length co70 : Value).ownBlock ∧ some k_ ≠ (.slice Ao67 t125.length co67 : Value).ownBlock ∧ some k_ ≠ (.slice Ao69 t144.length co69 : Value).ownBlock ∧ some k_ ≠ (.slice Ao72 t149.length co72 : Value).ownBlock ∧ some k_ ≠ (.slice Ao77 t162.length co77 : Value).ownBlock) (Kd.R_keptB (HO105.out) hkp (fun k_ hk_ hs_ => (hk_.2.2.2.1) hs_)) (fun k_ hk_ => ⟨hk_.1.1, hk_.1.2.1, hk_.1.2.2.1, hk_.1.2.2.2.1, hk_.1.2.2.2.2.1, hk_.1.2.2.2.2.2⟩)); replace HO117 := Aside0.mk (Kd.R_mono (ok' := fun k_ => some k_ ≠ (.slice Ao49 t103.length co49 : Value).ownBlock ∧ some k_ ≠ (.slice Ao70 t121.length co70 : Value).ownBlock ∧ some k_ ≠ (.slice Ao67 t125.length co67 : Value).ownBlock ∧ some k_ ≠ (.slice Ao69 t144.length co69 : Value).ownBlock ∧ some k_ ≠ (.slice Ao72 t149.length co72 : Value).ownBlock ∧ some k_ ≠ (.slice Ao77 t162.length co77 : Value).ownBlock) (Kd.R_keptB (HO117.out) hkp (fun k_ hk_ hs_ => (hk_.2.2.2.1) hs_)) (fun k_ hk_ => ⟨hk_.1.1, hk_.1.2.1, hk_.1.2.2.1, hk_.1.2.2.2.1, hk_.1.2.2.2.2.1, hk_.1.2.2.2.2.2⟩)); replace HO120 := Aside0.mk (Kd.R_mono (ok' := fun k_ => some k_ ≠ (.slice Ao78 t165.length co78 : Value).ownBlock) (Kd.R_keptB ((Kd.R_apart' HO120.out (Kd.R_typed HO146.out) (by decide))) hkp (fun k_ hk_ hs_ => (hk_.2) hs_)) (fun k_ hk_ => hk_.1.1)); replace HO123 := Aside0.mk (Kd.R_mono (ok' := fun k_ => some k_ ≠ (.slice Ao49 t103.length co49 : Value).ownBlock ∧ some k_ ≠ (.slice Ao52 t115.length co52 : Value).ownBlock ∧ some k_ ≠ (.slice Ao67 t125.length co67 : Value).ownBlock ∧ some k_ ≠ (.slice Ao69 t144.length co69 : Value).ownBlock ∧ some k_ ≠ (.slice Ao72 t149.length co72 : Value).ownBlock ∧ some k_ ≠ (.slice Ao77 t162.length co77 : Value).ownBlock) (Kd.R_keptB (HO123.out) hkp (fun k_ hk_ hs_ => (hk_.2.2.2.1) hs_)) (fun k_ hk_ => ⟨hk_.1.1, hk_.1.2.1, hk_.1.2.2.1, hk_.1.2.2.2.1, hk_.1.2.2.2.2.1, hk_.1.2.2.2.2.2⟩)); replace HO127 := Aside0.mk (Kd.R_mono (ok' := fun k_ => some k_ ≠ (.slice Ao49 t103.length co49 : Value).ownBlock ∧ some k_ ≠ (.slice Ao52 t115.length co52 : Value).ownBlock ∧ some k_ ≠ (.slice Ao70 t121.length co70 : Value).ownBlock ∧ some k_ ≠ (.slice Ao69 t144.length co69 : Value).ownBlock ∧ some k_ ≠ (.slice Ao72 t149.length co72 : Value).ownBlock ∧ some k_ ≠ (.slice Ao77 t162.length co77 : Value).ownBlock) (Kd.R_keptB (HO127.out) hkp (fun k_ hk_ hs_ => (hk_.2.2.2.1) hs_)) (fun k_ hk_ => ⟨hk_.1.1, hk_.1.2.1, hk_.1.2.2.1, hk_.1.2.2.2.1, hk_.1.2.2.2.2.1, hk_.1.2.2.2.2.2⟩)); replace BK143 := Aside0.mk (blk_kept (bk BK143.out) hkp (fun hs_ => (fun e_ => (Kd.R_ne HO146.out BK143.out (by decide)) e_) hs_)); replace HO151 := Aside0.mk (Kd.R_mono (ok' := fun k_ => some k_ ≠ (.slice Ao49 t103.length co49 : Value).ownBlock ∧ some k_ ≠ (.slice Ao52 t115.length co52 : Value).ownBlock ∧ some k_ ≠ (.slice Ao70 t121.length co70 : Value).ownBlock ∧ some k_ ≠ (.slice Ao67 t125.length co67 : Value).ownBlock ∧ some k_ ≠ (.slice Ao69 t144.length co69 : Value).ownBlock ∧ some k_ ≠ (.slice Ao77 t162.length co77 : Value).ownBlock) (Kd.R_keptB (HO151.out) hkp (fun k_ hk_ hs_ => (hk_.2.2.2.2.1) hs_)) (fun k_ hk_ => ⟨hk_.1.1, hk_.1.2.1, hk_.1.2.2.1, hk_.1.2.2.2.1, hk_.1.2.2.2.2.1, hk_.1.2.2.2.2.2⟩)); replace HO164 := Aside0.mk (Kd.R_mono (ok' := fun k_ => some k_ ≠ (.slice Ao49 t103.length co49 : Value).ownBlock ∧ some k_ ≠ (.slice Ao52 t115.length co52 : Value).ownBlock ∧ some k_ ≠ (.slice Ao70 t121.length co70 : Value).ownBlock ∧ some k_ ≠ (.slice Ao67 t125.length co67 : Value).ownBlock ∧ some k_ ≠ (.slice Ao69 t144.length co69 : Value).ownBlock ∧ some k_ ≠ (.slice Ao72 t149.length co72 : Value).ownBlock) (Kd.R_keptB (HO164.out) hkp (fun k_ hk_ hs_ => (hk_.2.2.2.2.1) hs_)) (fun k_ hk_ => ⟨hk_.1.1, hk_.1.2.1, hk_.1.2.2.1, hk_.1.2.2.2.1, hk_.1.2.2.2.2.1, hk_.1.2.2.2.2.2⟩)); replace HO167 := Aside0.mk (Kd.R_mono (ok' := fun k_ => some k_ ≠ (.slice Ao53 t118.length co53 : Value).ownBlock) (Kd.R_keptB ((Kd.R_apart' HO167.out (Kd.R_typed HO146.out) (by decide))) hkp (fun k_ hk_ hs_ => (hk_.2) hs_)) (fun k_ hk_ => hk_.1.1)); replace HO146 := Aside0.mk (Kd.R_reok rfl hy0 (fun k_ e_ => HO146.out.1 k_ e_)); replace HB := Aside0.mk (hb); (try clear hb); (try clear hkp); (try clear hy0)) | ((with_reducible refine gate_callee (f := 24) rfl ?_); refine goesL_ (some 86) rfl rfl Try.func24 (by kernel_rfl) rfl #[.slice Ao69 t174.length co69, .int .i64 1] rfl (by (try simp only [List.map_toArray, List.map_cons, List.map_nil]); first | done | (rw [show t174.length = t144.length from (Kd.R_reads' HO146.out).1.symm] <;> rfl) | rfl | (simp only [List.length_drop, List.length_take]; rfl)) ?_; (with_reducible refine (laws_heldByteS.calls k _ _ t174 1 t175 _ ?side1 ?side2 A31.out).mono ?_); (case side1 => repeat (first | exact (Kd.R_reads' HO146.out).2.2 | (with_reducible refine Kd.C_alloc ?_ _) | (with_reducible refine Kd.C_drewN ?_ _) | (with_reducible refine Kd.C_drew ?_))); (case side2 => rw [show t174.length = t144.length from (Kd.R_reads' HO146.out).1.symm]; exact (Kd.R_reads' HO146.out).2.1); rintro e w' ⟨rfl, ⟨nd, rfl⟩⟩; refine ⟨_, rfl, ?_⟩))
               (try (rw [drewN_self w83]; generalize hq_ : World.drewN w83 _ = w83; have n0_ : Aside0 (Kd.R (Kd.int .u8) 5 w83 w.heap.size (fun k_ => some k_ ≠ (.slice Ao52 t115.length co52 : Value).ownBlock ∧ some k_ ≠ (.slice Ao70 t121.length co70 : Value).ownBlock ∧ some k_ ≠ (.slice Ao67 t125.length co67 : Value).ownBlock ∧ some k_ ≠ (.slice Ao69 t144.length co69 : Value).ownBlock ∧ some k_ ≠ (.slice Ao72 t149.length co72 : Value).ownBlock ∧ some k_ ≠ (.slice Ao77 t162.length co77 : Value).ownBlock) (.slice Ao49 t103.length co49) t103) := ⟨by rw [← hq_]; exact (rw_ HO105.out)⟩; have n1_ : Aside0 (Kd.R (Kd.int .u8) 5 w83 w.heap.size (fun k_ => some k_ ≠ (.slice Ao49 t103.length co49 : Value).ownBlock ∧ some k_ ≠ (.slice Ao70 t121.length co70 : Value).ownBlock ∧ some k_ ≠ (.slice Ao67 t125.length co67 : Value).ownBlock ∧ some k_ ≠ (.slice Ao69 t144.length co69 : Value).ownBlock ∧ some k_ ≠ (.slice Ao72 t149.length co72 : Value).ownBlock ∧ some k_ ≠ (.slice Ao77 t162.length co77 : Value).ownBlock) (.slice Ao52 t115.length co52) t115) := ⟨by rw [← hq_]; exact (rw_ HO117.out)⟩; have n2_ : Aside0 (Kd.R (Kd.int .i64) 3 w83 w.heap.size (fun k_ => some k_ ≠ (.slice Ao78 t165.length co78 : Value).ownBlock) (.slice Ao53 t118.length co53) t118) := ⟨by rw [← hq_]; exact (rw_ HO120.out)⟩; have n3_ : Aside0 (Kd.R (Kd.int .u8) 5 w83 w.heap.size (fun k_ => some k_ ≠ (.slice Ao49 t103.length co49 : Value).ownBlock ∧ some k_ ≠ (.slice Ao52 t115.length co52 : Value).ownBlock ∧ some k_ ≠ (.slice Ao67 t125.length co67 : Value).ownBlock ∧ some k_ ≠ (.slice Ao69 t144.length co69 : Value).ownBlock ∧ some k_ ≠ (.slice Ao72 t149.length co72 : Value).ownBlock ∧ some k_ ≠ (.slice Ao77 t162.length co77 : Value).ownBlock) (.slice Ao70 t121.length co70) t121) := ⟨by rw [← hq_]; exact (rw_ HO123.out)⟩; have n4_ : Aside0 (Kd.R (Kd.int .u8) 5 w83 w.heap.size (fun k_ => some k_ ≠ (.slice Ao49 t103.length co49 : Value).ownBlock ∧ some k_ ≠ (.slice Ao52 t115.length co52 : Value).ownBlock ∧ some k_ ≠ (.slice Ao70 t121.length co70 : Value).ownBlock ∧ some k_ ≠ (.slice Ao69 t144.length co69 : Value).ownBlock ∧ some k_ ≠ (.slice Ao72 t149.length co72 : Value).ownBlock ∧ some k_ ≠ (.slice Ao77 t162.length co77 : Value).ownBlock) (.slice Ao67 t125.length co67) t170) := ⟨by rw [← hq_]; exact (rw_ HO127.out)⟩; have n5_ : Aside0 (Kd.R (Kd.int .u8) 5 w83 w.heap.size (fun k_ => some k_ ≠ (.slice Ao49 t103.length co49 : Value).ownBlock ∧ some k_ ≠ (.slice Ao52 t115.length co52 : Value).ownBlock ∧ some k_ ≠ (.slice Ao70 t121.length co70 : Value).ownBlock ∧ some k_ ≠ (.slice Ao67 t125.length co67 : Value).ownBlock ∧ some k_ ≠ (.slice Ao72 t149.length co72 : Value).ownBlock ∧ some k_ ≠ (.slice Ao77 t162.length co77 : Value).ownBlock) (.slice Ao69 t144.length co69) t174) := ⟨by rw [← hq_]; exact (rw_ HO146.out)⟩; have n6_ : Aside0 (Kd.R (Kd.int .u8) 5 w83 w.heap.size (fun k_ => some k_ ≠ (.slice Ao49 t103.length co49 : Value).ownBlock ∧ some k_ ≠ (.slice Ao52 t115.length co52 : Value).ownBlock ∧ some k_ ≠ (.slice Ao70 t121.length co70 : Value).ownBlock ∧ some k_ ≠ (.slice Ao67 t125.length co67 : Value).ownBlock ∧ some k_ ≠ (.slice Ao69 t144.length co69 : Value).ownBlock ∧ some k_ ≠ (.slice Ao77 t162.length co77 : Value).ownBlock) (.slice Ao72 t149.length co72) t149) := ⟨by rw [← hq_]; exact (rw_ HO151.out)⟩; have n7_ : Aside0 (Kd.R (Kd.int .u8) 5 w83 w.heap.size (fun k_ => some k_ ≠ (.slice Ao49 t103.length co49 : Value).ownBlock ∧ some k_ ≠ (.slice Ao52 t115.length co52 : Value).ownBlock ∧ some k_ ≠ (.slice Ao70 t121.length co70 : Value).ownBlock ∧ some k_ ≠ (.slice Ao67 t125.length co67 : Value).ownBlock ∧ some k_ ≠ (.slice Ao69 t144.length co69 : Value).ownBlock ∧ some k_ ≠ (.slice Ao72 t149.length co72 : Value).ownBlock) (.slice Ao77 t162.length co77) t162) := ⟨by rw [← hq_]; exact (rw_ HO164.out)⟩; have n8_ : Aside0 (Kd.R (Kd.int .i64) 3 w83 w.heap.size (fun k_ => some k_ ≠ (.slice Ao53 t118.length co53 : Value).ownBlock) (.slice Ao78 t165.length co78) t165) := ⟨by rw [← hq_]; exact (rw_ HO167.out)⟩; have n9_ : Aside0 (w83.heap[gb101]? = some (.cells #[.slice A1_0 l1_0.length c1_0, .int .i64 a1_1, .int .i64 a1_2, .int .i64 a1_3, .slice A1_4 l1_4.length c1_4, .slice A1_5 l1_5.length c1_5, .slice A1_6 l1_6.length c1_6] 44 (0, 0))) := ⟨by rw [← hq_]; exact (bk BK101.out)⟩; have n10_ : Aside0 (w83.heap[gb143]? = some (.cells #[.slice Ao59 t128.length co59, .int .i64 t131, .int .i64 t132, .int .i64 t133, .slice Ao62 t134.length co62, .slice Ao63 t137.length co63, .slice Ao64 t140.length co64] 48 (0, 0))) := ⟨by rw [← hq_]; exact (bk BK143.out)⟩; have n11_ : Aside0 (Below w.heap.size w w83) := ⟨by rw [← hq_]; exact (by repeat (first | exact bw HB.out | refine below_set ?_ GE101.out | refine below_set ?_ GE143.out))⟩; clear HO105 HO117 HO120 HO123 HO127 HO146 HO151 HO164 HO167 BK101 BK143 HB hq_; have HO105 := n0_; have HO117 := n1_; have HO120 := n2_; have HO123 := n3_; have HO127 := n4_; have HO146 := n5_; have HO151 := n6_; have HO164 := n7_; have HO167 := n8_; have BK101 := n9_; have BK143 := n10_; have HB := n11_; clear n0_ n1_ n2_ n3_ n4_ n5_ n6_ n7_ n8_ n9_ n10_ n11_))
               have n0_ := Aside0.mk (Kd.R_drew HO105.out)
               have n1_ := Aside0.mk (Kd.R_drew HO117.out)
               have n2_ := Aside0.mk (Kd.R_drew HO120.out)
               have n3_ := Aside0.mk (Kd.R_drew HO123.out)
               have n4_ := Aside0.mk (Kd.R_drew HO127.out)
               have n5_ := Aside0.mk (Kd.R_drew HO146.out)
               have n6_ := Aside0.mk (Kd.R_drew HO151.out)
               have n7_ := Aside0.mk (Kd.R_drew HO164.out)
               have n8_ := Aside0.mk (Kd.R_drew HO167.out)
               have n9_ := Aside0.mk (blk_drew BK101.out)
               have n10_ := Aside0.mk (blk_drew BK143.out)
               have n11_ := Aside0.mk (below_drew1 HB.out)
               clear HO105
               clear HO117
               clear HO120
               clear HO123
               clear HO127
               clear HO146
               clear HO151
               clear HO164
               clear HO167
               clear BK101
               clear BK143
               clear HB
               have HO105 := n0_
               have HO117 := n1_
               have HO120 := n2_
               have HO123 := n3_
               have HO127 := n4_
               have HO146 := n5_
               have HO151 := n6_
               have HO164 := n7_
               have HO167 := n8_
               have BK101 := n9_
               have BK143 := n10_
               have HB := n11_
               clear n0_ n1_ n2_ n3_ n4_ n5_ n6_ n7_ n8_ n9_ n10_ n11_
               refine start_ (n := 10) (S := fun w' => w'.cell? ⟨gb101, 0, none⟩ = some (.slice A1_0 l1_0.length c1_0) ∧ w'.cell? ⟨gb101, 1, none⟩ = some (.int .i64 a1_1) ∧ w'.cell? ⟨gb101, 2, none⟩ = some (.int .i64 a1_2) ∧ w'.cell? ⟨gb101, 3, none⟩ = some (.int .i64 a1_3) ∧ w'.cell? ⟨gb101, 4, none⟩ = some (.slice A1_4 l1_4.length c1_4) ∧ w'.cell? ⟨gb101, 5, none⟩ = some (.slice A1_5 l1_5.length c1_5) ∧ w'.cell? ⟨gb101, 6, none⟩ = some (.slice A1_6 l1_6.length c1_6)) (ds := []) (bA 10 0) (by kernel_rfl) rfl rfl ⟨(blk_cell BK101.out 0).trans rfl, (blk_cell BK101.out 1).trans rfl, (blk_cell BK101.out 2).trans rfl, (blk_cell BK101.out 3).trans rfl, (blk_cell BK101.out 4).trans rfl, (blk_cell BK101.out 5).trans rfl, (blk_cell BK101.out 6).trans rfl⟩ (fun hHeld => ?_); refine with_tabW laws_FnExactRrPut.tab30 laws_FnExactRrPut.bits30 (fun HT_ HW_ => ?_)
               generalize w83.drew = w84 at HO105 HO117 HO120 HO123 HO127 HO146 HO151 HO164 HO167 BK101 BK143 HB hHeld ⊢
               refine pu_ HT_ 0 93 (bA 10 1) (v := ?_) (a' := ?_) rfl rfl (by kernel_rfl) (fun _ _ _ h => h) (by rfl) ?_ ?_ ?_; rotate_left; intro w'; go_simp; with_reducible rfl; rotate_left; go_simp; rfl
               refine take_ (i := 2) (N := some 95) (v := ?_) (a' := ?_) (bA 10 5) rfl rfl (take_ofW HT_.out HW_.out (by kernel_rfl)) (fun _ _ _ h => h) (Or.inl ⟨by rfl, ?_⟩) hHeld ?_ ?_
               rotate_left; rintro w' ⟨s0, s1, s2, s3, s4, s5, s6⟩; go_simp; with_reducible rfl; rotate_left; go_simp; rfl
               refine one_ (i := 1) (N := some 94) (bA 10 7) rfl rfl (one_of HT_.out (by kernel_rfl)) (by decide) (fun K hK => ?_)
               refine goes_ Try.func19 (by kernel_rfl) rfl #[.slice A0 l0.length c0] (by rfl) rfl rfl (by (try simp only [List.map_toArray, List.map_cons, List.map_nil]); first | done | rfl | (simp only [List.length_drop, List.length_take]; rfl)) ?_
               with_reducible refine (laws_toByteS.calls k _ _ l0 t176 _ ?side1 ?side2 A34.out).mono ?_
               (case side1 => exact cw HR0.out HB.out)
               (case side2 => exact HC0.out)
               rintro e w85 ⟨v177, rfl, ho0, hb⟩
               refine ⟨_, rfl, ?_⟩
               have n0_ := Aside0.mk (Kd.R_elder' (rw_ HO105.out) (Kd.R_base ho0) hb)
               have n1_ := Aside0.mk (Kd.R_elder' (rw_ HO117.out) (Kd.R_base ho0) hb)
               have n2_ := Aside0.mk (Kd.R_below (rw_ HO120.out) hb)
               have n3_ := Aside0.mk (Kd.R_elder' (rw_ HO123.out) (Kd.R_base ho0) hb)
               have n4_ := Aside0.mk (Kd.R_elder' (rw_ HO127.out) (Kd.R_base ho0) hb)
               have n5_ := Aside0.mk (Kd.R_elder' (rw_ HO146.out) (Kd.R_base ho0) hb)
               have n6_ := Aside0.mk (Kd.R_elder' (rw_ HO151.out) (Kd.R_base ho0) hb)
               have n7_ := Aside0.mk (Kd.R_elder' (rw_ HO164.out) (Kd.R_base ho0) hb)
               have n8_ := Aside0.mk (Kd.R_below (rw_ HO167.out) hb)
               have n9_ := Aside0.mk (Kd.R_lower (Kd.R_new' (Kd.R_new' (Kd.R_new' (Kd.R_new' (Kd.R_new' (Kd.R_new' (Kd.R_new' ho0 (Kd.R_lt (rw_ HO105.out))) (Kd.R_lt (rw_ HO117.out))) (Kd.R_lt (rw_ HO123.out))) (Kd.R_lt (rw_ HO127.out))) (Kd.R_lt (rw_ HO146.out))) (Kd.R_lt (rw_ HO151.out))) (Kd.R_lt (rw_ HO164.out))) (below_size (by repeat (first | exact bw HB.out | refine below_set ?_ GE101.out | refine below_set ?_ GE143.out))))
               have n10_ := Aside0.mk (blk_below (bk BK101.out) hb)
               have n11_ := Aside0.mk (blk_below (bk BK143.out) hb)
               have n12_ := Aside0.mk (below_step (by repeat (first | exact bw HB.out | refine below_set ?_ GE101.out | refine below_set ?_ GE143.out)) hb)
               clear HO105
               clear HO117
               clear HO120
               clear HO123
               clear HO127
               clear HO146
               clear HO151
               clear HO164
               clear HO167
               clear BK101
               clear BK143
               clear HB
               have HO105 := n0_
               have HO117 := n1_
               have HO120 := n2_
               have HO123 := n3_
               have HO127 := n4_
               have HO146 := n5_
               have HO151 := n6_
               have HO164 := n7_
               have HO167 := n8_
               have HO178 := n9_
               have BK101 := n10_
               have BK143 := n11_
               have HB := n12_
               clear n0_ n1_ n2_ n3_ n4_ n5_ n6_ n7_ n8_ n9_ n10_ n11_ n12_
               (try clear hb)
               (try clear hb2)
               (try clear hk)
               (try clear hi)
               (try clear ho0)
               refine hK.out _ _ ⟨(blk_cell BK101.out 0).trans rfl, (blk_cell BK101.out 1).trans rfl, (blk_cell BK101.out 2).trans rfl, (blk_cell BK101.out 3).trans rfl, (blk_cell BK101.out 4).trans rfl, (blk_cell BK101.out 5).trans rfl, (blk_cell BK101.out 6).trans rfl⟩ (fun hHeld => ?_)
               clear hK K
               refine norm_ (a' := ?_) ?_ ?_; rotate_left; go_simp; rfl
               refine one_ (i := 3) (N := some 96) (bA 10 15) rfl rfl (one_of HT_.out (by kernel_rfl)) (by decide) (fun K hK => ?_)
               refine goes_ Try.func30 (by kernel_rfl) rfl #[.agg #[.slice A1_0 l1_0.length c1_0, .int .i64 a1_1, .int .i64 a1_2, .int .i64 a1_3, .slice A1_4 l1_4.length c1_4, .slice A1_5 l1_5.length c1_5, .slice A1_6 l1_6.length c1_6]] (by rfl) rfl rfl (by (try simp only [List.map_toArray, List.map_cons, List.map_nil]); first | done | rfl | (simp only [List.length_drop, List.length_take]; rfl)) ?_
               with_reducible refine (laws_toRr.calls k _ _ l1_0 a1_1 a1_2 a1_3 _ _ l1_4 _ _ l1_5 _ _ l1_6 t179 t182 t183 t184 t185 t188 t191 _ ?side1 ?side2 ?side3 ?side4 ?side5 ?side6 ?side7 ?side8 A35.out).mono ?_
               (case side1 => exact cw HR1_0.out HB.out)
               (case side2 => exact HC1_0.out)
               (case side3 => exact cw HR1_4.out HB.out)
               (case side4 => exact HC1_4.out)
               (case side5 => exact cw HR1_5.out HB.out)
               (case side6 => exact HC1_5.out)
               (case side7 => exact cw HR1_6.out HB.out)
               (case side8 => exact HC1_6.out)
               rintro e w86 ⟨v180, v186, v189, v192, rfl, ho0, ho1, ho2, ho3, hb⟩
               refine ⟨_, rfl, ?_⟩
               have n0_ := Aside0.mk (Kd.R_elder' (rw_ HO105.out) (Kd.R_base ho2) hb)
               have n1_ := Aside0.mk (Kd.R_elder' (rw_ HO117.out) (Kd.R_base ho2) hb)
               have n2_ := Aside0.mk (Kd.R_elder' (rw_ HO120.out) (Kd.R_base ho3) hb)
               have n3_ := Aside0.mk (Kd.R_elder' (rw_ HO123.out) (Kd.R_base ho2) hb)
               have n4_ := Aside0.mk (Kd.R_elder' (rw_ HO127.out) (Kd.R_base ho2) hb)
               have n5_ := Aside0.mk (Kd.R_elder' (rw_ HO146.out) (Kd.R_base ho2) hb)
               have n6_ := Aside0.mk (Kd.R_elder' (rw_ HO151.out) (Kd.R_base ho2) hb)
               have n7_ := Aside0.mk (Kd.R_elder' (rw_ HO164.out) (Kd.R_base ho2) hb)
               have n8_ := Aside0.mk (Kd.R_elder' (rw_ HO167.out) (Kd.R_base ho3) hb)
               have n9_ := Aside0.mk (Kd.R_elder' (rw_ HO178.out) (Kd.R_base ho2) hb)
               have n10_ := Aside0.mk (Kd.S_lower (Kd.S_new' (Kd.S_new' (Kd.S_new' (Kd.S_new' (Kd.S_new' (Kd.S_new' (Kd.S_new' (Kd.S_new' ho0 (Kd.R_lt (rw_ HO105.out))) (Kd.R_lt (rw_ HO117.out))) (Kd.R_lt (rw_ HO123.out))) (Kd.R_lt (rw_ HO127.out))) (Kd.R_lt (rw_ HO146.out))) (Kd.R_lt (rw_ HO151.out))) (Kd.R_lt (rw_ HO164.out))) (Kd.R_lt (rw_ HO178.out))) (below_size (by repeat (first | exact bw HB.out | refine below_set ?_ GE101.out | refine below_set ?_ GE143.out))))
               have n11_ := Aside0.mk (Kd.S_lower (Kd.S_new' (Kd.S_new' (Kd.S_new' (Kd.S_new' (Kd.S_new' (Kd.S_new' (Kd.S_new' (Kd.S_new' ho1 (Kd.R_lt (rw_ HO105.out))) (Kd.R_lt (rw_ HO117.out))) (Kd.R_lt (rw_ HO123.out))) (Kd.R_lt (rw_ HO127.out))) (Kd.R_lt (rw_ HO146.out))) (Kd.R_lt (rw_ HO151.out))) (Kd.R_lt (rw_ HO164.out))) (Kd.R_lt (rw_ HO178.out))) (below_size (by repeat (first | exact bw HB.out | refine below_set ?_ GE101.out | refine below_set ?_ GE143.out))))
               have n12_ := Aside0.mk (Kd.R_lower (Kd.R_new' (Kd.R_new' (Kd.R_new' (Kd.R_new' (Kd.R_new' (Kd.R_new' (Kd.R_new' (Kd.R_new' ho2 (Kd.R_lt (rw_ HO105.out))) (Kd.R_lt (rw_ HO117.out))) (Kd.R_lt (rw_ HO123.out))) (Kd.R_lt (rw_ HO127.out))) (Kd.R_lt (rw_ HO146.out))) (Kd.R_lt (rw_ HO151.out))) (Kd.R_lt (rw_ HO164.out))) (Kd.R_lt (rw_ HO178.out))) (below_size (by repeat (first | exact bw HB.out | refine below_set ?_ GE101.out | refine below_set ?_ GE143.out))))
               have n13_ := Aside0.mk (Kd.R_lower (Kd.R_new' (Kd.R_new' ho3 (Kd.R_lt (rw_ HO120.out))) (Kd.R_lt (rw_ HO167.out))) (below_size (by repeat (first | exact bw HB.out | refine below_set ?_ GE101.out | refine below_set ?_ GE143.out))))
               have n14_ := Aside0.mk (blk_below (bk BK101.out) hb)
               have n15_ := Aside0.mk (blk_below (bk BK143.out) hb)
               have n16_ := Aside0.mk (below_step (by repeat (first | exact bw HB.out | refine below_set ?_ GE101.out | refine below_set ?_ GE143.out)) hb)
               clear HO105
               clear HO117
               clear HO120
               clear HO123
               clear HO127
               clear HO146
               clear HO151
               clear HO164
               clear HO167
               clear HO178
               clear BK101
               clear BK143
               clear HB
               have HO105 := n0_
               have HO117 := n1_
               have HO120 := n2_
               have HO123 := n3_
               have HO127 := n4_
               have HO146 := n5_
               have HO151 := n6_
               have HO164 := n7_
               have HO167 := n8_
               have HO178 := n9_
               have HO181 := n10_
               have HO187 := n11_
               have HO190 := n12_
               have HO193 := n13_
               have BK101 := n14_
               have BK143 := n15_
               have HB := n16_
               clear n0_ n1_ n2_ n3_ n4_ n5_ n6_ n7_ n8_ n9_ n10_ n11_ n12_ n13_ n14_ n15_ n16_
               (try clear hb)
               (try clear hb2)
               (try clear hk)
               (try clear hi)
               (try clear ho0)
               (try clear ho1)
               (try clear ho2)
               (try clear ho3)
               obtain ⟨Ao87, co87, eo87⟩ := Kd.R_slice HO178.out
               (first | subst eo87 | (injection eo87 with f1_ f2_ f3_; have f4_ := f1_.symm; have f5_ := f3_.symm; clear f1_ f2_ f3_; subst f4_; subst f5_))
               obtain ⟨Ao88, co88, eo88⟩ := Kd.S_slice HO181.out
               (first | subst eo88 | (injection eo88 with f1_ f2_ f3_; have f4_ := f1_.symm; have f5_ := f3_.symm; clear f1_ f2_ f3_; subst f4_; subst f5_))
               obtain ⟨Ao89, co89, eo89⟩ := Kd.S_slice HO187.out
               (first | subst eo89 | (injection eo89 with f1_ f2_ f3_; have f4_ := f1_.symm; have f5_ := f3_.symm; clear f1_ f2_ f3_; subst f4_; subst f5_))
               obtain ⟨Ao90, co90, eo90⟩ := Kd.R_slice HO190.out
               (first | subst eo90 | (injection eo90 with f1_ f2_ f3_; have f4_ := f1_.symm; have f5_ := f3_.symm; clear f1_ f2_ f3_; subst f4_; subst f5_))
               obtain ⟨Ao91, co91, eo91⟩ := Kd.R_slice HO193.out
               (first | subst eo91 | (injection eo91 with f1_ f2_ f3_; have f4_ := f1_.symm; have f5_ := f3_.symm; clear f1_ f2_ f3_; subst f4_; subst f5_))
               refine hK.out _ _ ⟨(blk_cell BK101.out 0).trans rfl, (blk_cell BK101.out 1).trans rfl, (blk_cell BK101.out 2).trans rfl, (blk_cell BK101.out 3).trans rfl, (blk_cell BK101.out 4).trans rfl, (blk_cell BK101.out 5).trans rfl, (blk_cell BK101.out 6).trans rfl⟩ (fun hHeld => ?_)
               clear hK K
               refine norm_ (a' := ?_) ?_ ?_; rotate_left; go_simp; rfl
               refine one_ (i := 4) (N := some 97) (bA 10 31) rfl rfl (one_of HT_.out (by kernel_rfl)) (by decide) (fun K hK => ?_)
               refine goes_ Try.func48 (by kernel_rfl) rfl #[.slice Ao87 t176.length co87, .agg #[.slice Ao88 t179.length co88, .int .i64 t182, .int .i64 t183, .int .i64 t184, .slice Ao89 t185.length co89, .slice Ao90 t188.length co90, .slice Ao91 t191.length co91]] (by rfl) rfl rfl (by (try simp only [List.map_toArray, List.map_cons, List.map_nil]); first | done | rfl | (simp only [List.length_drop, List.length_take]; rfl)) ?_
               with_reducible refine (impl_RrPut.calls k (fun k_ => some k_ = (.slice Ao87 t176.length co87 : Value).ownBlock) _ _ t176 _ _ t179 t182 t183 t184 _ _ t185 _ _ t188 _ _ t191 t194 t197 _ ?side1 ?side2 ?side3 ?side4 ?side5 ?side6 ?side7 ?side8 ?side9 A36.out).mono ?_
               (case side1 => exact Kd.R_V (Kd.R_tight rfl (Kd.R_types (Kd.R_types (Kd.R_apart' (Kd.R_apart' (Kd.R_apart' (Kd.R_apart' (Kd.R_apart' (HO178.out) (Kd.R_typed HO120.out) (by decide)) (Kd.R_typed HO167.out) (by decide)) (Kd.S_typed HO181.out) (by decide)) (Kd.S_typed HO187.out) (by decide)) (Kd.R_typed HO193.out) (by decide)) BK101.out (by decide)) BK143.out (by decide))))
               (case side2 => repeat (first | exact (Kd.S_reads' HO181.out).2.2 | (with_reducible refine Kd.C_alloc ?_ _) | (with_reducible refine Kd.C_drewN ?_ _) | (with_reducible refine Kd.C_drew ?_)))
               (case side3 => exact (Kd.S_reads' HO181.out).2.1)
               (case side4 => repeat (first | exact (Kd.S_reads' HO187.out).2.2 | (with_reducible refine Kd.C_alloc ?_ _) | (with_reducible refine Kd.C_drewN ?_ _) | (with_reducible refine Kd.C_drew ?_)))
               (case side5 => exact (Kd.S_reads' HO187.out).2.1)
               (case side6 => repeat (first | exact (Kd.R_reads' HO190.out).2.2 | (with_reducible refine Kd.C_alloc ?_ _) | (with_reducible refine Kd.C_drewN ?_ _) | (with_reducible refine Kd.C_drew ?_)))
               (case side7 => exact (Kd.R_reads' HO190.out).2.1)
               (case side8 => repeat (first | exact (Kd.R_reads' HO193.out).2.2 | (with_reducible refine Kd.C_alloc ?_ _) | (with_reducible refine Kd.C_drewN ?_ _) | (with_reducible refine Kd.C_drew ?_)))
               (case side9 => exact (Kd.R_reads' HO193.out).2.1)
               rintro e w92 ⟨v195, rfl, ho0, hb⟩
               refine ⟨_, rfl, ?_⟩
               have n0_ := Aside0.mk (Kd.R_elder' (rw_ HO105.out) (Kd.R_base ho0) hb)
               have n1_ := Aside0.mk (Kd.R_elder' (rw_ HO117.out) (Kd.R_base ho0) hb)
               have n2_ := Aside0.mk (Kd.R_below (rw_ HO120.out) hb)
               have n3_ := Aside0.mk (Kd.R_elder' (rw_ HO123.out) (Kd.R_base ho0) hb)
               have n4_ := Aside0.mk (Kd.R_elder' (rw_ HO127.out) (Kd.R_base ho0) hb)
               have n5_ := Aside0.mk (Kd.R_elder' (rw_ HO146.out) (Kd.R_base ho0) hb)
               have n6_ := Aside0.mk (Kd.R_elder' (rw_ HO151.out) (Kd.R_base ho0) hb)
               have n7_ := Aside0.mk (Kd.R_elder' (rw_ HO164.out) (Kd.R_base ho0) hb)
               have n8_ := Aside0.mk (Kd.R_below (rw_ HO167.out) hb)
               have n9_ := Aside0.mk (Kd.R_elder' (rw_ HO178.out) (Kd.R_base ho0) hb)
               have n10_ := Aside0.mk (Kd.S_elder' (sw HO181.out) (Kd.R_base ho0) hb)
               have n11_ := Aside0.mk (Kd.S_elder' (sw HO187.out) (Kd.R_base ho0) hb)
               have n12_ := Aside0.mk (Kd.R_elder' (rw_ HO190.out) (Kd.R_base ho0) hb)
               have n13_ := Aside0.mk (Kd.R_below (rw_ HO193.out) hb)
               have n14_ := Aside0.mk (Kd.R_lower (Kd.R_new' (Kd.R_new' (Kd.R_new' (Kd.R_new' (Kd.R_new' (Kd.R_new' (Kd.R_new' (Kd.R_new' (Kd.R_new' (Kd.R_mono (ok' := fun k_ => True) ho0 (fun _ hk_ => trivial)) (Kd.R_lt (rw_ HO105.out))) (Kd.R_lt (rw_ HO117.out))) (Kd.R_lt (rw_ HO123.out))) (Kd.R_lt (rw_ HO127.out))) (Kd.R_lt (rw_ HO146.out))) (Kd.R_lt (rw_ HO151.out))) (Kd.R_lt (rw_ HO164.out))) (Kd.R_lt (rw_ HO178.out))) (Kd.R_lt (rw_ HO190.out))) (below_size (by repeat (first | exact bw HB.out | refine below_set ?_ GE101.out | refine below_set ?_ GE143.out))))
               have n15_ := Aside0.mk (blk_below (bk BK101.out) hb)
               have n16_ := Aside0.mk (blk_below (bk BK143.out) hb)
               have n17_ := Aside0.mk (below_step (by repeat (first | exact bw HB.out | refine below_set ?_ GE101.out | refine below_set ?_ GE143.out)) hb)
               clear HO105
               clear HO117
               clear HO120
               clear HO123
               clear HO127
               clear HO146
               clear HO151
               clear HO164
               clear HO167
               clear HO178
               clear HO181
               clear HO187
               clear HO190
               clear HO193
               clear BK101
               clear BK143
               clear HB
               have HO105 := n0_
               have HO117 := n1_
               have HO120 := n2_
               have HO123 := n3_
               have HO127 := n4_
               have HO146 := n5_
               have HO151 := n6_
               have HO164 := n7_
               have HO167 := n8_
               have HO178 := n9_
               have HO181 := n10_
               have HO187 := n11_
               have HO190 := n12_
               have HO193 := n13_
               have HO196 := n14_
               have BK101 := n15_
               have BK143 := n16_
               have HB := n17_
               clear n0_ n1_ n2_ n3_ n4_ n5_ n6_ n7_ n8_ n9_ n10_ n11_ n12_ n13_ n14_ n15_ n16_ n17_
               (try clear hb)
               (try clear hb2)
               (try clear hk)
               (try clear hi)
               (try clear ho0)
               refine hK.out _ _ ⟨(blk_cell BK101.out 0).trans rfl, (blk_cell BK101.out 1).trans rfl, (blk_cell BK101.out 2).trans rfl, (blk_cell BK101.out 3).trans rfl, (blk_cell BK101.out 4).trans rfl, (blk_cell BK101.out 5).trans rfl, (blk_cell BK101.out 6).trans rfl⟩ (fun hHeld => ?_)
               clear hK K
               refine norm_ (a' := ?_) ?_ ?_; rotate_left; go_simp; rfl
               refine pu_ HT_ 5 92 (bA 10 63) (v := ?_) (a' := ?_) rfl rfl (by kernel_rfl) (fun _ _ _ h => h) (by rfl) ?_ ?_ ?_; rotate_left; intro w'; go_simp; with_reducible rfl; rotate_left; go_simp; rfl
               refine pu_ HT_ 6 98 (bA 10 127) (v := ?_) (a' := ?_) rfl rfl (by kernel_rfl) (fun _ _ _ h => h) (by rfl) ?_ ?_ ?_; rotate_left; intro w'; go_simp; with_reducible rfl; rotate_left; go_simp; rfl
               refine pu_ HT_ 7 99 (bA 10 255) (v := ?_) (a' := ?_) rfl rfl (by kernel_rfl) (fun _ _ _ h => h) (by rfl) ?_ ?_ ?_; rotate_left; intro w'; go_simp; with_reducible rfl; rotate_left; go_simp; rfl
               refine pu_ HT_ 8 15 (bA 10 511) (v := ?_) (a' := ?_) rfl rfl (by kernel_rfl) (fun _ _ _ h => h) (by rfl) ?_ ?_ ?_; rotate_left; intro w'; go_simp; with_reducible rfl; rotate_left; go_simp; rfl
               refine pu_ HT_ 9 16 (bA 10 1023) (v := ?_) (a' := ?_) rfl rfl (by kernel_rfl) (fun _ _ _ h => h) (by rfl) ?_ ?_ ?_; rotate_left; intro w'; go_simp; with_reducible rfl; rotate_left; go_simp; rfl
               refine done_ (done_of HT_.out (by kernel_rfl)) ?_
               obtain ⟨Ao93, co93, eo93⟩ := Kd.R_slice HO196.out
               subst eo93
               try go_wp2_with (first | ((with_reducible refine gate_callee (f := 21) rfl ?_); refine goesL_ (some 102) rfl rfl Try.func21 (by kernel_rfl) rfl #[.slice Ao93 t194.length co93, .slice Ao70 t121.length co70] rfl (by (try simp only [List.map_toArray, List.map_cons, List.map_nil]); first | done | rfl | (simp only [List.length_drop, List.length_take]; rfl)) ?_; (with_reducible refine (laws_eqByteS.calls k _ _ t194 _ _ t121 true _ ?side1 ?side2 ?side3 ?side4 A37.out).mono ?_); (case side1 => repeat (first | exact (Kd.R_reads' HO196.out).2.2 | (with_reducible refine Kd.C_alloc ?_ _) | (with_reducible refine Kd.C_drewN ?_ _) | (with_reducible refine Kd.C_drew ?_))); (case side2 => exact (Kd.R_reads' HO196.out).2.1); (case side3 => repeat (first | exact (Kd.R_reads' HO123.out).2.2 | (with_reducible refine Kd.C_alloc ?_ _) | (with_reducible refine Kd.C_drewN ?_ _) | (with_reducible refine Kd.C_drew ?_))); (case side4 => exact (Kd.R_reads' HO123.out).2.1); rintro e w' ⟨rfl, ⟨nd, rfl⟩⟩; refine ⟨_, rfl, ?_⟩) | ((with_reducible refine gate_callee (f := 24) rfl ?_); refine goesL_ (some 111) rfl rfl Try.func24 (by kernel_rfl) rfl #[.slice Ao69 t174.length co69, .int .i64 1] rfl (by (try simp only [List.map_toArray, List.map_cons, List.map_nil]); first | done | (rw [show t174.length = t144.length from (Kd.R_reads' HO146.out).1.symm] <;> rfl) | rfl | (simp only [List.length_drop, List.length_take]; rfl)) ?_; (with_reducible refine (laws_heldByteS.calls k _ _ t174 1 t199 _ ?side1 ?side2 A40.out).mono ?_); (case side1 => repeat (first | exact (Kd.R_reads' HO146.out).2.2 | (with_reducible refine Kd.C_alloc ?_ _) | (with_reducible refine Kd.C_drewN ?_ _) | (with_reducible refine Kd.C_drew ?_))); (case side2 => rw [show t174.length = t144.length from (Kd.R_reads' HO146.out).1.symm]; exact (Kd.R_reads' HO146.out).2.1); rintro e w' ⟨rfl, ⟨nd, rfl⟩⟩; refine ⟨_, rfl, ?_⟩))
               go_ret
               exact ⟨by first | rfl | (simp [errW_none, errW_some] <;> rfl) | (simp [*, errW_none, errW_some] <;> rfl), by repeat (first | exact bw HB.out | refine below_set ?_ GE101.out | refine below_set ?_ GE143.out)⟩
              ·rw [if_neg c42] at H
               exact absurd H (by simp)
           ·replace c38 := Bool.eq_false_iff.mpr c38
            subst c38
            have H1 : (none) = some r := by rw [if_neg (show ¬ (false = true) by decide)] at H; exact H
            clear H
            have H := H1
            clear H1
            exact absurd H (by simp)
          ·rw [if_neg c33] at H
           exact absurd H (by simp)
        ·replace c29 := Bool.eq_false_iff.mpr c29
         subst c29
         have H1 : (none) = some r := by rw [if_neg (show ¬ (false = true) by decide)] at H; exact H
         clear H
         have H := H1
         clear H1
         exact absurd H (by simp)
      ·replace c24 := Bool.eq_false_iff.mpr c24
       subst c24
       have H1 : (none) = some r := by rw [if_neg (show ¬ (false = true) by decide)] at H; exact H
       clear H
       have H := H1
       clear H1
       exact absurd H (by simp)
     ·replace c21 := Bool.eq_false_iff.mpr c21
      subst c21
      have H1 : (none) = some r := by rw [if_neg (show ¬ (false = true) by decide)] at H; exact H
      clear H
      have H := H1
      clear H1
      exact absurd H (by simp)
   ·replace c17 := Bool.eq_false_iff.mpr c17
    subst c17
    have H1 : (none) = some r := by rw [if_neg (show ¬ (false = true) by decide)] at H; exact H
    clear H
    have H := H1
    clear H1
    exact absurd H (by simp)


/-! ### spec_DataPut: function 40 -/
def spec_DataPut.f (k : Nat) (l0_0 : List (List Int)) (a0_1 : Int) (a0_2 : Int) (a0_3 : Int) (l0_4 : List (List Int)) (l0_5 : List Int) (l0_6 : List Int) : Option (List Int × Bool) := (spec_RrOk.f k l0_0 a0_1 a0_2 a0_3 l0_4 l0_5 l0_6).bind fun t102 => (if t102 = true then ((spec_l3put.f l0_0 a0_1 a0_2 a0_3 l0_4 l0_5 l0_6).bind fun t103 => (some (t103, true))) else (some (([] : List Int), false)))
theorem spec_DataPut.mono : ∀ a0 a1 a2 a3 a4 a5 a6 k, LeO (spec_DataPut.f k a0 a1 a2 a3 a4 a5 a6) (spec_DataPut.f (k + 1) a0 a1 a2 a3 a4 a5 a6) := by
 intro a0 a1 a2 a3 a4 a5 a6 k
 unfold spec_DataPut.f
 repeat' first
   | (with_reducible exact spec_RrOk.mono _ _ _ _ _ _ _ _)
   | (with_reducible exact LeO.refl _)
   | (with_reducible exact LeO.none _)
   | (with_reducible refine LeO.ite ?_ ?_)
   | (with_reducible refine LeO.bind ?_ (fun _ => ?_))
   | exact spec_RrOk.mono _ _ _ _ _ _ _ _
   | exact LeO.none _
   | refine LeO.ite ?_ ?_
   | refine LeO.bind ?_ (fun _ => ?_)
set_option maxHeartbeats 8000000 in
set_option maxRecDepth 100000 in
theorem spec_DataPut.calls (k : Nat) (A0_0 : Option Addr) (c0_0 : Nat) (l0_0 : List (List Int)) (a0_1 : Int) (a0_2 : Int) (a0_3 : Int) (A0_4 : Option Addr) (c0_4 : Nat) (l0_4 : List (List Int)) (A0_5 : Option Addr) (c0_5 : Nat) (l0_5 : List Int) (A0_6 : Option Addr) (c0_6 : Nat) (l0_6 : List Int) (r1 : List Int) (r2 : Bool) (w : World) (hr0_0 : Kd.C (Kd.slice 5 (Kd.int .u8)) w A0_0 l0_0.length l0_0) (hc0_0 : l0_0.length ≤ c0_0) (hr0_4 : Kd.C (Kd.slice 5 (Kd.int .u8)) w A0_4 l0_4.length l0_4) (hc0_4 : l0_4.length ≤ c0_4) (hr0_5 : Kd.C (Kd.int .u8) w A0_5 l0_5.length l0_5) (hc0_5 : l0_5.length ≤ c0_5) (hr0_6 : Kd.C (Kd.int .i64) w A0_6 l0_6.length l0_6) (hc0_6 : l0_6.length ≤ c0_6) (h : spec_DataPut.f k l0_0 a0_1 a0_2 a0_3 l0_4 l0_5 l0_6 = some (r1, r2)) :
  Calls Try.prog 40 #[.agg #[.slice A0_0 l0_0.length c0_0, .int .i64 a0_1, .int .i64 a0_2, .int .i64 a0_3, .slice A0_4 l0_4.length c0_4, .slice A0_5 l0_5.length c0_5, .slice A0_6 l0_6.length c0_6]] w fun e w' => ∃ v0_ : Value, e = .returned (.tuple #[v0_, .bool r2]) ∧ Kd.R (Kd.int .u8) 5 w' w.heap.size (fun _ => True) v0_ r1 ∧ Below w.heap.size w w' := by
 have hu48 := Try.underlying48
 have HR0_0 := Aside0.mk hr0_0
 have HC0_0 := Aside0.mk hc0_0
 clear hr0_0 hc0_0
 have HR0_4 := Aside0.mk hr0_4
 have HC0_4 := Aside0.mk hc0_4
 clear hr0_4 hc0_4
 have HR0_5 := Aside0.mk hr0_5
 have HC0_5 := Aside0.mk hc0_5
 clear hr0_5 hc0_5
 have HR0_6 := Aside0.mk hr0_6
 have HC0_6 := Aside0.mk hc0_6
 clear hr0_6 hc0_6
 have HB := Aside0.mk (Below.refl w.heap.size w)
 have H : ((spec_RrOk.f k l0_0 a0_1 a0_2 a0_3 l0_4 l0_5 l0_6).bind fun t102 => (if t102 = true then ((spec_l3put.f l0_0 a0_1 a0_2 a0_3 l0_4 l0_5 l0_6).bind fun t103 => (some (t103, true))) else (some (([] : List Int), false)))) = some (r1, r2) := h
 clear h
 replace H := Option.bind_eq_some_iff.mp H
 obtain ⟨t102, A20, H⟩ := H
 replace H : (if t102 = true then ((spec_l3put.f l0_0 a0_1 a0_2 a0_3 l0_4 l0_5 l0_6).bind fun t103 => (some (t103, true))) else (some (([] : List Int), false))) = some (r1, r2) := H
 have A2 := Aside0.mk A20
 clear A20
 by_cases c3 : t102 = true
 ·subst c3
  have H1 : ((spec_l3put.f l0_0 a0_1 a0_2 a0_3 l0_4 l0_5 l0_6).bind fun t103 => (some (t103, true))) = some (r1, r2) := by rw [if_pos rfl] at H; exact H
  clear H
  have H := H1
  clear H1
  replace H := Option.bind_eq_some_iff.mp H
  obtain ⟨t103, A40, H⟩ := H
  replace H : (some (t103, true)) = some (r1, r2) := H
  have A4 := Aside0.mk A40
  clear A40
  simp only [Option.some.injEq, Prod.mk.injEq] at H
  obtain ⟨rfl, rfl⟩ := H
  go_enter Try.func40, Try.ntmps40
  go_wp2_with (first | ((with_reducible refine gate_dst (N := 1) rfl ?_); refine boxed (N := 1) rfl rfl (cs := #[.slice A0_0 l0_0.length c0_0, .int .i64 a0_1, .int .i64 a0_2, .int .i64 a0_3, .slice A0_4 l0_4.length c0_4, .slice A0_5 l0_5.length c0_5, .slice A0_6 l0_6.length c0_6]) (t := 48) HB.out (by first | (go_simp; done) | (go_simp; rfl)) ?_; clear HB; intro gb101 w5 hg HB BK101 GE101 hb; have GW101 := GE101; clear hb hg; obtain ⟨hcz6_0, hcz6_1, hcz6_2, hcz6_3, hcz6_4, hcz6_5, hcz6_6, hfz6_0, hfz6_1, hfz6_2, hfz6_3, hfz6_4, hfz6_5, hfz6_6⟩ := cells7 BK101.out) | ((with_reducible refine gate_callee (f := 29) rfl ?_); refine goesL_ (some 5) rfl rfl Try.func29 (by kernel_rfl) rfl #[.agg #[.slice A0_0 l0_0.length c0_0, .int .i64 a0_1, .int .i64 a0_2, .int .i64 a0_3, .slice A0_4 l0_4.length c0_4, .slice A0_5 l0_5.length c0_5, .slice A0_6 l0_6.length c0_6]] rfl (by (try simp only [List.map_toArray, List.map_cons, List.map_nil]); first | done | rfl | (simp only [List.length_drop, List.length_take]; rfl)) ?_; (with_reducible refine (spec_RrOk.calls k _ _ l0_0 a0_1 a0_2 a0_3 _ _ l0_4 _ _ l0_5 _ _ l0_6 true _ ?side1 ?side2 ?side3 ?side4 ?side5 ?side6 ?side7 ?side8 A2.out).mono ?_); (case side1 => exact cw HR0_0.out HB.out); (case side2 => exact HC0_0.out); (case side3 => exact cw HR0_4.out HB.out); (case side4 => exact HC0_4.out); (case side5 => exact cw HR0_5.out HB.out); (case side6 => exact HC0_5.out); (case side7 => exact cw HR0_6.out HB.out); (case side8 => exact HC0_6.out); rintro e w7 ⟨rfl, hb⟩; refine ⟨_, rfl, ?_⟩; replace BK101 := Aside0.mk (blk_below (bk BK101.out) hb); replace HB := Aside0.mk (below_step (bw HB.out) hb); (try clear hb); obtain ⟨hcz8_0, hcz8_1, hcz8_2, hcz8_3, hcz8_4, hcz8_5, hcz8_6, hfz8_0, hfz8_1, hfz8_2, hfz8_3, hfz8_4, hfz8_5, hfz8_6⟩ := cells7 BK101.out) | ((with_reducible refine gate_callee (f := 80) rfl ?_); refine goesL_ (some 8) rfl rfl Try.func80 (by kernel_rfl) rfl #[.agg #[.slice A0_0 l0_0.length c0_0, .int .i64 a0_1, .int .i64 a0_2, .int .i64 a0_3, .slice A0_4 l0_4.length c0_4, .slice A0_5 l0_5.length c0_5, .slice A0_6 l0_6.length c0_6]] rfl (by (try simp only [List.map_toArray, List.map_cons, List.map_nil]); first | done | rfl | (simp only [List.length_drop, List.length_take]; rfl)) ?_; (with_reducible refine (spec_l3put.calls _ _ l0_0 a0_1 a0_2 a0_3 _ _ l0_4 _ _ l0_5 _ _ l0_6 t103 _ ?side1 ?side2 ?side3 ?side4 ?side5 ?side6 ?side7 ?side8 A4.out).mono ?_); (case side1 => exact cw HR0_0.out HB.out); (case side2 => exact HC0_0.out); (case side3 => exact cw HR0_4.out HB.out); (case side4 => exact HC0_4.out); (case side5 => exact cw HR0_5.out HB.out); (case side6 => exact HC0_5.out); (case side7 => exact cw HR0_6.out HB.out); (case side8 => exact HC0_6.out); rintro e w9 ⟨v104, rfl, ho0, hb⟩; refine ⟨_, rfl, ?_⟩; have HO105 := Aside0.mk (Kd.R_lower ho0 (below_size (bw HB.out))); replace BK101 := Aside0.mk (blk_below (bk BK101.out) hb); replace HB := Aside0.mk (below_step (bw HB.out) hb); (try clear hb); (try clear ho0)))
  go_ret2
  exact ⟨_, by first | rfl | (simp [errW_none, errW_some] <;> rfl) | (simp [*, errW_none, errW_some] <;> rfl), rw_ HO105.out, bw HB.out⟩
 ·replace c3 := Bool.eq_false_iff.mpr c3
  subst c3
  have H1 : (some (([] : List Int), false)) = some (r1, r2) := by rw [if_neg (show ¬ (false = true) by decide)] at H; exact H
  clear H
  have H := H1
  clear H1
  simp only [Option.some.injEq, Prod.mk.injEq] at H
  obtain ⟨rfl, rfl⟩ := H
  go_enter Try.func40, Try.ntmps40
  go_wp2_with (first | ((with_reducible refine gate_dst (N := 1) rfl ?_); refine boxed (N := 1) rfl rfl (cs := #[.slice A0_0 l0_0.length c0_0, .int .i64 a0_1, .int .i64 a0_2, .int .i64 a0_3, .slice A0_4 l0_4.length c0_4, .slice A0_5 l0_5.length c0_5, .slice A0_6 l0_6.length c0_6]) (t := 48) HB.out (by first | (go_simp; done) | (go_simp; rfl)) ?_; clear HB; intro gb101 w10 hg HB BK101 GE101 hb; have GW101 := GE101; clear hb hg; obtain ⟨hcz11_0, hcz11_1, hcz11_2, hcz11_3, hcz11_4, hcz11_5, hcz11_6, hfz11_0, hfz11_1, hfz11_2, hfz11_3, hfz11_4, hfz11_5, hfz11_6⟩ := cells7 BK101.out) | ((with_reducible refine gate_callee (f := 29) rfl ?_); refine goesL_ (some 5) rfl rfl Try.func29 (by kernel_rfl) rfl #[.agg #[.slice A0_0 l0_0.length c0_0, .int .i64 a0_1, .int .i64 a0_2, .int .i64 a0_3, .slice A0_4 l0_4.length c0_4, .slice A0_5 l0_5.length c0_5, .slice A0_6 l0_6.length c0_6]] rfl (by (try simp only [List.map_toArray, List.map_cons, List.map_nil]); first | done | rfl | (simp only [List.length_drop, List.length_take]; rfl)) ?_; (with_reducible refine (spec_RrOk.calls k _ _ l0_0 a0_1 a0_2 a0_3 _ _ l0_4 _ _ l0_5 _ _ l0_6 false _ ?side1 ?side2 ?side3 ?side4 ?side5 ?side6 ?side7 ?side8 A2.out).mono ?_); (case side1 => exact cw HR0_0.out HB.out); (case side2 => exact HC0_0.out); (case side3 => exact cw HR0_4.out HB.out); (case side4 => exact HC0_4.out); (case side5 => exact cw HR0_5.out HB.out); (case side6 => exact HC0_5.out); (case side7 => exact cw HR0_6.out HB.out); (case side8 => exact HC0_6.out); rintro e w12 ⟨rfl, hb⟩; refine ⟨_, rfl, ?_⟩; replace BK101 := Aside0.mk (blk_below (bk BK101.out) hb); replace HB := Aside0.mk (below_step (bw HB.out) hb); (try clear hb)))
  go_ret2
  exact ⟨_, by first | rfl | (simp [errW_none, errW_some] <;> rfl) | (simp [*, errW_none, errW_some] <;> rfl), by first | exact Kd.R_nil _ _ _ _ _ | exact Kd.N_nil _ _ _ _ _ | exact Kd.V_nil _ _ _ _ _ | exact Kd.Q_nil _ _ _ _ _ | exact Kd.S_nil _ _ _ _ _, bw HB.out⟩


/-! ### impl_DataPut: function 41 -/
def impl_DataPut.f (k : Nat) (l0_0 : List (List Int)) (a0_1 : Int) (a0_2 : Int) (a0_3 : Int) (l0_4 : List (List Int)) (l0_5 : List Int) (l0_6 : List Int) : Option (List Int × Bool) := (impl_RrOk.f k l0_0 a0_1 a0_2 a0_3 l0_4 l0_5 l0_6).bind fun t102 => (if t102 = true then ((impl_Rr_data.f k l0_0 a0_1 a0_2 a0_3 l0_4 l0_5 l0_6).bind fun t103 => (some (t103, true))) else (some (([] : List Int), false)))
theorem impl_DataPut.mono : ∀ a0 a1 a2 a3 a4 a5 a6 k, LeO (impl_DataPut.f k a0 a1 a2 a3 a4 a5 a6) (impl_DataPut.f (k + 1) a0 a1 a2 a3 a4 a5 a6) := by
 intro a0 a1 a2 a3 a4 a5 a6 k
 unfold impl_DataPut.f
 repeat' first
   | (with_reducible exact impl_RrOk.mono _ _ _ _ _ _ _ _)
   | (with_reducible exact impl_Rr_data.mono _ _ _ _ _ _ _ _)
   | (with_reducible exact LeO.refl _)
   | (with_reducible exact LeO.none _)
   | (with_reducible refine LeO.ite ?_ ?_)
   | (with_reducible refine LeO.bind ?_ (fun _ => ?_))
   | exact impl_RrOk.mono _ _ _ _ _ _ _ _
   | exact impl_Rr_data.mono _ _ _ _ _ _ _ _
   | exact LeO.none _
   | refine LeO.ite ?_ ?_
   | refine LeO.bind ?_ (fun _ => ?_)
set_option maxHeartbeats 8000000 in
set_option maxRecDepth 100000 in
theorem impl_DataPut.calls (k : Nat) (A0_0 : Option Addr) (c0_0 : Nat) (l0_0 : List (List Int)) (a0_1 : Int) (a0_2 : Int) (a0_3 : Int) (A0_4 : Option Addr) (c0_4 : Nat) (l0_4 : List (List Int)) (A0_5 : Option Addr) (c0_5 : Nat) (l0_5 : List Int) (A0_6 : Option Addr) (c0_6 : Nat) (l0_6 : List Int) (r1 : List Int) (r2 : Bool) (w : World) (hr0_0 : Kd.C (Kd.slice 5 (Kd.int .u8)) w A0_0 l0_0.length l0_0) (hc0_0 : l0_0.length ≤ c0_0) (hr0_4 : Kd.C (Kd.slice 5 (Kd.int .u8)) w A0_4 l0_4.length l0_4) (hc0_4 : l0_4.length ≤ c0_4) (hr0_5 : Kd.C (Kd.int .u8) w A0_5 l0_5.length l0_5) (hc0_5 : l0_5.length ≤ c0_5) (hr0_6 : Kd.C (Kd.int .i64) w A0_6 l0_6.length l0_6) (hc0_6 : l0_6.length ≤ c0_6) (h : impl_DataPut.f k l0_0 a0_1 a0_2 a0_3 l0_4 l0_5 l0_6 = some (r1, r2)) :
  Calls Try.prog 41 #[.agg #[.slice A0_0 l0_0.length c0_0, .int .i64 a0_1, .int .i64 a0_2, .int .i64 a0_3, .slice A0_4 l0_4.length c0_4, .slice A0_5 l0_5.length c0_5, .slice A0_6 l0_6.length c0_6]] w fun e w' => ∃ v0_ : Value, e = .returned (.tuple #[v0_, .bool r2]) ∧ Kd.R (Kd.int .u8) 5 w' w.heap.size (fun _ => True) v0_ r1 ∧ Below w.heap.size w w' := by
 have hu48 := Try.underlying48
 have HR0_0 := Aside0.mk hr0_0
 have HC0_0 := Aside0.mk hc0_0
 clear hr0_0 hc0_0
 have HR0_4 := Aside0.mk hr0_4
 have HC0_4 := Aside0.mk hc0_4
 clear hr0_4 hc0_4
 have HR0_5 := Aside0.mk hr0_5
 have HC0_5 := Aside0.mk hc0_5
 clear hr0_5 hc0_5
 have HR0_6 := Aside0.mk hr0_6
 have HC0_6 := Aside0.mk hc0_6
 clear hr0_6 hc0_6
 have HB := Aside0.mk (Below.refl w.heap.size w)
 have H : ((impl_RrOk.f k l0_0 a0_1 a0_2 a0_3 l0_4 l0_5 l0_6).bind fun t102 => (if t102 = true then ((impl_Rr_data.f k l0_0 a0_1 a0_2 a0_3 l0_4 l0_5 l0_6).bind fun t103 => (some (t103, true))) else (some (([] : List Int), false)))) = some (r1, r2) := h
 clear h
 replace H := Option.bind_eq_some_iff.mp H
 obtain ⟨t102, A20, H⟩ := H
 replace H : (if t102 = true then ((impl_Rr_data.f k l0_0 a0_1 a0_2 a0_3 l0_4 l0_5 l0_6).bind fun t103 => (some (t103, true))) else (some (([] : List Int), false))) = some (r1, r2) := H
 have A2 := Aside0.mk A20
 clear A20
 by_cases c3 : t102 = true
 ·subst c3
  have H1 : ((impl_Rr_data.f k l0_0 a0_1 a0_2 a0_3 l0_4 l0_5 l0_6).bind fun t103 => (some (t103, true))) = some (r1, r2) := by rw [if_pos rfl] at H; exact H
  clear H
  have H := H1
  clear H1
  replace H := Option.bind_eq_some_iff.mp H
  obtain ⟨t103, A40, H⟩ := H
  replace H : (some (t103, true)) = some (r1, r2) := H
  have A4 := Aside0.mk A40
  clear A40
  simp only [Option.some.injEq, Prod.mk.injEq] at H
  obtain ⟨rfl, rfl⟩ := H
  go_enter Try.func41, Try.ntmps41
  go_wp2_with (first | ((with_reducible refine gate_dst (N := 1) rfl ?_); refine boxed (N := 1) rfl rfl (cs := #[.slice A0_0 l0_0.length c0_0, .int .i64 a0_1, .int .i64 a0_2, .int .i64 a0_3, .slice A0_4 l0_4.length c0_4, .slice A0_5 l0_5.length c0_5, .slice A0_6 l0_6.length c0_6]) (t := 48) HB.out (by first | (go_simp; done) | (go_simp; rfl)) ?_; clear HB; intro gb101 w5 hg HB BK101 GE101 hb; have GW101 := GE101; clear hb hg; obtain ⟨hcz6_0, hcz6_1, hcz6_2, hcz6_3, hcz6_4, hcz6_5, hcz6_6, hfz6_0, hfz6_1, hfz6_2, hfz6_3, hfz6_4, hfz6_5, hfz6_6⟩ := cells7 BK101.out) | ((with_reducible refine gate_callee (f := 31) rfl ?_); refine goesL_ (some 5) rfl rfl Try.func31 (by kernel_rfl) rfl #[.agg #[.slice A0_0 l0_0.length c0_0, .int .i64 a0_1, .int .i64 a0_2, .int .i64 a0_3, .slice A0_4 l0_4.length c0_4, .slice A0_5 l0_5.length c0_5, .slice A0_6 l0_6.length c0_6]] rfl (by (try simp only [List.map_toArray, List.map_cons, List.map_nil]); first | done | rfl | (simp only [List.length_drop, List.length_take]; rfl)) ?_; (with_reducible refine (impl_RrOk.calls k _ _ l0_0 a0_1 a0_2 a0_3 _ _ l0_4 _ _ l0_5 _ _ l0_6 true _ ?side1 ?side2 ?side3 ?side4 ?side5 ?side6 ?side7 ?side8 A2.out).mono ?_); (case side1 => exact cw HR0_0.out HB.out); (case side2 => exact HC0_0.out); (case side3 => exact cw HR0_4.out HB.out); (case side4 => exact HC0_4.out); (case side5 => exact cw HR0_5.out HB.out); (case side6 => exact HC0_5.out); (case side7 => exact cw HR0_6.out HB.out); (case side8 => exact HC0_6.out); rintro e w7 ⟨rfl, hb⟩; refine ⟨_, rfl, ?_⟩; replace BK101 := Aside0.mk (blk_below (bk BK101.out) hb); replace HB := Aside0.mk (below_step (bw HB.out) hb); (try clear hb); obtain ⟨hcz8_0, hcz8_1, hcz8_2, hcz8_3, hcz8_4, hcz8_5, hcz8_6, hfz8_0, hfz8_1, hfz8_2, hfz8_3, hfz8_4, hfz8_5, hfz8_6⟩ := cells7 BK101.out) | ((with_reducible refine gate_callee (f := 81) rfl ?_); refine goesL_ (some 8) rfl rfl Try.func81 (by kernel_rfl) rfl #[.agg #[.slice A0_0 l0_0.length c0_0, .int .i64 a0_1, .int .i64 a0_2, .int .i64 a0_3, .slice A0_4 l0_4.length c0_4, .slice A0_5 l0_5.length c0_5, .slice A0_6 l0_6.length c0_6]] rfl (by (try simp only [List.map_toArray, List.map_cons, List.map_nil]); first | done | rfl | (simp only [List.length_drop, List.length_take]; rfl)) ?_; (with_reducible refine (impl_Rr_data.calls k _ _ l0_0 a0_1 a0_2 a0_3 _ _ l0_4 _ _ l0_5 _ _ l0_6 t103 _ ?side1 ?side2 ?side3 ?side4 ?side5 ?side6 ?side7 ?side8 A4.out).mono ?_); (case side1 => exact cw HR0_0.out HB.out); (case side2 => exact HC0_0.out); (case side3 => exact cw HR0_4.out HB.out); (case side4 => exact HC0_4.out); (case side5 => exact cw HR0_5.out HB.out); (case side6 => exact HC0_5.out); (case side7 => exact cw HR0_6.out HB.out); (case side8 => exact HC0_6.out); rintro e w9 ⟨v104, rfl, ho0, hb⟩; refine ⟨_, rfl, ?_⟩; have HO105 := Aside0.mk (Kd.R_lower ho0 (below_size (bw HB.out))); replace BK101 := Aside0.mk (blk_below (bk BK101.out) hb); replace HB := Aside0.mk (below_step (bw HB.out) hb); (try clear hb); (try clear ho0)))
  go_ret2
  exact ⟨_, by first | rfl | (simp [errW_none, errW_some] <;> rfl) | (simp [*, errW_none, errW_some] <;> rfl), rw_ HO105.out, bw HB.out⟩
 ·replace c3 := Bool.eq_false_iff.mpr c3
  subst c3
  have H1 : (some (([] : List Int), false)) = some (r1, r2) := by rw [if_neg (show ¬ (false = true) by decide)] at H; exact H
  clear H
  have H := H1
  clear H1
  simp only [Option.some.injEq, Prod.mk.injEq] at H
  obtain ⟨rfl, rfl⟩ := H
  go_enter Try.func41, Try.ntmps41
  go_wp2_with (first | ((with_reducible refine gate_dst (N := 1) rfl ?_); refine boxed (N := 1) rfl rfl (cs := #[.slice A0_0 l0_0.length c0_0, .int .i64 a0_1, .int .i64 a0_2, .int .i64 a0_3, .slice A0_4 l0_4.length c0_4, .slice A0_5 l0_5.length c0_5, .slice A0_6 l0_6.length c0_6]) (t := 48) HB.out (by first | (go_simp; done) | (go_simp; rfl)) ?_; clear HB; intro gb101 w10 hg HB BK101 GE101 hb; have GW101 := GE101; clear hb hg; obtain ⟨hcz11_0, hcz11_1, hcz11_2, hcz11_3, hcz11_4, hcz11_5, hcz11_6, hfz11_0, hfz11_1, hfz11_2, hfz11_3, hfz11_4, hfz11_5, hfz11_6⟩ := cells7 BK101.out) | ((with_reducible refine gate_callee (f := 31) rfl ?_); refine goesL_ (some 5) rfl rfl Try.func31 (by kernel_rfl) rfl #[.agg #[.slice A0_0 l0_0.length c0_0, .int .i64 a0_1, .int .i64 a0_2, .int .i64 a0_3, .slice A0_4 l0_4.length c0_4, .slice A0_5 l0_5.length c0_5, .slice A0_6 l0_6.length c0_6]] rfl (by (try simp only [List.map_toArray, List.map_cons, List.map_nil]); first | done | rfl | (simp only [List.length_drop, List.length_take]; rfl)) ?_; (with_reducible refine (impl_RrOk.calls k _ _ l0_0 a0_1 a0_2 a0_3 _ _ l0_4 _ _ l0_5 _ _ l0_6 false _ ?side1 ?side2 ?side3 ?side4 ?side5 ?side6 ?side7 ?side8 A2.out).mono ?_); (case side1 => exact cw HR0_0.out HB.out); (case side2 => exact HC0_0.out); (case side3 => exact cw HR0_4.out HB.out); (case side4 => exact HC0_4.out); (case side5 => exact cw HR0_5.out HB.out); (case side6 => exact HC0_5.out); (case side7 => exact cw HR0_6.out HB.out); (case side8 => exact HC0_6.out); rintro e w12 ⟨rfl, hb⟩; refine ⟨_, rfl, ?_⟩; replace BK101 := Aside0.mk (blk_below (bk BK101.out) hb); replace HB := Aside0.mk (below_step (bw HB.out) hb); (try clear hb)))
  go_ret2
  exact ⟨_, by first | rfl | (simp [errW_none, errW_some] <;> rfl) | (simp [*, errW_none, errW_some] <;> rfl), by first | exact Kd.R_nil _ _ _ _ _ | exact Kd.N_nil _ _ _ _ _ | exact Kd.V_nil _ _ _ _ _ | exact Kd.Q_nil _ _ _ _ _ | exact Kd.S_nil _ _ _ _ _, bw HB.out⟩


end Go.Proofs.Ytedbpnfkeabpnaa.Q
