/- Printed by a program of this session (wip/myprint.py), which drives the kit's printer: functions and what their calls do. -/
import Derived.Test.YtagedmajlppohaaZFnExactRrCmp0
import Derived.Test.YtagedmajlppohaaZFnExactRrCmp1
import Derived.Test.YtagedmajlppohaaZFnExactRrCmp2
namespace Go.Proofs.Ytagedmajlppohaa.Q
open Go.RowKit Go Go.Proofs.YtagedmajlppohaaW.PrintWords Go.Proofs.YtagedmajlppohaaW.PrintLast Go.Proofs.YtagedmajlppohaaW.PrintMore
attribute [local go_sem] max2_int min2_int max_two min_two max_three min_three max_four min_four   -- for this text's walks alone
set_option linter.unusedVariables false
set_option linter.unusedSimpArgs false

/-! ### laws_FnExactRrCmp: function 3 -/
def laws_FnExactRrCmp.f (k : Nat) (l0_0 : List (List Int)) (a0_1 : Int) (a0_2 : Int) (a0_3 : Int) (l0_4 : List (List Int)) (l0_5 : List Int) (l0_6 : List Int) (l1_0 : List (List Int)) (a1_1 : Int) (a1_2 : Int) (a1_3 : Int) (l1_4 : List (List Int)) (l1_5 : List Int) (l1_6 : List Int) : Option (Bool) := (laws_szRr.f k l0_0 a0_1 a0_2 a0_3 l0_4 l0_5 l0_6 1048576).bind fun t103 => (if t103 < 0 then (some true) else ((laws_szRr.f k l1_0 a1_1 a1_2 a1_3 l1_4 l1_5 l1_6 t103).bind fun t104 => (if t104 < 0 then (some true) else ((laws_toRr.f k l0_0 a0_1 a0_2 a0_3 l0_4 l0_5 l0_6).bind fun bt105 => ((laws_toRr.f k l1_0 a1_1 a1_2 a1_3 l1_4 l1_5 l1_6).bind fun bt120 => ((spec_RrCmp.f k bt105.1 bt105.2.1 bt105.2.2.1 bt105.2.2.2.1 bt105.2.2.2.2.1 bt105.2.2.2.2.2.1 bt105.2.2.2.2.2.2 bt120.1 bt120.2.1 bt120.2.2.1 bt120.2.2.2.1 bt120.2.2.2.2.1 bt120.2.2.2.2.2.1 bt120.2.2.2.2.2.2).bind fun t135 => ((laws_toRr.f k l0_0 a0_1 a0_2 a0_3 l0_4 l0_5 l0_6).bind fun bt136 => ((laws_toRr.f k l1_0 a1_1 a1_2 a1_3 l1_4 l1_5 l1_6).bind fun bt152 => ((impl_RrCmp.f k bt136.1 bt136.2.1 bt136.2.2.1 bt136.2.2.2.1 bt136.2.2.2.2.1 bt136.2.2.2.2.2.1 bt136.2.2.2.2.2.2 bt152.1 bt152.2.1 bt152.2.2.1 bt152.2.2.2.1 bt152.2.2.2.2.1 bt152.2.2.2.2.2.1 bt152.2.2.2.2.2.2).bind fun t168 => (if t168 = t135 then ((laws_toRr.f k l0_0 a0_1 a0_2 a0_3 l0_4 l0_5 l0_6).bind fun bt169 => ((laws_eqRr.f k bt136.1 bt136.2.1 bt136.2.2.1 bt136.2.2.2.1 bt136.2.2.2.2.1 bt136.2.2.2.2.2.1 bt136.2.2.2.2.2.2 bt169.1 bt169.2.1 bt169.2.2.1 bt169.2.2.2.1 bt169.2.2.2.2.1 bt169.2.2.2.2.2.1 bt169.2.2.2.2.2.2).bind fun t184 => (if t184 = true then ((laws_toRr.f k l1_0 a1_1 a1_2 a1_3 l1_4 l1_5 l1_6).bind fun bt185 => ((laws_eqRr.f k bt152.1 bt152.2.1 bt152.2.2.1 bt152.2.2.2.1 bt152.2.2.2.2.1 bt152.2.2.2.2.2.1 bt152.2.2.2.2.2.2 bt185.1 bt185.2.1 bt185.2.2.1 bt185.2.2.2.1 bt185.2.2.2.2.1 bt185.2.2.2.2.2.1 bt185.2.2.2.2.2.2).bind fun t200 => (if t200 = true then (some true) else (none)))) else (none)))) else (none)))))))))))
theorem laws_FnExactRrCmp.mono : ∀ a0 a1 a2 a3 a4 a5 a6 a7 a8 a9 a10 a11 a12 a13 k, LeO (laws_FnExactRrCmp.f k a0 a1 a2 a3 a4 a5 a6 a7 a8 a9 a10 a11 a12 a13) (laws_FnExactRrCmp.f (k + 1) a0 a1 a2 a3 a4 a5 a6 a7 a8 a9 a10 a11 a12 a13) := by
  intro a0 a1 a2 a3 a4 a5 a6 a7 a8 a9 a10 a11 a12 a13 k
  unfold laws_FnExactRrCmp.f
  repeat' first
      | (with_reducible exact impl_RrCmp.mono _ _ _ _ _ _ _ _ _ _ _ _ _ _ _)
      | (with_reducible exact laws_eqRr.mono _ _ _ _ _ _ _ _ _ _ _ _ _ _ _)
      | (with_reducible exact laws_szRr.mono _ _ _ _ _ _ _ _ _)
      | (with_reducible exact laws_toRr.mono _ _ _ _ _ _ _ _)
      | (with_reducible exact spec_RrCmp.mono _ _ _ _ _ _ _ _ _ _ _ _ _ _ _)
      | (with_reducible exact LeO.refl _)
      | (with_reducible exact LeO.none _)
      | (with_reducible refine LeO.ite ?_ ?_)
      | (with_reducible refine LeO.bind ?_ (fun _ => ?_))
      | exact impl_RrCmp.mono _ _ _ _ _ _ _ _ _ _ _ _ _ _ _
      | exact laws_eqRr.mono _ _ _ _ _ _ _ _ _ _ _ _ _ _ _
      | exact laws_szRr.mono _ _ _ _ _ _ _ _ _
      | exact laws_toRr.mono _ _ _ _ _ _ _ _
      | exact spec_RrCmp.mono _ _ _ _ _ _ _ _ _ _ _ _ _ _ _
      | exact LeO.none _
      | refine LeO.ite ?_ ?_
      | refine LeO.bind ?_ (fun _ => ?_)
set_option maxHeartbeats 8000000 in
set_option maxRecDepth 100000 in
theorem laws_FnExactRrCmp.calls (k : Nat) (A0_0 : Option Addr) (c0_0 : Nat) (l0_0 : List (List Int)) (a0_1 : Int) (a0_2 : Int) (a0_3 : Int) (A0_4 : Option Addr) (c0_4 : Nat) (l0_4 : List (List Int)) (A0_5 : Option Addr) (c0_5 : Nat) (l0_5 : List Int) (A0_6 : Option Addr) (c0_6 : Nat) (l0_6 : List Int) (A1_0 : Option Addr) (c1_0 : Nat) (l1_0 : List (List Int)) (a1_1 : Int) (a1_2 : Int) (a1_3 : Int) (A1_4 : Option Addr) (c1_4 : Nat) (l1_4 : List (List Int)) (A1_5 : Option Addr) (c1_5 : Nat) (l1_5 : List Int) (A1_6 : Option Addr) (c1_6 : Nat) (l1_6 : List Int) (r : Bool) (w : World) (hr0_0 : Kd.C (Kd.slice 5 (Kd.int .u8)) w A0_0 l0_0.length l0_0) (hc0_0 : l0_0.length ≤ c0_0) (hr0_4 : Kd.C (Kd.slice 5 (Kd.int .u8)) w A0_4 l0_4.length l0_4) (hc0_4 : l0_4.length ≤ c0_4) (hr0_5 : Kd.C (Kd.int .u8) w A0_5 l0_5.length l0_5) (hc0_5 : l0_5.length ≤ c0_5) (hr0_6 : Kd.C (Kd.int .i64) w A0_6 l0_6.length l0_6) (hc0_6 : l0_6.length ≤ c0_6) (hr1_0 : Kd.C (Kd.slice 5 (Kd.int .u8)) w A1_0 l1_0.length l1_0) (hc1_0 : l1_0.length ≤ c1_0) (hr1_4 : Kd.C (Kd.slice 5 (Kd.int .u8)) w A1_4 l1_4.length l1_4) (hc1_4 : l1_4.length ≤ c1_4) (hr1_5 : Kd.C (Kd.int .u8) w A1_5 l1_5.length l1_5) (hc1_5 : l1_5.length ≤ c1_5) (hr1_6 : Kd.C (Kd.int .i64) w A1_6 l1_6.length l1_6) (hc1_6 : l1_6.length ≤ c1_6) (h : laws_FnExactRrCmp.f k l0_0 a0_1 a0_2 a0_3 l0_4 l0_5 l0_6 l1_0 a1_1 a1_2 a1_3 l1_4 l1_5 l1_6 = some r) :
    Calls Try.prog 3 #[.agg #[.slice A0_0 l0_0.length c0_0, .int .i64 a0_1, .int .i64 a0_2, .int .i64 a0_3, .slice A0_4 l0_4.length c0_4, .slice A0_5 l0_5.length c0_5, .slice A0_6 l0_6.length c0_6], .agg #[.slice A1_0 l1_0.length c1_0, .int .i64 a1_1, .int .i64 a1_2, .int .i64 a1_3, .slice A1_4 l1_4.length c1_4, .slice A1_5 l1_5.length c1_5, .slice A1_6 l1_6.length c1_6]] w fun e w' => e = .returned (.bool r) ∧ Below w.heap.size w w' := by
  have hu28 := Try.underlying28
  have hu33 := Try.underlying33
  have HR0_0 := Aside0.mk hr0_0
  have HC0_0 := Aside0.mk hc0_0
  clear hr0_0 hc0_0
  have HR0_4 := Aside0.mk hr0_4
  have HC0_4 := Aside0.mk hc0_4
  clear hr0_4 hc0_4
  have HR0_5 := Aside0.mk hr0_5
  have HC0_5 := Aside0.mk hc0_5
  clear hr0_5 hc0_5
  have HR0_6 := Aside0.mk hr0_6
  have HC0_6 := Aside0.mk hc0_6
  clear hr0_6 hc0_6
  have HR1_0 := Aside0.mk hr1_0
  have HC1_0 := Aside0.mk hc1_0
  clear hr1_0 hc1_0
  have HR1_4 := Aside0.mk hr1_4
  have HC1_4 := Aside0.mk hc1_4
  clear hr1_4 hc1_4
  have HR1_5 := Aside0.mk hr1_5
  have HC1_5 := Aside0.mk hc1_5
  clear hr1_5 hc1_5
  have HR1_6 := Aside0.mk hr1_6
  have HC1_6 := Aside0.mk hc1_6
  clear hr1_6 hc1_6
  have HB := Aside0.mk (Below.refl w.heap.size w)
  have H : ((laws_szRr.f k l0_0 a0_1 a0_2 a0_3 l0_4 l0_5 l0_6 1048576).bind fun t103 => (if t103 < 0 then (some true) else ((laws_szRr.f k l1_0 a1_1 a1_2 a1_3 l1_4 l1_5 l1_6 t103).bind fun t104 => (if t104 < 0 then (some true) else ((laws_toRr.f k l0_0 a0_1 a0_2 a0_3 l0_4 l0_5 l0_6).bind fun bt105 => ((laws_toRr.f k l1_0 a1_1 a1_2 a1_3 l1_4 l1_5 l1_6).bind fun bt120 => ((spec_RrCmp.f k bt105.1 bt105.2.1 bt105.2.2.1 bt105.2.2.2.1 bt105.2.2.2.2.1 bt105.2.2.2.2.2.1 bt105.2.2.2.2.2.2 bt120.1 bt120.2.1 bt120.2.2.1 bt120.2.2.2.1 bt120.2.2.2.2.1 bt120.2.2.2.2.2.1 bt120.2.2.2.2.2.2).bind fun t135 => ((laws_toRr.f k l0_0 a0_1 a0_2 a0_3 l0_4 l0_5 l0_6).bind fun bt136 => ((laws_toRr.f k l1_0 a1_1 a1_2 a1_3 l1_4 l1_5 l1_6).bind fun bt152 => ((impl_RrCmp.f k bt136.1 bt136.2.1 bt136.2.2.1 bt136.2.2.2.1 bt136.2.2.2.2.1 bt136.2.2.2.2.2.1 bt136.2.2.2.2.2.2 bt152.1 bt152.2.1 bt152.2.2.1 bt152.2.2.2.1 bt152.2.2.2.2.1 bt152.2.2.2.2.2.1 bt152.2.2.2.2.2.2).bind fun t168 => (if t168 = t135 then ((laws_toRr.f k l0_0 a0_1 a0_2 a0_3 l0_4 l0_5 l0_6).bind fun bt169 => ((laws_eqRr.f k bt136.1 bt136.2.1 bt136.2.2.1 bt136.2.2.2.1 bt136.2.2.2.2.1 bt136.2.2.2.2.2.1 bt136.2.2.2.2.2.2 bt169.1 bt169.2.1 bt169.2.2.1 bt169.2.2.2.1 bt169.2.2.2.2.1 bt169.2.2.2.2.2.1 bt169.2.2.2.2.2.2).bind fun t184 => (if t184 = true then ((laws_toRr.f k l1_0 a1_1 a1_2 a1_3 l1_4 l1_5 l1_6).bind fun bt185 => ((laws_eqRr.f k bt152.1 bt152.2.1 bt152.2.2.1 bt152.2.2.2.1 bt152.2.2.2.2.1 bt152.2.2.2.2.2.1 bt152.2.2.2.2.2.2 bt185.1 bt185.2.1 bt185.2.2.1 bt185.2.2.2.1 bt185.2.2.2.2.1 bt185.2.2.2.2.2.1 bt185.2.2.2.2.2.2).bind fun t200 => (if t200 = true then (some true) else (none)))) else (none)))) else (none)))))))))))) = some r := h
  clear h
  replace H := Option.bind_eq_some_iff.mp H
  obtain ⟨t103, A30, H⟩ := H
  replace H : (if t103 < 0 then (some true) else ((laws_szRr.f k l1_0 a1_1 a1_2 a1_3 l1_4 l1_5 l1_6 t103).bind fun t104 => (if t104 < 0 then (some true) else ((laws_toRr.f k l0_0 a0_1 a0_2 a0_3 l0_4 l0_5 l0_6).bind fun bt105 => ((laws_toRr.f k l1_0 a1_1 a1_2 a1_3 l1_4 l1_5 l1_6).bind fun bt120 => ((spec_RrCmp.f k bt105.1 bt105.2.1 bt105.2.2.1 bt105.2.2.2.1 bt105.2.2.2.2.1 bt105.2.2.2.2.2.1 bt105.2.2.2.2.2.2 bt120.1 bt120.2.1 bt120.2.2.1 bt120.2.2.2.1 bt120.2.2.2.2.1 bt120.2.2.2.2.2.1 bt120.2.2.2.2.2.2).bind fun t135 => ((laws_toRr.f k l0_0 a0_1 a0_2 a0_3 l0_4 l0_5 l0_6).bind fun bt136 => ((laws_toRr.f k l1_0 a1_1 a1_2 a1_3 l1_4 l1_5 l1_6).bind fun bt152 => ((impl_RrCmp.f k bt136.1 bt136.2.1 bt136.2.2.1 bt136.2.2.2.1 bt136.2.2.2.2.1 bt136.2.2.2.2.2.1 bt136.2.2.2.2.2.2 bt152.1 bt152.2.1 bt152.2.2.1 bt152.2.2.2.1 bt152.2.2.2.2.1 bt152.2.2.2.2.2.1 bt152.2.2.2.2.2.2).bind fun t168 => (if t168 = t135 then ((laws_toRr.f k l0_0 a0_1 a0_2 a0_3 l0_4 l0_5 l0_6).bind fun bt169 => ((laws_eqRr.f k bt136.1 bt136.2.1 bt136.2.2.1 bt136.2.2.2.1 bt136.2.2.2.2.1 bt136.2.2.2.2.2.1 bt136.2.2.2.2.2.2 bt169.1 bt169.2.1 bt169.2.2.1 bt169.2.2.2.1 bt169.2.2.2.2.1 bt169.2.2.2.2.2.1 bt169.2.2.2.2.2.2).bind fun t184 => (if t184 = true then ((laws_toRr.f k l1_0 a1_1 a1_2 a1_3 l1_4 l1_5 l1_6).bind fun bt185 => ((laws_eqRr.f k bt152.1 bt152.2.1 bt152.2.2.1 bt152.2.2.2.1 bt152.2.2.2.2.1 bt152.2.2.2.2.2.1 bt152.2.2.2.2.2.2 bt185.1 bt185.2.1 bt185.2.2.1 bt185.2.2.2.1 bt185.2.2.2.2.1 bt185.2.2.2.2.2.1 bt185.2.2.2.2.2.2).bind fun t200 => (if t200 = true then (some true) else (none)))) else (none)))) else (none))))))))))) = some r := H
  have A3 := Aside0.mk A30
  clear A30
  by_cases c4 : t103 < 0
  · rw [if_pos c4] at H
    have c4b0 : decide (t103 < 0) = true := decide_eq_true c4
    clear c4
    obtain rfl := Option.some.inj H
    go_enter Try.func3, Try.ntmps3
    go_wp2_with (first | ((with_reducible refine gate_dst (N := 2) rfl ?_); refine boxed (N := 2) rfl rfl (cs := #[.slice A0_0 l0_0.length c0_0, .int .i64 a0_1, .int .i64 a0_2, .int .i64 a0_3, .slice A0_4 l0_4.length c0_4, .slice A0_5 l0_5.length c0_5, .slice A0_6 l0_6.length c0_6]) (t := 28) HB.out (by first | (go_simp; done) | (go_simp; rfl)) ?_; clear HB; intro gb101 w5 hg HB BK101 GE101 hb; have GW101 := GE101; clear hb hg) | ((with_reducible refine gate_dst (N := 3) rfl ?_); refine box_event ?hg (N := 3) ?hd (cs := #[.slice A1_0 l1_0.length c1_0, .int .i64 a1_1, .int .i64 a1_2, .int .i64 a1_3, .slice A1_4 l1_4.length c1_4, .slice A1_5 l1_5.length c1_5, .slice A1_6 l1_6.length c1_6]) (t := 28) ?hr ?_; (case hd => rfl); (case hg => rfl); (case hr => first | (go_simp; done) | (go_simp; rfl)); intro gb102 hg w6 hbox hb; have BK102 := Aside0.mk (hbox); have GW102 := Aside0.mk ((by rw [hg]; exact (below_size (by repeat (first | exact bw HB.out | refine below_set ?_ GE101.out))) : w.heap.size ≤ gb102)); have GE102 := Aside0.mk ((by rw [hg]; exact (below_size (by repeat (first | exact bw HB.out | refine below_set ?_ GE101.out))) : w.heap.size ≤ gb102)); replace HB := Aside0.mk (below_step (by repeat (first | exact bw HB.out | refine below_set ?_ GE101.out)) hb); have NB101_102 := Aside0.mk ((by rw [hg]; exact Nat.ne_of_lt (blk_lt (bk BK101.out)) : gb101 ≠ gb102)); have NB102_101 := Aside0.mk ((by rw [hg]; exact Nat.ne_of_gt (blk_lt (bk BK101.out)) : gb102 ≠ gb101)); replace BK101 := Aside0.mk (blk_below (bk BK101.out) hb); clear hb hbox hg; have hnb7 := NB101_102.out; have hnc7 := NB102_101.out; obtain ⟨hcz8_0, hcz8_1, hcz8_2, hcz8_3, hcz8_4, hcz8_5, hcz8_6, hfz8_0, hfz8_1, hfz8_2, hfz8_3, hfz8_4, hfz8_5, hfz8_6⟩ := cells7 BK101.out) | ((with_reducible refine gate_callee (f := 13) rfl ?_); refine goesL_ (some 12) rfl rfl Try.func13 (by kernel_rfl) rfl #[.agg #[.slice A0_0 l0_0.length c0_0, .int .i64 a0_1, .int .i64 a0_2, .int .i64 a0_3, .slice A0_4 l0_4.length c0_4, .slice A0_5 l0_5.length c0_5, .slice A0_6 l0_6.length c0_6], .int .i64 1048576] rfl (by (try simp only [List.map_toArray, List.map_cons, List.map_nil]); first | done | rfl | (simp only [List.length_drop, List.length_take]; rfl)) ?_; (with_reducible refine (laws_szRr.calls k _ _ l0_0 a0_1 a0_2 a0_3 _ _ l0_4 _ _ l0_5 _ _ l0_6 1048576 t103 _ ?side1 ?side2 ?side3 ?side4 ?side5 ?side6 ?side7 ?side8 A3.out).mono ?_); (case side1 => exact cw HR0_0.out HB.out); (case side2 => exact HC0_0.out); (case side3 => exact cw HR0_4.out HB.out); (case side4 => exact HC0_4.out); (case side5 => exact cw HR0_5.out HB.out); (case side6 => exact HC0_5.out); (case side7 => exact cw HR0_6.out HB.out); (case side8 => exact HC0_6.out); rintro e w9 ⟨rfl, hb⟩; refine ⟨_, rfl, ?_⟩; replace BK101 := Aside0.mk (blk_below (bk BK101.out) hb); replace BK102 := Aside0.mk (blk_below (bk BK102.out) hb); replace HB := Aside0.mk (below_step (by repeat (first | exact bw HB.out | refine below_set ?_ GE101.out | refine below_set ?_ GE102.out)) hb); (try clear hb)))
    go_ret
    exact ⟨by first | rfl | (simp [errW_none, errW_some] <;> rfl) | (simp [*, errW_none, errW_some] <;> rfl), by repeat (first | exact bw HB.out | refine below_set ?_ GE101.out | refine below_set ?_ GE102.out)⟩
  · rw [if_neg c4] at H
    have c4b0 : decide (t103 < 0) = false := decide_eq_false c4
    clear c4
    replace H := Option.bind_eq_some_iff.mp H
    obtain ⟨t104, A100, H⟩ := H
    replace H : (if t104 < 0 then (some true) else ((laws_toRr.f k l0_0 a0_1 a0_2 a0_3 l0_4 l0_5 l0_6).bind fun bt105 => ((laws_toRr.f k l1_0 a1_1 a1_2 a1_3 l1_4 l1_5 l1_6).bind fun bt120 => ((spec_RrCmp.f k bt105.1 bt105.2.1 bt105.2.2.1 bt105.2.2.2.1 bt105.2.2.2.2.1 bt105.2.2.2.2.2.1 bt105.2.2.2.2.2.2 bt120.1 bt120.2.1 bt120.2.2.1 bt120.2.2.2.1 bt120.2.2.2.2.1 bt120.2.2.2.2.2.1 bt120.2.2.2.2.2.2).bind fun t135 => ((laws_toRr.f k l0_0 a0_1 a0_2 a0_3 l0_4 l0_5 l0_6).bind fun bt136 => ((laws_toRr.f k l1_0 a1_1 a1_2 a1_3 l1_4 l1_5 l1_6).bind fun bt152 => ((impl_RrCmp.f k bt136.1 bt136.2.1 bt136.2.2.1 bt136.2.2.2.1 bt136.2.2.2.2.1 bt136.2.2.2.2.2.1 bt136.2.2.2.2.2.2 bt152.1 bt152.2.1 bt152.2.2.1 bt152.2.2.2.1 bt152.2.2.2.2.1 bt152.2.2.2.2.2.1 bt152.2.2.2.2.2.2).bind fun t168 => (if t168 = t135 then ((laws_toRr.f k l0_0 a0_1 a0_2 a0_3 l0_4 l0_5 l0_6).bind fun bt169 => ((laws_eqRr.f k bt136.1 bt136.2.1 bt136.2.2.1 bt136.2.2.2.1 bt136.2.2.2.2.1 bt136.2.2.2.2.2.1 bt136.2.2.2.2.2.2 bt169.1 bt169.2.1 bt169.2.2.1 bt169.2.2.2.1 bt169.2.2.2.2.1 bt169.2.2.2.2.2.1 bt169.2.2.2.2.2.2).bind fun t184 => (if t184 = true then ((laws_toRr.f k l1_0 a1_1 a1_2 a1_3 l1_4 l1_5 l1_6).bind fun bt185 => ((laws_eqRr.f k bt152.1 bt152.2.1 bt152.2.2.1 bt152.2.2.2.1 bt152.2.2.2.2.1 bt152.2.2.2.2.2.1 bt152.2.2.2.2.2.2 bt185.1 bt185.2.1 bt185.2.2.1 bt185.2.2.2.1 bt185.2.2.2.2.1 bt185.2.2.2.2.2.1 bt185.2.2.2.2.2.2).bind fun t200 => (if t200 = true then (some true) else (none)))) else (none)))) else (none))))))))) = some r := H
    have A10 := Aside0.mk A100
    clear A100
    by_cases c11 : t104 < 0
    · rw [if_pos c11] at H
      have c11b0 : decide (t104 < 0) = true := decide_eq_true c11
      clear c11
      obtain rfl := Option.some.inj H
      go_enter Try.func3, Try.ntmps3
      go_wp2_with (first | ((with_reducible refine gate_dst (N := 2) rfl ?_); refine boxed (N := 2) rfl rfl (cs := #[.slice A0_0 l0_0.length c0_0, .int .i64 a0_1, .int .i64 a0_2, .int .i64 a0_3, .slice A0_4 l0_4.length c0_4, .slice A0_5 l0_5.length c0_5, .slice A0_6 l0_6.length c0_6]) (t := 28) HB.out (by first | (go_simp; done) | (go_simp; rfl)) ?_; clear HB; intro gb101 w12 hg HB BK101 GE101 hb; have GW101 := GE101; clear hb hg) | ((with_reducible refine gate_dst (N := 3) rfl ?_); refine box_event ?hg (N := 3) ?hd (cs := #[.slice A1_0 l1_0.length c1_0, .int .i64 a1_1, .int .i64 a1_2, .int .i64 a1_3, .slice A1_4 l1_4.length c1_4, .slice A1_5 l1_5.length c1_5, .slice A1_6 l1_6.length c1_6]) (t := 28) ?hr ?_; (case hd => rfl); (case hg => rfl); (case hr => first | (go_simp; done) | (go_simp; rfl)); intro gb102 hg w13 hbox hb; have BK102 := Aside0.mk (hbox); have GW102 := Aside0.mk ((by rw [hg]; exact (below_size (by repeat (first | exact bw HB.out | refine below_set ?_ GE101.out))) : w.heap.size ≤ gb102)); have GE102 := Aside0.mk ((by rw [hg]; exact (below_size (by repeat (first | exact bw HB.out | refine below_set ?_ GE101.out))) : w.heap.size ≤ gb102)); replace HB := Aside0.mk (below_step (by repeat (first | exact bw HB.out | refine below_set ?_ GE101.out)) hb); have NB101_102 := Aside0.mk ((by rw [hg]; exact Nat.ne_of_lt (blk_lt (bk BK101.out)) : gb101 ≠ gb102)); have NB102_101 := Aside0.mk ((by rw [hg]; exact Nat.ne_of_gt (blk_lt (bk BK101.out)) : gb102 ≠ gb101)); replace BK101 := Aside0.mk (blk_below (bk BK101.out) hb); clear hb hbox hg; have hnb14 := NB101_102.out; have hnc14 := NB102_101.out; obtain ⟨hcz15_0, hcz15_1, hcz15_2, hcz15_3, hcz15_4, hcz15_5, hcz15_6, hfz15_0, hfz15_1, hfz15_2, hfz15_3, hfz15_4, hfz15_5, hfz15_6⟩ := cells7 BK101.out) | ((with_reducible refine gate_callee (f := 13) rfl ?_); refine goesL_ (some 12) rfl rfl Try.func13 (by kernel_rfl) rfl #[.agg #[.slice A0_0 l0_0.length c0_0, .int .i64 a0_1, .int .i64 a0_2, .int .i64 a0_3, .slice A0_4 l0_4.length c0_4, .slice A0_5 l0_5.length c0_5, .slice A0_6 l0_6.length c0_6], .int .i64 1048576] rfl (by (try simp only [List.map_toArray, List.map_cons, List.map_nil]); first | done | rfl | (simp only [List.length_drop, List.length_take]; rfl)) ?_; (with_reducible refine (laws_szRr.calls k _ _ l0_0 a0_1 a0_2 a0_3 _ _ l0_4 _ _ l0_5 _ _ l0_6 1048576 t103 _ ?side1 ?side2 ?side3 ?side4 ?side5 ?side6 ?side7 ?side8 A3.out).mono ?_); (case side1 => exact cw HR0_0.out HB.out); (case side2 => exact HC0_0.out); (case side3 => exact cw HR0_4.out HB.out); (case side4 => exact HC0_4.out); (case side5 => exact cw HR0_5.out HB.out); (case side6 => exact HC0_5.out); (case side7 => exact cw HR0_6.out HB.out); (case side8 => exact HC0_6.out); rintro e w16 ⟨rfl, hb⟩; refine ⟨_, rfl, ?_⟩; replace BK101 := Aside0.mk (blk_below (bk BK101.out) hb); replace BK102 := Aside0.mk (blk_below (bk BK102.out) hb); replace HB := Aside0.mk (below_step (by repeat (first | exact bw HB.out | refine below_set ?_ GE101.out | refine below_set ?_ GE102.out)) hb); (try clear hb); obtain ⟨hcz17_0, hcz17_1, hcz17_2, hcz17_3, hcz17_4, hcz17_5, hcz17_6, hfz17_0, hfz17_1, hfz17_2, hfz17_3, hfz17_4, hfz17_5, hfz17_6⟩ := cells7 BK102.out) | ((with_reducible refine gate_callee (f := 13) rfl ?_); refine goesL_ (some 17) rfl rfl Try.func13 (by kernel_rfl) rfl #[.agg #[.slice A1_0 l1_0.length c1_0, .int .i64 a1_1, .int .i64 a1_2, .int .i64 a1_3, .slice A1_4 l1_4.length c1_4, .slice A1_5 l1_5.length c1_5, .slice A1_6 l1_6.length c1_6], .int .i64 t103] rfl (by (try simp only [List.map_toArray, List.map_cons, List.map_nil]); first | done | rfl | (simp only [List.length_drop, List.length_take]; rfl)) ?_; (with_reducible refine (laws_szRr.calls k _ _ l1_0 a1_1 a1_2 a1_3 _ _ l1_4 _ _ l1_5 _ _ l1_6 t103 t104 _ ?side1 ?side2 ?side3 ?side4 ?side5 ?side6 ?side7 ?side8 A10.out).mono ?_); (case side1 => exact cw HR1_0.out HB.out); (case side2 => exact HC1_0.out); (case side3 => exact cw HR1_4.out HB.out); (case side4 => exact HC1_4.out); (case side5 => exact cw HR1_5.out HB.out); (case side6 => exact HC1_5.out); (case side7 => exact cw HR1_6.out HB.out); (case side8 => exact HC1_6.out); rintro e w18 ⟨rfl, hb⟩; refine ⟨_, rfl, ?_⟩; replace BK101 := Aside0.mk (blk_below (bk BK101.out) hb); replace BK102 := Aside0.mk (blk_below (bk BK102.out) hb); replace HB := Aside0.mk (below_step (by repeat (first | exact bw HB.out | refine below_set ?_ GE101.out | refine below_set ?_ GE102.out)) hb); (try clear hb)))
      go_ret
      exact ⟨by first | rfl | (simp [errW_none, errW_some] <;> rfl) | (simp [*, errW_none, errW_some] <;> rfl), by repeat (first | exact bw HB.out | refine below_set ?_ GE101.out | refine below_set ?_ GE102.out)⟩
    · rw [if_neg c11] at H
      have c11b0 : decide (t104 < 0) = false := decide_eq_false c11
      clear c11
      replace H := Option.bind_eq_some_iff.mp H
      obtain ⟨⟨t105, t108, t109, t110, t111, t114, t117⟩, A190, H⟩ := H
      replace H : ((laws_toRr.f k l1_0 a1_1 a1_2 a1_3 l1_4 l1_5 l1_6).bind fun bt120 => ((spec_RrCmp.f k t105 t108 t109 t110 t111 t114 t117 bt120.1 bt120.2.1 bt120.2.2.1 bt120.2.2.2.1 bt120.2.2.2.2.1 bt120.2.2.2.2.2.1 bt120.2.2.2.2.2.2).bind fun t135 => ((laws_toRr.f k l0_0 a0_1 a0_2 a0_3 l0_4 l0_5 l0_6).bind fun bt136 => ((laws_toRr.f k l1_0 a1_1 a1_2 a1_3 l1_4 l1_5 l1_6).bind fun bt152 => ((impl_RrCmp.f k bt136.1 bt136.2.1 bt136.2.2.1 bt136.2.2.2.1 bt136.2.2.2.2.1 bt136.2.2.2.2.2.1 bt136.2.2.2.2.2.2 bt152.1 bt152.2.1 bt152.2.2.1 bt152.2.2.2.1 bt152.2.2.2.2.1 bt152.2.2.2.2.2.1 bt152.2.2.2.2.2.2).bind fun t168 => (if t168 = t135 then ((laws_toRr.f k l0_0 a0_1 a0_2 a0_3 l0_4 l0_5 l0_6).bind fun bt169 => ((laws_eqRr.f k bt136.1 bt136.2.1 bt136.2.2.1 bt136.2.2.2.1 bt136.2.2.2.2.1 bt136.2.2.2.2.2.1 bt136.2.2.2.2.2.2 bt169.1 bt169.2.1 bt169.2.2.1 bt169.2.2.2.1 bt169.2.2.2.2.1 bt169.2.2.2.2.2.1 bt169.2.2.2.2.2.2).bind fun t184 => (if t184 = true then ((laws_toRr.f k l1_0 a1_1 a1_2 a1_3 l1_4 l1_5 l1_6).bind fun bt185 => ((laws_eqRr.f k bt152.1 bt152.2.1 bt152.2.2.1 bt152.2.2.2.1 bt152.2.2.2.2.1 bt152.2.2.2.2.2.1 bt152.2.2.2.2.2.2 bt185.1 bt185.2.1 bt185.2.2.1 bt185.2.2.2.1 bt185.2.2.2.2.1 bt185.2.2.2.2.2.1 bt185.2.2.2.2.2.2).bind fun t200 => (if t200 = true then (some true) else (none)))) else (none)))) else (none))))))) = some r := H
      have A19 := Aside0.mk A190
      clear A190
      replace H := Option.bind_eq_some_iff.mp H
      obtain ⟨⟨t120, t123, t124, t125, t126, t129, t132⟩, A200, H⟩ := H
      replace H : ((spec_RrCmp.f k t105 t108 t109 t110 t111 t114 t117 t120 t123 t124 t125 t126 t129 t132).bind fun t135 => ((laws_toRr.f k l0_0 a0_1 a0_2 a0_3 l0_4 l0_5 l0_6).bind fun bt136 => ((laws_toRr.f k l1_0 a1_1 a1_2 a1_3 l1_4 l1_5 l1_6).bind fun bt152 => ((impl_RrCmp.f k bt136.1 bt136.2.1 bt136.2.2.1 bt136.2.2.2.1 bt136.2.2.2.2.1 bt136.2.2.2.2.2.1 bt136.2.2.2.2.2.2 bt152.1 bt152.2.1 bt152.2.2.1 bt152.2.2.2.1 bt152.2.2.2.2.1 bt152.2.2.2.2.2.1 bt152.2.2.2.2.2.2).bind fun t168 => (if t168 = t135 then ((laws_toRr.f k l0_0 a0_1 a0_2 a0_3 l0_4 l0_5 l0_6).bind fun bt169 => ((laws_eqRr.f k bt136.1 bt136.2.1 bt136.2.2.1 bt136.2.2.2.1 bt136.2.2.2.2.1 bt136.2.2.2.2.2.1 bt136.2.2.2.2.2.2 bt169.1 bt169.2.1 bt169.2.2.1 bt169.2.2.2.1 bt169.2.2.2.2.1 bt169.2.2.2.2.2.1 bt169.2.2.2.2.2.2).bind fun t184 => (if t184 = true then ((laws_toRr.f k l1_0 a1_1 a1_2 a1_3 l1_4 l1_5 l1_6).bind fun bt185 => ((laws_eqRr.f k bt152.1 bt152.2.1 bt152.2.2.1 bt152.2.2.2.1 bt152.2.2.2.2.1 bt152.2.2.2.2.2.1 bt152.2.2.2.2.2.2 bt185.1 bt185.2.1 bt185.2.2.1 bt185.2.2.2.1 bt185.2.2.2.2.1 bt185.2.2.2.2.2.1 bt185.2.2.2.2.2.2).bind fun t200 => (if t200 = true then (some true) else (none)))) else (none)))) else (none)))))) = some r := H
      have A20 := Aside0.mk A200
      clear A200
      replace H := Option.bind_eq_some_iff.mp H
      obtain ⟨t135, A210, H⟩ := H
      replace H : ((laws_toRr.f k l0_0 a0_1 a0_2 a0_3 l0_4 l0_5 l0_6).bind fun bt136 => ((laws_toRr.f k l1_0 a1_1 a1_2 a1_3 l1_4 l1_5 l1_6).bind fun bt152 => ((impl_RrCmp.f k bt136.1 bt136.2.1 bt136.2.2.1 bt136.2.2.2.1 bt136.2.2.2.2.1 bt136.2.2.2.2.2.1 bt136.2.2.2.2.2.2 bt152.1 bt152.2.1 bt152.2.2.1 bt152.2.2.2.1 bt152.2.2.2.2.1 bt152.2.2.2.2.2.1 bt152.2.2.2.2.2.2).bind fun t168 => (if t168 = t135 then ((laws_toRr.f k l0_0 a0_1 a0_2 a0_3 l0_4 l0_5 l0_6).bind fun bt169 => ((laws_eqRr.f k bt136.1 bt136.2.1 bt136.2.2.1 bt136.2.2.2.1 bt136.2.2.2.2.1 bt136.2.2.2.2.2.1 bt136.2.2.2.2.2.2 bt169.1 bt169.2.1 bt169.2.2.1 bt169.2.2.2.1 bt169.2.2.2.2.1 bt169.2.2.2.2.2.1 bt169.2.2.2.2.2.2).bind fun t184 => (if t184 = true then ((laws_toRr.f k l1_0 a1_1 a1_2 a1_3 l1_4 l1_5 l1_6).bind fun bt185 => ((laws_eqRr.f k bt152.1 bt152.2.1 bt152.2.2.1 bt152.2.2.2.1 bt152.2.2.2.2.1 bt152.2.2.2.2.2.1 bt152.2.2.2.2.2.2 bt185.1 bt185.2.1 bt185.2.2.1 bt185.2.2.2.1 bt185.2.2.2.2.1 bt185.2.2.2.2.2.1 bt185.2.2.2.2.2.2).bind fun t200 => (if t200 = true then (some true) else (none)))) else (none)))) else (none))))) = some r := H
      have A21 := Aside0.mk A210
      clear A210
      replace H := Option.bind_eq_some_iff.mp H
      obtain ⟨⟨t136, t139, t140, t141, t142, t145, t148⟩, A220, H⟩ := H
      replace H : ((laws_toRr.f k l1_0 a1_1 a1_2 a1_3 l1_4 l1_5 l1_6).bind fun bt152 => ((impl_RrCmp.f k t136 t139 t140 t141 t142 t145 t148 bt152.1 bt152.2.1 bt152.2.2.1 bt152.2.2.2.1 bt152.2.2.2.2.1 bt152.2.2.2.2.2.1 bt152.2.2.2.2.2.2).bind fun t168 => (if t168 = t135 then ((laws_toRr.f k l0_0 a0_1 a0_2 a0_3 l0_4 l0_5 l0_6).bind fun bt169 => ((laws_eqRr.f k t136 t139 t140 t141 t142 t145 t148 bt169.1 bt169.2.1 bt169.2.2.1 bt169.2.2.2.1 bt169.2.2.2.2.1 bt169.2.2.2.2.2.1 bt169.2.2.2.2.2.2).bind fun t184 => (if t184 = true then ((laws_toRr.f k l1_0 a1_1 a1_2 a1_3 l1_4 l1_5 l1_6).bind fun bt185 => ((laws_eqRr.f k bt152.1 bt152.2.1 bt152.2.2.1 bt152.2.2.2.1 bt152.2.2.2.2.1 bt152.2.2.2.2.2.1 bt152.2.2.2.2.2.2 bt185.1 bt185.2.1 bt185.2.2.1 bt185.2.2.2.1 bt185.2.2.2.2.1 bt185.2.2.2.2.2.1 bt185.2.2.2.2.2.2).bind fun t200 => (if t200 = true then (some true) else (none)))) else (none)))) else (none)))) = some r := H
      have A22 := Aside0.mk A220
      clear A220
      replace H := Option.bind_eq_some_iff.mp H
      obtain ⟨⟨t152, t155, t156, t157, t158, t161, t164⟩, A230, H⟩ := H
      replace H : ((impl_RrCmp.f k t136 t139 t140 t141 t142 t145 t148 t152 t155 t156 t157 t158 t161 t164).bind fun t168 => (if t168 = t135 then ((laws_toRr.f k l0_0 a0_1 a0_2 a0_3 l0_4 l0_5 l0_6).bind fun bt169 => ((laws_eqRr.f k t136 t139 t140 t141 t142 t145 t148 bt169.1 bt169.2.1 bt169.2.2.1 bt169.2.2.2.1 bt169.2.2.2.2.1 bt169.2.2.2.2.2.1 bt169.2.2.2.2.2.2).bind fun t184 => (if t184 = true then ((laws_toRr.f k l1_0 a1_1 a1_2 a1_3 l1_4 l1_5 l1_6).bind fun bt185 => ((laws_eqRr.f k t152 t155 t156 t157 t158 t161 t164 bt185.1 bt185.2.1 bt185.2.2.1 bt185.2.2.2.1 bt185.2.2.2.2.1 bt185.2.2.2.2.2.1 bt185.2.2.2.2.2.2).bind fun t200 => (if t200 = true then (some true) else (none)))) else (none)))) else (none))) = some r := H
      have A23 := Aside0.mk A230
      clear A230
      replace H := Option.bind_eq_some_iff.mp H
      obtain ⟨t168, A240, H⟩ := H
      replace H : (if t168 = t135 then ((laws_toRr.f k l0_0 a0_1 a0_2 a0_3 l0_4 l0_5 l0_6).bind fun bt169 => ((laws_eqRr.f k t136 t139 t140 t141 t142 t145 t148 bt169.1 bt169.2.1 bt169.2.2.1 bt169.2.2.2.1 bt169.2.2.2.2.1 bt169.2.2.2.2.2.1 bt169.2.2.2.2.2.2).bind fun t184 => (if t184 = true then ((laws_toRr.f k l1_0 a1_1 a1_2 a1_3 l1_4 l1_5 l1_6).bind fun bt185 => ((laws_eqRr.f k t152 t155 t156 t157 t158 t161 t164 bt185.1 bt185.2.1 bt185.2.2.1 bt185.2.2.2.1 bt185.2.2.2.2.1 bt185.2.2.2.2.2.1 bt185.2.2.2.2.2.2).bind fun t200 => (if t200 = true then (some true) else (none)))) else (none)))) else (none)) = some r := H
      have A24 := Aside0.mk A240
      clear A240
      by_cases c25 : t168 = t135
      · rw [if_pos c25] at H
        have c25b0 : (t168 == t135) = true := beq_iff_eq.mpr c25
        have c25b1 : (t168 != t135) = false := bne_eq_false_iff_eq.mpr c25
        clear c25
        replace H := Option.bind_eq_some_iff.mp H
        obtain ⟨⟨t169, t172, t173, t174, t175, t178, t181⟩, A260, H⟩ := H
        replace H : ((laws_eqRr.f k t136 t139 t140 t141 t142 t145 t148 t169 t172 t173 t174 t175 t178 t181).bind fun t184 => (if t184 = true then ((laws_toRr.f k l1_0 a1_1 a1_2 a1_3 l1_4 l1_5 l1_6).bind fun bt185 => ((laws_eqRr.f k t152 t155 t156 t157 t158 t161 t164 bt185.1 bt185.2.1 bt185.2.2.1 bt185.2.2.2.1 bt185.2.2.2.2.1 bt185.2.2.2.2.2.1 bt185.2.2.2.2.2.2).bind fun t200 => (if t200 = true then (some true) else (none)))) else (none))) = some r := H
        have A26 := Aside0.mk A260
        clear A260
        replace H := Option.bind_eq_some_iff.mp H
        obtain ⟨t184, A270, H⟩ := H
        replace H : (if t184 = true then ((laws_toRr.f k l1_0 a1_1 a1_2 a1_3 l1_4 l1_5 l1_6).bind fun bt185 => ((laws_eqRr.f k t152 t155 t156 t157 t158 t161 t164 bt185.1 bt185.2.1 bt185.2.2.1 bt185.2.2.2.1 bt185.2.2.2.2.1 bt185.2.2.2.2.2.1 bt185.2.2.2.2.2.2).bind fun t200 => (if t200 = true then (some true) else (none)))) else (none)) = some r := H
        have A27 := Aside0.mk A270
        clear A270
        by_cases c28 : t184 = true
        · subst c28
          have H1 : ((laws_toRr.f k l1_0 a1_1 a1_2 a1_3 l1_4 l1_5 l1_6).bind fun bt185 => ((laws_eqRr.f k t152 t155 t156 t157 t158 t161 t164 bt185.1 bt185.2.1 bt185.2.2.1 bt185.2.2.2.1 bt185.2.2.2.2.1 bt185.2.2.2.2.2.1 bt185.2.2.2.2.2.2).bind fun t200 => (if t200 = true then (some true) else (none)))) = some r := by rw [if_pos rfl] at H; exact H
          clear H
          have H := H1
          clear H1
          replace H := Option.bind_eq_some_iff.mp H
          obtain ⟨⟨t185, t188, t189, t190, t191, t194, t197⟩, A290, H⟩ := H
          replace H : ((laws_eqRr.f k t152 t155 t156 t157 t158 t161 t164 t185 t188 t189 t190 t191 t194 t197).bind fun t200 => (if t200 = true then (some true) else (none))) = some r := H
          have A29 := Aside0.mk A290
          clear A290
          replace H := Option.bind_eq_some_iff.mp H
          obtain ⟨t200, A300, H⟩ := H
          replace H : (if t200 = true then (some true) else (none)) = some r := H
          have A30 := Aside0.mk A300
          clear A300
          by_cases c31 : t200 = true
          · subst c31
            have H1 : (some true) = some r := by rw [if_pos rfl] at H; exact H
            clear H
            have H := H1
            clear H1
            obtain rfl := Option.some.inj H
            go_enter Try.func3, Try.ntmps3
            try go_wp2_with (first | ((with_reducible refine gate_dst (N := 2) rfl ?_); refine boxed (N := 2) rfl rfl (cs := #[.slice A0_0 l0_0.length c0_0, .int .i64 a0_1, .int .i64 a0_2, .int .i64 a0_3, .slice A0_4 l0_4.length c0_4, .slice A0_5 l0_5.length c0_5, .slice A0_6 l0_6.length c0_6]) (t := 28) HB.out (by first | (go_simp; done) | (go_simp; rfl)) ?_; clear HB; intro gb101 w32 hg HB BK101 GE101 hb; have GW101 := GE101; clear hb hg) | ((with_reducible refine gate_dst (N := 3) rfl ?_); refine box_event ?hg (N := 3) ?hd (cs := #[.slice A1_0 l1_0.length c1_0, .int .i64 a1_1, .int .i64 a1_2, .int .i64 a1_3, .slice A1_4 l1_4.length c1_4, .slice A1_5 l1_5.length c1_5, .slice A1_6 l1_6.length c1_6]) (t := 28) ?hr ?_; (case hd => rfl); (case hg => rfl); (case hr => first | (go_simp; done) | (go_simp; rfl)); intro gb102 hg w33 hbox hb; have BK102 := Aside0.mk (hbox); have GW102 := Aside0.mk ((by rw [hg]; exact (below_size (by repeat (first | exact bw HB.out | refine below_set ?_ GE101.out))) : w.heap.size ≤ gb102)); have GE102 := Aside0.mk ((by rw [hg]; exact (below_size (by repeat (first | exact bw HB.out | refine below_set ?_ GE101.out))) : w.heap.size ≤ gb102)); replace HB := Aside0.mk (below_step (by repeat (first | exact bw HB.out | refine below_set ?_ GE101.out)) hb); have NB101_102 := Aside0.mk ((by rw [hg]; exact Nat.ne_of_lt (blk_lt (bk BK101.out)) : gb101 ≠ gb102)); have NB102_101 := Aside0.mk ((by rw [hg]; exact Nat.ne_of_gt (blk_lt (bk BK101.out)) : gb102 ≠ gb101)); replace BK101 := Aside0.mk (blk_below (bk BK101.out) hb); clear hb hbox hg; have hnb34 := NB101_102.out; have hnc34 := NB102_101.out; obtain ⟨hcz35_0, hcz35_1, hcz35_2, hcz35_3, hcz35_4, hcz35_5, hcz35_6, hfz35_0, hfz35_1, hfz35_2, hfz35_3, hfz35_4, hfz35_5, hfz35_6⟩ := cells7 BK101.out) | ((with_reducible refine gate_callee (f := 13) rfl ?_); refine goesL_ (some 12) rfl rfl Try.func13 (by kernel_rfl) rfl #[.agg #[.slice A0_0 l0_0.length c0_0, .int .i64 a0_1, .int .i64 a0_2, .int .i64 a0_3, .slice A0_4 l0_4.length c0_4, .slice A0_5 l0_5.length c0_5, .slice A0_6 l0_6.length c0_6], .int .i64 1048576] rfl (by (try simp only [List.map_toArray, List.map_cons, List.map_nil]); first | done | rfl | (simp only [List.length_drop, List.length_take]; rfl)) ?_; (with_reducible refine (laws_szRr.calls k _ _ l0_0 a0_1 a0_2 a0_3 _ _ l0_4 _ _ l0_5 _ _ l0_6 1048576 t103 _ ?side1 ?side2 ?side3 ?side4 ?side5 ?side6 ?side7 ?side8 A3.out).mono ?_); (case side1 => exact cw HR0_0.out HB.out); (case side2 => exact HC0_0.out); (case side3 => exact cw HR0_4.out HB.out); (case side4 => exact HC0_4.out); (case side5 => exact cw HR0_5.out HB.out); (case side6 => exact HC0_5.out); (case side7 => exact cw HR0_6.out HB.out); (case side8 => exact HC0_6.out); rintro e w36 ⟨rfl, hb⟩; refine ⟨_, rfl, ?_⟩; replace BK101 := Aside0.mk (blk_below (bk BK101.out) hb); replace BK102 := Aside0.mk (blk_below (bk BK102.out) hb); replace HB := Aside0.mk (below_step (by repeat (first | exact bw HB.out | refine below_set ?_ GE101.out | refine below_set ?_ GE102.out)) hb); (try clear hb); obtain ⟨hcz37_0, hcz37_1, hcz37_2, hcz37_3, hcz37_4, hcz37_5, hcz37_6, hfz37_0, hfz37_1, hfz37_2, hfz37_3, hfz37_4, hfz37_5, hfz37_6⟩ := cells7 BK102.out) | ((with_reducible refine gate_callee (f := 13) rfl ?_); refine goesL_ (some 17) rfl rfl Try.func13 (by kernel_rfl) rfl #[.agg #[.slice A1_0 l1_0.length c1_0, .int .i64 a1_1, .int .i64 a1_2, .int .i64 a1_3, .slice A1_4 l1_4.length c1_4, .slice A1_5 l1_5.length c1_5, .slice A1_6 l1_6.length c1_6], .int .i64 t103] rfl (by (try simp only [List.map_toArray, List.map_cons, List.map_nil]); first | done | rfl | (simp only [List.length_drop, List.length_take]; rfl)) ?_; (with_reducible refine (laws_szRr.calls k _ _ l1_0 a1_1 a1_2 a1_3 _ _ l1_4 _ _ l1_5 _ _ l1_6 t103 t104 _ ?side1 ?side2 ?side3 ?side4 ?side5 ?side6 ?side7 ?side8 A10.out).mono ?_); (case side1 => exact cw HR1_0.out HB.out); (case side2 => exact HC1_0.out); (case side3 => exact cw HR1_4.out HB.out); (case side4 => exact HC1_4.out); (case side5 => exact cw HR1_5.out HB.out); (case side6 => exact HC1_5.out); (case side7 => exact cw HR1_6.out HB.out); (case side8 => exact HC1_6.out); rintro e w38 ⟨rfl, hb⟩; refine ⟨_, rfl, ?_⟩; replace BK101 := Aside0.mk (blk_below (bk BK101.out) hb); replace BK102 := Aside0.mk (blk_below (bk BK102.out) hb); replace HB := Aside0.mk (below_step (by repeat (first | exact bw HB.out | refine below_set ?_ GE101.out | refine below_set ?_ GE102.out)) hb); (try clear hb)))
            have n0_ := Aside0.mk (blk_drew BK101.out)
            have n1_ := Aside0.mk (blk_drew BK102.out)
            have n2_ := Aside0.mk (below_drew1 HB.out)
            clear BK101
            clear BK102
            clear HB
            have BK101 := n0_
            have BK102 := n1_
            have HB := n2_
            clear n0_ n1_ n2_
            refine start_ (n := 6) (S := fun w' => w'.cell? ⟨gb101, 0, none⟩ = some (.slice A0_0 l0_0.length c0_0) ∧ w'.cell? ⟨gb101, 1, none⟩ = some (.int .i64 a0_1) ∧ w'.cell? ⟨gb101, 2, none⟩ = some (.int .i64 a0_2) ∧ w'.cell? ⟨gb101, 3, none⟩ = some (.int .i64 a0_3) ∧ w'.cell? ⟨gb101, 4, none⟩ = some (.slice A0_4 l0_4.length c0_4) ∧ w'.cell? ⟨gb101, 5, none⟩ = some (.slice A0_5 l0_5.length c0_5) ∧ w'.cell? ⟨gb101, 6, none⟩ = some (.slice A0_6 l0_6.length c0_6) ∧ w'.cell? ⟨gb102, 0, none⟩ = some (.slice A1_0 l1_0.length c1_0) ∧ w'.cell? ⟨gb102, 1, none⟩ = some (.int .i64 a1_1) ∧ w'.cell? ⟨gb102, 2, none⟩ = some (.int .i64 a1_2) ∧ w'.cell? ⟨gb102, 3, none⟩ = some (.int .i64 a1_3) ∧ w'.cell? ⟨gb102, 4, none⟩ = some (.slice A1_4 l1_4.length c1_4) ∧ w'.cell? ⟨gb102, 5, none⟩ = some (.slice A1_5 l1_5.length c1_5) ∧ w'.cell? ⟨gb102, 6, none⟩ = some (.slice A1_6 l1_6.length c1_6)) (ds := []) #[false, false, false, false, false, false] (by kernel_rfl) rfl rfl ⟨(blk_cell BK101.out 0).trans rfl, (blk_cell BK101.out 1).trans rfl, (blk_cell BK101.out 2).trans rfl, (blk_cell BK101.out 3).trans rfl, (blk_cell BK101.out 4).trans rfl, (blk_cell BK101.out 5).trans rfl, (blk_cell BK101.out 6).trans rfl, (blk_cell BK102.out 0).trans rfl, (blk_cell BK102.out 1).trans rfl, (blk_cell BK102.out 2).trans rfl, (blk_cell BK102.out 3).trans rfl, (blk_cell BK102.out 4).trans rfl, (blk_cell BK102.out 5).trans rfl, (blk_cell BK102.out 6).trans rfl⟩ (fun hHeld => ?_)
            generalize w38.drew = w39 at BK101 BK102 HB hHeld ⊢
            refine take_ (i := 0) (N := some 20) (v := ?_) (a' := ?_) #[true, false, false, false, false, false] rfl rfl (by kernel_rfl) (fun _ _ _ h => h) (Or.inl ⟨by rfl, ?_⟩) hHeld ?_ ?_
            rotate_left
            · rintro w' ⟨s0, s1, s2, s3, s4, s5, s6, s7, s8, s9, s10, s11, s12, s13⟩
              go_simp
              with_reducible rfl
            rotate_left
            · simp only [Act.put, List.setIfInBounds_toArray, List.set_cons_zero, List.set_cons_succ, i64_w, i32_w]
              rfl
            refine take_ (i := 2) (N := some 22) (v := ?_) (a' := ?_) #[true, false, true, false, false, false] rfl rfl (by kernel_rfl) (fun _ _ _ h => h) (Or.inl ⟨by rfl, ?_⟩) hHeld ?_ ?_
            rotate_left
            · rintro w' ⟨s0, s1, s2, s3, s4, s5, s6, s7, s8, s9, s10, s11, s12, s13⟩
              go_simp
              with_reducible rfl
            rotate_left
            · simp only [Act.put, List.setIfInBounds_toArray, List.set_cons_zero, List.set_cons_succ, i64_w, i32_w]
              rfl
            refine one_ (i := 1) (N := some 21) #[true, true, true, false, false, false] rfl rfl (by kernel_rfl) (by decide) (fun K hK => ?_)
            refine goes_ Try.func15 (by kernel_rfl) rfl #[.agg #[.slice A0_0 l0_0.length c0_0, .int .i64 a0_1, .int .i64 a0_2, .int .i64 a0_3, .slice A0_4 l0_4.length c0_4, .slice A0_5 l0_5.length c0_5, .slice A0_6 l0_6.length c0_6]] (by rfl) rfl rfl (by (try simp only [List.map_toArray, List.map_cons, List.map_nil]); first | done | rfl | (simp only [List.length_drop, List.length_take]; rfl)) ?_
            with_reducible refine (laws_toRr.calls k _ _ l0_0 a0_1 a0_2 a0_3 _ _ l0_4 _ _ l0_5 _ _ l0_6 t105 t108 t109 t110 t111 t114 t117 _ ?side1 ?side2 ?side3 ?side4 ?side5 ?side6 ?side7 ?side8 A19.out).mono ?_
            (case side1 => exact cw HR0_0.out HB.out)
            (case side2 => exact HC0_0.out)
            (case side3 => exact cw HR0_4.out HB.out)
            (case side4 => exact HC0_4.out)
            (case side5 => exact cw HR0_5.out HB.out)
            (case side6 => exact HC0_5.out)
            (case side7 => exact cw HR0_6.out HB.out)
            (case side8 => exact HC0_6.out)
            rintro e w40 ⟨v106, v112, v115, v118, rfl, ho0, ho1, ho2, ho3, hb⟩
            refine ⟨_, rfl, ?_⟩
            have n0_ := Aside0.mk (Kd.S_lower ho0 (below_size (by repeat (first | exact bw HB.out | refine below_set ?_ GE101.out | refine below_set ?_ GE102.out))))
            have n1_ := Aside0.mk (Kd.S_lower ho1 (below_size (by repeat (first | exact bw HB.out | refine below_set ?_ GE101.out | refine below_set ?_ GE102.out))))
            have n2_ := Aside0.mk (Kd.R_lower ho2 (below_size (by repeat (first | exact bw HB.out | refine below_set ?_ GE101.out | refine below_set ?_ GE102.out))))
            have n3_ := Aside0.mk (Kd.R_lower ho3 (below_size (by repeat (first | exact bw HB.out | refine below_set ?_ GE101.out | refine below_set ?_ GE102.out))))
            have n4_ := Aside0.mk (blk_below (bk BK101.out) hb)
            have n5_ := Aside0.mk (blk_below (bk BK102.out) hb)
            have n6_ := Aside0.mk (below_step (by repeat (first | exact bw HB.out | refine below_set ?_ GE101.out | refine below_set ?_ GE102.out)) hb)
            clear BK101
            clear BK102
            clear HB
            have HO107 := n0_
            have HO113 := n1_
            have HO116 := n2_
            have HO119 := n3_
            have BK101 := n4_
            have BK102 := n5_
            have HB := n6_
            clear n0_ n1_ n2_ n3_ n4_ n5_ n6_
            (try clear hb)
            (try clear hb2)
            (try clear hk)
            (try clear hi)
            (try clear ho0)
            (try clear ho1)
            (try clear ho2)
            (try clear ho3)
            refine hK.out _ _ ⟨(blk_cell BK101.out 0).trans rfl, (blk_cell BK101.out 1).trans rfl, (blk_cell BK101.out 2).trans rfl, (blk_cell BK101.out 3).trans rfl, (blk_cell BK101.out 4).trans rfl, (blk_cell BK101.out 5).trans rfl, (blk_cell BK101.out 6).trans rfl, (blk_cell BK102.out 0).trans rfl, (blk_cell BK102.out 1).trans rfl, (blk_cell BK102.out 2).trans rfl, (blk_cell BK102.out 3).trans rfl, (blk_cell BK102.out 4).trans rfl, (blk_cell BK102.out 5).trans rfl, (blk_cell BK102.out 6).trans rfl⟩ (fun hHeld => ?_)
            clear hK K
            refine norm_ (a' := ?_) ?_ ?_
            rotate_left
            · show Act.put _ (some 21) _ = _
              simp only [Act.put, List.setIfInBounds_toArray, List.set_cons_zero, List.set_cons_succ, i64_w, i32_w]
              rfl
            refine one_ (i := 3) (N := some 23) #[true, true, true, true, false, false] rfl rfl (by kernel_rfl) (by decide) (fun K hK => ?_)
            refine goes_ Try.func15 (by kernel_rfl) rfl #[.agg #[.slice A1_0 l1_0.length c1_0, .int .i64 a1_1, .int .i64 a1_2, .int .i64 a1_3, .slice A1_4 l1_4.length c1_4, .slice A1_5 l1_5.length c1_5, .slice A1_6 l1_6.length c1_6]] (by rfl) rfl rfl (by (try simp only [List.map_toArray, List.map_cons, List.map_nil]); first | done | rfl | (simp only [List.length_drop, List.length_take]; rfl)) ?_
            with_reducible refine (laws_toRr.calls k _ _ l1_0 a1_1 a1_2 a1_3 _ _ l1_4 _ _ l1_5 _ _ l1_6 t120 t123 t124 t125 t126 t129 t132 _ ?side1 ?side2 ?side3 ?side4 ?side5 ?side6 ?side7 ?side8 A20.out).mono ?_
            (case side1 => exact cw HR1_0.out HB.out)
            (case side2 => exact HC1_0.out)
            (case side3 => exact cw HR1_4.out HB.out)
            (case side4 => exact HC1_4.out)
            (case side5 => exact cw HR1_5.out HB.out)
            (case side6 => exact HC1_5.out)
            (case side7 => exact cw HR1_6.out HB.out)
            (case side8 => exact HC1_6.out)
            rintro e w41 ⟨v121, v127, v130, v133, rfl, ho0, ho1, ho2, ho3, hb⟩
            refine ⟨_, rfl, ?_⟩
            have n0_ := Aside0.mk (Kd.S_mono (Kd.S_told (Kd.S_told (Kd.S_told (Kd.S_old (sw HO107.out) hb) (Kd.S_base ho0)) (Kd.S_base ho1)) (Kd.R_base ho2)) (fun _ h_ => h_.1))
            have n1_ := Aside0.mk (Kd.S_mono (Kd.S_told (Kd.S_told (Kd.S_told (Kd.S_old (sw HO113.out) hb) (Kd.S_base ho0)) (Kd.S_base ho1)) (Kd.R_base ho2)) (fun _ h_ => h_.1))
            have n2_ := Aside0.mk (Kd.R_elder' (rw_ HO116.out) (Kd.R_base ho2) hb)
            have n3_ := Aside0.mk (Kd.R_elder' (rw_ HO119.out) (Kd.R_base ho3) hb)
            have n4_ := Aside0.mk (Kd.S_lower (Kd.S_new' (Kd.S_new' (Kd.S_new' ho0 (Kd.S_lt (sw HO107.out))) (Kd.S_lt (sw HO113.out))) (Kd.R_lt (rw_ HO116.out))) (below_size (by repeat (first | exact bw HB.out | refine below_set ?_ GE101.out | refine below_set ?_ GE102.out))))
            have n5_ := Aside0.mk (Kd.S_lower (Kd.S_new' (Kd.S_new' (Kd.S_new' ho1 (Kd.S_lt (sw HO107.out))) (Kd.S_lt (sw HO113.out))) (Kd.R_lt (rw_ HO116.out))) (below_size (by repeat (first | exact bw HB.out | refine below_set ?_ GE101.out | refine below_set ?_ GE102.out))))
            have n6_ := Aside0.mk (Kd.R_lower (Kd.R_new' ho2 (Kd.R_lt (rw_ HO116.out))) (below_size (by repeat (first | exact bw HB.out | refine below_set ?_ GE101.out | refine below_set ?_ GE102.out))))
            have n7_ := Aside0.mk (Kd.R_lower (Kd.R_new' ho3 (Kd.R_lt (rw_ HO119.out))) (below_size (by repeat (first | exact bw HB.out | refine below_set ?_ GE101.out | refine below_set ?_ GE102.out))))
            have n8_ := Aside0.mk (blk_below (bk BK101.out) hb)
            have n9_ := Aside0.mk (blk_below (bk BK102.out) hb)
            have n10_ := Aside0.mk (below_step (by repeat (first | exact bw HB.out | refine below_set ?_ GE101.out | refine below_set ?_ GE102.out)) hb)
            clear HO107
            clear HO113
            clear HO116
            clear HO119
            clear BK101
            clear BK102
            clear HB
            have HO107 := n0_
            have HO113 := n1_
            have HO116 := n2_
            have HO119 := n3_
            have HO122 := n4_
            have HO128 := n5_
            have HO131 := n6_
            have HO134 := n7_
            have BK101 := n8_
            have BK102 := n9_
            have HB := n10_
            clear n0_ n1_ n2_ n3_ n4_ n5_ n6_ n7_ n8_ n9_ n10_
            (try clear hb)
            (try clear hb2)
            (try clear hk)
            (try clear hi)
            (try clear ho0)
            (try clear ho1)
            (try clear ho2)
            (try clear ho3)
            obtain ⟨Ao42, co42, eo42⟩ := Kd.S_slice HO107.out
            (first | subst eo42 | (injection eo42 with f1_ f2_ f3_; have f4_ := f1_.symm; have f5_ := f3_.symm; clear f1_ f2_ f3_; subst f4_; subst f5_))
            obtain ⟨Ao43, co43, eo43⟩ := Kd.S_slice HO113.out
            (first | subst eo43 | (injection eo43 with f1_ f2_ f3_; have f4_ := f1_.symm; have f5_ := f3_.symm; clear f1_ f2_ f3_; subst f4_; subst f5_))
            obtain ⟨Ao44, co44, eo44⟩ := Kd.R_slice HO116.out
            (first | subst eo44 | (injection eo44 with f1_ f2_ f3_; have f4_ := f1_.symm; have f5_ := f3_.symm; clear f1_ f2_ f3_; subst f4_; subst f5_))
            obtain ⟨Ao45, co45, eo45⟩ := Kd.R_slice HO119.out
            (first | subst eo45 | (injection eo45 with f1_ f2_ f3_; have f4_ := f1_.symm; have f5_ := f3_.symm; clear f1_ f2_ f3_; subst f4_; subst f5_))
            obtain ⟨Ao46, co46, eo46⟩ := Kd.S_slice HO122.out
            (first | subst eo46 | (injection eo46 with f1_ f2_ f3_; have f4_ := f1_.symm; have f5_ := f3_.symm; clear f1_ f2_ f3_; subst f4_; subst f5_))
            obtain ⟨Ao47, co47, eo47⟩ := Kd.S_slice HO128.out
            (first | subst eo47 | (injection eo47 with f1_ f2_ f3_; have f4_ := f1_.symm; have f5_ := f3_.symm; clear f1_ f2_ f3_; subst f4_; subst f5_))
            obtain ⟨Ao48, co48, eo48⟩ := Kd.R_slice HO131.out
            (first | subst eo48 | (injection eo48 with f1_ f2_ f3_; have f4_ := f1_.symm; have f5_ := f3_.symm; clear f1_ f2_ f3_; subst f4_; subst f5_))
            obtain ⟨Ao49, co49, eo49⟩ := Kd.R_slice HO134.out
            (first | subst eo49 | (injection eo49 with f1_ f2_ f3_; have f4_ := f1_.symm; have f5_ := f3_.symm; clear f1_ f2_ f3_; subst f4_; subst f5_))
            refine hK.out _ _ ⟨(blk_cell BK101.out 0).trans rfl, (blk_cell BK101.out 1).trans rfl, (blk_cell BK101.out 2).trans rfl, (blk_cell BK101.out 3).trans rfl, (blk_cell BK101.out 4).trans rfl, (blk_cell BK101.out 5).trans rfl, (blk_cell BK101.out 6).trans rfl, (blk_cell BK102.out 0).trans rfl, (blk_cell BK102.out 1).trans rfl, (blk_cell BK102.out 2).trans rfl, (blk_cell BK102.out 3).trans rfl, (blk_cell BK102.out 4).trans rfl, (blk_cell BK102.out 5).trans rfl, (blk_cell BK102.out 6).trans rfl⟩ (fun hHeld => ?_)
            clear hK K
            refine norm_ (a' := ?_) ?_ ?_
            rotate_left
            · show Act.put _ (some 23) _ = _
              simp only [Act.put, List.setIfInBounds_toArray, List.set_cons_zero, List.set_cons_succ, i64_w, i32_w]
              rfl
            refine one_ (i := 4) (N := some 24) #[true, true, true, true, true, false] rfl rfl (by kernel_rfl) (by decide) (fun K hK => ?_)
            refine goes_ Try.func14 (by kernel_rfl) rfl #[.agg #[.slice Ao42 t105.length co42, .int .i64 t108, .int .i64 t109, .int .i64 t110, .slice Ao43 t111.length co43, .slice Ao44 t114.length co44, .slice Ao45 t117.length co45], .agg #[.slice Ao46 t120.length co46, .int .i64 t123, .int .i64 t124, .int .i64 t125, .slice Ao47 t126.length co47, .slice Ao48 t129.length co48, .slice Ao49 t132.length co49]] (by rfl) rfl rfl (by (try simp only [List.map_toArray, List.map_cons, List.map_nil]); first | done | rfl | (simp only [List.length_drop, List.length_take]; rfl)) ?_
            with_reducible refine (spec_RrCmp.calls k _ _ t105 t108 t109 t110 _ _ t111 _ _ t114 _ _ t117 _ _ t120 t123 t124 t125 _ _ t126 _ _ t129 _ _ t132 t135 _ ?side1 ?side2 ?side3 ?side4 ?side5 ?side6 ?side7 ?side8 ?side9 ?side10 ?side11 ?side12 ?side13 ?side14 ?side15 ?side16 A21.out).mono ?_
            (case side1 => repeat (first | exact (Kd.S_reads' HO107.out).2.2 | (with_reducible refine Kd.C_alloc ?_ _) | (with_reducible refine Kd.C_drewN ?_ _) | (with_reducible refine Kd.C_drew ?_)))
            (case side2 => exact (Kd.S_reads' HO107.out).2.1)
            (case side3 => repeat (first | exact (Kd.S_reads' HO113.out).2.2 | (with_reducible refine Kd.C_alloc ?_ _) | (with_reducible refine Kd.C_drewN ?_ _) | (with_reducible refine Kd.C_drew ?_)))
            (case side4 => exact (Kd.S_reads' HO113.out).2.1)
            (case side5 => repeat (first | exact (Kd.R_reads' HO116.out).2.2 | (with_reducible refine Kd.C_alloc ?_ _) | (with_reducible refine Kd.C_drewN ?_ _) | (with_reducible refine Kd.C_drew ?_)))
            (case side6 => exact (Kd.R_reads' HO116.out).2.1)
            (case side7 => repeat (first | exact (Kd.R_reads' HO119.out).2.2 | (with_reducible refine Kd.C_alloc ?_ _) | (with_reducible refine Kd.C_drewN ?_ _) | (with_reducible refine Kd.C_drew ?_)))
            (case side8 => exact (Kd.R_reads' HO119.out).2.1)
            (case side9 => repeat (first | exact (Kd.S_reads' HO122.out).2.2 | (with_reducible refine Kd.C_alloc ?_ _) | (with_reducible refine Kd.C_drewN ?_ _) | (with_reducible refine Kd.C_drew ?_)))
            (case side10 => exact (Kd.S_reads' HO122.out).2.1)
            (case side11 => repeat (first | exact (Kd.S_reads' HO128.out).2.2 | (with_reducible refine Kd.C_alloc ?_ _) | (with_reducible refine Kd.C_drewN ?_ _) | (with_reducible refine Kd.C_drew ?_)))
            (case side12 => exact (Kd.S_reads' HO128.out).2.1)
            (case side13 => repeat (first | exact (Kd.R_reads' HO131.out).2.2 | (with_reducible refine Kd.C_alloc ?_ _) | (with_reducible refine Kd.C_drewN ?_ _) | (with_reducible refine Kd.C_drew ?_)))
            (case side14 => exact (Kd.R_reads' HO131.out).2.1)
            (case side15 => repeat (first | exact (Kd.R_reads' HO134.out).2.2 | (with_reducible refine Kd.C_alloc ?_ _) | (with_reducible refine Kd.C_drewN ?_ _) | (with_reducible refine Kd.C_drew ?_)))
            (case side16 => exact (Kd.R_reads' HO134.out).2.1)
            rintro e w50 ⟨rfl, hb⟩
            refine ⟨_, rfl, ?_⟩
            have n0_ := Aside0.mk (Kd.S_below (sw HO107.out) hb)
            have n1_ := Aside0.mk (Kd.S_below (sw HO113.out) hb)
            have n2_ := Aside0.mk (Kd.R_below (rw_ HO116.out) hb)
            have n3_ := Aside0.mk (Kd.R_below (rw_ HO119.out) hb)
            have n4_ := Aside0.mk (Kd.S_below (sw HO122.out) hb)
            have n5_ := Aside0.mk (Kd.S_below (sw HO128.out) hb)
            have n6_ := Aside0.mk (Kd.R_below (rw_ HO131.out) hb)
            have n7_ := Aside0.mk (Kd.R_below (rw_ HO134.out) hb)
            have n8_ := Aside0.mk (blk_below (bk BK101.out) hb)
            have n9_ := Aside0.mk (blk_below (bk BK102.out) hb)
            have n10_ := Aside0.mk (below_step (by repeat (first | exact bw HB.out | refine below_set ?_ GE101.out | refine below_set ?_ GE102.out)) hb)
            clear HO107
            clear HO113
            clear HO116
            clear HO119
            clear HO122
            clear HO128
            clear HO131
            clear HO134
            clear BK101
            clear BK102
            clear HB
            have HO107 := n0_
            have HO113 := n1_
            have HO116 := n2_
            have HO119 := n3_
            have HO122 := n4_
            have HO128 := n5_
            have HO131 := n6_
            have HO134 := n7_
            have BK101 := n8_
            have BK102 := n9_
            have HB := n10_
            clear n0_ n1_ n2_ n3_ n4_ n5_ n6_ n7_ n8_ n9_ n10_
            (try clear hb)
            (try clear hb2)
            (try clear hk)
            (try clear hi)
            refine hK.out _ _ ⟨(blk_cell BK101.out 0).trans rfl, (blk_cell BK101.out 1).trans rfl, (blk_cell BK101.out 2).trans rfl, (blk_cell BK101.out 3).trans rfl, (blk_cell BK101.out 4).trans rfl, (blk_cell BK101.out 5).trans rfl, (blk_cell BK101.out 6).trans rfl, (blk_cell BK102.out 0).trans rfl, (blk_cell BK102.out 1).trans rfl, (blk_cell BK102.out 2).trans rfl, (blk_cell BK102.out 3).trans rfl, (blk_cell BK102.out 4).trans rfl, (blk_cell BK102.out 5).trans rfl, (blk_cell BK102.out 6).trans rfl⟩ (fun hHeld => ?_)
            clear hK K
            refine norm_ (a' := ?_) ?_ ?_
            rotate_left
            · show Act.put _ (some 24) _ = _
              simp only [Act.put, List.setIfInBounds_toArray, List.set_cons_zero, List.set_cons_succ, i64_w, i32_w]
              rfl
            refine pure_ (i := 5) (N := some 6) (v := ?_) (a' := ?_) #[true, true, true, true, true, true] rfl rfl (by kernel_rfl) (fun _ _ _ h => h) (Or.inl ⟨by rfl, ?_⟩) ?_ ?_
            rotate_left
            · intro w'
              go_simp
              with_reducible rfl
            rotate_left
            · simp only [Act.put, List.setIfInBounds_toArray, List.set_cons_zero, List.set_cons_succ, i64_w, i32_w]
              rfl
            refine done_ (by kernel_rfl) ?_
            obtain ⟨hcz51_0, hcz51_1, hcz51_2, hcz51_3, hcz51_4, hcz51_5, hcz51_6, hfz51_0, hfz51_1, hfz51_2, hfz51_3, hfz51_4, hfz51_5, hfz51_6⟩ := cells7 BK101.out
            try go_wp2_with (first | ((with_reducible refine gate_callee (f := 15) rfl ?_); refine goesL_ (some 26) rfl rfl Try.func15 (by kernel_rfl) rfl #[.agg #[.slice A0_0 l0_0.length c0_0, .int .i64 a0_1, .int .i64 a0_2, .int .i64 a0_3, .slice A0_4 l0_4.length c0_4, .slice A0_5 l0_5.length c0_5, .slice A0_6 l0_6.length c0_6]] rfl (by (try simp only [List.map_toArray, List.map_cons, List.map_nil]); first | done | rfl | (simp only [List.length_drop, List.length_take]; rfl)) ?_; (with_reducible refine (laws_toRr.calls k _ _ l0_0 a0_1 a0_2 a0_3 _ _ l0_4 _ _ l0_5 _ _ l0_6 t136 t139 t140 t141 t142 t145 t148 _ ?side1 ?side2 ?side3 ?side4 ?side5 ?side6 ?side7 ?side8 A22.out).mono ?_); (case side1 => exact cw HR0_0.out HB.out); (case side2 => exact HC0_0.out); (case side3 => exact cw HR0_4.out HB.out); (case side4 => exact HC0_4.out); (case side5 => exact cw HR0_5.out HB.out); (case side6 => exact HC0_5.out); (case side7 => exact cw HR0_6.out HB.out); (case side8 => exact HC0_6.out); rintro e w52 ⟨v137, v143, v146, v149, rfl, ho0, ho1, ho2, ho3, hb⟩; refine ⟨_, rfl, ?_⟩; have HO138 := Aside0.mk (Kd.S_lower (Kd.S_new' (Kd.S_new' (Kd.S_new' (Kd.S_new' (Kd.S_new' (Kd.S_new' ho0 (Kd.S_lt (sw HO107.out))) (Kd.S_lt (sw HO113.out))) (Kd.R_lt (rw_ HO116.out))) (Kd.S_lt (sw HO122.out))) (Kd.S_lt (sw HO128.out))) (Kd.R_lt (rw_ HO131.out))) (below_size (by repeat (first | exact bw HB.out | refine below_set ?_ GE101.out | refine below_set ?_ GE102.out)))); have HO144 := Aside0.mk (Kd.S_lower (Kd.S_new' (Kd.S_new' (Kd.S_new' (Kd.S_new' (Kd.S_new' (Kd.S_new' ho1 (Kd.S_lt (sw HO107.out))) (Kd.S_lt (sw HO113.out))) (Kd.R_lt (rw_ HO116.out))) (Kd.S_lt (sw HO122.out))) (Kd.S_lt (sw HO128.out))) (Kd.R_lt (rw_ HO131.out))) (below_size (by repeat (first | exact bw HB.out | refine below_set ?_ GE101.out | refine below_set ?_ GE102.out)))); replace HO107 := Aside0.mk (Kd.S_mono (Kd.S_told (Kd.S_told (Kd.S_told (Kd.S_old (sw HO107.out) hb) (Kd.S_base ho0)) (Kd.S_base ho1)) (Kd.R_base ho2)) (fun _ h_ => h_.1)); replace HO113 := Aside0.mk (Kd.S_mono (Kd.S_told (Kd.S_told (Kd.S_told (Kd.S_old (sw HO113.out) hb) (Kd.S_base ho0)) (Kd.S_base ho1)) (Kd.R_base ho2)) (fun _ h_ => h_.1)); replace HO122 := Aside0.mk (Kd.S_mono (Kd.S_told (Kd.S_told (Kd.S_told (Kd.S_old (sw HO122.out) hb) (Kd.S_base ho0)) (Kd.S_base ho1)) (Kd.R_base ho2)) (fun _ h_ => h_.1)); replace HO128 := Aside0.mk (Kd.S_mono (Kd.S_told (Kd.S_told (Kd.S_told (Kd.S_old (sw HO128.out) hb) (Kd.S_base ho0)) (Kd.S_base ho1)) (Kd.R_base ho2)) (fun _ h_ => h_.1)); have HO147 := Aside0.mk (Kd.R_lower (Kd.R_new' (Kd.R_new' ho2 (Kd.R_lt (rw_ HO116.out))) (Kd.R_lt (rw_ HO131.out))) (below_size (by repeat (first | exact bw HB.out | refine below_set ?_ GE101.out | refine below_set ?_ GE102.out)))); replace HO116 := Aside0.mk (Kd.R_elder' (rw_ HO116.out) (Kd.R_base ho2) hb); replace HO131 := Aside0.mk (Kd.R_elder' (rw_ HO131.out) (Kd.R_base ho2) hb); have HO150 := Aside0.mk (Kd.R_lower (Kd.R_new' (Kd.R_new' ho3 (Kd.R_lt (rw_ HO119.out))) (Kd.R_lt (rw_ HO134.out))) (below_size (by repeat (first | exact bw HB.out | refine below_set ?_ GE101.out | refine below_set ?_ GE102.out)))); replace HO119 := Aside0.mk (Kd.R_elder' (rw_ HO119.out) (Kd.R_base ho3) hb); replace HO134 := Aside0.mk (Kd.R_elder' (rw_ HO134.out) (Kd.R_base ho3) hb); replace BK101 := Aside0.mk (blk_below (bk BK101.out) hb); replace BK102 := Aside0.mk (blk_below (bk BK102.out) hb); replace HB := Aside0.mk (below_step (by repeat (first | exact bw HB.out | refine below_set ?_ GE101.out | refine below_set ?_ GE102.out)) hb); (try clear hb); (try clear ho0); (try clear ho1); (try clear ho2); (try clear ho3)) | ((with_reducible refine gate_dst (N := 7) rfl ?_); refine box_event ?hg (N := 7) ?hd (cs := #[.slice none 0 0, .int .i64 0, .int .i64 0, .int .i64 0, .slice none 0 0, .slice none 0 0, .slice none 0 0]) (t := 33) ?hr ?_; (case hd => rfl); (case hg => rfl); (case hr => first | (go_simp; done) | (go_simp; rfl)); intro gb151 hg w53 hbox hb; replace HO107 := Aside0.mk (Kd.S_below (sw HO107.out) hb); replace HO113 := Aside0.mk (Kd.S_below (sw HO113.out) hb); replace HO116 := Aside0.mk (Kd.R_below (rw_ HO116.out) hb); replace HO119 := Aside0.mk (Kd.R_below (rw_ HO119.out) hb); replace HO122 := Aside0.mk (Kd.S_below (sw HO122.out) hb); replace HO128 := Aside0.mk (Kd.S_below (sw HO128.out) hb); replace HO131 := Aside0.mk (Kd.R_below (rw_ HO131.out) hb); replace HO134 := Aside0.mk (Kd.R_below (rw_ HO134.out) hb); replace HO138 := Aside0.mk (Kd.S_below (sw HO138.out) hb); replace HO144 := Aside0.mk (Kd.S_below (sw HO144.out) hb); replace HO147 := Aside0.mk (Kd.R_below (rw_ HO147.out) hb); replace HO150 := Aside0.mk (Kd.R_below (rw_ HO150.out) hb); have BK151 := Aside0.mk (hbox); have GW151 := Aside0.mk ((by rw [hg]; exact (below_size (by repeat (first | exact bw HB.out | refine below_set ?_ GE101.out | refine below_set ?_ GE102.out))) : w.heap.size ≤ gb151)); have GE151 := Aside0.mk ((by rw [hg]; exact (below_size (by repeat (first | exact bw HB.out | refine below_set ?_ GE101.out | refine below_set ?_ GE102.out))) : w.heap.size ≤ gb151)); replace HB := Aside0.mk (below_step (by repeat (first | exact bw HB.out | refine below_set ?_ GE101.out | refine below_set ?_ GE102.out)) hb); have NB101_151 := Aside0.mk ((by rw [hg]; exact Nat.ne_of_lt (blk_lt (bk BK101.out)) : gb101 ≠ gb151)); have NB151_101 := Aside0.mk ((by rw [hg]; exact Nat.ne_of_gt (blk_lt (bk BK101.out)) : gb151 ≠ gb101)); replace BK101 := Aside0.mk (blk_below (bk BK101.out) hb); have NB102_151 := Aside0.mk ((by rw [hg]; exact Nat.ne_of_lt (blk_lt (bk BK102.out)) : gb102 ≠ gb151)); have NB151_102 := Aside0.mk ((by rw [hg]; exact Nat.ne_of_gt (blk_lt (bk BK102.out)) : gb151 ≠ gb102)); replace BK102 := Aside0.mk (blk_below (bk BK102.out) hb); clear hb hbox hg; obtain ⟨Ao54, co54, eo54⟩ := Kd.S_slice HO138.out; subst eo54; have hnb55 := NB151_101.out; have hnc55 := NB101_151.out; have hnb56 := NB151_102.out; have hnc56 := NB102_151.out; obtain ⟨hcz57_0, hcz57_1, hcz57_2, hcz57_3, hcz57_4, hcz57_5, hcz57_6, hfz57_0, hfz57_1, hfz57_2, hfz57_3, hfz57_4, hfz57_5, hfz57_6⟩ := cells7 BK151.out; obtain ⟨Ao58, co58, eo58⟩ := Kd.S_slice HO144.out; subst eo58; obtain ⟨Ao59, co59, eo59⟩ := Kd.R_slice HO147.out; subst eo59; obtain ⟨Ao60, co60, eo60⟩ := Kd.R_slice HO150.out; subst eo60; obtain ⟨hcz61_0, hcz61_1, hcz61_2, hcz61_3, hcz61_4, hcz61_5, hcz61_6, hfz61_0, hfz61_1, hfz61_2, hfz61_3, hfz61_4, hfz61_5, hfz61_6⟩ := cells7 BK102.out) | ((with_reducible refine gate_callee (f := 15) rfl ?_); refine goesL_ (some 28) rfl rfl Try.func15 (by kernel_rfl) rfl #[.agg #[.slice A1_0 l1_0.length c1_0, .int .i64 a1_1, .int .i64 a1_2, .int .i64 a1_3, .slice A1_4 l1_4.length c1_4, .slice A1_5 l1_5.length c1_5, .slice A1_6 l1_6.length c1_6]] rfl (by (try simp only [List.map_toArray, List.map_cons, List.map_nil]); first | done | rfl | (simp only [List.length_drop, List.length_take]; rfl)) ?_; (with_reducible refine (laws_toRr.calls k _ _ l1_0 a1_1 a1_2 a1_3 _ _ l1_4 _ _ l1_5 _ _ l1_6 t152 t155 t156 t157 t158 t161 t164 _ ?side1 ?side2 ?side3 ?side4 ?side5 ?side6 ?side7 ?side8 A23.out).mono ?_); (case side1 => exact Kd.C_below HR1_0.out (by repeat (first | exact bw HB.out | refine below_set ?_ GE101.out | refine below_set ?_ GE102.out | refine below_set ?_ GE151.out))); (case side2 => exact HC1_0.out); (case side3 => exact Kd.C_below HR1_4.out (by repeat (first | exact bw HB.out | refine below_set ?_ GE101.out | refine below_set ?_ GE102.out | refine below_set ?_ GE151.out))); (case side4 => exact HC1_4.out); (case side5 => exact Kd.C_below HR1_5.out (by repeat (first | exact bw HB.out | refine below_set ?_ GE101.out | refine below_set ?_ GE102.out | refine below_set ?_ GE151.out))); (case side6 => exact HC1_5.out); (case side7 => exact Kd.C_below HR1_6.out (by repeat (first | exact bw HB.out | refine below_set ?_ GE101.out | refine below_set ?_ GE102.out | refine below_set ?_ GE151.out))); (case side8 => exact HC1_6.out); rintro e w62 ⟨v153, v159, v162, v165, rfl, ho0, ho1, ho2, ho3, hb⟩; refine ⟨_, rfl, ?_⟩; have HO154 := Aside0.mk (Kd.S_lower (Kd.S_new' (Kd.S_new' (Kd.S_new' (Kd.S_new' (Kd.S_new' (Kd.S_new' (Kd.S_new' (Kd.S_new' (Kd.S_new' ho0 (Kd.S_lt (far7S HO107.out BK151.out (by decide)))) (Kd.S_lt (far7S HO113.out BK151.out (by decide)))) (Kd.R_lt (far7R HO116.out BK151.out (by decide)))) (Kd.S_lt (far7S HO122.out BK151.out (by decide)))) (Kd.S_lt (far7S HO128.out BK151.out (by decide)))) (Kd.R_lt (far7R HO131.out BK151.out (by decide)))) (Kd.S_lt (far7S HO138.out BK151.out (by decide)))) (Kd.S_lt (far7S HO144.out BK151.out (by decide)))) (Kd.R_lt (far7R HO147.out BK151.out (by decide)))) (below_size (by repeat (first | exact bw HB.out | refine below_set ?_ GE101.out | refine below_set ?_ GE102.out | refine below_set ?_ GE151.out)))); have HO160 := Aside0.mk (Kd.S_lower (Kd.S_new' (Kd.S_new' (Kd.S_new' (Kd.S_new' (Kd.S_new' (Kd.S_new' (Kd.S_new' (Kd.S_new' (Kd.S_new' ho1 (Kd.S_lt (far7S HO107.out BK151.out (by decide)))) (Kd.S_lt (far7S HO113.out BK151.out (by decide)))) (Kd.R_lt (far7R HO116.out BK151.out (by decide)))) (Kd.S_lt (far7S HO122.out BK151.out (by decide)))) (Kd.S_lt (far7S HO128.out BK151.out (by decide)))) (Kd.R_lt (far7R HO131.out BK151.out (by decide)))) (Kd.S_lt (far7S HO138.out BK151.out (by decide)))) (Kd.S_lt (far7S HO144.out BK151.out (by decide)))) (Kd.R_lt (far7R HO147.out BK151.out (by decide)))) (below_size (by repeat (first | exact bw HB.out | refine below_set ?_ GE101.out | refine below_set ?_ GE102.out | refine below_set ?_ GE151.out)))); replace HO107 := Aside0.mk (Kd.S_mono (Kd.S_told (Kd.S_told (Kd.S_told (Kd.S_old (far7S HO107.out BK151.out (by decide)) hb) (Kd.S_base ho0)) (Kd.S_base ho1)) (Kd.R_base ho2)) (fun _ h_ => h_.1)); replace HO113 := Aside0.mk (Kd.S_mono (Kd.S_told (Kd.S_told (Kd.S_told (Kd.S_old (far7S HO113.out BK151.out (by decide)) hb) (Kd.S_base ho0)) (Kd.S_base ho1)) (Kd.R_base ho2)) (fun _ h_ => h_.1)); replace HO122 := Aside0.mk (Kd.S_mono (Kd.S_told (Kd.S_told (Kd.S_told (Kd.S_old (far7S HO122.out BK151.out (by decide)) hb) (Kd.S_base ho0)) (Kd.S_base ho1)) (Kd.R_base ho2)) (fun _ h_ => h_.1)); replace HO128 := Aside0.mk (Kd.S_mono (Kd.S_told (Kd.S_told (Kd.S_told (Kd.S_old (far7S HO128.out BK151.out (by decide)) hb) (Kd.S_base ho0)) (Kd.S_base ho1)) (Kd.R_base ho2)) (fun _ h_ => h_.1)); replace HO138 := Aside0.mk (Kd.S_mono (Kd.S_told (Kd.S_told (Kd.S_told (Kd.S_old (far7S HO138.out BK151.out (by decide)) hb) (Kd.S_base ho0)) (Kd.S_base ho1)) (Kd.R_base ho2)) (fun _ h_ => h_.1)); replace HO144 := Aside0.mk (Kd.S_mono (Kd.S_told (Kd.S_told (Kd.S_told (Kd.S_old (far7S HO144.out BK151.out (by decide)) hb) (Kd.S_base ho0)) (Kd.S_base ho1)) (Kd.R_base ho2)) (fun _ h_ => h_.1)); have HO163 := Aside0.mk (Kd.R_lower (Kd.R_new' (Kd.R_new' (Kd.R_new' ho2 (Kd.R_lt (far7R HO116.out BK151.out (by decide)))) (Kd.R_lt (far7R HO131.out BK151.out (by decide)))) (Kd.R_lt (far7R HO147.out BK151.out (by decide)))) (below_size (by repeat (first | exact bw HB.out | refine below_set ?_ GE101.out | refine below_set ?_ GE102.out | refine below_set ?_ GE151.out)))); replace HO116 := Aside0.mk (Kd.R_elder' (far7R HO116.out BK151.out (by decide)) (Kd.R_base ho2) hb); replace HO131 := Aside0.mk (Kd.R_elder' (far7R HO131.out BK151.out (by decide)) (Kd.R_base ho2) hb); replace HO147 := Aside0.mk (Kd.R_elder' (far7R HO147.out BK151.out (by decide)) (Kd.R_base ho2) hb); have HO166 := Aside0.mk (Kd.R_lower (Kd.R_new' (Kd.R_new' (Kd.R_new' ho3 (Kd.R_lt (far7R HO119.out BK151.out (by decide)))) (Kd.R_lt (far7R HO134.out BK151.out (by decide)))) (Kd.R_lt (far7R HO150.out BK151.out (by decide)))) (below_size (by repeat (first | exact bw HB.out | refine below_set ?_ GE101.out | refine below_set ?_ GE102.out | refine below_set ?_ GE151.out)))); replace HO119 := Aside0.mk (Kd.R_elder' (far7R HO119.out BK151.out (by decide)) (Kd.R_base ho3) hb); replace HO134 := Aside0.mk (Kd.R_elder' (far7R HO134.out BK151.out (by decide)) (Kd.R_base ho3) hb); replace HO150 := Aside0.mk (Kd.R_elder' (far7R HO150.out BK151.out (by decide)) (Kd.R_base ho3) hb); replace BK101 := Aside0.mk (blk_below (bfar7 NB101_151.out BK101.out) hb); replace BK102 := Aside0.mk (blk_below (bfar7 NB102_151.out BK102.out) hb); replace BK151 := Aside0.mk (blk_below (bput7 BK151.out) hb); replace HB := Aside0.mk (below_step (by repeat (first | exact bw HB.out | refine below_set ?_ GE101.out | refine below_set ?_ GE102.out | refine below_set ?_ GE151.out)) hb); (try clear hb); (try clear ho0); (try clear ho1); (try clear ho2); (try clear ho3)) | ((with_reducible refine gate_dst (N := 8) rfl ?_); refine box_event ?hg (N := 8) ?hd (cs := #[.slice none 0 0, .int .i64 0, .int .i64 0, .int .i64 0, .slice none 0 0, .slice none 0 0, .slice none 0 0]) (t := 33) ?hr ?_; (case hd => rfl); (case hg => rfl); (case hr => first | (go_simp; done) | (go_simp; rfl)); intro gb167 hg w63 hbox hb; replace HO107 := Aside0.mk (Kd.S_below (sw HO107.out) hb); replace HO113 := Aside0.mk (Kd.S_below (sw HO113.out) hb); replace HO116 := Aside0.mk (Kd.R_below (rw_ HO116.out) hb); replace HO119 := Aside0.mk (Kd.R_below (rw_ HO119.out) hb); replace HO122 := Aside0.mk (Kd.S_below (sw HO122.out) hb); replace HO128 := Aside0.mk (Kd.S_below (sw HO128.out) hb); replace HO131 := Aside0.mk (Kd.R_below (rw_ HO131.out) hb); replace HO134 := Aside0.mk (Kd.R_below (rw_ HO134.out) hb); replace HO138 := Aside0.mk (Kd.S_below (sw HO138.out) hb); replace HO144 := Aside0.mk (Kd.S_below (sw HO144.out) hb); replace HO147 := Aside0.mk (Kd.R_below (rw_ HO147.out) hb); replace HO150 := Aside0.mk (Kd.R_below (rw_ HO150.out) hb); replace HO154 := Aside0.mk (Kd.S_below (sw HO154.out) hb); replace HO160 := Aside0.mk (Kd.S_below (sw HO160.out) hb); replace HO163 := Aside0.mk (Kd.R_below (rw_ HO163.out) hb); replace HO166 := Aside0.mk (Kd.R_below (rw_ HO166.out) hb); have BK167 := Aside0.mk (hbox); have GW167 := Aside0.mk ((by rw [hg]; exact (below_size (by repeat (first | exact bw HB.out | refine below_set ?_ GE101.out | refine below_set ?_ GE102.out | refine below_set ?_ GE151.out))) : w.heap.size ≤ gb167)); have GE167 := Aside0.mk ((by rw [hg]; exact (below_size (by repeat (first | exact bw HB.out | refine below_set ?_ GE101.out | refine below_set ?_ GE102.out | refine below_set ?_ GE151.out))) : w.heap.size ≤ gb167)); replace HB := Aside0.mk (below_step (by repeat (first | exact bw HB.out | refine below_set ?_ GE101.out | refine below_set ?_ GE102.out | refine below_set ?_ GE151.out)) hb); have NB101_167 := Aside0.mk ((by rw [hg]; exact Nat.ne_of_lt (blk_lt (bk BK101.out)) : gb101 ≠ gb167)); have NB167_101 := Aside0.mk ((by rw [hg]; exact Nat.ne_of_gt (blk_lt (bk BK101.out)) : gb167 ≠ gb101)); replace BK101 := Aside0.mk (blk_below (bk BK101.out) hb); have NB102_167 := Aside0.mk ((by rw [hg]; exact Nat.ne_of_lt (blk_lt (bk BK102.out)) : gb102 ≠ gb167)); have NB167_102 := Aside0.mk ((by rw [hg]; exact Nat.ne_of_gt (blk_lt (bk BK102.out)) : gb167 ≠ gb102)); replace BK102 := Aside0.mk (blk_below (bk BK102.out) hb); have NB151_167 := Aside0.mk ((by rw [hg]; exact Nat.ne_of_lt (blk_lt (bk BK151.out)) : gb151 ≠ gb167)); have NB167_151 := Aside0.mk ((by rw [hg]; exact Nat.ne_of_gt (blk_lt (bk BK151.out)) : gb167 ≠ gb151)); replace BK151 := Aside0.mk (blk_below (bk BK151.out) hb); clear hb hbox hg; obtain ⟨Ao64, co64, eo64⟩ := Kd.S_slice HO154.out; subst eo64; have hnb65 := NB167_101.out; have hnc65 := NB101_167.out; have hnb66 := NB167_102.out; have hnc66 := NB102_167.out; have hnb67 := NB167_151.out; have hnc67 := NB151_167.out; obtain ⟨hcz68_0, hcz68_1, hcz68_2, hcz68_3, hcz68_4, hcz68_5, hcz68_6, hfz68_0, hfz68_1, hfz68_2, hfz68_3, hfz68_4, hfz68_5, hfz68_6⟩ := cells7 BK167.out; obtain ⟨Ao69, co69, eo69⟩ := Kd.S_slice HO160.out; subst eo69; obtain ⟨Ao70, co70, eo70⟩ := Kd.R_slice HO163.out; subst eo70; obtain ⟨Ao71, co71, eo71⟩ := Kd.R_slice HO166.out; subst eo71; obtain ⟨hcz72_0, hcz72_1, hcz72_2, hcz72_3, hcz72_4, hcz72_5, hcz72_6, hfz72_0, hfz72_1, hfz72_2, hfz72_3, hfz72_4, hfz72_5, hfz72_6⟩ := cells7 BK151.out) | ((with_reducible refine gate_callee (f := 16) rfl ?_); refine goesL_ (some 31) rfl rfl Try.func16 (by kernel_rfl) rfl #[.agg #[.slice Ao54 t136.length co54, .int .i64 t139, .int .i64 t140, .int .i64 t141, .slice Ao58 t142.length co58, .slice Ao59 t145.length co59, .slice Ao60 t148.length co60], .agg #[.slice Ao64 t152.length co64, .int .i64 t155, .int .i64 t156, .int .i64 t157, .slice Ao69 t158.length co69, .slice Ao70 t161.length co70, .slice Ao71 t164.length co71]] rfl (by (try simp only [List.map_toArray, List.map_cons, List.map_nil]); first | done | rfl | (simp only [List.length_drop, List.length_take]; rfl)) ?_; (with_reducible refine (impl_RrCmp.calls k _ _ t136 t139 t140 t141 _ _ t142 _ _ t145 _ _ t148 _ _ t152 t155 t156 t157 _ _ t158 _ _ t161 _ _ t164 t168 _ ?side1 ?side2 ?side3 ?side4 ?side5 ?side6 ?side7 ?side8 ?side9 ?side10 ?side11 ?side12 ?side13 ?side14 ?side15 ?side16 A24.out).mono ?_); (case side1 => exact (Kd.S_reads' (far7S HO138.out BK167.out (by decide))).2.2); (case side2 => exact (Kd.S_reads' HO138.out).2.1); (case side3 => exact (Kd.S_reads' (far7S HO144.out BK167.out (by decide))).2.2); (case side4 => exact (Kd.S_reads' HO144.out).2.1); (case side5 => exact (Kd.R_reads' (far7R HO147.out BK167.out (by decide))).2.2); (case side6 => exact (Kd.R_reads' HO147.out).2.1); (case side7 => exact (Kd.R_reads' (far7R HO150.out BK167.out (by decide))).2.2); (case side8 => exact (Kd.R_reads' HO150.out).2.1); (case side9 => exact (Kd.S_reads' (far7S HO154.out BK167.out (by decide))).2.2); (case side10 => exact (Kd.S_reads' HO154.out).2.1); (case side11 => exact (Kd.S_reads' (far7S HO160.out BK167.out (by decide))).2.2); (case side12 => exact (Kd.S_reads' HO160.out).2.1); (case side13 => exact (Kd.R_reads' (far7R HO163.out BK167.out (by decide))).2.2); (case side14 => exact (Kd.R_reads' HO163.out).2.1); (case side15 => exact (Kd.R_reads' (far7R HO166.out BK167.out (by decide))).2.2); (case side16 => exact (Kd.R_reads' HO166.out).2.1); rintro e w73 ⟨rfl, hb⟩; refine ⟨_, rfl, ?_⟩; replace HO107 := Aside0.mk (Kd.S_below (far7S HO107.out BK167.out (by decide)) hb); replace HO113 := Aside0.mk (Kd.S_below (far7S HO113.out BK167.out (by decide)) hb); replace HO116 := Aside0.mk (Kd.R_below (far7R HO116.out BK167.out (by decide)) hb); replace HO119 := Aside0.mk (Kd.R_below (far7R HO119.out BK167.out (by decide)) hb); replace HO122 := Aside0.mk (Kd.S_below (far7S HO122.out BK167.out (by decide)) hb); replace HO128 := Aside0.mk (Kd.S_below (far7S HO128.out BK167.out (by decide)) hb); replace HO131 := Aside0.mk (Kd.R_below (far7R HO131.out BK167.out (by decide)) hb); replace HO134 := Aside0.mk (Kd.R_below (far7R HO134.out BK167.out (by decide)) hb); replace HO138 := Aside0.mk (Kd.S_below (far7S HO138.out BK167.out (by decide)) hb); replace HO144 := Aside0.mk (Kd.S_below (far7S HO144.out BK167.out (by decide)) hb); replace HO147 := Aside0.mk (Kd.R_below (far7R HO147.out BK167.out (by decide)) hb); replace HO150 := Aside0.mk (Kd.R_below (far7R HO150.out BK167.out (by decide)) hb); replace HO154 := Aside0.mk (Kd.S_below (far7S HO154.out BK167.out (by decide)) hb); replace HO160 := Aside0.mk (Kd.S_below (far7S HO160.out BK167.out (by decide)) hb); replace HO163 := Aside0.mk (Kd.R_below (far7R HO163.out BK167.out (by decide)) hb); replace HO166 := Aside0.mk (Kd.R_below (far7R HO166.out BK167.out (by decide)) hb); replace BK101 := Aside0.mk (blk_below (bfar7 NB101_167.out BK101.out) hb); replace BK102 := Aside0.mk (blk_below (bfar7 NB102_167.out BK102.out) hb); replace BK151 := Aside0.mk (blk_below (bfar7 NB151_167.out BK151.out) hb); replace BK167 := Aside0.mk (blk_below (bput7 BK167.out) hb); replace HB := Aside0.mk (below_step (by repeat (first | exact bw HB.out | refine below_set ?_ GE101.out | refine below_set ?_ GE102.out | refine below_set ?_ GE151.out | refine below_set ?_ GE167.out)) hb); (try clear hb)))
            have n0_ := Aside0.mk (Kd.S_drew HO107.out)
            have n1_ := Aside0.mk (Kd.S_drew HO113.out)
            have n2_ := Aside0.mk (Kd.R_drew HO116.out)
            have n3_ := Aside0.mk (Kd.R_drew HO119.out)
            have n4_ := Aside0.mk (Kd.S_drew HO122.out)
            have n5_ := Aside0.mk (Kd.S_drew HO128.out)
            have n6_ := Aside0.mk (Kd.R_drew HO131.out)
            have n7_ := Aside0.mk (Kd.R_drew HO134.out)
            have n8_ := Aside0.mk (Kd.S_drew HO138.out)
            have n9_ := Aside0.mk (Kd.S_drew HO144.out)
            have n10_ := Aside0.mk (Kd.R_drew HO147.out)
            have n11_ := Aside0.mk (Kd.R_drew HO150.out)
            have n12_ := Aside0.mk (Kd.S_drew HO154.out)
            have n13_ := Aside0.mk (Kd.S_drew HO160.out)
            have n14_ := Aside0.mk (Kd.R_drew HO163.out)
            have n15_ := Aside0.mk (Kd.R_drew HO166.out)
            have n16_ := Aside0.mk (blk_drew BK101.out)
            have n17_ := Aside0.mk (blk_drew BK102.out)
            have n18_ := Aside0.mk (blk_drew BK151.out)
            have n19_ := Aside0.mk (blk_drew BK167.out)
            have n20_ := Aside0.mk (below_drew1 HB.out)
            clear HO107
            clear HO113
            clear HO116
            clear HO119
            clear HO122
            clear HO128
            clear HO131
            clear HO134
            clear HO138
            clear HO144
            clear HO147
            clear HO150
            clear HO154
            clear HO160
            clear HO163
            clear HO166
            clear BK101
            clear BK102
            clear BK151
            clear BK167
            clear HB
            have HO107 := n0_
            have HO113 := n1_
            have HO116 := n2_
            have HO119 := n3_
            have HO122 := n4_
            have HO128 := n5_
            have HO131 := n6_
            have HO134 := n7_
            have HO138 := n8_
            have HO144 := n9_
            have HO147 := n10_
            have HO150 := n11_
            have HO154 := n12_
            have HO160 := n13_
            have HO163 := n14_
            have HO166 := n15_
            have BK101 := n16_
            have BK102 := n17_
            have BK151 := n18_
            have BK167 := n19_
            have HB := n20_
            clear n0_ n1_ n2_ n3_ n4_ n5_ n6_ n7_ n8_ n9_ n10_ n11_ n12_ n13_ n14_ n15_ n16_ n17_ n18_ n19_ n20_
            refine start_ (n := 5) (S := fun w' => w'.cell? ⟨gb151, 0, none⟩ = some (.slice Ao54 t136.length co54) ∧ w'.cell? ⟨gb151, 1, none⟩ = some (.int .i64 t139) ∧ w'.cell? ⟨gb151, 2, none⟩ = some (.int .i64 t140) ∧ w'.cell? ⟨gb151, 3, none⟩ = some (.int .i64 t141) ∧ w'.cell? ⟨gb151, 4, none⟩ = some (.slice Ao58 t142.length co58) ∧ w'.cell? ⟨gb151, 5, none⟩ = some (.slice Ao59 t145.length co59) ∧ w'.cell? ⟨gb151, 6, none⟩ = some (.slice Ao60 t148.length co60) ∧ w'.cell? ⟨gb101, 0, none⟩ = some (.slice A0_0 l0_0.length c0_0) ∧ w'.cell? ⟨gb101, 1, none⟩ = some (.int .i64 a0_1) ∧ w'.cell? ⟨gb101, 2, none⟩ = some (.int .i64 a0_2) ∧ w'.cell? ⟨gb101, 3, none⟩ = some (.int .i64 a0_3) ∧ w'.cell? ⟨gb101, 4, none⟩ = some (.slice A0_4 l0_4.length c0_4) ∧ w'.cell? ⟨gb101, 5, none⟩ = some (.slice A0_5 l0_5.length c0_5) ∧ w'.cell? ⟨gb101, 6, none⟩ = some (.slice A0_6 l0_6.length c0_6)) (ds := []) #[false, false, false, false, false] (by kernel_rfl) rfl rfl ⟨(blk_cell BK151.out 0).trans rfl, (blk_cell BK151.out 1).trans rfl, (blk_cell BK151.out 2).trans rfl, (blk_cell BK151.out 3).trans rfl, (blk_cell BK151.out 4).trans rfl, (blk_cell BK151.out 5).trans rfl, (blk_cell BK151.out 6).trans rfl, (blk_cell BK101.out 0).trans rfl, (blk_cell BK101.out 1).trans rfl, (blk_cell BK101.out 2).trans rfl, (blk_cell BK101.out 3).trans rfl, (blk_cell BK101.out 4).trans rfl, (blk_cell BK101.out 5).trans rfl, (blk_cell BK101.out 6).trans rfl⟩ (fun hHeld => ?_)
            generalize w73.drew = w74 at HO107 HO113 HO116 HO119 HO122 HO128 HO131 HO134 HO138 HO144 HO147 HO150 HO154 HO160 HO163 HO166 BK101 BK102 BK151 BK167 HB hHeld ⊢
            refine take_ (i := 0) (N := some 35) (v := ?_) (a' := ?_) #[true, false, false, false, false] rfl rfl (by kernel_rfl) (fun _ _ _ h => h) (Or.inl ⟨by rfl, ?_⟩) hHeld ?_ ?_
            rotate_left
            · rintro w' ⟨s0, s1, s2, s3, s4, s5, s6, s7, s8, s9, s10, s11, s12, s13⟩
              go_simp
              with_reducible rfl
            rotate_left
            · simp only [Act.put, List.setIfInBounds_toArray, List.set_cons_zero, List.set_cons_succ, i64_w, i32_w]
              rfl
            refine take_ (i := 1) (N := some 36) (v := ?_) (a' := ?_) #[true, true, false, false, false] rfl rfl (by kernel_rfl) (fun _ _ _ h => h) (Or.inl ⟨by rfl, ?_⟩) hHeld ?_ ?_
            rotate_left
            · rintro w' ⟨s0, s1, s2, s3, s4, s5, s6, s7, s8, s9, s10, s11, s12, s13⟩
              go_simp
              with_reducible rfl
            rotate_left
            · simp only [Act.put, List.setIfInBounds_toArray, List.set_cons_zero, List.set_cons_succ, i64_w, i32_w]
              rfl
            refine one_ (i := 2) (N := some 37) #[true, true, true, false, false] rfl rfl (by kernel_rfl) (by decide) (fun K hK => ?_)
            refine goes_ Try.func15 (by kernel_rfl) rfl #[.agg #[.slice A0_0 l0_0.length c0_0, .int .i64 a0_1, .int .i64 a0_2, .int .i64 a0_3, .slice A0_4 l0_4.length c0_4, .slice A0_5 l0_5.length c0_5, .slice A0_6 l0_6.length c0_6]] (by rfl) rfl rfl (by (try simp only [List.map_toArray, List.map_cons, List.map_nil]); first | done | rfl | (simp only [List.length_drop, List.length_take]; rfl)) ?_
            with_reducible refine (laws_toRr.calls k _ _ l0_0 a0_1 a0_2 a0_3 _ _ l0_4 _ _ l0_5 _ _ l0_6 t169 t172 t173 t174 t175 t178 t181 _ ?side1 ?side2 ?side3 ?side4 ?side5 ?side6 ?side7 ?side8 A26.out).mono ?_
            (case side1 => exact cw HR0_0.out HB.out)
            (case side2 => exact HC0_0.out)
            (case side3 => exact cw HR0_4.out HB.out)
            (case side4 => exact HC0_4.out)
            (case side5 => exact cw HR0_5.out HB.out)
            (case side6 => exact HC0_5.out)
            (case side7 => exact cw HR0_6.out HB.out)
            (case side8 => exact HC0_6.out)
            rintro e w75 ⟨v170, v176, v179, v182, rfl, ho0, ho1, ho2, ho3, hb⟩
            refine ⟨_, rfl, ?_⟩
            have n0_ := Aside0.mk (Kd.S_mono (Kd.S_told (Kd.S_told (Kd.S_told (Kd.S_old (sw HO107.out) hb) (Kd.S_base ho0)) (Kd.S_base ho1)) (Kd.R_base ho2)) (fun _ h_ => h_.1))
            have n1_ := Aside0.mk (Kd.S_mono (Kd.S_told (Kd.S_told (Kd.S_told (Kd.S_old (sw HO113.out) hb) (Kd.S_base ho0)) (Kd.S_base ho1)) (Kd.R_base ho2)) (fun _ h_ => h_.1))
            have n2_ := Aside0.mk (Kd.R_elder' (rw_ HO116.out) (Kd.R_base ho2) hb)
            have n3_ := Aside0.mk (Kd.R_elder' (rw_ HO119.out) (Kd.R_base ho3) hb)
            have n4_ := Aside0.mk (Kd.S_mono (Kd.S_told (Kd.S_told (Kd.S_told (Kd.S_old (sw HO122.out) hb) (Kd.S_base ho0)) (Kd.S_base ho1)) (Kd.R_base ho2)) (fun _ h_ => h_.1))
            have n5_ := Aside0.mk (Kd.S_mono (Kd.S_told (Kd.S_told (Kd.S_told (Kd.S_old (sw HO128.out) hb) (Kd.S_base ho0)) (Kd.S_base ho1)) (Kd.R_base ho2)) (fun _ h_ => h_.1))
            have n6_ := Aside0.mk (Kd.R_elder' (rw_ HO131.out) (Kd.R_base ho2) hb)
            have n7_ := Aside0.mk (Kd.R_elder' (rw_ HO134.out) (Kd.R_base ho3) hb)
            have n8_ := Aside0.mk (Kd.S_mono (Kd.S_told (Kd.S_told (Kd.S_told (Kd.S_old (sw HO138.out) hb) (Kd.S_base ho0)) (Kd.S_base ho1)) (Kd.R_base ho2)) (fun _ h_ => h_.1))
            have n9_ := Aside0.mk (Kd.S_mono (Kd.S_told (Kd.S_told (Kd.S_told (Kd.S_old (sw HO144.out) hb) (Kd.S_base ho0)) (Kd.S_base ho1)) (Kd.R_base ho2)) (fun _ h_ => h_.1))
            have n10_ := Aside0.mk (Kd.R_elder' (rw_ HO147.out) (Kd.R_base ho2) hb)
            have n11_ := Aside0.mk (Kd.R_elder' (rw_ HO150.out) (Kd.R_base ho3) hb)
            have n12_ := Aside0.mk (Kd.S_mono (Kd.S_told (Kd.S_told (Kd.S_told (Kd.S_old (sw HO154.out) hb) (Kd.S_base ho0)) (Kd.S_base ho1)) (Kd.R_base ho2)) (fun _ h_ => h_.1))
            have n13_ := Aside0.mk (Kd.S_mono (Kd.S_told (Kd.S_told (Kd.S_told (Kd.S_old (sw HO160.out) hb) (Kd.S_base ho0)) (Kd.S_base ho1)) (Kd.R_base ho2)) (fun _ h_ => h_.1))
            have n14_ := Aside0.mk (Kd.R_elder' (rw_ HO163.out) (Kd.R_base ho2) hb)
            have n15_ := Aside0.mk (Kd.R_elder' (rw_ HO166.out) (Kd.R_base ho3) hb)
            have n16_ := Aside0.mk (Kd.S_lower (Kd.S_new' (Kd.S_new' (Kd.S_new' (Kd.S_new' (Kd.S_new' (Kd.S_new' (Kd.S_new' (Kd.S_new' (Kd.S_new' (Kd.S_new' (Kd.S_new' (Kd.S_new' ho0 (Kd.S_lt (sw HO107.out))) (Kd.S_lt (sw HO113.out))) (Kd.R_lt (rw_ HO116.out))) (Kd.S_lt (sw HO122.out))) (Kd.S_lt (sw HO128.out))) (Kd.R_lt (rw_ HO131.out))) (Kd.S_lt (sw HO138.out))) (Kd.S_lt (sw HO144.out))) (Kd.R_lt (rw_ HO147.out))) (Kd.S_lt (sw HO154.out))) (Kd.S_lt (sw HO160.out))) (Kd.R_lt (rw_ HO163.out))) (below_size (by repeat (first | exact bw HB.out | refine below_set ?_ GE101.out | refine below_set ?_ GE102.out | refine below_set ?_ GE151.out | refine below_set ?_ GE167.out))))
            have n17_ := Aside0.mk (Kd.S_lower (Kd.S_new' (Kd.S_new' (Kd.S_new' (Kd.S_new' (Kd.S_new' (Kd.S_new' (Kd.S_new' (Kd.S_new' (Kd.S_new' (Kd.S_new' (Kd.S_new' (Kd.S_new' ho1 (Kd.S_lt (sw HO107.out))) (Kd.S_lt (sw HO113.out))) (Kd.R_lt (rw_ HO116.out))) (Kd.S_lt (sw HO122.out))) (Kd.S_lt (sw HO128.out))) (Kd.R_lt (rw_ HO131.out))) (Kd.S_lt (sw HO138.out))) (Kd.S_lt (sw HO144.out))) (Kd.R_lt (rw_ HO147.out))) (Kd.S_lt (sw HO154.out))) (Kd.S_lt (sw HO160.out))) (Kd.R_lt (rw_ HO163.out))) (below_size (by repeat (first | exact bw HB.out | refine below_set ?_ GE101.out | refine below_set ?_ GE102.out | refine below_set ?_ GE151.out | refine below_set ?_ GE167.out))))
            have n18_ := Aside0.mk (Kd.R_lower (Kd.R_new' (Kd.R_new' (Kd.R_new' (Kd.R_new' ho2 (Kd.R_lt (rw_ HO116.out))) (Kd.R_lt (rw_ HO131.out))) (Kd.R_lt (rw_ HO147.out))) (Kd.R_lt (rw_ HO163.out))) (below_size (by repeat (first | exact bw HB.out | refine below_set ?_ GE101.out | refine below_set ?_ GE102.out | refine below_set ?_ GE151.out | refine below_set ?_ GE167.out))))
            have n19_ := Aside0.mk (Kd.R_lower (Kd.R_new' (Kd.R_new' (Kd.R_new' (Kd.R_new' ho3 (Kd.R_lt (rw_ HO119.out))) (Kd.R_lt (rw_ HO134.out))) (Kd.R_lt (rw_ HO150.out))) (Kd.R_lt (rw_ HO166.out))) (below_size (by repeat (first | exact bw HB.out | refine below_set ?_ GE101.out | refine below_set ?_ GE102.out | refine below_set ?_ GE151.out | refine below_set ?_ GE167.out))))
            have n20_ := Aside0.mk (blk_below (bk BK101.out) hb)
            have n21_ := Aside0.mk (blk_below (bk BK102.out) hb)
            have n22_ := Aside0.mk (blk_below (bk BK151.out) hb)
            have n23_ := Aside0.mk (blk_below (bk BK167.out) hb)
            have n24_ := Aside0.mk (below_step (by repeat (first | exact bw HB.out | refine below_set ?_ GE101.out | refine below_set ?_ GE102.out | refine below_set ?_ GE151.out | refine below_set ?_ GE167.out)) hb)
            clear HO107
            clear HO113
            clear HO116
            clear HO119
            clear HO122
            clear HO128
            clear HO131
            clear HO134
            clear HO138
            clear HO144
            clear HO147
            clear HO150
            clear HO154
            clear HO160
            clear HO163
            clear HO166
            clear BK101
            clear BK102
            clear BK151
            clear BK167
            clear HB
            have HO107 := n0_
            have HO113 := n1_
            have HO116 := n2_
            have HO119 := n3_
            have HO122 := n4_
            have HO128 := n5_
            have HO131 := n6_
            have HO134 := n7_
            have HO138 := n8_
            have HO144 := n9_
            have HO147 := n10_
            have HO150 := n11_
            have HO154 := n12_
            have HO160 := n13_
            have HO163 := n14_
            have HO166 := n15_
            have HO171 := n16_
            have HO177 := n17_
            have HO180 := n18_
            have HO183 := n19_
            have BK101 := n20_
            have BK102 := n21_
            have BK151 := n22_
            have BK167 := n23_
            have HB := n24_
            clear n0_ n1_ n2_ n3_ n4_ n5_ n6_ n7_ n8_ n9_ n10_ n11_ n12_ n13_ n14_ n15_ n16_ n17_ n18_ n19_ n20_ n21_ n22_ n23_ n24_
            (try clear hb)
            (try clear hb2)
            (try clear hk)
            (try clear hi)
            (try clear ho0)
            (try clear ho1)
            (try clear ho2)
            (try clear ho3)
            obtain ⟨Ao76, co76, eo76⟩ := Kd.S_slice HO171.out
            (first | subst eo76 | (injection eo76 with f1_ f2_ f3_; have f4_ := f1_.symm; have f5_ := f3_.symm; clear f1_ f2_ f3_; subst f4_; subst f5_))
            obtain ⟨Ao77, co77, eo77⟩ := Kd.S_slice HO177.out
            (first | subst eo77 | (injection eo77 with f1_ f2_ f3_; have f4_ := f1_.symm; have f5_ := f3_.symm; clear f1_ f2_ f3_; subst f4_; subst f5_))
            obtain ⟨Ao78, co78, eo78⟩ := Kd.R_slice HO180.out
            (first | subst eo78 | (injection eo78 with f1_ f2_ f3_; have f4_ := f1_.symm; have f5_ := f3_.symm; clear f1_ f2_ f3_; subst f4_; subst f5_))
            obtain ⟨Ao79, co79, eo79⟩ := Kd.R_slice HO183.out
            (first | subst eo79 | (injection eo79 with f1_ f2_ f3_; have f4_ := f1_.symm; have f5_ := f3_.symm; clear f1_ f2_ f3_; subst f4_; subst f5_))
            refine hK.out _ _ ⟨(blk_cell BK151.out 0).trans rfl, (blk_cell BK151.out 1).trans rfl, (blk_cell BK151.out 2).trans rfl, (blk_cell BK151.out 3).trans rfl, (blk_cell BK151.out 4).trans rfl, (blk_cell BK151.out 5).trans rfl, (blk_cell BK151.out 6).trans rfl, (blk_cell BK101.out 0).trans rfl, (blk_cell BK101.out 1).trans rfl, (blk_cell BK101.out 2).trans rfl, (blk_cell BK101.out 3).trans rfl, (blk_cell BK101.out 4).trans rfl, (blk_cell BK101.out 5).trans rfl, (blk_cell BK101.out 6).trans rfl⟩ (fun hHeld => ?_)
            clear hK K
            refine norm_ (a' := ?_) ?_ ?_
            rotate_left
            · show Act.put _ (some 37) _ = _
              simp only [Act.put, List.setIfInBounds_toArray, List.set_cons_zero, List.set_cons_succ, i64_w, i32_w]
              rfl
            refine one_ (i := 3) (N := some 38) #[true, true, true, true, false] rfl rfl (by kernel_rfl) (by decide) (fun K hK => ?_)
            refine goes_ Try.func17 (by kernel_rfl) rfl #[.agg #[.slice Ao54 t136.length co54, .int .i64 t139, .int .i64 t140, .int .i64 t141, .slice Ao58 t142.length co58, .slice Ao59 t145.length co59, .slice Ao60 t148.length co60], .agg #[.slice Ao76 t169.length co76, .int .i64 t172, .int .i64 t173, .int .i64 t174, .slice Ao77 t175.length co77, .slice Ao78 t178.length co78, .slice Ao79 t181.length co79]] (by rfl) rfl rfl (by (try simp only [List.map_toArray, List.map_cons, List.map_nil]); first | done | rfl | (simp only [List.length_drop, List.length_take]; rfl)) ?_
            with_reducible refine (laws_eqRr.calls k _ _ t136 t139 t140 t141 _ _ t142 _ _ t145 _ _ t148 _ _ t169 t172 t173 t174 _ _ t175 _ _ t178 _ _ t181 true _ ?side1 ?side2 ?side3 ?side4 ?side5 ?side6 ?side7 ?side8 ?side9 ?side10 ?side11 ?side12 ?side13 ?side14 ?side15 ?side16 A27.out).mono ?_
            (case side1 => repeat (first | exact (Kd.S_reads' HO138.out).2.2 | (with_reducible refine Kd.C_alloc ?_ _) | (with_reducible refine Kd.C_drewN ?_ _) | (with_reducible refine Kd.C_drew ?_)))
            (case side2 => exact (Kd.S_reads' HO138.out).2.1)
            (case side3 => repeat (first | exact (Kd.S_reads' HO144.out).2.2 | (with_reducible refine Kd.C_alloc ?_ _) | (with_reducible refine Kd.C_drewN ?_ _) | (with_reducible refine Kd.C_drew ?_)))
            (case side4 => exact (Kd.S_reads' HO144.out).2.1)
            (case side5 => repeat (first | exact (Kd.R_reads' HO147.out).2.2 | (with_reducible refine Kd.C_alloc ?_ _) | (with_reducible refine Kd.C_drewN ?_ _) | (with_reducible refine Kd.C_drew ?_)))
            (case side6 => exact (Kd.R_reads' HO147.out).2.1)
            (case side7 => repeat (first | exact (Kd.R_reads' HO150.out).2.2 | (with_reducible refine Kd.C_alloc ?_ _) | (with_reducible refine Kd.C_drewN ?_ _) | (with_reducible refine Kd.C_drew ?_)))
            (case side8 => exact (Kd.R_reads' HO150.out).2.1)
            (case side9 => repeat (first | exact (Kd.S_reads' HO171.out).2.2 | (with_reducible refine Kd.C_alloc ?_ _) | (with_reducible refine Kd.C_drewN ?_ _) | (with_reducible refine Kd.C_drew ?_)))
            (case side10 => exact (Kd.S_reads' HO171.out).2.1)
            (case side11 => repeat (first | exact (Kd.S_reads' HO177.out).2.2 | (with_reducible refine Kd.C_alloc ?_ _) | (with_reducible refine Kd.C_drewN ?_ _) | (with_reducible refine Kd.C_drew ?_)))
            (case side12 => exact (Kd.S_reads' HO177.out).2.1)
            (case side13 => repeat (first | exact (Kd.R_reads' HO180.out).2.2 | (with_reducible refine Kd.C_alloc ?_ _) | (with_reducible refine Kd.C_drewN ?_ _) | (with_reducible refine Kd.C_drew ?_)))
            (case side14 => exact (Kd.R_reads' HO180.out).2.1)
            (case side15 => repeat (first | exact (Kd.R_reads' HO183.out).2.2 | (with_reducible refine Kd.C_alloc ?_ _) | (with_reducible refine Kd.C_drewN ?_ _) | (with_reducible refine Kd.C_drew ?_)))
            (case side16 => exact (Kd.R_reads' HO183.out).2.1)
            rintro e w80 ⟨rfl, hb⟩
            refine ⟨_, rfl, ?_⟩
            have n0_ := Aside0.mk (Kd.S_below (sw HO107.out) hb)
            have n1_ := Aside0.mk (Kd.S_below (sw HO113.out) hb)
            have n2_ := Aside0.mk (Kd.R_below (rw_ HO116.out) hb)
            have n3_ := Aside0.mk (Kd.R_below (rw_ HO119.out) hb)
            have n4_ := Aside0.mk (Kd.S_below (sw HO122.out) hb)
            have n5_ := Aside0.mk (Kd.S_below (sw HO128.out) hb)
            have n6_ := Aside0.mk (Kd.R_below (rw_ HO131.out) hb)
            have n7_ := Aside0.mk (Kd.R_below (rw_ HO134.out) hb)
            have n8_ := Aside0.mk (Kd.S_below (sw HO138.out) hb)
            have n9_ := Aside0.mk (Kd.S_below (sw HO144.out) hb)
            have n10_ := Aside0.mk (Kd.R_below (rw_ HO147.out) hb)
            have n11_ := Aside0.mk (Kd.R_below (rw_ HO150.out) hb)
            have n12_ := Aside0.mk (Kd.S_below (sw HO154.out) hb)
            have n13_ := Aside0.mk (Kd.S_below (sw HO160.out) hb)
            have n14_ := Aside0.mk (Kd.R_below (rw_ HO163.out) hb)
            have n15_ := Aside0.mk (Kd.R_below (rw_ HO166.out) hb)
            have n16_ := Aside0.mk (Kd.S_below (sw HO171.out) hb)
            have n17_ := Aside0.mk (Kd.S_below (sw HO177.out) hb)
            have n18_ := Aside0.mk (Kd.R_below (rw_ HO180.out) hb)
            have n19_ := Aside0.mk (Kd.R_below (rw_ HO183.out) hb)
            have n20_ := Aside0.mk (blk_below (bk BK101.out) hb)
            have n21_ := Aside0.mk (blk_below (bk BK102.out) hb)
            have n22_ := Aside0.mk (blk_below (bk BK151.out) hb)
            have n23_ := Aside0.mk (blk_below (bk BK167.out) hb)
            have n24_ := Aside0.mk (below_step (by repeat (first | exact bw HB.out | refine below_set ?_ GE101.out | refine below_set ?_ GE102.out | refine below_set ?_ GE151.out | refine below_set ?_ GE167.out)) hb)
            clear HO107
            clear HO113
            clear HO116
            clear HO119
            clear HO122
            clear HO128
            clear HO131
            clear HO134
            clear HO138
            clear HO144
            clear HO147
            clear HO150
            clear HO154
            clear HO160
            clear HO163
            clear HO166
            clear HO171
            clear HO177
            clear HO180
            clear HO183
            clear BK101
            clear BK102
            clear BK151
            clear BK167
            clear HB
            have HO107 := n0_
            have HO113 := n1_
            have HO116 := n2_
            have HO119 := n3_
            have HO122 := n4_
            have HO128 := n5_
            have HO131 := n6_
            have HO134 := n7_
            have HO138 := n8_
            have HO144 := n9_
            have HO147 := n10_
            have HO150 := n11_
            have HO154 := n12_
            have HO160 := n13_
            have HO163 := n14_
            have HO166 := n15_
            have HO171 := n16_
            have HO177 := n17_
            have HO180 := n18_
            have HO183 := n19_
            have BK101 := n20_
            have BK102 := n21_
            have BK151 := n22_
            have BK167 := n23_
            have HB := n24_
            clear n0_ n1_ n2_ n3_ n4_ n5_ n6_ n7_ n8_ n9_ n10_ n11_ n12_ n13_ n14_ n15_ n16_ n17_ n18_ n19_ n20_ n21_ n22_ n23_ n24_
            (try clear hb)
            (try clear hb2)
            (try clear hk)
            (try clear hi)
            refine hK.out _ _ ⟨(blk_cell BK151.out 0).trans rfl, (blk_cell BK151.out 1).trans rfl, (blk_cell BK151.out 2).trans rfl, (blk_cell BK151.out 3).trans rfl, (blk_cell BK151.out 4).trans rfl, (blk_cell BK151.out 5).trans rfl, (blk_cell BK151.out 6).trans rfl, (blk_cell BK101.out 0).trans rfl, (blk_cell BK101.out 1).trans rfl, (blk_cell BK101.out 2).trans rfl, (blk_cell BK101.out 3).trans rfl, (blk_cell BK101.out 4).trans rfl, (blk_cell BK101.out 5).trans rfl, (blk_cell BK101.out 6).trans rfl⟩ (fun hHeld => ?_)
            clear hK K
            refine norm_ (a' := ?_) ?_ ?_
            rotate_left
            · show Act.put _ (some 38) _ = _
              simp only [Act.put, List.setIfInBounds_toArray, List.set_cons_zero, List.set_cons_succ, i64_w, i32_w]
              rfl
            refine pure_ (i := 4) (N := some 39) (v := ?_) (a' := ?_) #[true, true, true, true, true] rfl rfl (by kernel_rfl) (fun _ _ _ h => h) (Or.inl ⟨by rfl, ?_⟩) ?_ ?_
            rotate_left
            · intro w'
              go_simp
              with_reducible rfl
            rotate_left
            · simp only [Act.put, List.setIfInBounds_toArray, List.set_cons_zero, List.set_cons_succ, i64_w, i32_w]
              rfl
            refine done_ (by kernel_rfl) ?_
            try go_wp2
            have n0_ := Aside0.mk (Kd.S_drew HO107.out)
            have n1_ := Aside0.mk (Kd.S_drew HO113.out)
            have n2_ := Aside0.mk (Kd.R_drew HO116.out)
            have n3_ := Aside0.mk (Kd.R_drew HO119.out)
            have n4_ := Aside0.mk (Kd.S_drew HO122.out)
            have n5_ := Aside0.mk (Kd.S_drew HO128.out)
            have n6_ := Aside0.mk (Kd.R_drew HO131.out)
            have n7_ := Aside0.mk (Kd.R_drew HO134.out)
            have n8_ := Aside0.mk (Kd.S_drew HO138.out)
            have n9_ := Aside0.mk (Kd.S_drew HO144.out)
            have n10_ := Aside0.mk (Kd.R_drew HO147.out)
            have n11_ := Aside0.mk (Kd.R_drew HO150.out)
            have n12_ := Aside0.mk (Kd.S_drew HO154.out)
            have n13_ := Aside0.mk (Kd.S_drew HO160.out)
            have n14_ := Aside0.mk (Kd.R_drew HO163.out)
            have n15_ := Aside0.mk (Kd.R_drew HO166.out)
            have n16_ := Aside0.mk (Kd.S_drew HO171.out)
            have n17_ := Aside0.mk (Kd.S_drew HO177.out)
            have n18_ := Aside0.mk (Kd.R_drew HO180.out)
            have n19_ := Aside0.mk (Kd.R_drew HO183.out)
            have n20_ := Aside0.mk (blk_drew BK101.out)
            have n21_ := Aside0.mk (blk_drew BK102.out)
            have n22_ := Aside0.mk (blk_drew BK151.out)
            have n23_ := Aside0.mk (blk_drew BK167.out)
            have n24_ := Aside0.mk (below_drew1 HB.out)
            clear HO107
            clear HO113
            clear HO116
            clear HO119
            clear HO122
            clear HO128
            clear HO131
            clear HO134
            clear HO138
            clear HO144
            clear HO147
            clear HO150
            clear HO154
            clear HO160
            clear HO163
            clear HO166
            clear HO171
            clear HO177
            clear HO180
            clear HO183
            clear BK101
            clear BK102
            clear BK151
            clear BK167
            clear HB
            have HO107 := n0_
            have HO113 := n1_
            have HO116 := n2_
            have HO119 := n3_
            have HO122 := n4_
            have HO128 := n5_
            have HO131 := n6_
            have HO134 := n7_
            have HO138 := n8_
            have HO144 := n9_
            have HO147 := n10_
            have HO150 := n11_
            have HO154 := n12_
            have HO160 := n13_
            have HO163 := n14_
            have HO166 := n15_
            have HO171 := n16_
            have HO177 := n17_
            have HO180 := n18_
            have HO183 := n19_
            have BK101 := n20_
            have BK102 := n21_
            have BK151 := n22_
            have BK167 := n23_
            have HB := n24_
            clear n0_ n1_ n2_ n3_ n4_ n5_ n6_ n7_ n8_ n9_ n10_ n11_ n12_ n13_ n14_ n15_ n16_ n17_ n18_ n19_ n20_ n21_ n22_ n23_ n24_
            refine start_ (n := 5) (S := fun w' => w'.cell? ⟨gb167, 0, none⟩ = some (.slice Ao64 t152.length co64) ∧ w'.cell? ⟨gb167, 1, none⟩ = some (.int .i64 t155) ∧ w'.cell? ⟨gb167, 2, none⟩ = some (.int .i64 t156) ∧ w'.cell? ⟨gb167, 3, none⟩ = some (.int .i64 t157) ∧ w'.cell? ⟨gb167, 4, none⟩ = some (.slice Ao69 t158.length co69) ∧ w'.cell? ⟨gb167, 5, none⟩ = some (.slice Ao70 t161.length co70) ∧ w'.cell? ⟨gb167, 6, none⟩ = some (.slice Ao71 t164.length co71) ∧ w'.cell? ⟨gb102, 0, none⟩ = some (.slice A1_0 l1_0.length c1_0) ∧ w'.cell? ⟨gb102, 1, none⟩ = some (.int .i64 a1_1) ∧ w'.cell? ⟨gb102, 2, none⟩ = some (.int .i64 a1_2) ∧ w'.cell? ⟨gb102, 3, none⟩ = some (.int .i64 a1_3) ∧ w'.cell? ⟨gb102, 4, none⟩ = some (.slice A1_4 l1_4.length c1_4) ∧ w'.cell? ⟨gb102, 5, none⟩ = some (.slice A1_5 l1_5.length c1_5) ∧ w'.cell? ⟨gb102, 6, none⟩ = some (.slice A1_6 l1_6.length c1_6)) (ds := []) #[false, false, false, false, false] (by kernel_rfl) rfl rfl ⟨(blk_cell BK167.out 0).trans rfl, (blk_cell BK167.out 1).trans rfl, (blk_cell BK167.out 2).trans rfl, (blk_cell BK167.out 3).trans rfl, (blk_cell BK167.out 4).trans rfl, (blk_cell BK167.out 5).trans rfl, (blk_cell BK167.out 6).trans rfl, (blk_cell BK102.out 0).trans rfl, (blk_cell BK102.out 1).trans rfl, (blk_cell BK102.out 2).trans rfl, (blk_cell BK102.out 3).trans rfl, (blk_cell BK102.out 4).trans rfl, (blk_cell BK102.out 5).trans rfl, (blk_cell BK102.out 6).trans rfl⟩ (fun hHeld => ?_)
            generalize w80.drew = w81 at HO107 HO113 HO116 HO119 HO122 HO128 HO131 HO134 HO138 HO144 HO147 HO150 HO154 HO160 HO163 HO166 HO171 HO177 HO180 HO183 BK101 BK102 BK151 BK167 HB hHeld ⊢
            refine take_ (i := 0) (N := some 40) (v := ?_) (a' := ?_) #[true, false, false, false, false] rfl rfl (by kernel_rfl) (fun _ _ _ h => h) (Or.inl ⟨by rfl, ?_⟩) hHeld ?_ ?_
            rotate_left
            · rintro w' ⟨s0, s1, s2, s3, s4, s5, s6, s7, s8, s9, s10, s11, s12, s13⟩
              go_simp
              with_reducible rfl
            rotate_left
            · simp only [Act.put, List.setIfInBounds_toArray, List.set_cons_zero, List.set_cons_succ, i64_w, i32_w]
              rfl
            refine take_ (i := 1) (N := some 41) (v := ?_) (a' := ?_) #[true, true, false, false, false] rfl rfl (by kernel_rfl) (fun _ _ _ h => h) (Or.inl ⟨by rfl, ?_⟩) hHeld ?_ ?_
            rotate_left
            · rintro w' ⟨s0, s1, s2, s3, s4, s5, s6, s7, s8, s9, s10, s11, s12, s13⟩
              go_simp
              with_reducible rfl
            rotate_left
            · simp only [Act.put, List.setIfInBounds_toArray, List.set_cons_zero, List.set_cons_succ, i64_w, i32_w]
              rfl
            refine one_ (i := 2) (N := some 42) #[true, true, true, false, false] rfl rfl (by kernel_rfl) (by decide) (fun K hK => ?_)
            refine goes_ Try.func15 (by kernel_rfl) rfl #[.agg #[.slice A1_0 l1_0.length c1_0, .int .i64 a1_1, .int .i64 a1_2, .int .i64 a1_3, .slice A1_4 l1_4.length c1_4, .slice A1_5 l1_5.length c1_5, .slice A1_6 l1_6.length c1_6]] (by rfl) rfl rfl (by (try simp only [List.map_toArray, List.map_cons, List.map_nil]); first | done | rfl | (simp only [List.length_drop, List.length_take]; rfl)) ?_
            with_reducible refine (laws_toRr.calls k _ _ l1_0 a1_1 a1_2 a1_3 _ _ l1_4 _ _ l1_5 _ _ l1_6 t185 t188 t189 t190 t191 t194 t197 _ ?side1 ?side2 ?side3 ?side4 ?side5 ?side6 ?side7 ?side8 A29.out).mono ?_
            (case side1 => exact cw HR1_0.out HB.out)
            (case side2 => exact HC1_0.out)
            (case side3 => exact cw HR1_4.out HB.out)
            (case side4 => exact HC1_4.out)
            (case side5 => exact cw HR1_5.out HB.out)
            (case side6 => exact HC1_5.out)
            (case side7 => exact cw HR1_6.out HB.out)
            (case side8 => exact HC1_6.out)
            rintro e w82 ⟨v186, v192, v195, v198, rfl, ho0, ho1, ho2, ho3, hb⟩
            refine ⟨_, rfl, ?_⟩
            have n0_ := Aside0.mk (Kd.S_mono (Kd.S_told (Kd.S_told (Kd.S_told (Kd.S_old (sw HO107.out) hb) (Kd.S_base ho0)) (Kd.S_base ho1)) (Kd.R_base ho2)) (fun _ h_ => h_.1))
            have n1_ := Aside0.mk (Kd.S_mono (Kd.S_told (Kd.S_told (Kd.S_told (Kd.S_old (sw HO113.out) hb) (Kd.S_base ho0)) (Kd.S_base ho1)) (Kd.R_base ho2)) (fun _ h_ => h_.1))
            have n2_ := Aside0.mk (Kd.R_elder' (rw_ HO116.out) (Kd.R_base ho2) hb)
            have n3_ := Aside0.mk (Kd.R_elder' (rw_ HO119.out) (Kd.R_base ho3) hb)
            have n4_ := Aside0.mk (Kd.S_mono (Kd.S_told (Kd.S_told (Kd.S_told (Kd.S_old (sw HO122.out) hb) (Kd.S_base ho0)) (Kd.S_base ho1)) (Kd.R_base ho2)) (fun _ h_ => h_.1))
            have n5_ := Aside0.mk (Kd.S_mono (Kd.S_told (Kd.S_told (Kd.S_told (Kd.S_old (sw HO128.out) hb) (Kd.S_base ho0)) (Kd.S_base ho1)) (Kd.R_base ho2)) (fun _ h_ => h_.1))
            have n6_ := Aside0.mk (Kd.R_elder' (rw_ HO131.out) (Kd.R_base ho2) hb)
            have n7_ := Aside0.mk (Kd.R_elder' (rw_ HO134.out) (Kd.R_base ho3) hb)
            have n8_ := Aside0.mk (Kd.S_mono (Kd.S_told (Kd.S_told (Kd.S_told (Kd.S_old (sw HO138.out) hb) (Kd.S_base ho0)) (Kd.S_base ho1)) (Kd.R_base ho2)) (fun _ h_ => h_.1))
            have n9_ := Aside0.mk (Kd.S_mono (Kd.S_told (Kd.S_told (Kd.S_told (Kd.S_old (sw HO144.out) hb) (Kd.S_base ho0)) (Kd.S_base ho1)) (Kd.R_base ho2)) (fun _ h_ => h_.1))
            have n10_ := Aside0.mk (Kd.R_elder' (rw_ HO147.out) (Kd.R_base ho2) hb)
            have n11_ := Aside0.mk (Kd.R_elder' (rw_ HO150.out) (Kd.R_base ho3) hb)
            have n12_ := Aside0.mk (Kd.S_mono (Kd.S_told (Kd.S_told (Kd.S_told (Kd.S_old (sw HO154.out) hb) (Kd.S_base ho0)) (Kd.S_base ho1)) (Kd.R_base ho2)) (fun _ h_ => h_.1))
            have n13_ := Aside0.mk (Kd.S_mono (Kd.S_told (Kd.S_told (Kd.S_told (Kd.S_old (sw HO160.out) hb) (Kd.S_base ho0)) (Kd.S_base ho1)) (Kd.R_base ho2)) (fun _ h_ => h_.1))
            have n14_ := Aside0.mk (Kd.R_elder' (rw_ HO163.out) (Kd.R_base ho2) hb)
            have n15_ := Aside0.mk (Kd.R_elder' (rw_ HO166.out) (Kd.R_base ho3) hb)
            have n16_ := Aside0.mk (Kd.S_mono (Kd.S_told (Kd.S_told (Kd.S_told (Kd.S_old (sw HO171.out) hb) (Kd.S_base ho0)) (Kd.S_base ho1)) (Kd.R_base ho2)) (fun _ h_ => h_.1))
            have n17_ := Aside0.mk (Kd.S_mono (Kd.S_told (Kd.S_told (Kd.S_told (Kd.S_old (sw HO177.out) hb) (Kd.S_base ho0)) (Kd.S_base ho1)) (Kd.R_base ho2)) (fun _ h_ => h_.1))
            have n18_ := Aside0.mk (Kd.R_elder' (rw_ HO180.out) (Kd.R_base ho2) hb)
            have n19_ := Aside0.mk (Kd.R_elder' (rw_ HO183.out) (Kd.R_base ho3) hb)
            have n20_ := Aside0.mk (Kd.S_lower (Kd.S_new' (Kd.S_new' (Kd.S_new' (Kd.S_new' (Kd.S_new' (Kd.S_new' (Kd.S_new' (Kd.S_new' (Kd.S_new' (Kd.S_new' (Kd.S_new' (Kd.S_new' (Kd.S_new' (Kd.S_new' (Kd.S_new' ho0 (Kd.S_lt (sw HO107.out))) (Kd.S_lt (sw HO113.out))) (Kd.R_lt (rw_ HO116.out))) (Kd.S_lt (sw HO122.out))) (Kd.S_lt (sw HO128.out))) (Kd.R_lt (rw_ HO131.out))) (Kd.S_lt (sw HO138.out))) (Kd.S_lt (sw HO144.out))) (Kd.R_lt (rw_ HO147.out))) (Kd.S_lt (sw HO154.out))) (Kd.S_lt (sw HO160.out))) (Kd.R_lt (rw_ HO163.out))) (Kd.S_lt (sw HO171.out))) (Kd.S_lt (sw HO177.out))) (Kd.R_lt (rw_ HO180.out))) (below_size (by repeat (first | exact bw HB.out | refine below_set ?_ GE101.out | refine below_set ?_ GE102.out | refine below_set ?_ GE151.out | refine below_set ?_ GE167.out))))
            have n21_ := Aside0.mk (Kd.S_lower (Kd.S_new' (Kd.S_new' (Kd.S_new' (Kd.S_new' (Kd.S_new' (Kd.S_new' (Kd.S_new' (Kd.S_new' (Kd.S_new' (Kd.S_new' (Kd.S_new' (Kd.S_new' (Kd.S_new' (Kd.S_new' (Kd.S_new' ho1 (Kd.S_lt (sw HO107.out))) (Kd.S_lt (sw HO113.out))) (Kd.R_lt (rw_ HO116.out))) (Kd.S_lt (sw HO122.out))) (Kd.S_lt (sw HO128.out))) (Kd.R_lt (rw_ HO131.out))) (Kd.S_lt (sw HO138.out))) (Kd.S_lt (sw HO144.out))) (Kd.R_lt (rw_ HO147.out))) (Kd.S_lt (sw HO154.out))) (Kd.S_lt (sw HO160.out))) (Kd.R_lt (rw_ HO163.out))) (Kd.S_lt (sw HO171.out))) (Kd.S_lt (sw HO177.out))) (Kd.R_lt (rw_ HO180.out))) (below_size (by repeat (first | exact bw HB.out | refine below_set ?_ GE101.out | refine below_set ?_ GE102.out | refine below_set ?_ GE151.out | refine below_set ?_ GE167.out))))
            have n22_ := Aside0.mk (Kd.R_lower (Kd.R_new' (Kd.R_new' (Kd.R_new' (Kd.R_new' (Kd.R_new' ho2 (Kd.R_lt (rw_ HO116.out))) (Kd.R_lt (rw_ HO131.out))) (Kd.R_lt (rw_ HO147.out))) (Kd.R_lt (rw_ HO163.out))) (Kd.R_lt (rw_ HO180.out))) (below_size (by repeat (first | exact bw HB.out | refine below_set ?_ GE101.out | refine below_set ?_ GE102.out | refine below_set ?_ GE151.out | refine below_set ?_ GE167.out))))
            have n23_ := Aside0.mk (Kd.R_lower (Kd.R_new' (Kd.R_new' (Kd.R_new' (Kd.R_new' (Kd.R_new' ho3 (Kd.R_lt (rw_ HO119.out))) (Kd.R_lt (rw_ HO134.out))) (Kd.R_lt (rw_ HO150.out))) (Kd.R_lt (rw_ HO166.out))) (Kd.R_lt (rw_ HO183.out))) (below_size (by repeat (first | exact bw HB.out | refine below_set ?_ GE101.out | refine below_set ?_ GE102.out | refine below_set ?_ GE151.out | refine below_set ?_ GE167.out))))
            have n24_ := Aside0.mk (blk_below (bk BK101.out) hb)
            have n25_ := Aside0.mk (blk_below (bk BK102.out) hb)
            have n26_ := Aside0.mk (blk_below (bk BK151.out) hb)
            have n27_ := Aside0.mk (blk_below (bk BK167.out) hb)
            have n28_ := Aside0.mk (below_step (by repeat (first | exact bw HB.out | refine below_set ?_ GE101.out | refine below_set ?_ GE102.out | refine below_set ?_ GE151.out | refine below_set ?_ GE167.out)) hb)
            clear HO107
            clear HO113
            clear HO116
            clear HO119
            clear HO122
            clear HO128
            clear HO131
            clear HO134
            clear HO138
            clear HO144
            clear HO147
            clear HO150
            clear HO154
            clear HO160
            clear HO163
            clear HO166
            clear HO171
            clear HO177
            clear HO180
            clear HO183
            clear BK101
            clear BK102
            clear BK151
            clear BK167
            clear HB
            have HO107 := n0_
            have HO113 := n1_
            have HO116 := n2_
            have HO119 := n3_
            have HO122 := n4_
            have HO128 := n5_
            have HO131 := n6_
            have HO134 := n7_
            have HO138 := n8_
            have HO144 := n9_
            have HO147 := n10_
            have HO150 := n11_
            have HO154 := n12_
            have HO160 := n13_
            have HO163 := n14_
            have HO166 := n15_
            have HO171 := n16_
            have HO177 := n17_
            have HO180 := n18_
            have HO183 := n19_
            have HO187 := n20_
            have HO193 := n21_
            have HO196 := n22_
            have HO199 := n23_
            have BK101 := n24_
            have BK102 := n25_
            have BK151 := n26_
            have BK167 := n27_
            have HB := n28_
            clear n0_ n1_ n2_ n3_ n4_ n5_ n6_ n7_ n8_ n9_ n10_ n11_ n12_ n13_ n14_ n15_ n16_ n17_ n18_ n19_ n20_ n21_ n22_ n23_ n24_ n25_ n26_ n27_ n28_
            (try clear hb)
            (try clear hb2)
            (try clear hk)
            (try clear hi)
            (try clear ho0)
            (try clear ho1)
            (try clear ho2)
            (try clear ho3)
            obtain ⟨Ao83, co83, eo83⟩ := Kd.S_slice HO187.out
            (first | subst eo83 | (injection eo83 with f1_ f2_ f3_; have f4_ := f1_.symm; have f5_ := f3_.symm; clear f1_ f2_ f3_; subst f4_; subst f5_))
            obtain ⟨Ao84, co84, eo84⟩ := Kd.S_slice HO193.out
            (first | subst eo84 | (injection eo84 with f1_ f2_ f3_; have f4_ := f1_.symm; have f5_ := f3_.symm; clear f1_ f2_ f3_; subst f4_; subst f5_))
            obtain ⟨Ao85, co85, eo85⟩ := Kd.R_slice HO196.out
            (first | subst eo85 | (injection eo85 with f1_ f2_ f3_; have f4_ := f1_.symm; have f5_ := f3_.symm; clear f1_ f2_ f3_; subst f4_; subst f5_))
            obtain ⟨Ao86, co86, eo86⟩ := Kd.R_slice HO199.out
            (first | subst eo86 | (injection eo86 with f1_ f2_ f3_; have f4_ := f1_.symm; have f5_ := f3_.symm; clear f1_ f2_ f3_; subst f4_; subst f5_))
            refine hK.out _ _ ⟨(blk_cell BK167.out 0).trans rfl, (blk_cell BK167.out 1).trans rfl, (blk_cell BK167.out 2).trans rfl, (blk_cell BK167.out 3).trans rfl, (blk_cell BK167.out 4).trans rfl, (blk_cell BK167.out 5).trans rfl, (blk_cell BK167.out 6).trans rfl, (blk_cell BK102.out 0).trans rfl, (blk_cell BK102.out 1).trans rfl, (blk_cell BK102.out 2).trans rfl, (blk_cell BK102.out 3).trans rfl, (blk_cell BK102.out 4).trans rfl, (blk_cell BK102.out 5).trans rfl, (blk_cell BK102.out 6).trans rfl⟩ (fun hHeld => ?_)
            clear hK K
            refine norm_ (a' := ?_) ?_ ?_
            rotate_left
            · show Act.put _ (some 42) _ = _
              simp only [Act.put, List.setIfInBounds_toArray, List.set_cons_zero, List.set_cons_succ, i64_w, i32_w]
              rfl
            refine one_ (i := 3) (N := some 43) #[true, true, true, true, false] rfl rfl (by kernel_rfl) (by decide) (fun K hK => ?_)
            refine goes_ Try.func17 (by kernel_rfl) rfl #[.agg #[.slice Ao64 t152.length co64, .int .i64 t155, .int .i64 t156, .int .i64 t157, .slice Ao69 t158.length co69, .slice Ao70 t161.length co70, .slice Ao71 t164.length co71], .agg #[.slice Ao83 t185.length co83, .int .i64 t188, .int .i64 t189, .int .i64 t190, .slice Ao84 t191.length co84, .slice Ao85 t194.length co85, .slice Ao86 t197.length co86]] (by rfl) rfl rfl (by (try simp only [List.map_toArray, List.map_cons, List.map_nil]); first | done | rfl | (simp only [List.length_drop, List.length_take]; rfl)) ?_
            with_reducible refine (laws_eqRr.calls k _ _ t152 t155 t156 t157 _ _ t158 _ _ t161 _ _ t164 _ _ t185 t188 t189 t190 _ _ t191 _ _ t194 _ _ t197 true _ ?side1 ?side2 ?side3 ?side4 ?side5 ?side6 ?side7 ?side8 ?side9 ?side10 ?side11 ?side12 ?side13 ?side14 ?side15 ?side16 A30.out).mono ?_
            (case side1 => repeat (first | exact (Kd.S_reads' HO154.out).2.2 | (with_reducible refine Kd.C_alloc ?_ _) | (with_reducible refine Kd.C_drewN ?_ _) | (with_reducible refine Kd.C_drew ?_)))
            (case side2 => exact (Kd.S_reads' HO154.out).2.1)
            (case side3 => repeat (first | exact (Kd.S_reads' HO160.out).2.2 | (with_reducible refine Kd.C_alloc ?_ _) | (with_reducible refine Kd.C_drewN ?_ _) | (with_reducible refine Kd.C_drew ?_)))
            (case side4 => exact (Kd.S_reads' HO160.out).2.1)
            (case side5 => repeat (first | exact (Kd.R_reads' HO163.out).2.2 | (with_reducible refine Kd.C_alloc ?_ _) | (with_reducible refine Kd.C_drewN ?_ _) | (with_reducible refine Kd.C_drew ?_)))
            (case side6 => exact (Kd.R_reads' HO163.out).2.1)
            (case side7 => repeat (first | exact (Kd.R_reads' HO166.out).2.2 | (with_reducible refine Kd.C_alloc ?_ _) | (with_reducible refine Kd.C_drewN ?_ _) | (with_reducible refine Kd.C_drew ?_)))
            (case side8 => exact (Kd.R_reads' HO166.out).2.1)
            (case side9 => repeat (first | exact (Kd.S_reads' HO187.out).2.2 | (with_reducible refine Kd.C_alloc ?_ _) | (with_reducible refine Kd.C_drewN ?_ _) | (with_reducible refine Kd.C_drew ?_)))
            (case side10 => exact (Kd.S_reads' HO187.out).2.1)
            (case side11 => repeat (first | exact (Kd.S_reads' HO193.out).2.2 | (with_reducible refine Kd.C_alloc ?_ _) | (with_reducible refine Kd.C_drewN ?_ _) | (with_reducible refine Kd.C_drew ?_)))
            (case side12 => exact (Kd.S_reads' HO193.out).2.1)
            (case side13 => repeat (first | exact (Kd.R_reads' HO196.out).2.2 | (with_reducible refine Kd.C_alloc ?_ _) | (with_reducible refine Kd.C_drewN ?_ _) | (with_reducible refine Kd.C_drew ?_)))
            (case side14 => exact (Kd.R_reads' HO196.out).2.1)
            (case side15 => repeat (first | exact (Kd.R_reads' HO199.out).2.2 | (with_reducible refine Kd.C_alloc ?_ _) | (with_reducible refine Kd.C_drewN ?_ _) | (with_reducible refine Kd.C_drew ?_)))
            (case side16 => exact (Kd.R_reads' HO199.out).2.1)
            rintro e w87 ⟨rfl, hb⟩
            refine ⟨_, rfl, ?_⟩
            have n0_ := Aside0.mk (Kd.S_below (sw HO107.out) hb)
            have n1_ := Aside0.mk (Kd.S_below (sw HO113.out) hb)
            have n2_ := Aside0.mk (Kd.R_below (rw_ HO116.out) hb)
            have n3_ := Aside0.mk (Kd.R_below (rw_ HO119.out) hb)
            have n4_ := Aside0.mk (Kd.S_below (sw HO122.out) hb)
            have n5_ := Aside0.mk (Kd.S_below (sw HO128.out) hb)
            have n6_ := Aside0.mk (Kd.R_below (rw_ HO131.out) hb)
            have n7_ := Aside0.mk (Kd.R_below (rw_ HO134.out) hb)
            have n8_ := Aside0.mk (Kd.S_below (sw HO138.out) hb)
            have n9_ := Aside0.mk (Kd.S_below (sw HO144.out) hb)
            have n10_ := Aside0.mk (Kd.R_below (rw_ HO147.out) hb)
            have n11_ := Aside0.mk (Kd.R_below (rw_ HO150.out) hb)
            have n12_ := Aside0.mk (Kd.S_below (sw HO154.out) hb)
            have n13_ := Aside0.mk (Kd.S_below (sw HO160.out) hb)
            have n14_ := Aside0.mk (Kd.R_below (rw_ HO163.out) hb)
            have n15_ := Aside0.mk (Kd.R_below (rw_ HO166.out) hb)
            have n16_ := Aside0.mk (Kd.S_below (sw HO171.out) hb)
            have n17_ := Aside0.mk (Kd.S_below (sw HO177.out) hb)
            have n18_ := Aside0.mk (Kd.R_below (rw_ HO180.out) hb)
            have n19_ := Aside0.mk (Kd.R_below (rw_ HO183.out) hb)
            have n20_ := Aside0.mk (Kd.S_below (sw HO187.out) hb)
            have n21_ := Aside0.mk (Kd.S_below (sw HO193.out) hb)
            have n22_ := Aside0.mk (Kd.R_below (rw_ HO196.out) hb)
            have n23_ := Aside0.mk (Kd.R_below (rw_ HO199.out) hb)
            have n24_ := Aside0.mk (blk_below (bk BK101.out) hb)
            have n25_ := Aside0.mk (blk_below (bk BK102.out) hb)
            have n26_ := Aside0.mk (blk_below (bk BK151.out) hb)
            have n27_ := Aside0.mk (blk_below (bk BK167.out) hb)
            have n28_ := Aside0.mk (below_step (by repeat (first | exact bw HB.out | refine below_set ?_ GE101.out | refine below_set ?_ GE102.out | refine below_set ?_ GE151.out | refine below_set ?_ GE167.out)) hb)
            clear HO107
            clear HO113
            clear HO116
            clear HO119
            clear HO122
            clear HO128
            clear HO131
            clear HO134
            clear HO138
            clear HO144
            clear HO147
            clear HO150
            clear HO154
            clear HO160
            clear HO163
            clear HO166
            clear HO171
            clear HO177
            clear HO180
            clear HO183
            clear HO187
            clear HO193
            clear HO196
            clear HO199
            clear BK101
            clear BK102
            clear BK151
            clear BK167
            clear HB
            have HO107 := n0_
            have HO113 := n1_
            have HO116 := n2_
            have HO119 := n3_
            have HO122 := n4_
            have HO128 := n5_
            have HO131 := n6_
            have HO134 := n7_
            have HO138 := n8_
            have HO144 := n9_
            have HO147 := n10_
            have HO150 := n11_
            have HO154 := n12_
            have HO160 := n13_
            have HO163 := n14_
            have HO166 := n15_
            have HO171 := n16_
            have HO177 := n17_
            have HO180 := n18_
            have HO183 := n19_
            have HO187 := n20_
            have HO193 := n21_
            have HO196 := n22_
            have HO199 := n23_
            have BK101 := n24_
            have BK102 := n25_
            have BK151 := n26_
            have BK167 := n27_
            have HB := n28_
            clear n0_ n1_ n2_ n3_ n4_ n5_ n6_ n7_ n8_ n9_ n10_ n11_ n12_ n13_ n14_ n15_ n16_ n17_ n18_ n19_ n20_ n21_ n22_ n23_ n24_ n25_ n26_ n27_ n28_
            (try clear hb)
            (try clear hb2)
            (try clear hk)
            (try clear hi)
            refine hK.out _ _ ⟨(blk_cell BK167.out 0).trans rfl, (blk_cell BK167.out 1).trans rfl, (blk_cell BK167.out 2).trans rfl, (blk_cell BK167.out 3).trans rfl, (blk_cell BK167.out 4).trans rfl, (blk_cell BK167.out 5).trans rfl, (blk_cell BK167.out 6).trans rfl, (blk_cell BK102.out 0).trans rfl, (blk_cell BK102.out 1).trans rfl, (blk_cell BK102.out 2).trans rfl, (blk_cell BK102.out 3).trans rfl, (blk_cell BK102.out 4).trans rfl, (blk_cell BK102.out 5).trans rfl, (blk_cell BK102.out 6).trans rfl⟩ (fun hHeld => ?_)
            clear hK K
            refine norm_ (a' := ?_) ?_ ?_
            rotate_left
            · show Act.put _ (some 43) _ = _
              simp only [Act.put, List.setIfInBounds_toArray, List.set_cons_zero, List.set_cons_succ, i64_w, i32_w]
              rfl
            refine pure_ (i := 4) (N := some 44) (v := ?_) (a' := ?_) #[true, true, true, true, true] rfl rfl (by kernel_rfl) (fun _ _ _ h => h) (Or.inl ⟨by rfl, ?_⟩) ?_ ?_
            rotate_left
            · intro w'
              go_simp
              with_reducible rfl
            rotate_left
            · simp only [Act.put, List.setIfInBounds_toArray, List.set_cons_zero, List.set_cons_succ, i64_w, i32_w]
              rfl
            refine done_ (by kernel_rfl) ?_
            try go_wp2
            go_ret
            exact ⟨by first | rfl | (simp [errW_none, errW_some] <;> rfl) | (simp [*, errW_none, errW_some] <;> rfl), by repeat (first | exact bw HB.out | refine below_set ?_ GE101.out | refine below_set ?_ GE102.out | refine below_set ?_ GE151.out | refine below_set ?_ GE167.out)⟩
          · replace c31 := Bool.eq_false_iff.mpr c31
            subst c31
            have H1 : (none) = some r := by rw [if_neg (show ¬ (false = true) by decide)] at H; exact H
            clear H
            have H := H1
            clear H1
            exact absurd H (by simp)
        · replace c28 := Bool.eq_false_iff.mpr c28
          subst c28
          have H1 : (none) = some r := by rw [if_neg (show ¬ (false = true) by decide)] at H; exact H
          clear H
          have H := H1
          clear H1
          exact absurd H (by simp)
      · rw [if_neg c25] at H
        exact absurd H (by simp)


/-! ### slices_EqualFunc_byte_byte_byte_byte: function 174 -/

def slices_EqualFunc_byte_byte_byte_byte.v (p : List Int → List Int → Bool) (l0 l1 : List (List Int)) : Bool := decide (l0.length = l1.length) && (l0.zip l1).all fun z => p z.1 z.2
set_option maxHeartbeats 8000000 in
set_option maxRecDepth 100000 in
theorem slices_EqualFunc_byte_byte_byte_byte.calls (g : Nat) (lb : Array Value) (eg : ∀ args w, (callFunc g args).run Try.prog w = .ok (.enter g args) w) (p : List Int → List Int → Bool) (A0 : Option Addr) (c0 : Nat) (l0 : List (List Int)) (A1 : Option Addr) (c1 : Nat) (l1 : List (List Int)) (w : World) (hr0 : Kd.C (Kd.slice 5 (Kd.int .u8)) w A0 l0.length l0) (hr1 : Kd.C (Kd.slice 5 (Kd.int .u8)) w A1 l1.length l1)
    (hp : ∀ (W : World) (A : Option Addr) (c : Nat) (x : List Int) (A' : Option Addr) (c' : Nat) (x' : List Int), Kd.C (Kd.int .u8) W A x.length x → x.length ≤ c → Kd.C (Kd.int .u8) W A' x'.length x' → x'.length ≤ c' → Calls Try.prog g (#[.slice A x.length c, .slice A' x'.length c'] ++ lb) W fun e w' => e = .returned (.bool (p x x')) ∧ Drawn0 W w') :
    Calls Try.prog 174 #[.slice A0 l0.length c0, .slice A1 l1.length c1, .func (.func g) #[] lb] w fun e w' => e = .returned (.bool (slices_EqualFunc_byte_byte_byte_byte.v p l0 l1)) ∧ ∃ m, w' = w.drewN m := by
  have HR0 := Aside0.mk hr0
  have HR1 := Aside0.mk hr1
  have hbig : l0.length ≤ 9223372036854775807 := hr0.2.1
  have hbig1 : l1.length ≤ 9223372036854775807 := hr1.2.1
  have HP := Aside0.mk hp
  clear hr0 hr1 hp
  by_cases hl : l0.length = l1.length
  · have hne : (l0.length != l1.length) = false := by simp [hl]
    have hne' : ((l0.length : Int) != (l1.length : Int)) = false := by simp [hl]
    have HL := Aside0.mk hl
    clear hl
    go_enter Try.func174, Try.ntmps174
    go_wp2
    go_loopg [17] l0.length (fun gg s17 wr => ∃ kk m : Nat, kk ≤ l0.length ∧ l0.length - kk ≤ gg ∧ s17 = .int .i64 kk ∧ wr = w.drewN m ∧ Aside0 (((l0.take kk).zip (l1.take kk)).all (fun z => p z.1 z.2) = true))
    case atStart => exact ⟨0, 0, Nat.zero_le _, by omega, rfl, rfl, ⟨by simp⟩⟩
    case round =>
      obtain ⟨kk, m, hkk, hg, rfl, rfl, AF⟩ := hrel
      by_cases hlt : kk < l0.length
      · have hlt1 : kk < l1.length := by have := HL.out; omega
        obtain ⟨ad, B0, d0, rfl, hcell, hd0, hC0⟩ := at_L10 HR0.out (kk : Int) (by omega) (by omega)
        obtain ⟨ad1, B1, d1, rfl, hcell1, hd1, hC1⟩ := at_L10 HR1.out (kk : Int) (by omega) (by omega)
        have hcall := HP.out (w.drewN m) B0 d0 (rd_L10 l0 (kk : Int)) B1 d1 (rd_L10 l1 (kk : Int)) (Kd.C_drewN hC0 m) hd0 (Kd.C_drewN hC1 m) hd1
        have hx : Aside0 ((l0.take (kk + 1)).zip (l1.take (kk + 1)) = (l0.take kk).zip (l1.take kk) ++ [(rd_L10 l0 (kk : Int), rd_L10 l1 (kk : Int))]) := ⟨by
          rw [List.take_succ_eq_append_getElem hlt, List.take_succ_eq_append_getElem hlt1, List.zip_append (by simp; omega)]
          simp [rd_L10, List.getD_eq_getElem?_getD, hlt, hlt1]⟩
        clear hC0 hC1 hd0 hd1
        rw [show ((kk : Int)).toNat = kk from by omega] at hcell hcell1
        generalize rd_L10 l0 (kk : Int) = y at hcell hcall hx
        generalize rd_L10 l1 (kk : Int) = y1 at hcell1 hcall hx
        have hltz : (kk : Int) < (l0.length : Int) := by omega
        have hltz1 : (kk : Int) < (l1.length : Int) := by omega
        cases hq : p y y1 with
        | true =>
          rw [hq] at hcall
          go_wp2_with (go_at_fn g; refine hcall.mono ?_; rintro e w' ⟨rfl, ⟨q, rfl⟩⟩)
          go_roundg (l0.length - (kk + 1))
          case measure => omega
          case rel => exact ⟨kk + 1, _, by omega, by omega, by go_num, rfl, ⟨by rw [hx.out, List.all_append, AF.out]; simp [hq]⟩⟩
        | false =>
          rw [hq] at hcall
          go_wp2_with (go_at_fn g; refine hcall.mono ?_; rintro e w' ⟨rfl, ⟨q, rfl⟩⟩)
          go_ret
          refine ⟨?_, _, rfl⟩
          have : slices_EqualFunc_byte_byte_byte_byte.v p l0 l1 = false := by
            unfold slices_EqualFunc_byte_byte_byte_byte.v
            have h2 : l0.zip l1 = (l0.take (kk + 1)).zip (l1.take (kk + 1)) ++ (l0.drop (kk + 1)).zip (l1.drop (kk + 1)) := by
              conv => lhs; rw [← List.take_append_drop (kk + 1) l0, ← List.take_append_drop (kk + 1) l1]
              rw [List.zip_append (by simp; omega)]
            rw [h2, hx.out]; simp [hq]
          rw [this]; rfl
      · have hltz : ¬ (kk : Int) < (l0.length : Int) := by omega
        go_wp2
        go_ret
        refine ⟨?_, m, rfl⟩
        have h1 := AF.out
        have h2 := HL.out
        rw [List.take_of_length_le (by omega), List.take_of_length_le (by omega)] at h1
        unfold slices_EqualFunc_byte_byte_byte_byte.v
        rw [h1, decide_eq_true h2]; rfl
  · have hne : (l0.length != l1.length) = true := by simp [hl]
    have hne' : ((l0.length : Int) != (l1.length : Int)) = true := by simp; omega
    have hv : slices_EqualFunc_byte_byte_byte_byte.v p l0 l1 = false := by unfold slices_EqualFunc_byte_byte_byte_byte.v; rw [decide_eq_false hl]; rfl
    rw [hv]
    clear hl hv
    go_enter Try.func174, Try.ntmps174
    go_wp2
    go_ret
    exact ⟨rfl, 0, rfl⟩


/-! ### bytes_Equal: function 175 -/
def bytes_Equal.f (l0 : List Int) (l1 : List Int) : Option (Bool) := some ((strOfNums l0).toList == (strOfNums l1).toList)
set_option maxHeartbeats 8000000 in
set_option maxRecDepth 100000 in
theorem bytes_Equal.calls (A0 : Option Addr) (c0 : Nat) (l0 : List Int) (A1 : Option Addr) (c1 : Nat) (l1 : List Int) (r : Bool) (w : World) (hr0 : Kd.C (Kd.int .u8) w A0 l0.length l0) (hc0 : l0.length ≤ c0) (hr1 : Kd.C (Kd.int .u8) w A1 l1.length l1) (hc1 : l1.length ≤ c1) (h : bytes_Equal.f l0 l1 = some r) :
    Calls Try.prog 175 #[.slice A0 l0.length c0, .slice A1 l1.length c1] w fun e w' => e = .returned (.bool r) ∧ Drawn0 w w' := by
  have HR0 := Aside0.mk hr0
  have HC0 := Aside0.mk hc0
  clear hr0 hc0
  have HR1 := Aside0.mk hr1
  have HC1 := Aside0.mk hc1
  clear hr1 hc1
  have H : (some ((strOfNums l0).toList == (strOfNums l1).toList)) = some r := h
  clear h
  obtain rfl := Option.some.inj H
  have hcv3 := Kd.C_string (P := Try.prog) (A := A0) (c := c0) Try.underlying25 Try.underlying5 Try.underlying9 HR0.out
  have hcv4 := Kd.C_string (P := Try.prog) (A := A1) (c := c1) Try.underlying25 Try.underlying5 Try.underlying9 HR1.out
  go_enter Try.func175, Try.ntmps175
  go_wp2
  go_ret
  exact ⟨by first | rfl | (simp; done) | (simp [*]; done), by repeat (first | exact Drawn0.refl _ | apply Drawn0.step)⟩


/-! ### impl_Name_under: function 101 -/

def impl_Name_under.eq (x y : List Int) : Bool := (strOfNums x).toList == (strOfNums y).toList
def impl_Name_under.v (l0 l1 : List (List Int)) : Bool := decide (l1.length ≤ l0.length) && slices_EqualFunc_byte_byte_byte_byte.v impl_Name_under.eq (l0.drop (l0.length - l1.length)) l1
def impl_Name_under.f (l0 l1 : List (List Int)) : Option Bool := if l0.length ≤ 140737488355328 ∧ l1.length ≤ 140737488355328 then some (impl_Name_under.v l0 l1) else none
set_option maxHeartbeats 8000000 in
set_option maxRecDepth 100000 in
theorem impl_Name_under.calls (A0_0 : Option Addr) (c0_0 : Nat) (l0_0 : List (List Int)) (A1_0 : Option Addr) (c1_0 : Nat) (l1_0 : List (List Int)) (r : Bool) (w : World) (hr0_0 : Kd.C (Kd.slice 5 (Kd.int .u8)) w A0_0 l0_0.length l0_0) (hc0_0 : l0_0.length ≤ c0_0) (hr1_0 : Kd.C (Kd.slice 5 (Kd.int .u8)) w A1_0 l1_0.length l1_0) (hc1_0 : l1_0.length ≤ c1_0) (h : impl_Name_under.f l0_0 l1_0 = some r) :
    Calls Try.prog 101 #[.agg #[.slice A0_0 l0_0.length c0_0], .agg #[.slice A1_0 l1_0.length c1_0]] w fun e w' => e = .returned (.bool r) ∧ Below w.heap.size w w' := by
  have hu := Try.underlying31
  have eg : ∀ args w, (callFunc 175 args).run Try.prog w = .ok (.enter 175 args) w := enters_of Try.func175 (by kernel_rfl) rfl
  have hb0 : Below w.heap.size w ((w.alloc (.cells #[.slice A0_0 l0_0.length c0_0] 31)).alloc (.cells #[.slice A1_0 l1_0.length c1_0] 31)) := below_alloc (below_alloc (Below.refl _ _) _) _
  have hlm : l0_0.length ≤ 140737488355328 ∧ l1_0.length ≤ 140737488355328 := by
    unfold impl_Name_under.f at h; split at h
    · assumption
    · cases h
  have hrv : impl_Name_under.v l0_0 l1_0 = r := by unfold impl_Name_under.f at h; rw [if_pos hlm] at h; exact Option.some.inj h
  subst hrv
  obtain ⟨hm0, hm1⟩ := hlm
  unfold impl_Name_under.v
  clear h
  by_cases h2 : l1_0.length ≤ l0_0.length
  · obtain ⟨i0, hi0, _, hsz0, _⟩ := info_parts info25
    have hcut := cut_from (P := Try.prog) 22 25 .i64 Try.underlying22 hi0 1 hsz0 A0_0 l0_0.length c0_0 ((l0_0.length : Int) - (l1_0.length : Int)) (by omega) (by omega)
    have hC := fun (W : World) (hW : Below w.heap.size w W) => Kd.C_below (Kd.C_drop (m := l0_0.length - l1_0.length) (c := c0_0) hr0_0 (by omega) hc0_0) hW
    rw [show ((l0_0.length : Int) - (l1_0.length : Int)).toNat = l0_0.length - l1_0.length by omega, show l0_0.length - (l0_0.length - l1_0.length) = l1_0.length by omega] at hcut
    have hln : (l0_0.drop (l0_0.length - l1_0.length)).length = l1_0.length := by simp; omega
    have hcall := fun (W : World) (hW : Below w.heap.size w W) => slices_EqualFunc_byte_byte_byte_byte.calls 175 #[] eg impl_Name_under.eq _ (c0_0 - (l0_0.length - l1_0.length)) (l0_0.drop (l0_0.length - l1_0.length)) A1_0 c1_0 l1_0 W (hC W hW) (Kd.C_below hr1_0 hW) (fun W2 A c x A' c' x' h1 h3 h4 h5 => bytes_Equal.calls A c x A' c' x' _ W2 h1 h3 h4 h5 rfl)
    have hsz : (Kd.slice 5 (Kd.int .u8)).sz = 1 := rfl
    rw [hsz, hln] at hcall
    have HCALL := Aside0.mk hcall
    clear hC hcall hr0_0 hr1_0 hln hsz hi0 hsz0
    rw [decide_eq_true h2]
    simp only [Bool.true_and]
    generalize slices_EqualFunc_byte_byte_byte_byte.v impl_Name_under.eq (l0_0.drop (l0_0.length - l1_0.length)) l1_0 = q at HCALL ⊢
    generalize (if c0_0 = l0_0.length - l1_0.length then A0_0 else A0_0.map (·.add ((l0_0.length - l1_0.length) * 1))) = A9 at hcut HCALL
    generalize c0_0 - (l0_0.length - l1_0.length) = c9 at hcut HCALL
    have hle : (l1_0.length : Int) ≤ (l0_0.length : Int) := by omega
    have hle2 : decide ((0 : Int) ≤ (l0_0.length : Int) - (l1_0.length : Int)) = true := by simp; omega
    have hmax : ∀ (W : World), True := fun _ => trivial
    go_enter Try.func101, Try.ntmps101
    go_wp2
    go_quiet ((go_at_call 174; exact Calls.quiet_of (HCALL.out _ (by exact pw_below_drewN hb0 _))))
    go_wp2
    go_ret
    exact ⟨rfl, pw_below_drewN hb0 _⟩
  · rw [decide_eq_false h2]
    simp only [Bool.false_and]
    have hle2 : decide ((0 : Int) ≤ (l0_0.length : Int) - (l1_0.length : Int)) = false := by simp; omega
    have hle : (l0_0.length : Int) < (l1_0.length : Int) := by omega
    go_enter Try.func101, Try.ntmps101
    go_wp2
    go_quiet (fail)
    go_wp2
    go_ret
    exact ⟨rfl, pw_below_drewN hb0 _⟩


/-! ### spec_l2under: function 96 -/
def spec_l2under.f (k : Nat) (l0_0 : List (List Int)) (l1_0 : List (List Int)) : Option (Bool) := if (wrap64 ((l0_0.length : Int) - (l1_0.length : Int))) ≥ 0 then (if 0 ≤ (wrap64 ((l0_0.length : Int) - (l1_0.length : Int))) then (if (wrap64 ((l0_0.length : Int) - (l1_0.length : Int))) ≤ (l0_0.length : Int) then ((spec_l2cmp.f k (l0_0.drop ((wrap64 ((l0_0.length : Int) - (l1_0.length : Int))) : Int).toNat) l1_0).bind fun t107 => (some (t107 == 0))) else (none)) else (none)) else (some false)
theorem spec_l2under.mono : ∀ a0 a1 k, LeO (spec_l2under.f k a0 a1) (spec_l2under.f (k + 1) a0 a1) := by
  intro a0 a1 k
  unfold spec_l2under.f
  repeat' first
      | (with_reducible exact spec_l2cmp.mono _ _ _)
      | (with_reducible exact LeO.refl _)
      | (with_reducible exact LeO.none _)
      | (with_reducible refine LeO.ite ?_ ?_)
      | (with_reducible refine LeO.bind ?_ (fun _ => ?_))
      | exact spec_l2cmp.mono _ _ _
      | exact LeO.none _
      | refine LeO.ite ?_ ?_
      | refine LeO.bind ?_ (fun _ => ?_)
def spec_l2under.T2 : Bool × List (List Nat × List Nat) := (true, [([], []), ([0], [0]), ([1], [1]), ([2], [2]), ([3, 2], [2, 3]), ([2], [2]), ([4, 5, 2], [2, 4, 5]), ([6, 2], [2, 6]), ([2], [2]), ([7, 8, 2, 2], [2, 7, 8]), ([9, 2], [2, 9]), ([2, 10], [2, 10]), ([11, 9, 0, 1, 2, 3, 4, 5, 6, 7, 8, 9, 10, 11], [11])])
def spec_l2under.B2 : List Nat := [0, 1, 3, 7, 15, 7, 63, 127, 7, 511, 1023, 2047, 4095]
theorem spec_l2under.tab2 : rtab .any (opsOf Try.f96 2) = spec_l2under.T2 := by kernel_rfl
theorem spec_l2under.bits2 : waitsOk spec_l2under.T2.2 spec_l2under.B2 = true := by kernel_rfl
set_option maxHeartbeats 8000000 in
set_option maxRecDepth 100000 in
theorem spec_l2under.calls (k : Nat) (A0_0 : Option Addr) (c0_0 : Nat) (l0_0 : List (List Int)) (A1_0 : Option Addr) (c1_0 : Nat) (l1_0 : List (List Int)) (r : Bool) (w : World) (hr0_0 : Kd.C (Kd.slice 5 (Kd.int .u8)) w A0_0 l0_0.length l0_0) (hc0_0 : l0_0.length ≤ c0_0) (hr1_0 : Kd.C (Kd.slice 5 (Kd.int .u8)) w A1_0 l1_0.length l1_0) (hc1_0 : l1_0.length ≤ c1_0) (h : spec_l2under.f k l0_0 l1_0 = some r) :
    Calls Try.prog 96 #[.agg #[.slice A0_0 l0_0.length c0_0], .agg #[.slice A1_0 l1_0.length c1_0]] w fun e w' => e = .returned (.bool r) ∧ Below w.heap.size w w' := by
  have hu31 := Try.underlying31
  have HR0_0 := Aside0.mk hr0_0
  have HC0_0 := Aside0.mk hc0_0
  clear hr0_0 hc0_0
  have HR1_0 := Aside0.mk hr1_0
  have HC1_0 := Aside0.mk hc1_0
  clear hr1_0 hc1_0
  have HB := Aside0.mk (Below.refl w.heap.size w)
  have H : (if (wrap64 ((l0_0.length : Int) - (l1_0.length : Int))) ≥ 0 then (if 0 ≤ (wrap64 ((l0_0.length : Int) - (l1_0.length : Int))) then (if (wrap64 ((l0_0.length : Int) - (l1_0.length : Int))) ≤ (l0_0.length : Int) then ((spec_l2cmp.f k (l0_0.drop ((wrap64 ((l0_0.length : Int) - (l1_0.length : Int))) : Int).toNat) l1_0).bind fun t107 => (some (t107 == 0))) else (none)) else (none)) else (some false)) = some r := h
  clear h
  by_cases c3 : (wrap64 ((l0_0.length : Int) - (l1_0.length : Int))) ≥ 0
  · rw [if_pos c3] at H
    have c3b0 : decide (0 ≤ (wrap64 ((l0_0.length : Int) - (l1_0.length : Int)))) = true := decide_eq_true c3
    clear c3
    obtain ⟨ji4, hji4⟩ : ∃ j_ : Int, (wrap64 ((l0_0.length : Int) - (l1_0.length : Int))) = j_ := ⟨_, rfl⟩
    replace H : (if 0 ≤ (ji4) then (if (ji4) ≤ (l0_0.length : Int) then ((spec_l2cmp.f k (l0_0.drop ((ji4) : Int).toNat) l1_0).bind fun t107 => (some (t107 == 0))) else (none)) else (none)) = some r := by first | (rw [hji4] at H; exact H) | (simp only [hji4] at H ⊢; exact H)
    (try rw [hji4] at c3b0)
    have hji4w : (IntKind.i64.wrap ((l0_0.length : Int) - (l1_0.length : Int))) = ji4 := (i64_w _).trans hji4
    by_cases c5 : 0 ≤ (ji4)
    · rw [if_pos c5] at H
      have c5b0 := eq_true c5
      have c5b1 : decide (0 ≤ (ji4)) = true := decide_eq_true c5
      clear c5
      by_cases c6 : (ji4) ≤ (l0_0.length : Int)
      · rw [if_pos c6] at H
        have c6b0 := eq_true c6
        have c6b1 : decide ((ji4) ≤ (l0_0.length : Int)) = true := decide_eq_true c6
        clear c6
        obtain ⟨y103, hy103⟩ : ∃ y_ : List (List Int), y_ = (l0_0.drop ((ji4) : Int).toNat) := ⟨_, rfl⟩
        replace H : ((spec_l2cmp.f k y103 l1_0).bind fun t107 => (some (t107 == 0))) = some r := by first | (rw [hy103]; with_reducible exact H) | (have H2_ := (Option.bind_some _ _).symm.trans H; rw [hy103]; with_reducible exact H2_) | (have H2_ := (Option.bind_some _ _).symm.trans H; with_reducible exact H2_) | with_reducible exact H | (rw [hy103]; exact H) | exact H
        have Ny103 := Aside0.mk hy103
        clear hy103
        replace H := Option.bind_eq_some_iff.mp H
        obtain ⟨t107, A70, H⟩ := H
        replace H : (some (t107 == 0)) = some r := H
        have A7 := Aside0.mk A70
        clear A70
        obtain rfl := Option.some.inj H
        go_enter Try.func96, Try.ntmps96
        try go_wp2_with (first | ((with_reducible refine gate_dst (N := 2) rfl ?_); refine boxed (N := 2) rfl rfl (cs := #[.slice A0_0 l0_0.length c0_0]) (t := 31) HB.out (by first | (go_simp; done) | (go_simp; rfl)) ?_; clear HB; intro gb101 w8 hg HB BK101 GE101 hb; have GW101 := GE101; clear hb hg) | ((with_reducible refine gate_dst (N := 3) rfl ?_); refine box_event ?hg (N := 3) ?hd (cs := #[.slice A1_0 l1_0.length c1_0]) (t := 31) ?hr ?_; (case hd => rfl); (case hg => rfl); (case hr => first | (go_simp; done) | (go_simp; rfl)); intro gb102 hg w9 hbox hb; have BK102 := Aside0.mk (hbox); have GW102 := Aside0.mk ((by rw [hg]; exact (below_size (bw HB.out)) : w.heap.size ≤ gb102)); have GE102 := Aside0.mk ((by rw [hg]; exact (below_size (bw HB.out)) : w.heap.size ≤ gb102)); replace HB := Aside0.mk (below_step (bw HB.out) hb); have NB101_102 := Aside0.mk ((by rw [hg]; exact Nat.ne_of_lt (blk_lt (bk BK101.out)) : gb101 ≠ gb102)); have NB102_101 := Aside0.mk ((by rw [hg]; exact Nat.ne_of_gt (blk_lt (bk BK101.out)) : gb102 ≠ gb101)); replace BK101 := Aside0.mk (blk_below (bk BK101.out) hb); clear hb hbox hg; have hnb10 := NB101_102.out; have hnc10 := NB102_101.out; obtain ⟨hcz11_0, hfz11_0⟩ := cells1 BK101.out; obtain ⟨hcz12_0, hfz12_0⟩ := cells1 BK102.out))
        have n0_ := Aside0.mk (blk_drew BK101.out)
        have n1_ := Aside0.mk (blk_drew BK102.out)
        have n2_ := Aside0.mk (below_drew1 HB.out)
        clear BK101
        clear BK102
        clear HB
        have BK101 := n0_
        have BK102 := n1_
        have HB := n2_
        clear n0_ n1_ n2_
        have q14 : ((ji4) : Int) ≤ ((l0_0.length : Int) : Int) := of_decide_eq_true (by first | (with_reducible assumption) | assumption)
        obtain ⟨i014, hi014, _, hsz14, _⟩ := info_parts info25
        have hroom14 : l0_0.length ≤ c0_0 := HC0_0.out
        have hC14 : Kd.C (Kd.slice 5 (Kd.int .u8)) _ A0_0 l0_0.length l0_0 := HR0_0.out
        have q014 : (0 : Int) ≤ ((ji4) : Int) := of_decide_eq_true (by first | (with_reducible assumption) | assumption)
        have hcut14 := cut_from (P := Try.prog) 22 25 .i64 Try.underlying22 hi014 1 hsz14 A0_0 l0_0.length c0_0 (ji4) q014 q14
        have hr14 := Kd.C_drop (m := ((ji4) : Int).toNat) (c := c0_0) hC14 (by omega) hroom14
        obtain ⟨A14, hA14⟩ : ∃ A1, A1 = (if c0_0 = ((ji4) : Int).toNat then A0_0 else (A0_0 : Option Addr).map (·.add (((ji4) : Int).toNat * 1))) := ⟨_, rfl⟩
        obtain ⟨c14, hc14⟩ : ∃ c1, c1 = c0_0 - ((ji4) : Int).toNat := ⟨_, rfl⟩
        have hy14 : y103.length = l0_0.length - ((ji4) : Int).toNat := (by rw [Ny103.out, List.length_drop] <;> omega)
        rw [show (l0_0).drop ((ji4) : Int).toNat = y103 from Ny103.out.symm] at hr14
        replace hr14 : Kd.C (Kd.slice 5 (Kd.int .u8)) _ A14 y103.length y103 := (by rw [hA14]; exact hr14)
        rw [← hy14, ← hA14, ← hc14] at hcut14
        have HR106 := Aside0.mk hr14
        have HC106 := Aside0.mk (show y103.length ≤ c14 from by rw [hy14, hc14]; exact Nat.sub_le_sub_right hroom14 _)
        clear hr14 hC14 hroom14 hi014 hsz14 hc14
        have KY14 := Aside0.mk hy14
        have KA14 := Aside0.mk hA14
        clear hy14 hA14
        replace q14 := eq_true q14
        refine start_ (n := 13) (S := fun w' => w'.cell? ⟨gb101, 0, none⟩ = some (.slice A0_0 l0_0.length c0_0) ∧ w'.cell? ⟨gb102, 0, none⟩ = some (.slice A1_0 l1_0.length c1_0)) (ds := []) #[false, false, false, false, false, false, false, false, false, false, false, false, false] (by kernel_rfl) rfl rfl ⟨(blk_cell BK101.out 0).trans rfl, (blk_cell BK102.out 0).trans rfl⟩ (fun hHeld => ?_); refine with_tabW spec_l2under.tab2 spec_l2under.bits2 (fun HT_ HW_ => ?_)
        generalize w9.drew = w13 at BK101 BK102 HB HR106 hHeld ⊢
        refine pure_ (i := 0) (N := some 13) (v := ?_) (a' := ?_) #[true, false, false, false, false, false, false, false, false, false, false, false, false] rfl rfl (any_of HT_.out (by kernel_rfl)) (fun _ _ _ h => h) (Or.inl ⟨by rfl, ?_⟩) ?_ ?_
        rotate_left
        · intro w'
          go_simp
          with_reducible rfl
        rotate_left
        · simp only [Act.put, List.setIfInBounds_toArray, List.set_cons_zero, List.set_cons_succ, i64_w, i32_w]
          rfl
        refine pure_ (i := 1) (N := some 14) (v := ?_) (a' := ?_) #[true, true, false, false, false, false, false, false, false, false, false, false, false] rfl rfl (any_of HT_.out (by kernel_rfl)) (fun _ _ _ h => h) (Or.inl ⟨by rfl, ?_⟩) ?_ ?_
        rotate_left
        · intro w'
          go_simp
          with_reducible rfl
        rotate_left
        · simp only [Act.put, List.setIfInBounds_toArray, List.set_cons_zero, List.set_cons_succ, i64_w, i32_w]
          rfl
        refine pure_ (i := 2) (N := some 15) (v := ?_) (a' := ?_) #[true, true, true, false, false, false, false, false, false, false, false, false, false] rfl rfl (any_of HT_.out (by kernel_rfl)) (fun _ _ _ h => h) (Or.inl ⟨by rfl, ?_⟩) ?_ ?_
        rotate_left
        · intro w'
          go_simp
          with_reducible rfl
        rotate_left
        · simp only [Act.put, List.setIfInBounds_toArray, List.set_cons_zero, List.set_cons_succ, i64_w, i32_w]
          rfl
        refine pure_ (i := 3) (N := some 16) (v := ?_) (a' := ?_) #[true, true, true, true, false, false, false, false, false, false, false, false, false] rfl rfl (any_of HT_.out (by kernel_rfl)) (fun _ _ _ h => h) (Or.inl ⟨by rfl, ?_⟩) ?_ ?_
        rotate_left
        · intro w'
          go_simp
          with_reducible rfl
        rotate_left
        · simp only [Act.put, List.setIfInBounds_toArray, List.set_cons_zero, List.set_cons_succ, i64_w, i32_w]
          rfl
        refine pure_ (i := 5) (N := some 18) (v := ?_) (a' := ?_) #[true, true, true, true, false, true, false, false, false, false, false, false, false] rfl rfl (any_of HT_.out (by kernel_rfl)) (fun _ _ _ h => h) (Or.inl ⟨by rfl, ?_⟩) ?_ ?_
        rotate_left
        · intro w'
          go_simp
          with_reducible rfl
        rotate_left
        · simp only [Act.put, List.setIfInBounds_toArray, List.set_cons_zero, List.set_cons_succ, i64_w, i32_w]
          rfl
        refine take_ (i := 4) (N := some 17) (v := ?_) (a' := ?_) #[true, true, true, true, true, true, false, false, false, false, false, false, false] rfl rfl (take_ofW HT_.out HW_.out (by kernel_rfl)) (fun _ _ _ h => h) (Or.inl ⟨by rfl, ?_⟩) hHeld ?_ ?_
        rotate_left
        · rintro w' ⟨s0, s1⟩
          go_simp
          with_reducible rfl
        rotate_left
        · simp only [Act.put, List.setIfInBounds_toArray, List.set_cons_zero, List.set_cons_succ, i64_w, i32_w]
          rfl
        refine pure_ (i := 6) (N := some 19) (v := ?_) (a' := ?_) #[true, true, true, true, true, true, true, false, false, false, false, false, false] rfl rfl (any_of HT_.out (by kernel_rfl)) (fun _ _ _ h => h) (Or.inl ⟨by rfl, ?_⟩) ?_ ?_
        rotate_left
        · intro w'
          go_simp
          with_reducible rfl
        rotate_left
        · simp only [Act.put, List.setIfInBounds_toArray, List.set_cons_zero, List.set_cons_succ, i64_w, i32_w]
          rfl
        refine pure_ (i := 7) (N := some 20) (v := ?_) (a' := ?_) #[true, true, true, true, true, true, true, true, false, false, false, false, false] rfl rfl (any_of HT_.out (by kernel_rfl)) (fun _ _ _ h => h) (Or.inl ⟨by rfl, ?_⟩) ?_ ?_
        rotate_left
        · intro w'
          go_simp
          with_reducible rfl
        rotate_left
        · simp only [Act.put, List.setIfInBounds_toArray, List.set_cons_zero, List.set_cons_succ, i64_w, i32_w]
          rfl
        refine take_ (i := 8) (N := some 21) (v := ?_) (a' := ?_) #[true, true, true, true, true, true, true, true, true, false, false, false, false] rfl rfl (take_ofW HT_.out HW_.out (by kernel_rfl)) (fun _ _ _ h => h) (Or.inl ⟨by rfl, ?_⟩) hHeld ?_ ?_
        rotate_left
        · rintro w' ⟨s0, s1⟩
          go_simp
          with_reducible rfl
        rotate_left
        · simp only [Act.put, List.setIfInBounds_toArray, List.set_cons_zero, List.set_cons_succ, i64_w, i32_w]
          rfl
        refine one_ (i := 9) (N := some 22) #[true, true, true, true, true, true, true, true, true, true, false, false, false] rfl rfl (one_of HT_.out (by kernel_rfl)) (by decide) (fun K hK => ?_)
        refine goes_ Try.func98 (by kernel_rfl) rfl #[.agg #[.slice A14 y103.length c14], .agg #[.slice A1_0 l1_0.length c1_0]] (by rfl) rfl rfl (by (try simp only [List.map_toArray, List.map_cons, List.map_nil]); first | done | rfl | (simp only [List.length_drop, List.length_take]; rfl)) ?_
        with_reducible refine (spec_l2cmp.calls k _ _ y103 _ _ l1_0 t107 _ ?side1 ?side2 ?side3 ?side4 A7.out).mono ?_
        (case side1 => exact cw HR106.out HB.out)
        (case side2 => exact HC106.out)
        (case side3 => exact cw HR1_0.out HB.out)
        (case side4 => exact HC1_0.out)
        rintro e w15 ⟨rfl, hb⟩
        refine ⟨_, rfl, ?_⟩
        have n0_ := Aside0.mk (blk_below (bk BK101.out) hb)
        have n1_ := Aside0.mk (blk_below (bk BK102.out) hb)
        have n2_ := Aside0.mk (below_step (bw HB.out) hb)
        clear BK101
        clear BK102
        clear HB
        have BK101 := n0_
        have BK102 := n1_
        have HB := n2_
        clear n0_ n1_ n2_
        (try clear hb)
        (try clear hb2)
        (try clear hk)
        (try clear hi)
        refine hK.out _ _ ⟨(blk_cell BK101.out 0).trans rfl, (blk_cell BK102.out 0).trans rfl⟩ (fun hHeld => ?_)
        clear hK K
        refine norm_ (a' := ?_) ?_ ?_
        rotate_left
        · show Act.put _ (some 22) _ = _
          simp only [Act.put, List.setIfInBounds_toArray, List.set_cons_zero, List.set_cons_succ, i64_w, i32_w]
          rfl
        refine pure_ (i := 10) (N := some 23) (v := ?_) (a' := ?_) #[true, true, true, true, true, true, true, true, true, true, true, false, false] rfl rfl (any_of HT_.out (by kernel_rfl)) (fun _ _ _ h => h) (Or.inl ⟨by rfl, ?_⟩) ?_ ?_
        rotate_left
        · intro w'
          go_simp
          with_reducible rfl
        rotate_left
        · simp only [Act.put, List.setIfInBounds_toArray, List.set_cons_zero, List.set_cons_succ, i64_w, i32_w]
          rfl
        refine pure_ (i := 11) (N := some 24) (v := ?_) (a' := ?_) #[true, true, true, true, true, true, true, true, true, true, true, true, false] rfl rfl (any_of HT_.out (by kernel_rfl)) (fun _ _ _ h => h) (Or.inl ⟨by rfl, ?_⟩) ?_ ?_
        rotate_left
        · intro w'
          go_simp
          with_reducible rfl
        rotate_left
        · simp only [Act.put, List.setIfInBounds_toArray, List.set_cons_zero, List.set_cons_succ, i64_w, i32_w]
          rfl
        refine pure_ (i := 12) (N := some 4) (v := ?_) (a' := ?_) #[true, true, true, true, true, true, true, true, true, true, true, true, true] rfl rfl (any_of HT_.out (by kernel_rfl)) (fun _ _ _ h => h) (Or.inl ⟨by rfl, ?_⟩) ?_ ?_
        rotate_left
        · intro w'
          go_simp
          with_reducible rfl
        rotate_left
        · simp only [Act.put, List.setIfInBounds_toArray, List.set_cons_zero, List.set_cons_succ, i64_w, i32_w]
          rfl
        refine done_ (done_of HT_.out (by kernel_rfl)) ?_
        try go_wp2
        go_ret
        exact ⟨by first | rfl | (simp [errW_none, errW_some] <;> rfl) | (simp only [← hji4]; first | rfl | (simp [errW_none, errW_some] <;> rfl)) | (simp [*, errW_none, errW_some] <;> rfl), bw HB.out⟩
      · rw [if_neg c6] at H
        exact absurd H (by simp)
    · rw [if_neg c5] at H
      exact absurd H (by simp)
  · rw [if_neg c3] at H
    have c3b0 : decide (0 ≤ (wrap64 ((l0_0.length : Int) - (l1_0.length : Int)))) = false := decide_eq_false c3
    clear c3
    obtain rfl := Option.some.inj H
    go_enter Try.func96, Try.ntmps96
    try go_wp2_with (first | ((with_reducible refine gate_dst (N := 2) rfl ?_); refine boxed (N := 2) rfl rfl (cs := #[.slice A0_0 l0_0.length c0_0]) (t := 31) HB.out (by first | (go_simp; done) | (go_simp; rfl)) ?_; clear HB; intro gb101 w16 hg HB BK101 GE101 hb; have GW101 := GE101; clear hb hg) | ((with_reducible refine gate_dst (N := 3) rfl ?_); refine box_event ?hg (N := 3) ?hd (cs := #[.slice A1_0 l1_0.length c1_0]) (t := 31) ?hr ?_; (case hd => rfl); (case hg => rfl); (case hr => first | (go_simp; done) | (go_simp; rfl)); intro gb102 hg w17 hbox hb; have BK102 := Aside0.mk (hbox); have GW102 := Aside0.mk ((by rw [hg]; exact (below_size (bw HB.out)) : w.heap.size ≤ gb102)); have GE102 := Aside0.mk ((by rw [hg]; exact (below_size (bw HB.out)) : w.heap.size ≤ gb102)); replace HB := Aside0.mk (below_step (bw HB.out) hb); have NB101_102 := Aside0.mk ((by rw [hg]; exact Nat.ne_of_lt (blk_lt (bk BK101.out)) : gb101 ≠ gb102)); have NB102_101 := Aside0.mk ((by rw [hg]; exact Nat.ne_of_gt (blk_lt (bk BK101.out)) : gb102 ≠ gb101)); replace BK101 := Aside0.mk (blk_below (bk BK101.out) hb); clear hb hbox hg; have hnb18 := NB101_102.out; have hnc18 := NB102_101.out; obtain ⟨hcz19_0, hfz19_0⟩ := cells1 BK101.out; obtain ⟨hcz20_0, hfz20_0⟩ := cells1 BK102.out))
    have n0_ := Aside0.mk (blk_drew BK101.out)
    have n1_ := Aside0.mk (blk_drew BK102.out)
    have n2_ := Aside0.mk (below_drew1 HB.out)
    clear BK101
    clear BK102
    clear HB
    have BK101 := n0_
    have BK102 := n1_
    have HB := n2_
    clear n0_ n1_ n2_
    refine start_ (n := 13) (S := fun w' => True) (ds := []) #[false, false, false, false, false, false, false, false, false, false, false, false, false] (by kernel_rfl) rfl rfl trivial (fun hHeld => ?_); refine with_tabW spec_l2under.tab2 spec_l2under.bits2 (fun HT_ HW_ => ?_)
    generalize w17.drew = w21 at BK101 BK102 HB hHeld ⊢
    refine pure_ (i := 0) (N := some 13) (v := ?_) (a' := ?_) #[true, false, false, false, false, false, false, false, false, false, false, false, false] rfl rfl (any_of HT_.out (by kernel_rfl)) (fun _ _ _ h => h) (Or.inl ⟨by rfl, ?_⟩) ?_ ?_
    rotate_left
    · intro w'
      go_simp
      with_reducible rfl
    rotate_left
    · simp only [Act.put, List.setIfInBounds_toArray, List.set_cons_zero, List.set_cons_succ, i64_w, i32_w]
      rfl
    refine pure_ (i := 1) (N := some 14) (v := ?_) (a' := ?_) #[true, true, false, false, false, false, false, false, false, false, false, false, false] rfl rfl (any_of HT_.out (by kernel_rfl)) (fun _ _ _ h => h) (Or.inl ⟨by rfl, ?_⟩) ?_ ?_
    rotate_left
    · intro w'
      go_simp
      with_reducible rfl
    rotate_left
    · simp only [Act.put, List.setIfInBounds_toArray, List.set_cons_zero, List.set_cons_succ, i64_w, i32_w]
      rfl
    refine pure_ (i := 2) (N := some 15) (v := ?_) (a' := ?_) #[true, true, true, false, false, false, false, false, false, false, false, false, false] rfl rfl (any_of HT_.out (by kernel_rfl)) (fun _ _ _ h => h) (Or.inl ⟨by rfl, ?_⟩) ?_ ?_
    rotate_left
    · intro w'
      go_simp
      with_reducible rfl
    rotate_left
    · simp only [Act.put, List.setIfInBounds_toArray, List.set_cons_zero, List.set_cons_succ, i64_w, i32_w]
      rfl
    refine pure_ (i := 3) (N := some 16) (v := undef) (a' := ?_) #[true, true, true, true, false, false, false, false, false, false, false, false, false] rfl rfl (any_of HT_.out (by kernel_rfl)) (fun _ _ _ h => h) (Or.inr ⟨by rfl, rfl⟩) ?_ ?_
    rotate_left
    · simp only [Act.put, List.setIfInBounds_toArray, List.set_cons_zero, List.set_cons_succ, i64_w, i32_w]
      rfl
    refine pure_ (i := 4) (N := some 17) (v := undef) (a' := ?_) #[true, true, true, true, true, false, false, false, false, false, false, false, false] rfl rfl (any_of HT_.out (by kernel_rfl)) (fun _ _ _ h => h) (Or.inr ⟨by rfl, rfl⟩) ?_ ?_
    rotate_left
    · simp only [Act.put, List.setIfInBounds_toArray, List.set_cons_zero, List.set_cons_succ, i64_w, i32_w]
      rfl
    refine pure_ (i := 5) (N := some 18) (v := undef) (a' := ?_) #[true, true, true, true, true, true, false, false, false, false, false, false, false] rfl rfl (any_of HT_.out (by kernel_rfl)) (fun _ _ _ h => h) (Or.inr ⟨by rfl, rfl⟩) ?_ ?_
    rotate_left
    · simp only [Act.put, List.setIfInBounds_toArray, List.set_cons_zero, List.set_cons_succ, i64_w, i32_w]
      rfl
    refine pure_ (i := 6) (N := some 19) (v := undef) (a' := ?_) #[true, true, true, true, true, true, true, false, false, false, false, false, false] rfl rfl (any_of HT_.out (by kernel_rfl)) (fun _ _ _ h => h) (Or.inr ⟨by rfl, rfl⟩) ?_ ?_
    rotate_left
    · simp only [Act.put, List.setIfInBounds_toArray, List.set_cons_zero, List.set_cons_succ, i64_w, i32_w]
      rfl
    refine pure_ (i := 7) (N := some 20) (v := undef) (a' := ?_) #[true, true, true, true, true, true, true, true, false, false, false, false, false] rfl rfl (any_of HT_.out (by kernel_rfl)) (fun _ _ _ h => h) (Or.inr ⟨by rfl, rfl⟩) ?_ ?_
    rotate_left
    · simp only [Act.put, List.setIfInBounds_toArray, List.set_cons_zero, List.set_cons_succ, i64_w, i32_w]
      rfl
    refine pure_ (i := 8) (N := some 21) (v := undef) (a' := ?_) #[true, true, true, true, true, true, true, true, true, false, false, false, false] rfl rfl (any_of HT_.out (by kernel_rfl)) (fun _ _ _ h => h) (Or.inr ⟨by rfl, rfl⟩) ?_ ?_
    rotate_left
    · simp only [Act.put, List.setIfInBounds_toArray, List.set_cons_zero, List.set_cons_succ, i64_w, i32_w]
      rfl
    refine pure_ (i := 9) (N := some 22) (v := undef) (a' := ?_) #[true, true, true, true, true, true, true, true, true, true, false, false, false] rfl rfl (any_of HT_.out (by kernel_rfl)) (fun _ _ _ h => h) (Or.inr ⟨by rfl, rfl⟩) ?_ ?_
    rotate_left
    · simp only [Act.put, List.setIfInBounds_toArray, List.set_cons_zero, List.set_cons_succ, i64_w, i32_w]
      rfl
    refine pure_ (i := 10) (N := some 23) (v := undef) (a' := ?_) #[true, true, true, true, true, true, true, true, true, true, true, false, false] rfl rfl (any_of HT_.out (by kernel_rfl)) (fun _ _ _ h => h) (Or.inr ⟨by rfl, rfl⟩) ?_ ?_
    rotate_left
    · simp only [Act.put, List.setIfInBounds_toArray, List.set_cons_zero, List.set_cons_succ, i64_w, i32_w]
      rfl
    refine pure_ (i := 11) (N := some 24) (v := ?_) (a' := ?_) #[true, true, true, true, true, true, true, true, true, true, true, true, false] rfl rfl (any_of HT_.out (by kernel_rfl)) (fun _ _ _ h => h) (Or.inl ⟨by rfl, ?_⟩) ?_ ?_
    rotate_left
    · intro w'
      go_simp
      with_reducible rfl
    rotate_left
    · simp only [Act.put, List.setIfInBounds_toArray, List.set_cons_zero, List.set_cons_succ, i64_w, i32_w]
      rfl
    refine pure_ (i := 12) (N := some 4) (v := ?_) (a' := ?_) #[true, true, true, true, true, true, true, true, true, true, true, true, true] rfl rfl (any_of HT_.out (by kernel_rfl)) (fun _ _ _ h => h) (Or.inl ⟨by rfl, ?_⟩) ?_ ?_
    rotate_left
    · intro w'
      go_simp
      with_reducible rfl
    rotate_left
    · simp only [Act.put, List.setIfInBounds_toArray, List.set_cons_zero, List.set_cons_succ, i64_w, i32_w]
      rfl
    refine done_ (done_of HT_.out (by kernel_rfl)) ?_
    try go_wp2
    go_ret
    exact ⟨by first | rfl | (simp [errW_none, errW_some] <;> rfl) | (simp [*, errW_none, errW_some] <;> rfl), bw HB.out⟩


end Go.Proofs.Ytagedmajlppohaa.Q
