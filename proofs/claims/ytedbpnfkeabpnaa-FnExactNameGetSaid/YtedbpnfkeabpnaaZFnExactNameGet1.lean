/- Printed by a program of this session (wip/myprint.py), which drives the kit's printer: functions and what their calls do. -/
import Derived.Test.YtedbpnfkeabpnaaZFnExactNameGet0
namespace Go.Proofs.Ytedbpnfkeabpnaa.Q
open Go.RowKit Go Go.Proofs.YtedbpnfkeabpnaaW.PrintWords Go.Proofs.YtedbpnfkeabpnaaW.PrintLast Go.Proofs.YtedbpnfkeabpnaaW.PrintMore
attribute [local go_sem] max2_int min2_int max_two min_two max_three min_three max_four min_four   -- for this text's walks alone
set_option linter.unusedVariables false
set_option linter.unusedSimpArgs false

/-! ### impl_NameGet: function 26 -/
mutual
def impl_NameGet.j0 : Nat → List Int → Int → Bool → Option ((List (List Int)) × Int)
 | 0, _, _, _ => none
 | k + 1, x0, x1, x20 => if x20 = true then (some (([] : List (List Int)), (-1))) else (impl_NameGet.l0 k x0 x1 (-1) 0 ([] : List (List Int)))
def impl_NameGet.l0 : Nat → List Int → Int → Int → Int → List (List Int) → Option ((List (List Int)) × Int)
 | 0, _, _, _, _, _ => none
 | k + 1, x0, x1, x7, x8, x103000 => if x1 ≥ (x0.length : Int) then (some (([] : List (List Int)), (-1))) else (if 0 ≤ x1 then (if x1 < (x0.length : Int) then (if (wrap64 (rd x0 x1)) = 0 then (if x7 < 0 then ((impl_NameOk.f x103000).bind fun t104 => (if t104 = true then (some (x103000, wrap64 (x1 + 1))) else (some (([] : List (List Int)), (-1))))) else ((impl_NameOk.f x103000).bind fun t105 => (if t105 = true then (some (x103000, x7)) else (some (([] : List (List Int)), (-1)))))) else (if (wrap64 (rd x0 x1)) ≥ 192 then ((impl_get.f k x0 x1 2).bind fun bt106 => (if bt106.2 < 0 then (impl_NameGet.j2 k x0 x7 (wrap64 (x8 + 1)) (wrap64 (bt106.1 - 49152)) bt106.2 true x103000) else (if (wrap64 (bt106.1 - 49152)) ≥ x1 then (impl_NameGet.j2 k x0 x7 (wrap64 (x8 + 1)) (wrap64 (bt106.1 - 49152)) bt106.2 true x103000) else (impl_NameGet.j2 k x0 x7 (wrap64 (x8 + 1)) (wrap64 (bt106.1 - 49152)) bt106.2 (decide ((wrap64 (x8 + 1)) > 8)) x103000)))) else (if (wrap64 (rd x0 x1)) > 15 then (some (([] : List (List Int)), (-1))) else ((impl_Take.f x0 (wrap64 (x1 + 1)) (wrap64 (rd x0 x1))).bind fun bt108 => (if bt108.2 < 0 then (some (([] : List (List Int)), (-1))) else (if (x103000.length : Int) = 6 then (some (([] : List (List Int)), (-1))) else ((impl_Lower.f bt108.1).bind fun t112 => (if x103000.length < 5864062014805 then (impl_NameGet.l0 k x0 bt108.2 x7 x8 (x103000 ++ [t112])) else (none))))))))) else (none)) else (none))
def impl_NameGet.j2 : Nat → List Int → Int → Int → Int → Int → Bool → List (List Int) → Option ((List (List Int)) × Int)
 | 0, _, _, _, _, _, _, _ => none
 | k + 1, x0, x7, x8, x10, x11, x94, x103000 => if x94 = true then (some (([] : List (List Int)), (-1))) else (if x7 < 0 then (impl_NameGet.l0 k x0 x10 x11 x8 x103000) else (impl_NameGet.l0 k x0 x10 x7 x8 x103000))
end
def impl_NameGet.f (k : Nat) (l0 : List Int) (a1 : Int) : Option ((List (List Int)) × Int) := if (l0.length : Int) > 512 then (impl_NameGet.j0 k l0 a1 true) else (impl_NameGet.j0 k l0 a1 (decide (a1 < 0)))
theorem impl_NameGet.mono_l : ∀ k, (∀ y0 y1 y2, LeO (impl_NameGet.j0 k y0 y1 y2) (impl_NameGet.j0 (k + 1) y0 y1 y2)) ∧ (∀ y0 y1 y2 y3 y4, LeO (impl_NameGet.l0 k y0 y1 y2 y3 y4) (impl_NameGet.l0 (k + 1) y0 y1 y2 y3 y4)) ∧ (∀ y0 y1 y2 y3 y4 y5 y6, LeO (impl_NameGet.j2 k y0 y1 y2 y3 y4 y5 y6) (impl_NameGet.j2 (k + 1) y0 y1 y2 y3 y4 y5 y6))
 | 0 => ⟨fun _ _ _ r h => by simp [impl_NameGet.j0] at h, fun _ _ _ _ _ r h => by simp [impl_NameGet.l0] at h, fun _ _ _ _ _ _ _ r h => by simp [impl_NameGet.j2] at h⟩
 | k + 1 => by
  obtain ⟨ih0, ih1, ih2⟩ := impl_NameGet.mono_l k
  refine ⟨?_, ?_, ?_⟩
  ·intro y0 y1 y2
   unfold impl_NameGet.j0
   repeat' first
   | (with_reducible exact ih0 _ _ _)
   | (with_reducible exact ih1 _ _ _ _ _)
   | (with_reducible exact ih2 _ _ _ _ _ _ _)
   | (with_reducible exact impl_get.mono _ _ _ _)
   | (with_reducible exact LeO.refl _)
   | (with_reducible exact LeO.none _)
   | (with_reducible refine LeO.ite ?_ ?_)
   | (with_reducible refine LeO.bind ?_ (fun _ => ?_))
   | exact ih0 _ _ _
   | exact ih1 _ _ _ _ _
   | exact ih2 _ _ _ _ _ _ _
   | exact impl_get.mono _ _ _ _
   | exact LeO.none _
   | refine LeO.ite ?_ ?_
   | refine LeO.bind ?_ (fun _ => ?_)
  ·intro y0 y1 y2 y3 y4
   unfold impl_NameGet.l0
   repeat' first
   | (with_reducible exact ih0 _ _ _)
   | (with_reducible exact ih1 _ _ _ _ _)
   | (with_reducible exact ih2 _ _ _ _ _ _ _)
   | (with_reducible exact impl_get.mono _ _ _ _)
   | (with_reducible exact LeO.refl _)
   | (with_reducible exact LeO.none _)
   | (with_reducible refine LeO.ite ?_ ?_)
   | (with_reducible refine LeO.bind ?_ (fun _ => ?_))
   | exact ih0 _ _ _
   | exact ih1 _ _ _ _ _
   | exact ih2 _ _ _ _ _ _ _
   | exact impl_get.mono _ _ _ _
   | exact LeO.none _
   | refine LeO.ite ?_ ?_
   | refine LeO.bind ?_ (fun _ => ?_)
  ·intro y0 y1 y2 y3 y4 y5 y6
   unfold impl_NameGet.j2
   repeat' first
   | (with_reducible exact ih0 _ _ _)
   | (with_reducible exact ih1 _ _ _ _ _)
   | (with_reducible exact ih2 _ _ _ _ _ _ _)
   | (with_reducible exact impl_get.mono _ _ _ _)
   | (with_reducible exact LeO.refl _)
   | (with_reducible exact LeO.none _)
   | (with_reducible refine LeO.ite ?_ ?_)
   | (with_reducible refine LeO.bind ?_ (fun _ => ?_))
   | exact ih0 _ _ _
   | exact ih1 _ _ _ _ _
   | exact ih2 _ _ _ _ _ _ _
   | exact impl_get.mono _ _ _ _
   | exact LeO.none _
   | refine LeO.ite ?_ ?_
   | refine LeO.bind ?_ (fun _ => ?_)
theorem impl_NameGet.mono : ∀ a0 a1 k, LeO (impl_NameGet.f k a0 a1) (impl_NameGet.f (k + 1) a0 a1) := by
 intro a0 a1 k
 obtain ⟨ih0, ih1, ih2⟩ := impl_NameGet.mono_l k
 unfold impl_NameGet.f
 repeat' first
   | (with_reducible exact ih0 _ _ _)
   | (with_reducible exact ih1 _ _ _ _ _)
   | (with_reducible exact ih2 _ _ _ _ _ _ _)
   | (with_reducible exact impl_get.mono _ _ _ _)
   | (with_reducible exact LeO.refl _)
   | (with_reducible exact LeO.none _)
   | (with_reducible refine LeO.ite ?_ ?_)
   | (with_reducible refine LeO.bind ?_ (fun _ => ?_))
   | exact ih0 _ _ _
   | exact ih1 _ _ _ _ _
   | exact ih2 _ _ _ _ _ _ _
   | exact impl_get.mono _ _ _ _
   | exact LeO.none _
   | refine LeO.ite ?_ ?_
   | refine LeO.bind ?_ (fun _ => ?_)
def impl_NameGet.T10 : Bool × List (List Nat × List Nat) := (true, [([], []), ([0], [0]), ([], []), ([2], [2]), ([3], [3]), ([1, 4, 3], [1, 4]), ([], []), ([0, 1, 2, 3, 4, 5], []), ([7, 5, 5, 0, 1, 2, 3, 4, 5], [5, 7]), ([6, 8, 0, 1, 2, 3, 4, 5, 6, 7, 8], [6])])
def impl_NameGet.B10 : List Nat := [0, 1, 0, 4, 12, 31, 0, 63, 191, 511]
theorem impl_NameGet.tab10 : rtab .any (opsOf Try.f26 10) = impl_NameGet.T10 := by kernel_rfl
theorem impl_NameGet.bits10 : waitsOk impl_NameGet.T10.2 impl_NameGet.B10 = true := by kernel_rfl
set_option maxHeartbeats 8000000 in
set_option maxRecDepth 100000 in
theorem impl_NameGet.calls (k : Nat) (A0 : Option Addr) (c0 : Nat) (l0 : List Int) (a1 : Int) (r1 : List (List Int)) (r2 : Int) (w : World) (hr0 : Kd.C (Kd.int .u8) w A0 l0.length l0) (hc0 : l0.length ≤ c0) (h : impl_NameGet.f k l0 a1 = some (r1, r2)) :
  Calls Try.prog 26 #[.slice A0 l0.length c0, .int .i64 a1] w fun e w' => ∃ v0_ : Value, e = .returned (.tuple #[.agg #[v0_], .int .i64 r2]) ∧ Kd.S (Kd.slice 5 (Kd.int .u8)) 31 w' w.heap.size (fun _ => True) v0_ r1 ∧ Below w.heap.size w w' := by
 have hu27 := Try.underlying27
 have HR0 := Aside0.mk hr0
 have HC0 := Aside0.mk hc0
 clear hr0 hc0
 have HB := Aside0.mk (Below.refl w.heap.size w)
 have H : (if (l0.length : Int) > 512 then (impl_NameGet.j0 k l0 a1 true) else (impl_NameGet.j0 k l0 a1 (decide (a1 < 0)))) = some (r1, r2) := h
 clear h
 have HC3 := Aside0.mk H
 clear H
 go_enter Try.func26, Try.ntmps26
 go_upto_region 1 with (first | ((with_reducible refine gate_dst (N := 4) rfl ?_); (try (refine gate_guard (by rfl) ?_; dsimp only)); refine boxed (N := 4) rfl rfl (cs := #[.slice none 0 0]) (t := 27) HB.out (by first | (go_simp; done) | (go_simp; rfl)) ?_; clear HB; intro gb101 w4 hg HB BK101 GE101 hb; have GW101 := GE101; clear hb hg))
 (try simp only [Act.put, List.setIfInBounds_toArray, List.set_cons_zero, List.set_cons_succ])
 go_cut [20] (fun v20 wc => ∃ (kq : Nat) (x20_2 : Bool), v20 = .bool x20_2 ∧ Aside0 (impl_NameGet.j0 kq l0 a1 x20_2 = some (r1, r2)) ∧ Aside0 (kq ≤ k) ∧ Aside0 (wc.heap[gb101]? = some (.cells #[(.slice none 0 0)] 27 (0, 0))) ∧ Aside0 (Below w.heap.size w wc))
 case first =>
  have H := HC3.out
  clear HC3
  by_cases c5 : (l0.length : Int) > 512
  ·rw [if_pos c5] at H
   have c5b0 : decide (512 < (l0.length : Int)) = true := decide_eq_true c5
   have c5b1 : decide (512 < l0.length) = true := decide_eq_true (by omega)
   clear c5
   (first | rw [c5b0] | (simp only [i64_w, i32_w]; rw [c5b0]) | skip)
   have H' := Aside0.mk H
   clear H
   go_wp2
   go_meet
   case rel => exact ⟨_, (true), (by first | rfl | (simp; done) | (simp [*]; done)), H', ⟨by first | omega | exact Nat.le_refl _⟩, ⟨bk BK101.out⟩, ⟨by repeat (first | exact bw HB.out | refine below_set ?_ GE101.out)⟩⟩
  ·rw [if_neg c5] at H
   have c5b0 : decide (512 < (l0.length : Int)) = false := decide_eq_false c5
   have c5b1 : decide (512 < l0.length) = false := decide_eq_false (by omega)
   clear c5
   (first | rw [c5b0] | (simp only [i64_w, i32_w]; rw [c5b0]) | skip)
   have H' := Aside0.mk H
   clear H
   go_wp2
   go_meet
   case rel => exact ⟨_, (decide (a1 < 0)), (by first | rfl | (simp; done) | (simp [*]; done)), H', ⟨by first | omega | exact Nat.le_refl _⟩, ⟨bk BK101.out⟩, ⟨by repeat (first | exact bw HB.out | refine below_set ?_ GE101.out)⟩⟩
 case rest =>
  clear HC3
  try clear c2
  try clear p2
  try clear c5
  try clear c5b0
  try clear c5b1
  obtain ⟨kq, x20_2, rfl, HA, HJ2, BK101, HB⟩ := hcut
  cases kq with
  | zero => exact absurd HA.out (by simp [impl_NameGet.j0])
  | succ kj2 =>
   have H := HA.out
   clear HA
   simp only [impl_NameGet.j0] at H
   by_cases c6 : x20_2 = true
   ·subst c6
    have H1 : (some (([] : List (List Int)), (-1))) = some (r1, r2) := by rw [if_pos rfl] at H; exact H
    clear H
    have H := H1
    clear H1
    simp only [Option.some.injEq, Prod.mk.injEq] at H
    obtain ⟨rfl, rfl⟩ := H
    obtain ⟨hcz7_0, hfz7_0⟩ := cells1 BK101.out
    go_wp2
    refine bodyPost_ret (results_ct rfl _ _ gb101 27 #[.slice none 0 0] (0, 0) _ rfl (bput1 BK101.out) Try.underlying27 rfl (by kernel_rfl)) rfl ?_
    exact ⟨_, by first | rfl | (simp [errW_none, errW_some] <;> rfl) | (simp [*, errW_none, errW_some] <;> rfl), by first | exact Kd.S_nil _ _ _ _ _ | exact Kd.N_nil _ _ _ _ _ | exact Kd.V_nil _ _ _ _ _ | exact Kd.Q_nil _ _ _ _ _ | exact Kd.R_nil _ _ _ _ _, by repeat (first | exact bw HB.out | refine below_set ?_ GE101.out)⟩
   ·replace c6 := Bool.eq_false_iff.mpr c6
    subst c6
    have H1 : (impl_NameGet.l0 kj2 l0 a1 (-1) 0 ([] : List (List Int))) = some (r1, r2) := by rw [if_neg (show ¬ (false = true) by decide)] at H; exact H
    clear H
    have H := H1
    clear H1
    have H' := Aside0.mk H
    clear H
    go_wp2_with (first | ((with_reducible refine gate_dst (N := 6) rfl ?_); (try (refine gate_guard (by rfl) ?_; dsimp only)); refine box_event ?hg (N := 6) ?hd (cs := #[.slice none 0 0]) (t := 27) ?hr ?_; (case hd => rfl); (case hg => rfl); (case hr => first | (go_simp; done) | (go_simp; rfl)); intro gb102 hg w8 hbox hb; have BK102 := Aside0.mk (hbox); have GW102 := Aside0.mk ((by rw [hg]; exact (below_size (by repeat (first | exact bw HB.out | refine below_set ?_ GE101.out))) : w.heap.size ≤ gb102)); have GE102 := Aside0.mk ((by rw [hg]; exact (below_size (by repeat (first | exact bw HB.out | refine below_set ?_ GE101.out))) : w.heap.size ≤ gb102)); replace HB := Aside0.mk (below_step (by repeat (first | exact bw HB.out | refine below_set ?_ GE101.out)) hb); have NB101_102 := Aside0.mk ((by rw [hg]; exact Nat.ne_of_lt (blk_lt (bk BK101.out)) : gb101 ≠ gb102)); have NB102_101 := Aside0.mk ((by rw [hg]; exact Nat.ne_of_gt (blk_lt (bk BK101.out)) : gb102 ≠ gb101)); replace BK101 := Aside0.mk (blk_below (bk BK101.out) hb); clear hb hbox hg; have hnb9 := NB102_101.out; have hnc9 := NB101_102.out; obtain ⟨hcz10_0, hfz10_0⟩ := cells1 BK102.out))
    go_loopg [1, 7, 8] kj2 (fun kq v1 v7 v8 w' => ∃ (x1_2 : Int) (x7_2 : Int) (x8_2 : Int) (x103000_2 : List (List Int)) (u103000 : Value), v1 = .int .i64 x1_2 ∧ v7 = .int .i64 x7_2 ∧ v8 = .int .i64 x8_2 ∧ Aside0 (impl_NameGet.l0 kq l0 x1_2 x7_2 x8_2 x103000_2 = some (r1, r2)) ∧ Aside0 (kq ≤ kj2) ∧ Aside0 (Kd.S (Kd.slice 5 (Kd.int .u8)) 31 w' w.heap.size (fun _ => True) u103000 x103000_2) ∧ Aside0 (w'.heap[gb101]? = some (.cells #[(.slice none 0 0)] 27 (0, 0))) ∧ Aside0 (w'.heap[gb102]? = some (.cells #[u103000] 27 (0, 0))) ∧ Aside0 (Below w.heap.size w w'))
    case atStart => exact ⟨(a1), ((-1)), (0), (([] : List (List Int))), (.slice none 0 0), (by first | rfl | (simp; done) | (simp [*]; done)), (by first | rfl | (simp; done) | (simp [*]; done)), (by first | rfl | (simp; done) | (simp [*]; done)), H', ⟨Nat.le_refl _⟩, ⟨by first | exact Kd.S_nil _ _ _ _ _ | exact Kd.N_nil _ _ _ _ _ | exact Kd.V_nil _ _ _ _ _ | exact Kd.Q_nil _ _ _ _ _ | exact Kd.R_nil _ _ _ _ _⟩, ⟨bfar1 NB101_102.out BK101.out⟩, ⟨bput1 BK102.out⟩, ⟨by repeat (first | exact bw HB.out | refine below_set ?_ GE101.out | refine below_set ?_ GE102.out)⟩⟩
    case round =>
     clear H'
     try clear c2
     try clear p2
     try clear c5
     try clear c5b0
     try clear c5b1
     try clear c6
     try clear c9
     try clear hcz10_0
     try clear hcz7_0
     try clear hfz10_0
     try clear hfz7_0
     try clear p2
     obtain ⟨x1_2, x7_2, x8_2, x103000_2, u103000, rfl, rfl, rfl, HA, HK2, HO_103000, BK101, BK102, HB⟩ := hrel
     cases gk with
     | zero => exact absurd HA.out (by simp [impl_NameGet.l0])
     | succ k2 =>
      have H := HA.out
      clear HA
      simp only [impl_NameGet.l0] at H
      by_cases c11 : x1_2 ≥ (l0.length : Int)
      ·rw [if_pos c11] at H
       have c11b0 : decide ((l0.length : Int) ≤ x1_2) = true := decide_eq_true c11
       clear c11
       simp only [Option.some.injEq, Prod.mk.injEq] at H
       obtain ⟨rfl, rfl⟩ := H
       have hnb12 := NB101_102.out
       have hnc12 := NB102_101.out
       obtain ⟨hcz13_0, hfz13_0⟩ := cells1 BK101.out
       go_wp2
       refine bodyPost_ret (results_ct rfl _ _ gb101 27 #[.slice none 0 0] (0, 0) _ rfl (bput1 BK101.out) Try.underlying27 rfl (by kernel_rfl)) rfl ?_
       exact ⟨_, by first | rfl | (simp [errW_none, errW_some] <;> rfl) | (simp [*, errW_none, errW_some] <;> rfl), by first | exact Kd.S_nil _ _ _ _ _ | exact Kd.N_nil _ _ _ _ _ | exact Kd.V_nil _ _ _ _ _ | exact Kd.Q_nil _ _ _ _ _ | exact Kd.R_nil _ _ _ _ _, by repeat (first | exact bw HB.out | refine below_set ?_ GE101.out | refine below_set ?_ GE102.out)⟩
      ·rw [if_neg c11] at H
       have c11b0 : decide ((l0.length : Int) ≤ x1_2) = false := decide_eq_false c11
       clear c11
       by_cases c14 : 0 ≤ x1_2
       ·rw [if_pos c14] at H
        have c14b0 : decide (0 ≤ x1_2) = true := decide_eq_true c14
        clear c14
        by_cases c15 : x1_2 < (l0.length : Int)
        ·rw [if_pos c15] at H
         have c15b0 : decide (x1_2 < (l0.length : Int)) = true := decide_eq_true c15
         clear c15
         by_cases c16 : (wrap64 (rd l0 x1_2)) = 0
         ·rw [if_pos c16] at H
          have c16b0 : ((wrap64 (rd l0 x1_2)) == 0) = true := beq_iff_eq.mpr c16
          have c16b1 : ((wrap64 (rd l0 x1_2)) != 0) = false := bne_eq_false_iff_eq.mpr c16
          clear c16
          by_cases c17 : x7_2 < 0
          ·rw [if_pos c17] at H
           have c17b0 : decide (x7_2 < 0) = true := decide_eq_true c17
           clear c17
           replace H := Option.bind_eq_some_iff.mp H
           obtain ⟨t104, A180, H⟩ := H
           replace H : (if t104 = true then (some (x103000_2, wrap64 (x1_2 + 1))) else (some (([] : List (List Int)), (-1)))) = some (r1, r2) := H
           have A18 := Aside0.mk A180
           clear A180
           by_cases c19 : t104 = true
           ·subst c19
            have H1 : (some (x103000_2, wrap64 (x1_2 + 1))) = some (r1, r2) := by rw [if_pos rfl] at H; exact H
            clear H
            have H := H1
            clear H1
            simp only [Option.some.injEq, Prod.mk.injEq] at H
            obtain ⟨rfl, rfl⟩ := H
            have p103 : 0 ≤ (x1_2 : Int) := of_decide_eq_true (by first | (with_reducible assumption) | assumption)
            have q103 : x1_2 < (l0.length : Int) := of_decide_eq_true (by first | (with_reducible assumption) | assumption)
            obtain ⟨ad103, e103, hx103_0⟩ := Kd.at_int HR0.out x1_2 p103 q103
            cases e103
            replace hx103_0 := (HB.out.cell (World.block_lt_of_cell? w _ hx103_0)).trans hx103_0
            replace p103 := eq_true p103
            replace q103 := eq_true q103
            have hnb20 := NB102_101.out
            have hnc20 := NB101_102.out
            obtain ⟨hcz21_0, hfz21_0⟩ := cells1 BK102.out
            obtain ⟨Ao22, co22, eo22⟩ := Kd.S_slice HO_103000.out
            subst eo22
            go_wp2_with (first | ((with_reducible refine gate_callee (f := 53) rfl ?_); refine goesL_ (some 66) rfl rfl Try.func53 (by kernel_rfl) rfl #[.agg #[.slice Ao22 x103000_2.length co22]] rfl (by (try simp only [List.map_toArray, List.map_cons, List.map_nil]); first | done | rfl | (simp only [List.length_drop, List.length_take]; rfl)) ?_; (with_reducible refine (impl_NameOk.calls _ _ x103000_2 true _ ?side1 ?side2 A18.out).mono ?_); (case side1 => repeat (first | exact (Kd.S_reads' HO_103000.out).2.2 | (with_reducible refine Kd.C_alloc ?_ _) | (with_reducible refine Kd.C_drewN ?_ _) | (with_reducible refine Kd.C_drew ?_))); (case side2 => exact (Kd.S_reads' HO_103000.out).2.1); rintro e w23 ⟨rfl, hb⟩; refine ⟨_, rfl, ?_⟩; replace HO_103000 := Aside0.mk (Kd.S_below (sw HO_103000.out) hb); replace BK101 := Aside0.mk (blk_below (bk BK101.out) hb); replace BK102 := Aside0.mk (blk_below (bk BK102.out) hb); replace HB := Aside0.mk (below_step (by repeat (first | exact bw HB.out | refine below_set ?_ GE101.out | refine below_set ?_ GE102.out)) hb); (try clear hb); obtain ⟨hcz24_0, hfz24_0⟩ := cells1 BK102.out; obtain ⟨hcz25_0, hfz25_0⟩ := cells1 BK101.out))
            refine bodyPost_ret (results_ct rfl _ _ gb101 27 #[.slice Ao22 x103000_2.length co22] (0, 0) _ rfl (bput1 BK101.out) Try.underlying27 rfl (by kernel_rfl)) rfl ?_
            exact ⟨_, by first | rfl | (simp [errW_none, errW_some] <;> rfl) | (simp [*, errW_none, errW_some] <;> rfl), by (with_reducible repeat (first | apply Kd.S_alloc | apply Kd.S_drewN | apply Kd.S_drew)); exact Kd.S_mono (Kd.S_far (p := ⟨gb101, 0, none⟩) (Kd.S_types HO_103000.out BK101.out (by decide)) (fun _ hk => hk.2) (.slice Ao22 x103000_2.length co22)) (fun _ hk => trivial), by repeat (first | exact bw HB.out | refine below_set ?_ GE101.out | refine below_set ?_ GE102.out)⟩
           ·replace c19 := Bool.eq_false_iff.mpr c19
            subst c19
            have H1 : (some (([] : List (List Int)), (-1))) = some (r1, r2) := by rw [if_neg (show ¬ (false = true) by decide)] at H; exact H
            clear H
            have H := H1
            clear H1
            simp only [Option.some.injEq, Prod.mk.injEq] at H
            obtain ⟨rfl, rfl⟩ := H
            have p103 : 0 ≤ (x1_2 : Int) := of_decide_eq_true (by first | (with_reducible assumption) | assumption)
            have q103 : x1_2 < (l0.length : Int) := of_decide_eq_true (by first | (with_reducible assumption) | assumption)
            obtain ⟨ad103, e103, hx103_0⟩ := Kd.at_int HR0.out x1_2 p103 q103
            cases e103
            replace hx103_0 := (HB.out.cell (World.block_lt_of_cell? w _ hx103_0)).trans hx103_0
            replace p103 := eq_true p103
            replace q103 := eq_true q103
            have hnb26 := NB102_101.out
            have hnc26 := NB101_102.out
            obtain ⟨hcz27_0, hfz27_0⟩ := cells1 BK102.out
            obtain ⟨Ao28, co28, eo28⟩ := Kd.S_slice HO_103000.out
            subst eo28
            go_wp2_with (first | ((with_reducible refine gate_callee (f := 53) rfl ?_); refine goesL_ (some 66) rfl rfl Try.func53 (by kernel_rfl) rfl #[.agg #[.slice Ao28 x103000_2.length co28]] rfl (by (try simp only [List.map_toArray, List.map_cons, List.map_nil]); first | done | rfl | (simp only [List.length_drop, List.length_take]; rfl)) ?_; (with_reducible refine (impl_NameOk.calls _ _ x103000_2 false _ ?side1 ?side2 A18.out).mono ?_); (case side1 => repeat (first | exact (Kd.S_reads' HO_103000.out).2.2 | (with_reducible refine Kd.C_alloc ?_ _) | (with_reducible refine Kd.C_drewN ?_ _) | (with_reducible refine Kd.C_drew ?_))); (case side2 => exact (Kd.S_reads' HO_103000.out).2.1); rintro e w29 ⟨rfl, hb⟩; refine ⟨_, rfl, ?_⟩; replace HO_103000 := Aside0.mk (Kd.S_below (sw HO_103000.out) hb); replace BK101 := Aside0.mk (blk_below (bk BK101.out) hb); replace BK102 := Aside0.mk (blk_below (bk BK102.out) hb); replace HB := Aside0.mk (below_step (by repeat (first | exact bw HB.out | refine below_set ?_ GE101.out | refine below_set ?_ GE102.out)) hb); (try clear hb); obtain ⟨hcz30_0, hfz30_0⟩ := cells1 BK101.out))
            refine bodyPost_ret (results_ct rfl _ _ gb101 27 #[.slice none 0 0] (0, 0) _ rfl (bput1 BK101.out) Try.underlying27 rfl (by kernel_rfl)) rfl ?_
            exact ⟨_, by first | rfl | (simp [errW_none, errW_some] <;> rfl) | (simp [*, errW_none, errW_some] <;> rfl), by first | exact Kd.S_nil _ _ _ _ _ | exact Kd.N_nil _ _ _ _ _ | exact Kd.V_nil _ _ _ _ _ | exact Kd.Q_nil _ _ _ _ _ | exact Kd.R_nil _ _ _ _ _, by repeat (first | exact bw HB.out | refine below_set ?_ GE101.out | refine below_set ?_ GE102.out)⟩
          ·rw [if_neg c17] at H
           have c17b0 : decide (x7_2 < 0) = false := decide_eq_false c17
           clear c17
           replace H := Option.bind_eq_some_iff.mp H
           obtain ⟨t105, A310, H⟩ := H
           replace H : (if t105 = true then (some (x103000_2, x7_2)) else (some (([] : List (List Int)), (-1)))) = some (r1, r2) := H
           have A31 := Aside0.mk A310
           clear A310
           by_cases c32 : t105 = true
           ·subst c32
            have H1 : (some (x103000_2, x7_2)) = some (r1, r2) := by rw [if_pos rfl] at H; exact H
            clear H
            have H := H1
            clear H1
            simp only [Option.some.injEq, Prod.mk.injEq] at H
            obtain ⟨rfl, rfl⟩ := H
            have p103 : 0 ≤ (x1_2 : Int) := of_decide_eq_true (by first | (with_reducible assumption) | assumption)
            have q103 : x1_2 < (l0.length : Int) := of_decide_eq_true (by first | (with_reducible assumption) | assumption)
            obtain ⟨ad103, e103, hx103_0⟩ := Kd.at_int HR0.out x1_2 p103 q103
            cases e103
            replace hx103_0 := (HB.out.cell (World.block_lt_of_cell? w _ hx103_0)).trans hx103_0
            replace p103 := eq_true p103
            replace q103 := eq_true q103
            have hnb33 := NB102_101.out
            have hnc33 := NB101_102.out
            obtain ⟨hcz34_0, hfz34_0⟩ := cells1 BK102.out
            obtain ⟨Ao35, co35, eo35⟩ := Kd.S_slice HO_103000.out
            subst eo35
            go_wp2_with (first | ((with_reducible refine gate_callee (f := 53) rfl ?_); refine goesL_ (some 66) rfl rfl Try.func53 (by kernel_rfl) rfl #[.agg #[.slice Ao35 x103000_2.length co35]] rfl (by (try simp only [List.map_toArray, List.map_cons, List.map_nil]); first | done | rfl | (simp only [List.length_drop, List.length_take]; rfl)) ?_; (with_reducible refine (impl_NameOk.calls _ _ x103000_2 true _ ?side1 ?side2 A31.out).mono ?_); (case side1 => repeat (first | exact (Kd.S_reads' HO_103000.out).2.2 | (with_reducible refine Kd.C_alloc ?_ _) | (with_reducible refine Kd.C_drewN ?_ _) | (with_reducible refine Kd.C_drew ?_))); (case side2 => exact (Kd.S_reads' HO_103000.out).2.1); rintro e w36 ⟨rfl, hb⟩; refine ⟨_, rfl, ?_⟩; replace HO_103000 := Aside0.mk (Kd.S_below (sw HO_103000.out) hb); replace BK101 := Aside0.mk (blk_below (bk BK101.out) hb); replace BK102 := Aside0.mk (blk_below (bk BK102.out) hb); replace HB := Aside0.mk (below_step (by repeat (first | exact bw HB.out | refine below_set ?_ GE101.out | refine below_set ?_ GE102.out)) hb); (try clear hb); obtain ⟨hcz37_0, hfz37_0⟩ := cells1 BK102.out; obtain ⟨hcz38_0, hfz38_0⟩ := cells1 BK101.out))
            refine bodyPost_ret (results_ct rfl _ _ gb101 27 #[.slice Ao35 x103000_2.length co35] (0, 0) _ rfl (bput1 BK101.out) Try.underlying27 rfl (by kernel_rfl)) rfl ?_
            exact ⟨_, by first | rfl | (simp [errW_none, errW_some] <;> rfl) | (simp [*, errW_none, errW_some] <;> rfl), by (with_reducible repeat (first | apply Kd.S_alloc | apply Kd.S_drewN | apply Kd.S_drew)); exact Kd.S_mono (Kd.S_far (p := ⟨gb101, 0, none⟩) (Kd.S_types HO_103000.out BK101.out (by decide)) (fun _ hk => hk.2) (.slice Ao35 x103000_2.length co35)) (fun _ hk => trivial), by repeat (first | exact bw HB.out | refine below_set ?_ GE101.out | refine below_set ?_ GE102.out)⟩
           ·replace c32 := Bool.eq_false_iff.mpr c32
            subst c32
            have H1 : (some (([] : List (List Int)), (-1))) = some (r1, r2) := by rw [if_neg (show ¬ (false = true) by decide)] at H; exact H
            clear H
            have H := H1
            clear H1
            simp only [Option.some.injEq, Prod.mk.injEq] at H
            obtain ⟨rfl, rfl⟩ := H
            have p103 : 0 ≤ (x1_2 : Int) := of_decide_eq_true (by first | (with_reducible assumption) | assumption)
            have q103 : x1_2 < (l0.length : Int) := of_decide_eq_true (by first | (with_reducible assumption) | assumption)
            obtain ⟨ad103, e103, hx103_0⟩ := Kd.at_int HR0.out x1_2 p103 q103
            cases e103
            replace hx103_0 := (HB.out.cell (World.block_lt_of_cell? w _ hx103_0)).trans hx103_0
            replace p103 := eq_true p103
            replace q103 := eq_true q103
            have hnb39 := NB102_101.out
            have hnc39 := NB101_102.out
            obtain ⟨hcz40_0, hfz40_0⟩ := cells1 BK102.out
            obtain ⟨Ao41, co41, eo41⟩ := Kd.S_slice HO_103000.out
            subst eo41
            go_wp2_with (first | ((with_reducible refine gate_callee (f := 53) rfl ?_); refine goesL_ (some 66) rfl rfl Try.func53 (by kernel_rfl) rfl #[.agg #[.slice Ao41 x103000_2.length co41]] rfl (by (try simp only [List.map_toArray, List.map_cons, List.map_nil]); first | done | rfl | (simp only [List.length_drop, List.length_take]; rfl)) ?_; (with_reducible refine (impl_NameOk.calls _ _ x103000_2 false _ ?side1 ?side2 A31.out).mono ?_); (case side1 => repeat (first | exact (Kd.S_reads' HO_103000.out).2.2 | (with_reducible refine Kd.C_alloc ?_ _) | (with_reducible refine Kd.C_drewN ?_ _) | (with_reducible refine Kd.C_drew ?_))); (case side2 => exact (Kd.S_reads' HO_103000.out).2.1); rintro e w42 ⟨rfl, hb⟩; refine ⟨_, rfl, ?_⟩; replace HO_103000 := Aside0.mk (Kd.S_below (sw HO_103000.out) hb); replace BK101 := Aside0.mk (blk_below (bk BK101.out) hb); replace BK102 := Aside0.mk (blk_below (bk BK102.out) hb); replace HB := Aside0.mk (below_step (by repeat (first | exact bw HB.out | refine below_set ?_ GE101.out | refine below_set ?_ GE102.out)) hb); (try clear hb); obtain ⟨hcz43_0, hfz43_0⟩ := cells1 BK101.out))
            refine bodyPost_ret (results_ct rfl _ _ gb101 27 #[.slice none 0 0] (0, 0) _ rfl (bput1 BK101.out) Try.underlying27 rfl (by kernel_rfl)) rfl ?_
            exact ⟨_, by first | rfl | (simp [errW_none, errW_some] <;> rfl) | (simp [*, errW_none, errW_some] <;> rfl), by first | exact Kd.S_nil _ _ _ _ _ | exact Kd.N_nil _ _ _ _ _ | exact Kd.V_nil _ _ _ _ _ | exact Kd.Q_nil _ _ _ _ _ | exact Kd.R_nil _ _ _ _ _, by repeat (first | exact bw HB.out | refine below_set ?_ GE101.out | refine below_set ?_ GE102.out)⟩
         ·rw [if_neg c16] at H
          have c16b0 : ((wrap64 (rd l0 x1_2)) == 0) = false := beq_eq_false_iff_ne.mpr c16
          have c16b1 : ((wrap64 (rd l0 x1_2)) != 0) = true := bne_iff_ne.mpr c16
          by_cases c44 : (wrap64 (rd l0 x1_2)) ≥ 192
          ·rw [if_pos c44] at H
           have c44b0 : decide (192 ≤ (wrap64 (rd l0 x1_2))) = true := decide_eq_true c44
           clear c44
           replace H := Option.bind_eq_some_iff.mp H
           obtain ⟨⟨t106, t107⟩, A450, H⟩ := H
           replace H : (if t107 < 0 then (impl_NameGet.j2 k2 l0 x7_2 (wrap64 (x8_2 + 1)) (wrap64 (t106 - 49152)) t107 true x103000_2) else (if (wrap64 (t106 - 49152)) ≥ x1_2 then (impl_NameGet.j2 k2 l0 x7_2 (wrap64 (x8_2 + 1)) (wrap64 (t106 - 49152)) t107 true x103000_2) else (impl_NameGet.j2 k2 l0 x7_2 (wrap64 (x8_2 + 1)) (wrap64 (t106 - 49152)) t107 (decide ((wrap64 (x8_2 + 1)) > 8)) x103000_2))) = some (r1, r2) := H
           have A45 := Aside0.mk A450
           clear A450
           have HC46 := Aside0.mk H
           clear H
           have p103 : 0 ≤ (x1_2 : Int) := of_decide_eq_true (by first | (with_reducible assumption) | assumption)
           have q103 : x1_2 < (l0.length : Int) := of_decide_eq_true (by first | (with_reducible assumption) | assumption)
           obtain ⟨ad103, e103, hx103_0⟩ := Kd.at_int HR0.out x1_2 p103 q103
           cases e103
           replace hx103_0 := (HB.out.cell (World.block_lt_of_cell? w _ hx103_0)).trans hx103_0
           replace p103 := eq_true p103
           replace q103 := eq_true q103
           go_upto_region 21 with (first | ((with_reducible refine gate_callee (f := 61) rfl ?_); refine goesL_ (some 77) rfl rfl Try.func61 (by kernel_rfl) rfl #[.slice (some ad103) l0.length c0, .int .i64 x1_2, .int .i64 2] rfl (by (try simp only [List.map_toArray, List.map_cons, List.map_nil]); first | done | rfl | (simp only [List.length_drop, List.length_take]; rfl)) ?_; (with_reducible refine (impl_get.calls k2 _ _ l0 x1_2 2 t106 t107 _ ?side1 ?side2 A45.out).mono ?_); (case side1 => exact cw HR0.out HB.out); (case side2 => exact HC0.out); rintro e w' ⟨rfl, ⟨nd, rfl⟩⟩; refine ⟨_, rfl, ?_⟩))
           (try simp only [Act.put, List.setIfInBounds_toArray, List.set_cons_zero, List.set_cons_succ])
           go_cut [94] (fun v94 wc => ∃ (kq : Nat) (x94_45 : Bool), v94 = .bool x94_45 ∧ Aside0 (impl_NameGet.j2 kq l0 x7_2 (wrap64 (x8_2 + 1)) (wrap64 (t106 - 49152)) t107 x94_45 x103000_2 = some (r1, r2)) ∧ Aside0 (kq ≤ k2) ∧ Aside0 (Kd.S (Kd.slice 5 (Kd.int .u8)) 31 wc w.heap.size (fun _ => True) u103000 x103000_2) ∧ Aside0 (wc.heap[gb101]? = some (.cells #[(.slice none 0 0)] 27 (0, 0))) ∧ Aside0 (wc.heap[gb102]? = some (.cells #[u103000] 27 (0, 0))) ∧ Aside0 (Below w.heap.size w wc))
           case first =>
            have H := HC46.out
            clear HC46
            by_cases c47 : t107 < 0
            ·rw [if_pos c47] at H
             have c47b0 : decide (t107 < 0) = true := decide_eq_true c47
             clear c47
             (first | rw [c47b0] | (simp only [i64_w, i32_w]; rw [c47b0]) | skip)
             have H' := Aside0.mk H
             clear H
             go_wp2
             go_meet
             case rel => exact ⟨_, (true), (by first | rfl | (simp; done) | (simp [*]; done)), H', ⟨by have := HJ2.out; have := HK2.out; first | omega | exact Nat.le_refl _⟩, ⟨sw HO_103000.out⟩, ⟨bk BK101.out⟩, ⟨bk BK102.out⟩, ⟨by repeat (first | exact bw HB.out | refine below_set ?_ GE101.out | refine below_set ?_ GE102.out)⟩⟩
            ·rw [if_neg c47] at H
             have c47b0 : decide (t107 < 0) = false := decide_eq_false c47
             clear c47
             (first | rw [c47b0] | (simp only [i64_w, i32_w]; rw [c47b0]) | skip)
             by_cases c48 : (wrap64 (t106 - 49152)) ≥ x1_2
             ·rw [if_pos c48] at H
              have c48b0 : decide (x1_2 ≤ (wrap64 (t106 - 49152))) = true := decide_eq_true c48
              clear c48
              have H' := Aside0.mk H
              clear H
              go_wp2
              go_meet
              case rel => exact ⟨_, (true), (by first | rfl | (simp; done) | (simp [*]; done)), H', ⟨by have := HJ2.out; have := HK2.out; first | omega | exact Nat.le_refl _⟩, ⟨sw HO_103000.out⟩, ⟨bk BK101.out⟩, ⟨bk BK102.out⟩, ⟨by repeat (first | exact bw HB.out | refine below_set ?_ GE101.out | refine below_set ?_ GE102.out)⟩⟩
             ·rw [if_neg c48] at H
              have c48b0 : decide (x1_2 ≤ (wrap64 (t106 - 49152))) = false := decide_eq_false c48
              clear c48
              have H' := Aside0.mk H
              clear H
              go_wp2
              go_meet
              case rel => exact ⟨_, (decide ((wrap64 (x8_2 + 1)) > 8)), (by first | rfl | (simp; done) | (simp [*]; done)), H', ⟨by have := HJ2.out; have := HK2.out; first | omega | exact Nat.le_refl _⟩, ⟨sw HO_103000.out⟩, ⟨bk BK101.out⟩, ⟨bk BK102.out⟩, ⟨by repeat (first | exact bw HB.out | refine below_set ?_ GE101.out | refine below_set ?_ GE102.out)⟩⟩
           case rest =>
            clear HC46
            try clear c1
            try clear p1
            try clear q1
            try clear hx1
            try clear c2
            try clear p2
            try clear c3
            try clear c4
            try clear c5
            try clear c5b0
            try clear c5b1
            try clear c6
            try clear p6
            try clear c9
            try clear p10
            try clear q10
            try clear hx10
            try clear c11
            try clear c11b0
            try clear c12
            try clear c14
            try clear c14b0
            try clear c15
            try clear c15b0
            try clear c16
            try clear c16b0
            try clear c16b1
            try clear c17
            try clear c17b0
            try clear c19
            try clear c20
            try clear c26
            try clear c32
            try clear c33
            try clear c39
            try clear c44
            try clear c44b0
            try clear c47
            try clear c47b0
            try clear c48
            try clear c48b0
            try clear hcz10_0
            try clear hcz13_0
            try clear hcz21_0
            try clear hcz24_0
            try clear hcz25_0
            try clear hcz27_0
            try clear hcz30_0
            try clear hcz34_0
            try clear hcz37_0
            try clear hcz38_0
            try clear hcz40_0
            try clear hcz43_0
            try clear hcz7_0
            try clear hfz10_0
            try clear hfz13_0
            try clear hfz21_0
            try clear hfz24_0
            try clear hfz25_0
            try clear hfz27_0
            try clear hfz30_0
            try clear hfz34_0
            try clear hfz37_0
            try clear hfz38_0
            try clear hfz40_0
            try clear hfz43_0
            try clear hfz7_0
            try clear hx103_0
            try clear p103
            try clear p2
            try clear q103
            obtain ⟨kq, x94_45, rfl, HA, HJ45, HO_103000, BK101, BK102, HB⟩ := hcut
            cases kq with
            | zero => exact absurd HA.out (by simp [impl_NameGet.j2])
            | succ kj45 =>
             have H := HA.out
             clear HA
             simp only [impl_NameGet.j2] at H
             by_cases c49 : x94_45 = true
             ·subst c49
              have H1 : (some (([] : List (List Int)), (-1))) = some (r1, r2) := by rw [if_pos rfl] at H; exact H
              clear H
              have H := H1
              clear H1
              simp only [Option.some.injEq, Prod.mk.injEq] at H
              obtain ⟨rfl, rfl⟩ := H
              have hnb50 := NB101_102.out
              have hnc50 := NB102_101.out
              obtain ⟨hcz51_0, hfz51_0⟩ := cells1 BK101.out
              go_wp2
              refine bodyPost_ret (results_ct rfl _ _ gb101 27 #[.slice none 0 0] (0, 0) _ rfl (bput1 BK101.out) Try.underlying27 rfl (by kernel_rfl)) rfl ?_
              exact ⟨_, by first | rfl | (simp [errW_none, errW_some] <;> rfl) | (simp [*, errW_none, errW_some] <;> rfl), by first | exact Kd.S_nil _ _ _ _ _ | exact Kd.N_nil _ _ _ _ _ | exact Kd.V_nil _ _ _ _ _ | exact Kd.Q_nil _ _ _ _ _ | exact Kd.R_nil _ _ _ _ _, by repeat (first | exact bw HB.out | refine below_set ?_ GE101.out | refine below_set ?_ GE102.out)⟩
             ·replace c49 := Bool.eq_false_iff.mpr c49
              subst c49
              have H1 : (if x7_2 < 0 then (impl_NameGet.l0 kj45 l0 (wrap64 (t106 - 49152)) t107 (wrap64 (x8_2 + 1)) x103000_2) else (impl_NameGet.l0 kj45 l0 (wrap64 (t106 - 49152)) x7_2 (wrap64 (x8_2 + 1)) x103000_2)) = some (r1, r2) := by rw [if_neg (show ¬ (false = true) by decide)] at H; exact H
              clear H
              have H := H1
              clear H1
              by_cases c52 : x7_2 < 0
              ·rw [if_pos c52] at H
               have c52b0 : decide (x7_2 < 0) = true := decide_eq_true c52
               clear c52
               have H' := Aside0.mk H
               clear H
               go_wp2
               go_roundg kj45
               case measure => have := HJ2.out; have := HK2.out; have := HJ45.out; omega
               case rel => exact ⟨((wrap64 (t106 - 49152))), (t107), ((wrap64 (x8_2 + 1))), (x103000_2), (u103000), (by first | rfl | (simp; done) | (simp [*]; done)), (by first | rfl | (simp; done) | (simp [*]; done)), (by first | rfl | (simp; done) | (simp [*]; done)), H', ⟨by have := HJ2.out; have := HK2.out; have := HJ45.out; omega⟩, ⟨sw HO_103000.out⟩, ⟨bk BK101.out⟩, ⟨bk BK102.out⟩, ⟨by repeat (first | exact bw HB.out | refine below_set ?_ GE101.out | refine below_set ?_ GE102.out)⟩⟩
              ·rw [if_neg c52] at H
               have c52b0 : decide (x7_2 < 0) = false := decide_eq_false c52
               clear c52
               have H' := Aside0.mk H
               clear H
               go_wp2
               go_roundg kj45
               case measure => have := HJ2.out; have := HK2.out; have := HJ45.out; omega
               case rel => exact ⟨((wrap64 (t106 - 49152))), (x7_2), ((wrap64 (x8_2 + 1))), (x103000_2), (u103000), (by first | rfl | (simp; done) | (simp [*]; done)), (by first | rfl | (simp; done) | (simp [*]; done)), (by first | rfl | (simp; done) | (simp [*]; done)), H', ⟨by have := HJ2.out; have := HK2.out; have := HJ45.out; omega⟩, ⟨sw HO_103000.out⟩, ⟨bk BK101.out⟩, ⟨bk BK102.out⟩, ⟨by repeat (first | exact bw HB.out | refine below_set ?_ GE101.out | refine below_set ?_ GE102.out)⟩⟩
          ·rw [if_neg c44] at H
           have c44b0 : decide (192 ≤ (wrap64 (rd l0 x1_2))) = false := decide_eq_false c44
           clear c44
           by_cases c53 : (wrap64 (rd l0 x1_2)) > 15
           ·rw [if_pos c53] at H
            have c53b0 : decide (15 < (wrap64 (rd l0 x1_2))) = true := decide_eq_true c53
            clear c53
            simp only [Option.some.injEq, Prod.mk.injEq] at H
            obtain ⟨rfl, rfl⟩ := H
            have p103 : 0 ≤ (x1_2 : Int) := of_decide_eq_true (by first | (with_reducible assumption) | assumption)
            have q103 : x1_2 < (l0.length : Int) := of_decide_eq_true (by first | (with_reducible assumption) | assumption)
            obtain ⟨ad103, e103, hx103_0⟩ := Kd.at_int HR0.out x1_2 p103 q103
            cases e103
            replace hx103_0 := (HB.out.cell (World.block_lt_of_cell? w _ hx103_0)).trans hx103_0
            replace p103 := eq_true p103
            replace q103 := eq_true q103
            have hnb54 := NB101_102.out
            have hnc54 := NB102_101.out
            obtain ⟨hcz55_0, hfz55_0⟩ := cells1 BK101.out
            go_wp2
            refine bodyPost_ret (results_ct rfl _ _ gb101 27 #[.slice none 0 0] (0, 0) _ rfl (bput1 BK101.out) Try.underlying27 rfl (by kernel_rfl)) rfl ?_
            exact ⟨_, by first | rfl | (simp [errW_none, errW_some] <;> rfl) | (simp [*, errW_none, errW_some] <;> rfl), by first | exact Kd.S_nil _ _ _ _ _ | exact Kd.N_nil _ _ _ _ _ | exact Kd.V_nil _ _ _ _ _ | exact Kd.Q_nil _ _ _ _ _ | exact Kd.R_nil _ _ _ _ _, by repeat (first | exact bw HB.out | refine below_set ?_ GE101.out | refine below_set ?_ GE102.out)⟩
           ·rw [if_neg c53] at H
            have c53b0 : decide (15 < (wrap64 (rd l0 x1_2))) = false := decide_eq_false c53
            clear c53
            replace H := Option.bind_eq_some_iff.mp H
            obtain ⟨⟨t108, t109⟩, A560, H⟩ := H
            replace H : (if t109 < 0 then (some (([] : List (List Int)), (-1))) else (if (x103000_2.length : Int) = 6 then (some (([] : List (List Int)), (-1))) else ((impl_Lower.f t108).bind fun t112 => (if x103000_2.length < 5864062014805 then (impl_NameGet.l0 k2 l0 t109 x7_2 x8_2 (x103000_2 ++ [t112])) else (none))))) = some (r1, r2) := H
            have A56 := Aside0.mk A560
            clear A560
            by_cases c57 : t109 < 0
            ·rw [if_pos c57] at H
             have c57b0 : decide (t109 < 0) = true := decide_eq_true c57
             clear c57
             simp only [Option.some.injEq, Prod.mk.injEq] at H
             obtain ⟨rfl, rfl⟩ := H
             have p103 : 0 ≤ (x1_2 : Int) := of_decide_eq_true (by first | (with_reducible assumption) | assumption)
             have q103 : x1_2 < (l0.length : Int) := of_decide_eq_true (by first | (with_reducible assumption) | assumption)
             obtain ⟨ad103, e103, hx103_0⟩ := Kd.at_int HR0.out x1_2 p103 q103
             cases e103
             replace hx103_0 := (HB.out.cell (World.block_lt_of_cell? w _ hx103_0)).trans hx103_0
             replace p103 := eq_true p103
             replace q103 := eq_true q103
             go_wp2_with (first | ((with_reducible refine gate_callee (f := 62) rfl ?_); refine goesL_ (some 38) rfl rfl Try.func62 (by kernel_rfl) rfl #[.slice (some ad103) l0.length c0, .int .i64 (wrap64 (x1_2 + 1)), .int .i64 (wrap64 (rd l0 x1_2))] rfl (by (try simp only [List.map_toArray, List.map_cons, List.map_nil]); first | done | rfl | (simp only [List.length_drop, List.length_take]; rfl)) ?_; (with_reducible refine (impl_Take.calls _ _ l0 (wrap64 (x1_2 + 1)) (wrap64 (rd l0 x1_2)) t108 t109 _ ?side1 ?side2 A56.out).mono ?_); (case side1 => exact cw HR0.out HB.out); (case side2 => exact HC0.out); rintro e w58 ⟨v110, rfl, ho0, hb⟩; refine ⟨_, rfl, ?_⟩; replace HO_103000 := Aside0.mk (Kd.S_elder' (sw HO_103000.out) (Kd.R_base ho0) hb); have HO111 := Aside0.mk (Kd.R_lower ho0 (below_size (by repeat (first | exact bw HB.out | refine below_set ?_ GE101.out | refine below_set ?_ GE102.out)))); replace BK101 := Aside0.mk (blk_below (bk BK101.out) hb); replace BK102 := Aside0.mk (blk_below (bk BK102.out) hb); replace HB := Aside0.mk (below_step (by repeat (first | exact bw HB.out | refine below_set ?_ GE101.out | refine below_set ?_ GE102.out)) hb); (try clear hb); (try clear ho0); have hnb59 := NB101_102.out; have hnc59 := NB102_101.out; obtain ⟨hcz60_0, hfz60_0⟩ := cells1 BK101.out))
             refine bodyPost_ret (results_ct rfl _ _ gb101 27 #[.slice none 0 0] (0, 0) _ rfl (bput1 BK101.out) Try.underlying27 rfl (by kernel_rfl)) rfl ?_
             exact ⟨_, by first | rfl | (simp [errW_none, errW_some] <;> rfl) | (simp [*, errW_none, errW_some] <;> rfl), by first | exact Kd.S_nil _ _ _ _ _ | exact Kd.N_nil _ _ _ _ _ | exact Kd.V_nil _ _ _ _ _ | exact Kd.Q_nil _ _ _ _ _ | exact Kd.R_nil _ _ _ _ _, by repeat (first | exact bw HB.out | refine below_set ?_ GE101.out | refine below_set ?_ GE102.out)⟩
            ·rw [if_neg c57] at H
             have c57b0 : decide (t109 < 0) = false := decide_eq_false c57
             clear c57
             by_cases c61 : (x103000_2.length : Int) = 6
             ·rw [if_pos c61] at H
              have c61b0 : ((x103000_2.length : Int) == 6) = true := beq_iff_eq.mpr c61
              have c61b1 : ((x103000_2.length : Int) != 6) = false := bne_eq_false_iff_eq.mpr c61
              clear c61
              simp only [Option.some.injEq, Prod.mk.injEq] at H
              obtain ⟨rfl, rfl⟩ := H
              have p103 : 0 ≤ (x1_2 : Int) := of_decide_eq_true (by first | (with_reducible assumption) | assumption)
              have q103 : x1_2 < (l0.length : Int) := of_decide_eq_true (by first | (with_reducible assumption) | assumption)
              obtain ⟨ad103, e103, hx103_0⟩ := Kd.at_int HR0.out x1_2 p103 q103
              cases e103
              replace hx103_0 := (HB.out.cell (World.block_lt_of_cell? w _ hx103_0)).trans hx103_0
              replace p103 := eq_true p103
              replace q103 := eq_true q103
              go_wp2_with (first | ((with_reducible refine gate_callee (f := 62) rfl ?_); refine goesL_ (some 38) rfl rfl Try.func62 (by kernel_rfl) rfl #[.slice (some ad103) l0.length c0, .int .i64 (wrap64 (x1_2 + 1)), .int .i64 (wrap64 (rd l0 x1_2))] rfl (by (try simp only [List.map_toArray, List.map_cons, List.map_nil]); first | done | rfl | (simp only [List.length_drop, List.length_take]; rfl)) ?_; (with_reducible refine (impl_Take.calls _ _ l0 (wrap64 (x1_2 + 1)) (wrap64 (rd l0 x1_2)) t108 t109 _ ?side1 ?side2 A56.out).mono ?_); (case side1 => exact cw HR0.out HB.out); (case side2 => exact HC0.out); rintro e w62 ⟨v110, rfl, ho0, hb⟩; refine ⟨_, rfl, ?_⟩; replace HO_103000 := Aside0.mk (Kd.S_elder' (sw HO_103000.out) (Kd.R_base ho0) hb); have HO111 := Aside0.mk (Kd.R_lower ho0 (below_size (by repeat (first | exact bw HB.out | refine below_set ?_ GE101.out | refine below_set ?_ GE102.out)))); replace BK101 := Aside0.mk (blk_below (bk BK101.out) hb); replace BK102 := Aside0.mk (blk_below (bk BK102.out) hb); replace HB := Aside0.mk (below_step (by repeat (first | exact bw HB.out | refine below_set ?_ GE101.out | refine below_set ?_ GE102.out)) hb); (try clear hb); (try clear ho0); have hnb63 := NB102_101.out; have hnc63 := NB101_102.out; obtain ⟨hcz64_0, hfz64_0⟩ := cells1 BK102.out; obtain ⟨Ao65, co65, eo65⟩ := Kd.S_slice HO_103000.out; subst eo65; obtain ⟨hcz66_0, hfz66_0⟩ := cells1 BK101.out))
              refine bodyPost_ret (results_ct rfl _ _ gb101 27 #[.slice none 0 0] (0, 0) _ rfl (bput1 BK101.out) Try.underlying27 rfl (by kernel_rfl)) rfl ?_
              exact ⟨_, by first | rfl | (simp [errW_none, errW_some] <;> rfl) | (simp [*, errW_none, errW_some] <;> rfl), by first | exact Kd.S_nil _ _ _ _ _ | exact Kd.N_nil _ _ _ _ _ | exact Kd.V_nil _ _ _ _ _ | exact Kd.Q_nil _ _ _ _ _ | exact Kd.R_nil _ _ _ _ _, by repeat (first | exact bw HB.out | refine below_set ?_ GE101.out | refine below_set ?_ GE102.out)⟩
             ·rw [if_neg c61] at H
              have c61b0 : ((x103000_2.length : Int) == 6) = false := beq_eq_false_iff_ne.mpr c61
              have c61b1 : ((x103000_2.length : Int) != 6) = true := bne_iff_ne.mpr c61
              replace H := Option.bind_eq_some_iff.mp H
              obtain ⟨t112, A670, H⟩ := H
              replace H : (if x103000_2.length < 5864062014805 then (impl_NameGet.l0 k2 l0 t109 x7_2 x8_2 (x103000_2 ++ [t112])) else (none)) = some (r1, r2) := H
              have A67 := Aside0.mk A670
              clear A670
              by_cases c68 : x103000_2.length < 5864062014805
              ·rw [if_pos c68] at H
               have LMc68 := Aside0.mk c68
               clear c68
               obtain ⟨y115, hy115⟩ : ∃ y_ : List (List Int), y_ = (x103000_2 ++ [t112]) := ⟨_, rfl⟩
               replace H : (impl_NameGet.l0 k2 l0 t109 x7_2 x8_2 y115) = some (r1, r2) := by first | (rw [hy115]; with_reducible exact H) | (have H2_ := (Option.bind_some _ _).symm.trans H; rw [hy115]; with_reducible exact H2_) | (have H2_ := (Option.bind_some _ _).symm.trans H; with_reducible exact H2_) | with_reducible exact H | (rw [hy115]; exact H) | exact H
               have Ny115 := Aside0.mk hy115
               clear hy115
               have H' := Aside0.mk H
               clear H
               have p103 : 0 ≤ (x1_2 : Int) := of_decide_eq_true (by first | (with_reducible assumption) | assumption)
               have q103 : x1_2 < (l0.length : Int) := of_decide_eq_true (by first | (with_reducible assumption) | assumption)
               obtain ⟨ad103, e103, hx103_0⟩ := Kd.at_int HR0.out x1_2 p103 q103
               cases e103
               replace hx103_0 := (HB.out.cell (World.block_lt_of_cell? w _ hx103_0)).trans hx103_0
               replace p103 := eq_true p103
               replace q103 := eq_true q103
               try go_wp2_with (first | ((with_reducible refine gate_callee (f := 62) rfl ?_); refine goesL_ (some 38) rfl rfl Try.func62 (by kernel_rfl) rfl #[.slice (some ad103) l0.length c0, .int .i64 (wrap64 (x1_2 + 1)), .int .i64 (wrap64 (rd l0 x1_2))] rfl (by (try simp only [List.map_toArray, List.map_cons, List.map_nil]); first | done | rfl | (simp only [List.length_drop, List.length_take]; rfl)) ?_; (with_reducible refine (impl_Take.calls _ _ l0 (wrap64 (x1_2 + 1)) (wrap64 (rd l0 x1_2)) t108 t109 _ ?side1 ?side2 A56.out).mono ?_); (case side1 => exact cw HR0.out HB.out); (case side2 => exact HC0.out); rintro e w69 ⟨v110, rfl, ho0, hb⟩; refine ⟨_, rfl, ?_⟩; replace HO_103000 := Aside0.mk (Kd.S_elder' (sw HO_103000.out) (Kd.R_base ho0) hb); have HO111 := Aside0.mk (Kd.R_lower ho0 (below_size (by repeat (first | exact bw HB.out | refine below_set ?_ GE101.out | refine below_set ?_ GE102.out)))); replace BK101 := Aside0.mk (blk_below (bk BK101.out) hb); replace BK102 := Aside0.mk (blk_below (bk BK102.out) hb); replace HB := Aside0.mk (below_step (by repeat (first | exact bw HB.out | refine below_set ?_ GE101.out | refine below_set ?_ GE102.out)) hb); (try clear hb); (try clear ho0); have hnb70 := NB102_101.out; have hnc70 := NB101_102.out; obtain ⟨hcz71_0, hfz71_0⟩ := cells1 BK102.out; obtain ⟨Ao72, co72, eo72⟩ := Kd.S_slice HO_103000.out; subst eo72))
               have n0_ := Aside0.mk (Kd.S_drew HO_103000.out)
               have n1_ := Aside0.mk (Kd.R_drew HO111.out)
               have n2_ := Aside0.mk (blk_drew BK101.out)
               have n3_ := Aside0.mk (blk_drew BK102.out)
               have n4_ := Aside0.mk (below_drew1 HB.out)
               clear HO_103000
               clear HO111
               clear BK101
               clear BK102
               clear HB
               have HO_103000 := n0_
               have HO111 := n1_
               have BK101 := n2_
               have BK102 := n3_
               have HB := n4_
               clear n0_ n1_ n2_ n3_ n4_
               obtain ⟨Ao74, co74, eo74⟩ := Kd.R_slice HO111.out
               (first | subst eo74 | (injection eo74 with f1_ f2_ f3_; have f4_ := f1_.symm; have f5_ := f3_.symm; clear f1_ f2_ f3_; subst f4_; subst f5_))
               refine start_ (n := 10) (S := fun w' => w'.cell? ⟨gb102, 0, none⟩ = some (.slice Ao72 x103000_2.length co72)) (ds := [8]) (bA 10 0) (by kernel_rfl) rfl rfl ((blk_cell BK102.out 0).trans rfl) (fun hHeld => ?_); refine with_tabW impl_NameGet.tab10 impl_NameGet.bits10 (fun HT_ HW_ => ?_)
               generalize w69.drew = w73 at HO_103000 HO111 BK101 BK102 HB hHeld ⊢
               refine pu_ HT_ 0 50 (bA 10 1) (v := ?_) (a' := ?_) rfl rfl (by kernel_rfl) (fun _ _ _ h => h) (by rfl) ?_ ?_ ?_; rotate_left; intro w'; go_simp; with_reducible rfl; rotate_left; go_simp; rfl
               refine pu_ HT_ 2 52 (bA 10 5) (v := ?_) (a' := ?_) rfl rfl (by kernel_rfl) (fun _ _ _ h => h) (by rfl) ?_ ?_ ?_; rotate_left; intro w'; go_simp; with_reducible rfl; rotate_left; go_simp; rfl
               refine pu_ HT_ 6 56 (bA 10 69) (v := ?_) (a' := ?_) rfl rfl (by kernel_rfl) (fun _ _ _ h => h) (by rfl) ?_ ?_ ?_; rotate_left; intro w'; go_simp; with_reducible rfl; rotate_left; go_simp; rfl
               refine take_ (i := 1) (N := some 51) (v := ?_) (a' := ?_) (bA 10 71) rfl rfl (take_ofW HT_.out HW_.out (by kernel_rfl)) (fun _ _ _ h => h) (Or.inl ⟨by rfl, ?_⟩) hHeld ?_ ?_
               rotate_left; intro w' s0; go_simp; with_reducible rfl; rotate_left; go_simp; rfl
               refine one_ (i := 3) (N := some 53) (bA 10 79) rfl rfl (one_of HT_.out (by kernel_rfl)) (by decide) (fun K hK => ?_)
               refine goes_ Try.func63 (by kernel_rfl) rfl #[.slice Ao74 t108.length co74] (by rfl) rfl rfl (by (try simp only [List.map_toArray, List.map_cons, List.map_nil]); first | done | rfl | (simp only [List.length_drop, List.length_take]; rfl)) ?_
               with_reducible refine (impl_Lower.calls _ _ t108 t112 _ ?side1 ?side2 A67.out).mono ?_
               (case side1 => repeat (first | exact (Kd.R_reads' HO111.out).2.2 | (with_reducible refine Kd.C_alloc ?_ _) | (with_reducible refine Kd.C_drewN ?_ _) | (with_reducible refine Kd.C_drew ?_)))
               (case side2 => exact (Kd.R_reads' HO111.out).2.1)
               rintro e w75 ⟨v113, rfl, ho0, hb⟩
               refine ⟨_, rfl, ?_⟩
               have n0_ := Aside0.mk (Kd.S_elder' (sw HO_103000.out) (Kd.R_base ho0) hb)
               have n1_ := Aside0.mk (Kd.R_elder' (rw_ HO111.out) (Kd.R_base ho0) hb)
               have n2_ := Aside0.mk (Kd.R_lower (Kd.R_new' ho0 (Kd.R_lt (rw_ HO111.out))) (below_size (by repeat (first | exact bw HB.out | refine below_set ?_ GE101.out | refine below_set ?_ GE102.out))))
               have n3_ := Aside0.mk (blk_below (bk BK101.out) hb)
               have n4_ := Aside0.mk (blk_below (bk BK102.out) hb)
               have n5_ := Aside0.mk (below_step (by repeat (first | exact bw HB.out | refine below_set ?_ GE101.out | refine below_set ?_ GE102.out)) hb)
               clear HO_103000
               clear HO111
               clear BK101
               clear BK102
               clear HB
               have HO_103000 := n0_
               have HO111 := n1_
               have HO114 := n2_
               have BK101 := n3_
               have BK102 := n4_
               have HB := n5_
               clear n0_ n1_ n2_ n3_ n4_ n5_
               (try clear hb)
               (try clear hb2)
               (try clear hk)
               (try clear hi)
               (try clear ho0)
               obtain ⟨Ao77, co77, eo77⟩ := Kd.R_slice HO114.out
               (first | subst eo77 | (injection eo77 with f1_ f2_ f3_; have f4_ := f1_.symm; have f5_ := f3_.symm; clear f1_ f2_ f3_; subst f4_; subst f5_))
               refine hK.out _ _ ((blk_cell BK102.out 0).trans rfl) (fun hHeld => ?_)
               clear hK K
               refine norm_ (a' := ?_) ?_ ?_; rotate_left; go_simp; rfl
               refine one_ (i := 4) (N := some 54) (bA 10 95) rfl rfl (one_of HT_.out (by kernel_rfl)) (by decide) (fun K hK => ?_)
               refine value_ (w1 := ?_) (v := ?_) (by rfl) rfl ?_ ?_
               rotate_left 2
               ·go_simp
                constructor
                ·rfl
                ·rfl
               refine hK.out _ _ ((blk_cell (blk_alloc BK102.out _) 0).trans rfl) (fun hHeld => ?_)
               clear hK K
               refine norm_ (a' := ?_) ?_ ?_; rotate_left; go_simp; rfl
               refine one_ (i := 5) (N := some 55) (bA 10 127) rfl rfl (one_of HT_.out (by kernel_rfl)) (by decide) (fun K hK => ?_)
               refine Kd.S_append_step (Kd.slice 5 (Kd.int .u8)) (w0 := w) w.heap.size (by rfl) (.tmp 51) (.tmp 54) 22 31 (.slice none 0 0) 24 rfl Try.underlying22 info31 rfl (by decide) (by omega) (.slice Ao72 x103000_2.length co72) x103000_2 t112 [.slice Ao77 t112.length co77] (fun k_ => some k_ ≠ (.slice Ao74 t108.length co74 : Value).ownBlock) (fun k_ => some k_ = (.slice Ao77 t112.length co77 : Value).ownBlock) rfl rfl ?aP (fun k_ hk_ => ((Kd.R_mono (ok' := fun k_ => ((fun k_ => some k_ ≠ (.slice Ao74 t108.length co74 : Value).ownBlock)) k_ ∧ some k_ ≠ (.slice Ao72 x103000_2.length co72 : Value).ownBlock) (Kd.R_apart' (HO114.out) (Kd.S_typed HO_103000.out) (by decide)) (fun k_ hk => ⟨hk.1.2, hk.2⟩))).1 k_ hk_.symm) ?aF ?aO ?aB ?aS ?aL ?_
               (case aP => exact Kd.M_row (Kd.R_mono (Kd.R_tight rfl (Kd.R_mono (ok' := fun k_ => ((fun k_ => some k_ ≠ (.slice Ao74 t108.length co74 : Value).ownBlock)) k_ ∧ some k_ ≠ (.slice Ao72 x103000_2.length co72 : Value).ownBlock) (Kd.R_apart' (HO114.out) (Kd.S_typed HO_103000.out) (by decide)) (fun k_ hk => ⟨hk.1.2, hk.2⟩))) (fun _ h_ => h_)))
               (case aB => exact (by repeat (first | exact bw HB.out | refine below_set ?_ GE101.out | refine below_set ?_ GE102.out)))
               (case aF => exact (fun k_ hk => Kd.fresh' (Kd.R_lt (rw_ HO111.out)) k_ hk))
               (case aO => exact (by (with_reducible repeat (first | apply Kd.S_alloc | apply Kd.S_drewN | apply Kd.S_drew)); exact Kd.S_mono HO_103000.out (fun k_ hk => ⟨hk.1.2, fun e_ => hk.2 e_⟩)))
               (case aS => exact (below_size (by repeat (first | exact bw HB.out | refine below_set ?_ GE101.out | refine below_set ?_ GE102.out))))
               (case aL => have := LMc68.out; omega)
               intro v116 w76 ho hb hg hat
               rw [← Ny115.out] at ho
               have n0_ := Aside0.mk (blk_grown (bk BK101.out) hg (Kd.S_ne HO_103000.out BK101.out (by decide)))
               have n1_ := Aside0.mk (blk_grown (bk BK102.out) hg (Kd.S_ne HO_103000.out BK102.out (by decide)))
               have n2_ := Aside0.mk (Kd.R_over' (rw_ HO111.out) (Kd.S_typed (sw HO_103000.out)) (by decide) hg)
               have n3_ := Aside0.mk (hb)
               have n4_ := Aside0.mk (ho)
               clear BK101
               clear BK102
               clear HO111
               clear HB
               clear HO_103000
               clear HO114
               have BK101 := n0_
               have BK102 := n1_
               have HO111 := n2_
               have HB := n3_
               have HO117 := n4_
               clear n0_ n1_ n2_ n3_ n4_
               clear ho hb hg hat
               obtain ⟨Ao78, co78, eo78⟩ := Kd.S_slice HO117.out
               (first | subst eo78 | (injection eo78 with f1_ f2_ f3_; have f4_ := f1_.symm; have f5_ := f3_.symm; clear f1_ f2_ f3_; subst f4_; subst f5_))
               refine hK.out _ _ ((blk_cell BK102.out 0).trans rfl) (fun hHeld => ?_)
               clear hK K
               refine norm_ (a' := ?_) ?_ ?_; rotate_left; go_simp; rfl
               refine pu_ HT_ 7 57 (bA 10 255) (v := ?_) (a' := ?_) rfl rfl (by kernel_rfl) (fun _ _ _ h => h) (by rfl) ?_ ?_ ?_; rotate_left; intro w'; go_simp; with_reducible rfl; rotate_left; go_simp; rfl
               refine last_ (i := 8) (N := none) (bA 10 511) rfl rfl (one_of HT_.out (by kernel_rfl)) (by decide) (fun K hK => ?_)
               have hs79 : w76.cell? ⟨gb102, 0, none⟩ = some (.slice Ao72 x103000_2.length co72) := (blk_cell BK102.out 0).trans rfl
               have hfs79 := blk_frozen BK102.out 0
               have hns79_0 := NB101_102.out
               have hms79_0 := NB102_101.out
               refine skip_ (w1 := ?_) (by rfl) rfl ?_ ?_
               rotate_left
               ·go_simp
                rfl
               refine hK.out _ _ ?_
               clear hK K
               refine pu_ HT_ 9 1 (bA 10 1023) (v := ?_) (a' := ?_) rfl rfl (by kernel_rfl) (fun _ _ _ h => h) (by rfl) ?_ ?_ ?_; rotate_left; intro w'; go_simp; with_reducible rfl; rotate_left; go_simp; rfl
               refine done_ (done_of HT_.out (by kernel_rfl)) ?_
               try go_wp2
               go_roundg k2
               case measure => have := HJ2.out; have := HK2.out; omega
               case rel => exact ⟨(t109), (x7_2), (x8_2), (y115), (.slice Ao78 y115.length co78), (by first | rfl | (simp; done) | (simp [*]; done)), (by first | rfl | (simp; done) | (simp [*]; done)), (by first | rfl | (simp; done) | (simp [*]; done)), H', ⟨by have := HJ2.out; have := HK2.out; omega⟩, ⟨by (with_reducible repeat (first | apply Kd.S_alloc | apply Kd.S_drewN | apply Kd.S_drew)); exact Kd.S_mono (Kd.S_far (p := ⟨gb102, 0, none⟩) (Kd.S_types HO117.out BK102.out (by decide)) (fun _ hk => hk.2) (.slice Ao78 y115.length co78)) (fun _ hk => trivial)⟩, ⟨bfar1 NB101_102.out BK101.out⟩, ⟨bput1 BK102.out⟩, ⟨by repeat (first | exact bw HB.out | refine below_set ?_ GE101.out | refine below_set ?_ GE102.out)⟩⟩
              ·rw [if_neg c68] at H
               exact absurd H (by simp)
        ·rw [if_neg c15] at H
         exact absurd H (by simp)
       ·rw [if_neg c14] at H
        exact absurd H (by simp)


/-! ### laws_heldByteS: function 24 -/
def laws_heldByteS.l0 : Nat → List Int → Int → Int → Option (Int)
 | 0, _, _, _ => none
 | k + 1, x0, x1, x5 => if x5 < (x0.length : Int) then (if 0 ≤ x5 then (if (rd x0 x5) = ((x1) % 256) then (laws_heldByteS.l0 k x0 (wrap64 (x1 + 1)) (wrap64 (x5 + 1))) else (some (-1))) else (none)) else (some x1)
def laws_heldByteS.f (k : Nat) (l0 : List Int) (a1 : Int) : Option (Int) := laws_heldByteS.l0 k l0 a1 0
theorem laws_heldByteS.mono_l : ∀ k, (∀ y0 y1 y2, LeO (laws_heldByteS.l0 k y0 y1 y2) (laws_heldByteS.l0 (k + 1) y0 y1 y2))
 | 0 => fun _ _ _ r h => by simp [laws_heldByteS.l0] at h
 | k + 1 => by
  have ih0 := laws_heldByteS.mono_l k
  ·intro y0 y1 y2
   unfold laws_heldByteS.l0
   repeat' first
   | (with_reducible exact ih0 _ _ _)
   | (with_reducible exact LeO.refl _)
   | (with_reducible exact LeO.none _)
   | (with_reducible refine LeO.ite ?_ ?_)
   | (with_reducible refine LeO.bind ?_ (fun _ => ?_))
   | exact ih0 _ _ _
   | exact LeO.none _
   | refine LeO.ite ?_ ?_
   | refine LeO.bind ?_ (fun _ => ?_)
theorem laws_heldByteS.mono : ∀ a0 a1 k, LeO (laws_heldByteS.f k a0 a1) (laws_heldByteS.f (k + 1) a0 a1) := by
 intro a0 a1 k
 have ih0 := laws_heldByteS.mono_l k
 unfold laws_heldByteS.f
 repeat' first
   | (with_reducible exact ih0 _ _ _)
   | (with_reducible exact LeO.refl _)
   | (with_reducible exact LeO.none _)
   | (with_reducible refine LeO.ite ?_ ?_)
   | (with_reducible refine LeO.bind ?_ (fun _ => ?_))
   | exact ih0 _ _ _
   | exact LeO.none _
   | refine LeO.ite ?_ ?_
   | refine LeO.bind ?_ (fun _ => ?_)
set_option maxHeartbeats 8000000 in
set_option maxRecDepth 100000 in
theorem laws_heldByteS.calls (k : Nat) (A0 : Option Addr) (c0 : Nat) (l0 : List Int) (a1 : Int) (r : Int) (w : World) (hr0 : Kd.C (Kd.int .u8) w A0 l0.length l0) (hc0 : l0.length ≤ c0) (h : laws_heldByteS.f k l0 a1 = some r) :
  Calls Try.prog 24 #[.slice A0 l0.length c0, .int .i64 a1] w fun e w' => e = .returned (.int .i64 r) ∧ Drawn0 w w' := by
 have HR0 := Aside0.mk hr0
 have HC0 := Aside0.mk hc0
 clear hr0 hc0
 have H : (laws_heldByteS.l0 k l0 a1 0) = some r := h
 clear h
 have H' := Aside0.mk H
 clear H
 go_enter Try.func24, Try.ntmps24
 go_wp2
 go_loopg [1, 5] k (fun kq v1 v5 w' => ∃ (x1_1 : Int) (x5_1 : Int), v1 = .int .i64 x1_1 ∧ v5 = .int .i64 x5_1 ∧ Aside0 (laws_heldByteS.l0 kq l0 x1_1 x5_1 = some r) ∧ Aside0 (kq ≤ k) ∧ Drawn0 w w')
 case atStart => exact ⟨(a1), (0), (by first | rfl | (simp; done) | (simp [*]; done)), (by first | rfl | (simp; done) | (simp [*]; done)), H', ⟨Nat.le_refl _⟩, by repeat (first | exact Drawn0.refl _ | apply Drawn0.step)⟩
 case round =>
  clear H'
  try clear c2
  try clear p2
  obtain ⟨x1_1, x5_1, rfl, rfl, HA, HK1, ⟨m1, rfl⟩⟩ := hrel
  cases gk with
  | zero => exact absurd HA.out (by simp [laws_heldByteS.l0])
  | succ k1 =>
   have H := HA.out
   clear HA
   simp only [laws_heldByteS.l0] at H
   by_cases c3 : x5_1 < (l0.length : Int)
   ·rw [if_pos c3] at H
    have c3b0 : decide (x5_1 < (l0.length : Int)) = true := decide_eq_true c3
    clear c3
    by_cases c4 : 0 ≤ x5_1
    ·rw [if_pos c4] at H
     have c4b0 : decide (0 ≤ x5_1) = true := decide_eq_true c4
     clear c4
     by_cases c5 : (rd l0 x5_1) = ((x1_1) % 256)
     ·rw [if_pos c5] at H
      have c5b0 : ((rd l0 x5_1) == ((x1_1) % 256)) = true := beq_iff_eq.mpr c5
      have c5b1 : ((rd l0 x5_1) != ((x1_1) % 256)) = false := bne_eq_false_iff_eq.mpr c5
      clear c5
      have H' := Aside0.mk H
      clear H
      have p101 : 0 ≤ (x5_1 : Int) := of_decide_eq_true (by first | (with_reducible assumption) | assumption)
      have q101 : x5_1 < (l0.length : Int) := of_decide_eq_true (by first | (with_reducible assumption) | assumption)
      obtain ⟨ad101, e101, hx101_0⟩ := Kd.at_int HR0.out x5_1 p101 q101
      cases e101
      replace p101 := eq_true p101
      replace q101 := eq_true q101
      go_wp2
      go_roundg k1
      case measure => have := HK1.out; omega
      case rel => exact ⟨(wrap64 (x1_1 + 1)), (wrap64 (x5_1 + 1)), (by first | rfl | (simp; done) | (simp [*]; done)), (by first | rfl | (simp; done) | (simp [*]; done)), H', ⟨by have := HK1.out; omega⟩, by repeat (first | exact Drawn0.refl _ | apply Drawn0.step)⟩
     ·rw [if_neg c5] at H
      have c5b0 : ((rd l0 x5_1) == ((x1_1) % 256)) = false := beq_eq_false_iff_ne.mpr c5
      have c5b1 : ((rd l0 x5_1) != ((x1_1) % 256)) = true := bne_iff_ne.mpr c5
      obtain rfl := Option.some.inj H
      have p101 : 0 ≤ (x5_1 : Int) := of_decide_eq_true (by first | (with_reducible assumption) | assumption)
      have q101 : x5_1 < (l0.length : Int) := of_decide_eq_true (by first | (with_reducible assumption) | assumption)
      obtain ⟨ad101, e101, hx101_0⟩ := Kd.at_int HR0.out x5_1 p101 q101
      cases e101
      replace p101 := eq_true p101
      replace q101 := eq_true q101
      go_wp2
      go_ret
      exact ⟨by first | rfl | (simp; done) | (simp [*]; done), by repeat (first | exact Drawn0.refl _ | apply Drawn0.step)⟩
    ·rw [if_neg c4] at H
     exact absurd H (by simp)
   ·rw [if_neg c3] at H
    have c3b0 : decide (x5_1 < (l0.length : Int)) = false := decide_eq_false c3
    clear c3
    obtain rfl := Option.some.inj H
    go_wp2
    go_ret
    exact ⟨by first | rfl | (simp; done) | (simp [*]; done), by repeat (first | exact Drawn0.refl _ | apply Drawn0.step)⟩


/-! ### laws_heldByteSS: function 64 -/
def laws_heldByteSS.l0 : Nat → List (List Int) → Int → Int → Option (Int)
 | 0, _, _, _ => none
 | k + 1, x0, x1, x5 => if x5 < (x0.length : Int) then (if 0 ≤ x5 then ((laws_heldByteS.f k (rd_L10 x0 x5) x1).bind fun t102 => (if t102 < 0 then (some (-1)) else (laws_heldByteSS.l0 k x0 t102 (wrap64 (x5 + 1))))) else (none)) else (some x1)
def laws_heldByteSS.f (k : Nat) (l0 : List (List Int)) (a1 : Int) : Option (Int) := laws_heldByteSS.l0 k l0 a1 0
theorem laws_heldByteSS.mono_l : ∀ k, (∀ y0 y1 y2, LeO (laws_heldByteSS.l0 k y0 y1 y2) (laws_heldByteSS.l0 (k + 1) y0 y1 y2))
 | 0 => fun _ _ _ r h => by simp [laws_heldByteSS.l0] at h
 | k + 1 => by
  have ih0 := laws_heldByteSS.mono_l k
  ·intro y0 y1 y2
   unfold laws_heldByteSS.l0
   repeat' first
   | (with_reducible exact ih0 _ _ _)
   | (with_reducible exact laws_heldByteS.mono _ _ _)
   | (with_reducible exact LeO.refl _)
   | (with_reducible exact LeO.none _)
   | (with_reducible refine LeO.ite ?_ ?_)
   | (with_reducible refine LeO.bind ?_ (fun _ => ?_))
   | exact ih0 _ _ _
   | exact laws_heldByteS.mono _ _ _
   | exact LeO.none _
   | refine LeO.ite ?_ ?_
   | refine LeO.bind ?_ (fun _ => ?_)
theorem laws_heldByteSS.mono : ∀ a0 a1 k, LeO (laws_heldByteSS.f k a0 a1) (laws_heldByteSS.f (k + 1) a0 a1) := by
 intro a0 a1 k
 have ih0 := laws_heldByteSS.mono_l k
 unfold laws_heldByteSS.f
 repeat' first
   | (with_reducible exact ih0 _ _ _)
   | (with_reducible exact laws_heldByteS.mono _ _ _)
   | (with_reducible exact LeO.refl _)
   | (with_reducible exact LeO.none _)
   | (with_reducible refine LeO.ite ?_ ?_)
   | (with_reducible refine LeO.bind ?_ (fun _ => ?_))
   | exact ih0 _ _ _
   | exact laws_heldByteS.mono _ _ _
   | exact LeO.none _
   | refine LeO.ite ?_ ?_
   | refine LeO.bind ?_ (fun _ => ?_)
set_option maxHeartbeats 8000000 in
set_option maxRecDepth 100000 in
theorem laws_heldByteSS.calls (k : Nat) (A0 : Option Addr) (c0 : Nat) (l0 : List (List Int)) (a1 : Int) (r : Int) (w : World) (hr0 : Kd.C (Kd.slice 5 (Kd.int .u8)) w A0 l0.length l0) (hc0 : l0.length ≤ c0) (h : laws_heldByteSS.f k l0 a1 = some r) :
  Calls Try.prog 64 #[.slice A0 l0.length c0, .int .i64 a1] w fun e w' => e = .returned (.int .i64 r) ∧ Drawn0 w w' := by
 have HR0 := Aside0.mk hr0
 have HC0 := Aside0.mk hc0
 clear hr0 hc0
 have H : (laws_heldByteSS.l0 k l0 a1 0) = some r := h
 clear h
 have H' := Aside0.mk H
 clear H
 go_enter Try.func64, Try.ntmps64
 go_wp2
 go_loopg [1, 5] k (fun kq v1 v5 w' => ∃ (x1_1 : Int) (x5_1 : Int), v1 = .int .i64 x1_1 ∧ v5 = .int .i64 x5_1 ∧ Aside0 (laws_heldByteSS.l0 kq l0 x1_1 x5_1 = some r) ∧ Aside0 (kq ≤ k) ∧ Drawn0 w w')
 case atStart => exact ⟨(a1), (0), (by first | rfl | (simp; done) | (simp [*]; done)), (by first | rfl | (simp; done) | (simp [*]; done)), H', ⟨Nat.le_refl _⟩, by repeat (first | exact Drawn0.refl _ | apply Drawn0.step)⟩
 case round =>
  clear H'
  try clear p2
  obtain ⟨x1_1, x5_1, rfl, rfl, HA, HK1, ⟨m1, rfl⟩⟩ := hrel
  cases gk with
  | zero => exact absurd HA.out (by simp [laws_heldByteSS.l0])
  | succ k1 =>
   have H := HA.out
   clear HA
   simp only [laws_heldByteSS.l0] at H
   by_cases c3 : x5_1 < (l0.length : Int)
   ·rw [if_pos c3] at H
    have c3b0 : decide (x5_1 < (l0.length : Int)) = true := decide_eq_true c3
    clear c3
    by_cases c4 : 0 ≤ x5_1
    ·rw [if_pos c4] at H
     have c4b0 : decide (0 ≤ x5_1) = true := decide_eq_true c4
     clear c4
     replace H := Option.bind_eq_some_iff.mp H
     obtain ⟨t102, A50, H⟩ := H
     replace H : (if t102 < 0 then (some (-1)) else (laws_heldByteSS.l0 k1 l0 t102 (wrap64 (x5_1 + 1)))) = some r := H
     have A5 := Aside0.mk A50
     clear A50
     by_cases c6 : t102 < 0
     ·rw [if_pos c6] at H
      have c6b0 : decide (t102 < 0) = true := decide_eq_true c6
      clear c6
      obtain rfl := Option.some.inj H
      have p101 : 0 ≤ (x5_1 : Int) := of_decide_eq_true (by first | (with_reducible assumption) | assumption)
      have q101 : x5_1 < (l0.length : Int) := of_decide_eq_true (by first | (with_reducible assumption) | assumption)
      obtain ⟨ad101, A101_0, c101_0, e101, hx101_0, hl101_0, hi101_0⟩ := at_L10 HR0.out x5_1 p101 q101
      cases e101
      have HR101_0 := Aside0.mk hi101_0
      have HC101_0 := Aside0.mk hl101_0
      clear hi101_0 hl101_0
      replace p101 := eq_true p101
      replace q101 := eq_true q101
      go_wp2_with (first | ((with_reducible refine gate_callee (f := 24) rfl ?_); refine goesL_ (some 17) rfl rfl Try.func24 (by kernel_rfl) rfl #[.slice A101_0 (rd_L10 l0 x5_1).length c101_0, .int .i64 x1_1] rfl (by (try simp only [List.map_toArray, List.map_cons, List.map_nil]); first | done | rfl | (simp only [List.length_drop, List.length_take]; rfl)) ?_; (with_reducible refine (laws_heldByteS.calls k1 _ _ (rd_L10 l0 x5_1) x1_1 t102 _ ?side1 ?side2 A5.out).mono ?_); (case side1 => repeat (first | exact HR101_0.out | (with_reducible refine Kd.C_alloc ?_ _) | (with_reducible refine Kd.C_drewN ?_ _) | (with_reducible refine Kd.C_drew ?_))); (case side2 => exact HC101_0.out); rintro e w' ⟨rfl, ⟨nd, rfl⟩⟩; refine ⟨_, rfl, ?_⟩))
      go_ret
      exact ⟨by first | rfl | (simp; done) | (simp [*]; done), by repeat (first | exact Drawn0.refl _ | apply Drawn0.step)⟩
     ·rw [if_neg c6] at H
      have c6b0 : decide (t102 < 0) = false := decide_eq_false c6
      clear c6
      have H' := Aside0.mk H
      clear H
      have p101 : 0 ≤ (x5_1 : Int) := of_decide_eq_true (by first | (with_reducible assumption) | assumption)
      have q101 : x5_1 < (l0.length : Int) := of_decide_eq_true (by first | (with_reducible assumption) | assumption)
      obtain ⟨ad101, A101_0, c101_0, e101, hx101_0, hl101_0, hi101_0⟩ := at_L10 HR0.out x5_1 p101 q101
      cases e101
      have HR101_0 := Aside0.mk hi101_0
      have HC101_0 := Aside0.mk hl101_0
      clear hi101_0 hl101_0
      replace p101 := eq_true p101
      replace q101 := eq_true q101
      go_wp2_with (first | ((with_reducible refine gate_callee (f := 24) rfl ?_); refine goesL_ (some 17) rfl rfl Try.func24 (by kernel_rfl) rfl #[.slice A101_0 (rd_L10 l0 x5_1).length c101_0, .int .i64 x1_1] rfl (by (try simp only [List.map_toArray, List.map_cons, List.map_nil]); first | done | rfl | (simp only [List.length_drop, List.length_take]; rfl)) ?_; (with_reducible refine (laws_heldByteS.calls k1 _ _ (rd_L10 l0 x5_1) x1_1 t102 _ ?side1 ?side2 A5.out).mono ?_); (case side1 => repeat (first | exact HR101_0.out | (with_reducible refine Kd.C_alloc ?_ _) | (with_reducible refine Kd.C_drewN ?_ _) | (with_reducible refine Kd.C_drew ?_))); (case side2 => exact HC101_0.out); rintro e w' ⟨rfl, ⟨nd, rfl⟩⟩; refine ⟨_, rfl, ?_⟩))
      go_roundg k1
      case measure => have := HK1.out; omega
      case rel => exact ⟨(t102), (wrap64 (x5_1 + 1)), (by first | rfl | (simp; done) | (simp [*]; done)), (by first | rfl | (simp; done) | (simp [*]; done)), H', ⟨by have := HK1.out; omega⟩, by repeat (first | exact Drawn0.refl _ | apply Drawn0.step)⟩
    ·rw [if_neg c4] at H
     exact absurd H (by simp)
   ·rw [if_neg c3] at H
    have c3b0 : decide (x5_1 < (l0.length : Int)) = false := decide_eq_false c3
    clear c3
    obtain rfl := Option.some.inj H
    go_wp2
    go_ret
    exact ⟨by first | rfl | (simp; done) | (simp [*]; done), by repeat (first | exact Drawn0.refl _ | apply Drawn0.step)⟩


/-! ### laws_heldName: function 27 -/
def laws_heldName.f (k : Nat) (l0_0 : List (List Int)) (a1 : Int) : Option (Int) := (laws_heldByteSS.f k l0_0 a1).bind fun t102 => (if t102 < 0 then (some (-1)) else (some t102))
theorem laws_heldName.mono : ∀ a0 a1 k, LeO (laws_heldName.f k a0 a1) (laws_heldName.f (k + 1) a0 a1) := by
 intro a0 a1 k
 unfold laws_heldName.f
 repeat' first
   | (with_reducible exact laws_heldByteSS.mono _ _ _)
   | (with_reducible exact LeO.refl _)
   | (with_reducible exact LeO.none _)
   | (with_reducible refine LeO.ite ?_ ?_)
   | (with_reducible refine LeO.bind ?_ (fun _ => ?_))
   | exact laws_heldByteSS.mono _ _ _
   | exact LeO.none _
   | refine LeO.ite ?_ ?_
   | refine LeO.bind ?_ (fun _ => ?_)
set_option maxHeartbeats 8000000 in
set_option maxRecDepth 100000 in
theorem laws_heldName.calls (k : Nat) (A0_0 : Option Addr) (c0_0 : Nat) (l0_0 : List (List Int)) (a1 : Int) (r : Int) (w : World) (hr0_0 : Kd.C (Kd.slice 5 (Kd.int .u8)) w A0_0 l0_0.length l0_0) (hc0_0 : l0_0.length ≤ c0_0) (h : laws_heldName.f k l0_0 a1 = some r) :
  Calls Try.prog 27 #[.agg #[.slice A0_0 l0_0.length c0_0], .int .i64 a1] w fun e w' => e = .returned (.int .i64 r) ∧ Below w.heap.size w w' := by
 have hu27 := Try.underlying27
 have HR0_0 := Aside0.mk hr0_0
 have HC0_0 := Aside0.mk hc0_0
 clear hr0_0 hc0_0
 have HB := Aside0.mk (Below.refl w.heap.size w)
 have H : ((laws_heldByteSS.f k l0_0 a1).bind fun t102 => (if t102 < 0 then (some (-1)) else (some t102))) = some r := h
 clear h
 replace H := Option.bind_eq_some_iff.mp H
 obtain ⟨t102, A30, H⟩ := H
 replace H : (if t102 < 0 then (some (-1)) else (some t102)) = some r := H
 have A3 := Aside0.mk A30
 clear A30
 by_cases c4 : t102 < 0
 ·rw [if_pos c4] at H
  have c4b0 : decide (t102 < 0) = true := decide_eq_true c4
  clear c4
  obtain rfl := Option.some.inj H
  go_enter Try.func27, Try.ntmps27
  go_wp2_with (first | ((with_reducible refine gate_dst (N := 2) rfl ?_); refine boxed (N := 2) rfl rfl (cs := #[.slice A0_0 l0_0.length c0_0]) (t := 27) HB.out (by first | (go_simp; done) | (go_simp; rfl)) ?_; clear HB; intro gb101 w5 hg HB BK101 GE101 hb; have GW101 := GE101; clear hb hg; obtain ⟨hcz6_0, hfz6_0⟩ := cells1 BK101.out) | ((with_reducible refine gate_callee (f := 64) rfl ?_); refine goesL_ (some 8) rfl rfl Try.func64 (by kernel_rfl) rfl #[.slice A0_0 l0_0.length c0_0, .int .i64 a1] rfl (by (try simp only [List.map_toArray, List.map_cons, List.map_nil]); first | done | rfl | (simp only [List.length_drop, List.length_take]; rfl)) ?_; (with_reducible refine (laws_heldByteSS.calls k _ _ l0_0 a1 t102 _ ?side1 ?side2 A3.out).mono ?_); (case side1 => exact cw HR0_0.out HB.out); (case side2 => exact HC0_0.out); rintro e w' ⟨rfl, ⟨nd, rfl⟩⟩; refine ⟨_, rfl, ?_⟩))
  go_ret
  exact ⟨by first | rfl | (simp [errW_none, errW_some] <;> rfl) | (simp [*, errW_none, errW_some] <;> rfl), bw HB.out⟩
 ·rw [if_neg c4] at H
  have c4b0 : decide (t102 < 0) = false := decide_eq_false c4
  clear c4
  obtain rfl := Option.some.inj H
  go_enter Try.func27, Try.ntmps27
  go_wp2_with (first | ((with_reducible refine gate_dst (N := 2) rfl ?_); refine boxed (N := 2) rfl rfl (cs := #[.slice A0_0 l0_0.length c0_0]) (t := 27) HB.out (by first | (go_simp; done) | (go_simp; rfl)) ?_; clear HB; intro gb101 w7 hg HB BK101 GE101 hb; have GW101 := GE101; clear hb hg; obtain ⟨hcz8_0, hfz8_0⟩ := cells1 BK101.out) | ((with_reducible refine gate_callee (f := 64) rfl ?_); refine goesL_ (some 8) rfl rfl Try.func64 (by kernel_rfl) rfl #[.slice A0_0 l0_0.length c0_0, .int .i64 a1] rfl (by (try simp only [List.map_toArray, List.map_cons, List.map_nil]); first | done | rfl | (simp only [List.length_drop, List.length_take]; rfl)) ?_; (with_reducible refine (laws_heldByteSS.calls k _ _ l0_0 a1 t102 _ ?side1 ?side2 A3.out).mono ?_); (case side1 => exact cw HR0_0.out HB.out); (case side2 => exact HC0_0.out); rintro e w' ⟨rfl, ⟨nd, rfl⟩⟩; refine ⟨_, rfl, ?_⟩))
  go_ret
  exact ⟨by first | rfl | (simp [errW_none, errW_some] <;> rfl) | (simp [*, errW_none, errW_some] <;> rfl), bw HB.out⟩


/-! ### laws_FnExactNameGet: function 5 -/
def laws_FnExactNameGet.f (k : Nat) (l0 : List Int) (a1 : Int) : Option (Bool) := if (l0.length : Int) > 1048576 then (some true) else ((laws_toByteS.f k l0).bind fun t101 => ((spec_NameGet.f k t101 a1).bind fun bt104 => ((laws_toByteS.f k l0).bind fun t109 => ((impl_NameGet.f k t109 a1).bind fun bt112 => ((laws_eqName.f k bt112.1 bt104.1).bind fun t117 => (if t117 = true then (if bt112.2 = bt104.2 then ((laws_toByteS.f k l0).bind fun t118 => ((laws_eqByteS.f k t109 t118).bind fun t121 => (if t121 = true then ((laws_markByteS.f k t109 1).bind fun bt122 => (if bt122.1 < 0 then (none) else ((laws_eqName.f k bt112.1 bt104.1).bind fun t124 => (if t124 = true then ((laws_markName.f bt112.1 1).bind fun bt125 => ((laws_heldName.f k bt125.2 1).bind fun t127 => (if t127 < 0 then (none) else (if t127 = bt125.1 then ((laws_toByteS.f k l0).bind fun t128 => ((impl_NameGet.f k t128 a1).bind fun bt131 => ((laws_eqName.f k bt131.1 bt104.1).bind fun t136 => (if t136 = true then (if bt131.2 = bt104.2 then ((laws_heldName.f k bt125.2 1).bind fun t137 => (if t137 < 0 then (none) else (if t137 = bt125.1 then (some true) else (none)))) else (none)) else (none))))) else (none))))) else (none))))) else (none)))) else (none)) else (none)))))))
theorem laws_FnExactNameGet.mono : ∀ a0 a1 k, LeO (laws_FnExactNameGet.f k a0 a1) (laws_FnExactNameGet.f (k + 1) a0 a1) := by
 intro a0 a1 k
 unfold laws_FnExactNameGet.f
 repeat' first
   | (with_reducible exact impl_NameGet.mono _ _ _)
   | (with_reducible exact laws_eqByteS.mono _ _ _)
   | (with_reducible exact laws_eqName.mono _ _ _)
   | (with_reducible exact laws_heldName.mono _ _ _)
   | (with_reducible exact laws_markByteS.mono _ _ _)
   | (with_reducible exact laws_toByteS.mono _ _)
   | (with_reducible exact spec_NameGet.mono _ _ _)
   | (with_reducible exact LeO.refl _)
   | (with_reducible exact LeO.none _)
   | (with_reducible refine LeO.ite ?_ ?_)
   | (with_reducible refine LeO.bind ?_ (fun _ => ?_))
   | exact impl_NameGet.mono _ _ _
   | exact laws_eqByteS.mono _ _ _
   | exact laws_eqName.mono _ _ _
   | exact laws_heldName.mono _ _ _
   | exact laws_markByteS.mono _ _ _
   | exact laws_toByteS.mono _ _
   | exact spec_NameGet.mono _ _ _
   | exact LeO.none _
   | refine LeO.ite ?_ ?_
   | refine LeO.bind ?_ (fun _ => ?_)
set_option maxHeartbeats 8000000 in
set_option maxRecDepth 100000 in
theorem laws_FnExactNameGet.calls (k : Nat) (A0 : Option Addr) (c0 : Nat) (l0 : List Int) (a1 : Int) (r : Bool) (w : World) (hr0 : Kd.C (Kd.int .u8) w A0 l0.length l0) (hc0 : l0.length ≤ c0) (h : laws_FnExactNameGet.f k l0 a1 = some r) :
  Calls Try.prog 5 #[.slice A0 l0.length c0, .int .i64 a1] w fun e w' => e = .returned (.bool r) ∧ Below w.heap.size w w' := by
 have hu27 := Try.underlying27
 have HR0 := Aside0.mk hr0
 have HC0 := Aside0.mk hc0
 clear hr0 hc0
 have HB := Aside0.mk (Below.refl w.heap.size w)
 have H : (if (l0.length : Int) > 1048576 then (some true) else ((laws_toByteS.f k l0).bind fun t101 => ((spec_NameGet.f k t101 a1).bind fun bt104 => ((laws_toByteS.f k l0).bind fun t109 => ((impl_NameGet.f k t109 a1).bind fun bt112 => ((laws_eqName.f k bt112.1 bt104.1).bind fun t117 => (if t117 = true then (if bt112.2 = bt104.2 then ((laws_toByteS.f k l0).bind fun t118 => ((laws_eqByteS.f k t109 t118).bind fun t121 => (if t121 = true then ((laws_markByteS.f k t109 1).bind fun bt122 => (if bt122.1 < 0 then (none) else ((laws_eqName.f k bt112.1 bt104.1).bind fun t124 => (if t124 = true then ((laws_markName.f bt112.1 1).bind fun bt125 => ((laws_heldName.f k bt125.2 1).bind fun t127 => (if t127 < 0 then (none) else (if t127 = bt125.1 then ((laws_toByteS.f k l0).bind fun t128 => ((impl_NameGet.f k t128 a1).bind fun bt131 => ((laws_eqName.f k bt131.1 bt104.1).bind fun t136 => (if t136 = true then (if bt131.2 = bt104.2 then ((laws_heldName.f k bt125.2 1).bind fun t137 => (if t137 < 0 then (none) else (if t137 = bt125.1 then (some true) else (none)))) else (none)) else (none))))) else (none))))) else (none))))) else (none)))) else (none)) else (none)))))))) = some r := h
 clear h
 by_cases c3 : (l0.length : Int) > 1048576
 ·rw [if_pos c3] at H
  have c3b0 : decide (1048576 < (l0.length : Int)) = true := decide_eq_true c3
  have c3b1 : decide (1048576 < l0.length) = true := decide_eq_true (by omega)
  clear c3
  obtain rfl := Option.some.inj H
  go_enter Try.func5, Try.ntmps5
  go_wp2
  go_ret
  exact ⟨by first | rfl | (simp [errW_none, errW_some] <;> rfl) | (simp [*, errW_none, errW_some] <;> rfl), bw HB.out⟩
 ·rw [if_neg c3] at H
  have c3b0 : decide (1048576 < (l0.length : Int)) = false := decide_eq_false c3
  have c3b1 : decide (1048576 < l0.length) = false := decide_eq_false (by omega)
  clear c3
  replace H := Option.bind_eq_some_iff.mp H
  obtain ⟨t101, A40, H⟩ := H
  replace H : ((spec_NameGet.f k t101 a1).bind fun bt104 => ((laws_toByteS.f k l0).bind fun t109 => ((impl_NameGet.f k t109 a1).bind fun bt112 => ((laws_eqName.f k bt112.1 bt104.1).bind fun t117 => (if t117 = true then (if bt112.2 = bt104.2 then ((laws_toByteS.f k l0).bind fun t118 => ((laws_eqByteS.f k t109 t118).bind fun t121 => (if t121 = true then ((laws_markByteS.f k t109 1).bind fun bt122 => (if bt122.1 < 0 then (none) else ((laws_eqName.f k bt112.1 bt104.1).bind fun t124 => (if t124 = true then ((laws_markName.f bt112.1 1).bind fun bt125 => ((laws_heldName.f k bt125.2 1).bind fun t127 => (if t127 < 0 then (none) else (if t127 = bt125.1 then ((laws_toByteS.f k l0).bind fun t128 => ((impl_NameGet.f k t128 a1).bind fun bt131 => ((laws_eqName.f k bt131.1 bt104.1).bind fun t136 => (if t136 = true then (if bt131.2 = bt104.2 then ((laws_heldName.f k bt125.2 1).bind fun t137 => (if t137 < 0 then (none) else (if t137 = bt125.1 then (some true) else (none)))) else (none)) else (none))))) else (none))))) else (none))))) else (none)))) else (none)) else (none)))))) = some r := H
  have A4 := Aside0.mk A40
  clear A40
  replace H := Option.bind_eq_some_iff.mp H
  obtain ⟨⟨t104, t107⟩, A50, H⟩ := H
  replace H : ((laws_toByteS.f k l0).bind fun t109 => ((impl_NameGet.f k t109 a1).bind fun bt112 => ((laws_eqName.f k bt112.1 t104).bind fun t117 => (if t117 = true then (if bt112.2 = t107 then ((laws_toByteS.f k l0).bind fun t118 => ((laws_eqByteS.f k t109 t118).bind fun t121 => (if t121 = true then ((laws_markByteS.f k t109 1).bind fun bt122 => (if bt122.1 < 0 then (none) else ((laws_eqName.f k bt112.1 t104).bind fun t124 => (if t124 = true then ((laws_markName.f bt112.1 1).bind fun bt125 => ((laws_heldName.f k bt125.2 1).bind fun t127 => (if t127 < 0 then (none) else (if t127 = bt125.1 then ((laws_toByteS.f k l0).bind fun t128 => ((impl_NameGet.f k t128 a1).bind fun bt131 => ((laws_eqName.f k bt131.1 t104).bind fun t136 => (if t136 = true then (if bt131.2 = t107 then ((laws_heldName.f k bt125.2 1).bind fun t137 => (if t137 < 0 then (none) else (if t137 = bt125.1 then (some true) else (none)))) else (none)) else (none))))) else (none))))) else (none))))) else (none)))) else (none)) else (none))))) = some r := H
  have A5 := Aside0.mk A50
  clear A50
  replace H := Option.bind_eq_some_iff.mp H
  obtain ⟨t109, A60, H⟩ := H
  replace H : ((impl_NameGet.f k t109 a1).bind fun bt112 => ((laws_eqName.f k bt112.1 t104).bind fun t117 => (if t117 = true then (if bt112.2 = t107 then ((laws_toByteS.f k l0).bind fun t118 => ((laws_eqByteS.f k t109 t118).bind fun t121 => (if t121 = true then ((laws_markByteS.f k t109 1).bind fun bt122 => (if bt122.1 < 0 then (none) else ((laws_eqName.f k bt112.1 t104).bind fun t124 => (if t124 = true then ((laws_markName.f bt112.1 1).bind fun bt125 => ((laws_heldName.f k bt125.2 1).bind fun t127 => (if t127 < 0 then (none) else (if t127 = bt125.1 then ((laws_toByteS.f k l0).bind fun t128 => ((impl_NameGet.f k t128 a1).bind fun bt131 => ((laws_eqName.f k bt131.1 t104).bind fun t136 => (if t136 = true then (if bt131.2 = t107 then ((laws_heldName.f k bt125.2 1).bind fun t137 => (if t137 < 0 then (none) else (if t137 = bt125.1 then (some true) else (none)))) else (none)) else (none))))) else (none))))) else (none))))) else (none)))) else (none)) else (none)))) = some r := H
  have A6 := Aside0.mk A60
  clear A60
  replace H := Option.bind_eq_some_iff.mp H
  obtain ⟨⟨t112, t115⟩, A70, H⟩ := H
  replace H : ((laws_eqName.f k t112 t104).bind fun t117 => (if t117 = true then (if t115 = t107 then ((laws_toByteS.f k l0).bind fun t118 => ((laws_eqByteS.f k t109 t118).bind fun t121 => (if t121 = true then ((laws_markByteS.f k t109 1).bind fun bt122 => (if bt122.1 < 0 then (none) else ((laws_eqName.f k t112 t104).bind fun t124 => (if t124 = true then ((laws_markName.f t112 1).bind fun bt125 => ((laws_heldName.f k bt125.2 1).bind fun t127 => (if t127 < 0 then (none) else (if t127 = bt125.1 then ((laws_toByteS.f k l0).bind fun t128 => ((impl_NameGet.f k t128 a1).bind fun bt131 => ((laws_eqName.f k bt131.1 t104).bind fun t136 => (if t136 = true then (if bt131.2 = t107 then ((laws_heldName.f k bt125.2 1).bind fun t137 => (if t137 < 0 then (none) else (if t137 = bt125.1 then (some true) else (none)))) else (none)) else (none))))) else (none))))) else (none))))) else (none)))) else (none)) else (none))) = some r := H
  have A7 := Aside0.mk A70
  clear A70
  replace H := Option.bind_eq_some_iff.mp H
  obtain ⟨t117, A80, H⟩ := H
  replace H : (if t117 = true then (if t115 = t107 then ((laws_toByteS.f k l0).bind fun t118 => ((laws_eqByteS.f k t109 t118).bind fun t121 => (if t121 = true then ((laws_markByteS.f k t109 1).bind fun bt122 => (if bt122.1 < 0 then (none) else ((laws_eqName.f k t112 t104).bind fun t124 => (if t124 = true then ((laws_markName.f t112 1).bind fun bt125 => ((laws_heldName.f k bt125.2 1).bind fun t127 => (if t127 < 0 then (none) else (if t127 = bt125.1 then ((laws_toByteS.f k l0).bind fun t128 => ((impl_NameGet.f k t128 a1).bind fun bt131 => ((laws_eqName.f k bt131.1 t104).bind fun t136 => (if t136 = true then (if bt131.2 = t107 then ((laws_heldName.f k bt125.2 1).bind fun t137 => (if t137 < 0 then (none) else (if t137 = bt125.1 then (some true) else (none)))) else (none)) else (none))))) else (none))))) else (none))))) else (none)))) else (none)) else (none)) = some r := H
  have A8 := Aside0.mk A80
  clear A80
  by_cases c9 : t117 = true
  ·subst c9
   have H1 : (if t115 = t107 then ((laws_toByteS.f k l0).bind fun t118 => ((laws_eqByteS.f k t109 t118).bind fun t121 => (if t121 = true then ((laws_markByteS.f k t109 1).bind fun bt122 => (if bt122.1 < 0 then (none) else ((laws_eqName.f k t112 t104).bind fun t124 => (if t124 = true then ((laws_markName.f t112 1).bind fun bt125 => ((laws_heldName.f k bt125.2 1).bind fun t127 => (if t127 < 0 then (none) else (if t127 = bt125.1 then ((laws_toByteS.f k l0).bind fun t128 => ((impl_NameGet.f k t128 a1).bind fun bt131 => ((laws_eqName.f k bt131.1 t104).bind fun t136 => (if t136 = true then (if bt131.2 = t107 then ((laws_heldName.f k bt125.2 1).bind fun t137 => (if t137 < 0 then (none) else (if t137 = bt125.1 then (some true) else (none)))) else (none)) else (none))))) else (none))))) else (none))))) else (none)))) else (none)) = some r := by rw [if_pos rfl] at H; exact H
   clear H
   have H := H1
   clear H1
   by_cases c10 : t115 = t107
   ·rw [if_pos c10] at H
    have c10b0 : (t115 == t107) = true := beq_iff_eq.mpr c10
    have c10b1 : (t115 != t107) = false := bne_eq_false_iff_eq.mpr c10
    clear c10
    replace H := Option.bind_eq_some_iff.mp H
    obtain ⟨t118, A110, H⟩ := H
    replace H : ((laws_eqByteS.f k t109 t118).bind fun t121 => (if t121 = true then ((laws_markByteS.f k t109 1).bind fun bt122 => (if bt122.1 < 0 then (none) else ((laws_eqName.f k t112 t104).bind fun t124 => (if t124 = true then ((laws_markName.f t112 1).bind fun bt125 => ((laws_heldName.f k bt125.2 1).bind fun t127 => (if t127 < 0 then (none) else (if t127 = bt125.1 then ((laws_toByteS.f k l0).bind fun t128 => ((impl_NameGet.f k t128 a1).bind fun bt131 => ((laws_eqName.f k bt131.1 t104).bind fun t136 => (if t136 = true then (if bt131.2 = t107 then ((laws_heldName.f k bt125.2 1).bind fun t137 => (if t137 < 0 then (none) else (if t137 = bt125.1 then (some true) else (none)))) else (none)) else (none))))) else (none))))) else (none))))) else (none))) = some r := H
    have A11 := Aside0.mk A110
    clear A110
    replace H := Option.bind_eq_some_iff.mp H
    obtain ⟨t121, A120, H⟩ := H
    replace H : (if t121 = true then ((laws_markByteS.f k t109 1).bind fun bt122 => (if bt122.1 < 0 then (none) else ((laws_eqName.f k t112 t104).bind fun t124 => (if t124 = true then ((laws_markName.f t112 1).bind fun bt125 => ((laws_heldName.f k bt125.2 1).bind fun t127 => (if t127 < 0 then (none) else (if t127 = bt125.1 then ((laws_toByteS.f k l0).bind fun t128 => ((impl_NameGet.f k t128 a1).bind fun bt131 => ((laws_eqName.f k bt131.1 t104).bind fun t136 => (if t136 = true then (if bt131.2 = t107 then ((laws_heldName.f k bt125.2 1).bind fun t137 => (if t137 < 0 then (none) else (if t137 = bt125.1 then (some true) else (none)))) else (none)) else (none))))) else (none))))) else (none))))) else (none)) = some r := H
    have A12 := Aside0.mk A120
    clear A120
    by_cases c13 : t121 = true
    ·subst c13
     have H1 : ((laws_markByteS.f k t109 1).bind fun bt122 => (if bt122.1 < 0 then (none) else ((laws_eqName.f k t112 t104).bind fun t124 => (if t124 = true then ((laws_markName.f t112 1).bind fun bt125 => ((laws_heldName.f k bt125.2 1).bind fun t127 => (if t127 < 0 then (none) else (if t127 = bt125.1 then ((laws_toByteS.f k l0).bind fun t128 => ((impl_NameGet.f k t128 a1).bind fun bt131 => ((laws_eqName.f k bt131.1 t104).bind fun t136 => (if t136 = true then (if bt131.2 = t107 then ((laws_heldName.f k bt125.2 1).bind fun t137 => (if t137 < 0 then (none) else (if t137 = bt125.1 then (some true) else (none)))) else (none)) else (none))))) else (none))))) else (none))))) = some r := by rw [if_pos rfl] at H; exact H
     clear H
     have H := H1
     clear H1
     replace H := Option.bind_eq_some_iff.mp H
     obtain ⟨⟨t122, t123⟩, A140, H⟩ := H
     replace H : (if t122 < 0 then (none) else ((laws_eqName.f k t112 t104).bind fun t124 => (if t124 = true then ((laws_markName.f t112 1).bind fun bt125 => ((laws_heldName.f k bt125.2 1).bind fun t127 => (if t127 < 0 then (none) else (if t127 = bt125.1 then ((laws_toByteS.f k l0).bind fun t128 => ((impl_NameGet.f k t128 a1).bind fun bt131 => ((laws_eqName.f k bt131.1 t104).bind fun t136 => (if t136 = true then (if bt131.2 = t107 then ((laws_heldName.f k bt125.2 1).bind fun t137 => (if t137 < 0 then (none) else (if t137 = bt125.1 then (some true) else (none)))) else (none)) else (none))))) else (none))))) else (none)))) = some r := H
     have A14 := Aside0.mk A140
     clear A140
     by_cases c15 : t122 < 0
     ·rw [if_pos c15] at H
      exact absurd H (by simp)
     ·rw [if_neg c15] at H
      have c15b0 : decide (t122 < 0) = false := decide_eq_false c15
      clear c15
      replace H := Option.bind_eq_some_iff.mp H
      obtain ⟨t124, A160, H⟩ := H
      replace H : (if t124 = true then ((laws_markName.f t112 1).bind fun bt125 => ((laws_heldName.f k bt125.2 1).bind fun t127 => (if t127 < 0 then (none) else (if t127 = bt125.1 then ((laws_toByteS.f k l0).bind fun t128 => ((impl_NameGet.f k t128 a1).bind fun bt131 => ((laws_eqName.f k bt131.1 t104).bind fun t136 => (if t136 = true then (if bt131.2 = t107 then ((laws_heldName.f k bt125.2 1).bind fun t137 => (if t137 < 0 then (none) else (if t137 = bt125.1 then (some true) else (none)))) else (none)) else (none))))) else (none))))) else (none)) = some r := H
      have A16 := Aside0.mk A160
      clear A160
      by_cases c17 : t124 = true
      ·subst c17
       have H1 : ((laws_markName.f t112 1).bind fun bt125 => ((laws_heldName.f k bt125.2 1).bind fun t127 => (if t127 < 0 then (none) else (if t127 = bt125.1 then ((laws_toByteS.f k l0).bind fun t128 => ((impl_NameGet.f k t128 a1).bind fun bt131 => ((laws_eqName.f k bt131.1 t104).bind fun t136 => (if t136 = true then (if bt131.2 = t107 then ((laws_heldName.f k bt125.2 1).bind fun t137 => (if t137 < 0 then (none) else (if t137 = bt125.1 then (some true) else (none)))) else (none)) else (none))))) else (none))))) = some r := by rw [if_pos rfl] at H; exact H
       clear H
       have H := H1
       clear H1
       replace H := Option.bind_eq_some_iff.mp H
       obtain ⟨⟨t125, t126⟩, A180, H⟩ := H
       replace H : ((laws_heldName.f k t126 1).bind fun t127 => (if t127 < 0 then (none) else (if t127 = t125 then ((laws_toByteS.f k l0).bind fun t128 => ((impl_NameGet.f k t128 a1).bind fun bt131 => ((laws_eqName.f k bt131.1 t104).bind fun t136 => (if t136 = true then (if bt131.2 = t107 then ((laws_heldName.f k t126 1).bind fun t137 => (if t137 < 0 then (none) else (if t137 = t125 then (some true) else (none)))) else (none)) else (none))))) else (none)))) = some r := H
       have A18 := Aside0.mk A180
       clear A180
       replace H := Option.bind_eq_some_iff.mp H
       obtain ⟨t127, A190, H⟩ := H
       replace H : (if t127 < 0 then (none) else (if t127 = t125 then ((laws_toByteS.f k l0).bind fun t128 => ((impl_NameGet.f k t128 a1).bind fun bt131 => ((laws_eqName.f k bt131.1 t104).bind fun t136 => (if t136 = true then (if bt131.2 = t107 then ((laws_heldName.f k t126 1).bind fun t137 => (if t137 < 0 then (none) else (if t137 = t125 then (some true) else (none)))) else (none)) else (none))))) else (none))) = some r := H
       have A19 := Aside0.mk A190
       clear A190
       by_cases c20 : t127 < 0
       ·rw [if_pos c20] at H
        exact absurd H (by simp)
       ·rw [if_neg c20] at H
        have c20b0 : decide (t127 < 0) = false := decide_eq_false c20
        clear c20
        by_cases c21 : t127 = t125
        ·rw [if_pos c21] at H
         have c21b0 : (t127 == t125) = true := beq_iff_eq.mpr c21
         have c21b1 : (t127 != t125) = false := bne_eq_false_iff_eq.mpr c21
         clear c21
         replace H := Option.bind_eq_some_iff.mp H
         obtain ⟨t128, A220, H⟩ := H
         replace H : ((impl_NameGet.f k t128 a1).bind fun bt131 => ((laws_eqName.f k bt131.1 t104).bind fun t136 => (if t136 = true then (if bt131.2 = t107 then ((laws_heldName.f k t126 1).bind fun t137 => (if t137 < 0 then (none) else (if t137 = t125 then (some true) else (none)))) else (none)) else (none)))) = some r := H
         have A22 := Aside0.mk A220
         clear A220
         replace H := Option.bind_eq_some_iff.mp H
         obtain ⟨⟨t131, t134⟩, A230, H⟩ := H
         replace H : ((laws_eqName.f k t131 t104).bind fun t136 => (if t136 = true then (if t134 = t107 then ((laws_heldName.f k t126 1).bind fun t137 => (if t137 < 0 then (none) else (if t137 = t125 then (some true) else (none)))) else (none)) else (none))) = some r := H
         have A23 := Aside0.mk A230
         clear A230
         replace H := Option.bind_eq_some_iff.mp H
         obtain ⟨t136, A240, H⟩ := H
         replace H : (if t136 = true then (if t134 = t107 then ((laws_heldName.f k t126 1).bind fun t137 => (if t137 < 0 then (none) else (if t137 = t125 then (some true) else (none)))) else (none)) else (none)) = some r := H
         have A24 := Aside0.mk A240
         clear A240
         by_cases c25 : t136 = true
         ·subst c25
          have H1 : (if t134 = t107 then ((laws_heldName.f k t126 1).bind fun t137 => (if t137 < 0 then (none) else (if t137 = t125 then (some true) else (none)))) else (none)) = some r := by rw [if_pos rfl] at H; exact H
          clear H
          have H := H1
          clear H1
          by_cases c26 : t134 = t107
          ·rw [if_pos c26] at H
           have c26b0 : (t134 == t107) = true := beq_iff_eq.mpr c26
           have c26b1 : (t134 != t107) = false := bne_eq_false_iff_eq.mpr c26
           clear c26
           replace H := Option.bind_eq_some_iff.mp H
           obtain ⟨t137, A270, H⟩ := H
           replace H : (if t137 < 0 then (none) else (if t137 = t125 then (some true) else (none))) = some r := H
           have A27 := Aside0.mk A270
           clear A270
           by_cases c28 : t137 < 0
           ·rw [if_pos c28] at H
            exact absurd H (by simp)
           ·rw [if_neg c28] at H
            have c28b0 : decide (t137 < 0) = false := decide_eq_false c28
            clear c28
            by_cases c29 : t137 = t125
            ·rw [if_pos c29] at H
             have c29b0 : (t137 == t125) = true := beq_iff_eq.mpr c29
             have c29b1 : (t137 != t125) = false := bne_eq_false_iff_eq.mpr c29
             clear c29
             obtain rfl := Option.some.inj H
             go_enter Try.func5, Try.ntmps5
             go_wp2_with (first | ((with_reducible refine gate_callee (f := 19) rfl ?_); refine goesL_ (some 20) rfl rfl Try.func19 (by kernel_rfl) rfl #[.slice A0 l0.length c0] rfl (by (try simp only [List.map_toArray, List.map_cons, List.map_nil]); first | done | rfl | (simp only [List.length_drop, List.length_take]; rfl)) ?_; (with_reducible refine (laws_toByteS.calls k _ _ l0 t101 _ ?side1 ?side2 A4.out).mono ?_); (case side1 => repeat (first | exact HR0.out | (with_reducible refine Kd.C_alloc ?_ _) | (with_reducible refine Kd.C_drewN ?_ _) | (with_reducible refine Kd.C_drew ?_))); (case side2 => exact HC0.out); rintro e w30 ⟨v102, rfl, ho0, hb⟩; refine ⟨_, rfl, ?_⟩; have HO103 := Aside0.mk (Kd.R_lower ho0 (below_size (bw HB.out))); replace HB := Aside0.mk (below_step (bw HB.out) hb); (try clear hb); (try clear ho0); obtain ⟨Ao31, co31, eo31⟩ := Kd.R_slice HO103.out; subst eo31) | ((with_reducible refine gate_callee (f := 25) rfl ?_); refine goesL_ (some 22) rfl rfl Try.func25 (by kernel_rfl) rfl #[.slice Ao31 t101.length co31, .int .i64 a1] rfl (by (try simp only [List.map_toArray, List.map_cons, List.map_nil]); first | done | rfl | (simp only [List.length_drop, List.length_take]; rfl)) ?_; (with_reducible refine (spec_NameGet.calls k _ _ t101 a1 t104 t107 _ ?side1 ?side2 A5.out).mono ?_); (case side1 => repeat (first | exact (Kd.R_reads' HO103.out).2.2 | (with_reducible refine Kd.C_alloc ?_ _) | (with_reducible refine Kd.C_drewN ?_ _) | (with_reducible refine Kd.C_drew ?_))); (case side2 => exact (Kd.R_reads' HO103.out).2.1); rintro e w32 ⟨v105, rfl, ho0, hb⟩; refine ⟨_, rfl, ?_⟩; have HO106 := Aside0.mk (Kd.S_lower (Kd.S_new' ho0 (Kd.R_lt (rw_ HO103.out))) (below_size (bw HB.out))); replace HO103 := Aside0.mk (Kd.R_below (rw_ HO103.out) hb); replace HB := Aside0.mk (below_step (bw HB.out) hb); (try clear hb); (try clear ho0)) | ((with_reducible refine gate_dst (N := 5) rfl ?_); refine box_event ?hg (N := 5) ?hd (cs := #[.slice none 0 0]) (t := 27) ?hr ?_; (case hd => rfl); (case hg => rfl); (case hr => first | (go_simp; done) | (go_simp; rfl)); intro gb108 hg w33 hbox hb; replace HO103 := Aside0.mk (Kd.R_below (rw_ HO103.out) hb); replace HO106 := Aside0.mk (Kd.S_below (sw HO106.out) hb); have BK108 := Aside0.mk (hbox); have GW108 := Aside0.mk ((by rw [hg]; exact (below_size (bw HB.out)) : w.heap.size ≤ gb108)); have GE108 := Aside0.mk ((by rw [hg]; exact (below_size (bw HB.out)) : w.heap.size ≤ gb108)); replace HB := Aside0.mk (below_step (bw HB.out) hb); clear hb hbox hg; obtain ⟨Ao34, co34, eo34⟩ := Kd.S_slice HO106.out; subst eo34; obtain ⟨hcz35_0, hfz35_0⟩ := cells1 BK108.out) | ((with_reducible refine gate_callee (f := 19) rfl ?_); refine goesL_ (some 26) rfl rfl Try.func19 (by kernel_rfl) rfl #[.slice A0 l0.length c0] rfl (by (try simp only [List.map_toArray, List.map_cons, List.map_nil]); first | done | rfl | (simp only [List.length_drop, List.length_take]; rfl)) ?_; (with_reducible refine (laws_toByteS.calls k _ _ l0 t109 _ ?side1 ?side2 A6.out).mono ?_); (case side1 => exact Kd.C_below HR0.out (by repeat (first | exact bw HB.out | refine below_set ?_ GE108.out))); (case side2 => exact HC0.out); rintro e w36 ⟨v110, rfl, ho0, hb⟩; refine ⟨_, rfl, ?_⟩; replace HO106 := Aside0.mk (Kd.S_elder' (far1S HO106.out BK108.out (by decide)) (Kd.R_base ho0) hb); have HO111 := Aside0.mk (Kd.R_lower (Kd.R_new' ho0 (Kd.R_lt (far1R HO103.out BK108.out (by decide)))) (below_size (by repeat (first | exact bw HB.out | refine below_set ?_ GE108.out)))); replace HO103 := Aside0.mk (Kd.R_elder' (far1R HO103.out BK108.out (by decide)) (Kd.R_base ho0) hb); replace BK108 := Aside0.mk (blk_below (bput1 BK108.out) hb); replace HB := Aside0.mk (below_step (by repeat (first | exact bw HB.out | refine below_set ?_ GE108.out)) hb); (try clear hb); (try clear ho0); obtain ⟨Ao37, co37, eo37⟩ := Kd.R_slice HO111.out; subst eo37) | ((with_reducible refine gate_callee (f := 26) rfl ?_); refine goesL_ (some 30) rfl rfl Try.func26 (by kernel_rfl) rfl #[.slice Ao37 t109.length co37, .int .i64 a1] rfl (by (try simp only [List.map_toArray, List.map_cons, List.map_nil]); first | done | rfl | (simp only [List.length_drop, List.length_take]; rfl)) ?_; (with_reducible refine (impl_NameGet.calls k _ _ t109 a1 t112 t115 _ ?side1 ?side2 A7.out).mono ?_); (case side1 => repeat (first | exact (Kd.R_reads' HO111.out).2.2 | (with_reducible refine Kd.C_alloc ?_ _) | (with_reducible refine Kd.C_drewN ?_ _) | (with_reducible refine Kd.C_drew ?_))); (case side2 => exact (Kd.R_reads' HO111.out).2.1); rintro e w38 ⟨v113, rfl, ho0, hb⟩; refine ⟨_, rfl, ?_⟩; have HO114 := Aside0.mk (Kd.S_lower (S_ge_ (Kd.S_new' (Kd.S_new' (Kd.S_new' ho0 (Kd.R_lt (rw_ HO103.out))) (Kd.S_lt (sw HO106.out))) (Kd.R_lt (rw_ HO111.out)))) (below_size (by repeat (first | exact bw HB.out | refine below_set ?_ GE108.out)))); replace HO103 := Aside0.mk (Kd.R_below (rw_ HO103.out) hb); replace HO106 := Aside0.mk (Kd.S_elder' (S_lt_ (sw HO106.out)) (Kd.S_base ho0) hb); replace HO111 := Aside0.mk (Kd.R_below (rw_ HO111.out) hb); replace BK108 := Aside0.mk (blk_below (bk BK108.out) hb); replace HB := Aside0.mk (below_step (by repeat (first | exact bw HB.out | refine below_set ?_ GE108.out)) hb); (try clear hb); (try clear ho0)) | ((with_reducible refine gate_dst (N := 8) rfl ?_); refine box_event ?hg (N := 8) ?hd (cs := #[.slice none 0 0]) (t := 27) ?hr ?_; (case hd => rfl); (case hg => rfl); (case hr => first | (go_simp; done) | (go_simp; rfl)); intro gb116 hg w39 hbox hb; replace HO103 := Aside0.mk (Kd.R_below (rw_ HO103.out) hb); replace HO106 := Aside0.mk (Kd.S_below (sw HO106.out) hb); replace HO111 := Aside0.mk (Kd.R_below (rw_ HO111.out) hb); replace HO114 := Aside0.mk (Kd.S_below (sw HO114.out) hb); have BK116 := Aside0.mk (hbox); have GW116 := Aside0.mk ((by rw [hg]; exact (below_size (by repeat (first | exact bw HB.out | refine below_set ?_ GE108.out))) : w.heap.size ≤ gb116)); have GE116 := Aside0.mk ((by rw [hg]; exact (below_size (by repeat (first | exact bw HB.out | refine below_set ?_ GE108.out))) : w.heap.size ≤ gb116)); replace HB := Aside0.mk (below_step (by repeat (first | exact bw HB.out | refine below_set ?_ GE108.out)) hb); have NB108_116 := Aside0.mk ((by rw [hg]; exact Nat.ne_of_lt (blk_lt (bk BK108.out)) : gb108 ≠ gb116)); have NB116_108 := Aside0.mk ((by rw [hg]; exact Nat.ne_of_gt (blk_lt (bk BK108.out)) : gb116 ≠ gb108)); replace BK108 := Aside0.mk (blk_below (bk BK108.out) hb); clear hb hbox hg; obtain ⟨Ao40, co40, eo40⟩ := Kd.S_slice HO114.out; subst eo40; have hnb41 := NB116_108.out; have hnc41 := NB108_116.out; obtain ⟨hcz42_0, hfz42_0⟩ := cells1 BK116.out; obtain ⟨hcz43_0, hfz43_0⟩ := cells1 BK108.out) | ((with_reducible refine gate_callee (f := 17) rfl ?_); refine goesL_ (some 35) rfl rfl Try.func17 (by kernel_rfl) rfl #[.agg #[.slice Ao40 t112.length co40], .agg #[.slice Ao34 t104.length co34]] rfl (by (try simp only [List.map_toArray, List.map_cons, List.map_nil]); first | done | rfl | (simp only [List.length_drop, List.length_take]; rfl)) ?_; (with_reducible refine (laws_eqName.calls k _ _ t112 _ _ t104 true _ ?side1 ?side2 ?side3 ?side4 A8.out).mono ?_); (case side1 => exact (Kd.S_reads' (far1S HO114.out BK116.out (by decide))).2.2); (case side2 => exact (Kd.S_reads' HO114.out).2.1); (case side3 => exact (Kd.S_reads' (far1S HO106.out BK116.out (by decide))).2.2); (case side4 => exact (Kd.S_reads' HO106.out).2.1); rintro e w44 ⟨rfl, hb⟩; refine ⟨_, rfl, ?_⟩; replace HO103 := Aside0.mk (Kd.R_below (far1R HO103.out BK116.out (by decide)) hb); replace HO106 := Aside0.mk (Kd.S_below (far1S HO106.out BK116.out (by decide)) hb); replace HO111 := Aside0.mk (Kd.R_below (far1R HO111.out BK116.out (by decide)) hb); replace HO114 := Aside0.mk (Kd.S_below (far1S HO114.out BK116.out (by decide)) hb); replace BK108 := Aside0.mk (blk_below (bfar1 NB108_116.out BK108.out) hb); replace BK116 := Aside0.mk (blk_below (bput1 BK116.out) hb); replace HB := Aside0.mk (below_step (by repeat (first | exact bw HB.out | refine below_set ?_ GE108.out | refine below_set ?_ GE116.out)) hb); (try clear hb)) | ((with_reducible refine gate_callee (f := 19) rfl ?_); refine goesL_ (some 44) rfl rfl Try.func19 (by kernel_rfl) rfl #[.slice A0 l0.length c0] rfl (by (try simp only [List.map_toArray, List.map_cons, List.map_nil]); first | done | rfl | (simp only [List.length_drop, List.length_take]; rfl)) ?_; (with_reducible refine (laws_toByteS.calls k _ _ l0 t118 _ ?side1 ?side2 A11.out).mono ?_); (case side1 => exact cw HR0.out HB.out); (case side2 => exact HC0.out); rintro e w45 ⟨v119, rfl, ho0, hb⟩; refine ⟨_, rfl, ?_⟩; replace HO106 := Aside0.mk (Kd.S_elder' (sw HO106.out) (Kd.R_base ho0) hb); replace HO114 := Aside0.mk (Kd.S_elder' (sw HO114.out) (Kd.R_base ho0) hb); have HO120 := Aside0.mk (Kd.R_lower (Kd.R_new' (Kd.R_new' ho0 (Kd.R_lt (rw_ HO103.out))) (Kd.R_lt (rw_ HO111.out))) (below_size (by repeat (first | exact bw HB.out | refine below_set ?_ GE108.out | refine below_set ?_ GE116.out)))); replace HO103 := Aside0.mk (Kd.R_elder' (rw_ HO103.out) (Kd.R_base ho0) hb); replace HO111 := Aside0.mk (Kd.R_elder' (rw_ HO111.out) (Kd.R_base ho0) hb); replace BK108 := Aside0.mk (blk_below (bk BK108.out) hb); replace BK116 := Aside0.mk (blk_below (bk BK116.out) hb); replace HB := Aside0.mk (below_step (by repeat (first | exact bw HB.out | refine below_set ?_ GE108.out | refine below_set ?_ GE116.out)) hb); (try clear hb); (try clear ho0); obtain ⟨Ao46, co46, eo46⟩ := Kd.R_slice HO120.out; subst eo46) | ((with_reducible refine gate_callee (f := 21) rfl ?_); refine goesL_ (some 45) rfl rfl Try.func21 (by kernel_rfl) rfl #[.slice Ao37 t109.length co37, .slice Ao46 t118.length co46] rfl (by (try simp only [List.map_toArray, List.map_cons, List.map_nil]); first | done | rfl | (simp only [List.length_drop, List.length_take]; rfl)) ?_; (with_reducible refine (laws_eqByteS.calls k _ _ t109 _ _ t118 true _ ?side1 ?side2 ?side3 ?side4 A12.out).mono ?_); (case side1 => repeat (first | exact (Kd.R_reads' HO111.out).2.2 | (with_reducible refine Kd.C_alloc ?_ _) | (with_reducible refine Kd.C_drewN ?_ _) | (with_reducible refine Kd.C_drew ?_))); (case side2 => exact (Kd.R_reads' HO111.out).2.1); (case side3 => repeat (first | exact (Kd.R_reads' HO120.out).2.2 | (with_reducible refine Kd.C_alloc ?_ _) | (with_reducible refine Kd.C_drewN ?_ _) | (with_reducible refine Kd.C_drew ?_))); (case side4 => exact (Kd.R_reads' HO120.out).2.1); rintro e w' ⟨rfl, ⟨nd, rfl⟩⟩; refine ⟨_, rfl, ?_⟩; (try (rw [drewN_self w45]; generalize hq_ : World.drewN w45 _ = w45; replace HO103 := Aside0.mk (Kd.R_at hq_ HO103.out); replace HO106 := Aside0.mk (Kd.S_at hq_ HO106.out); replace HO111 := Aside0.mk (Kd.R_at hq_ HO111.out); replace HO114 := Aside0.mk (Kd.S_at hq_ HO114.out); replace HO120 := Aside0.mk (Kd.R_at hq_ HO120.out); replace BK108 := Aside0.mk (blk_at hq_ BK108.out); replace BK116 := Aside0.mk (blk_at hq_ BK116.out); replace HB := Aside0.mk (below_at hq_ HB.out); clear hq_))) | ((with_reducible refine gate_callee (f := 22) rfl ?_); refine goesL_ (some 49) rfl rfl Try.func22 (by kernel_rfl) rfl #[.slice Ao37 t109.length co37, .int .i64 1] rfl (by (try simp only [List.map_toArray, List.map_cons, List.map_nil]); first | done | rfl | (simp only [List.length_drop, List.length_take]; rfl)) ?_; (with_reducible refine (laws_markByteS.calls k (fun k_ => some k_ = (.slice Ao37 t109.length co37 : Value).ownBlock) (.slice Ao37 t109.length co37) t109 1 t122 t123 w _ ?side1 ?side2 A14.out).mono ?_); (case side1 => repeat (first | (with_reducible first | exact HB.out | apply below_alloc | apply pw_below_drewN | apply below_drew1 | refine below_set ?_ GE108.out | refine below_set ?_ GE116.out) | exact HB.out)); (case side2 => exact Kd.R_tight rfl HO111.out); rintro e w47 ⟨rfl, hy0, hb, hkp⟩; refine ⟨_, rfl, ?_⟩; replace HO103 := Aside0.mk (Kd.R_mono (ok' := fun k_ => some k_ ≠ (.slice Ao37 t109.length co37 : Value).ownBlock ∧ some k_ ≠ (.slice Ao46 t118.length co46 : Value).ownBlock) (Kd.R_keptB (HO103.out) hkp (fun k_ hk_ hs_ => (hk_.1.2) hs_)) (fun k_ hk_ => ⟨hk_.1.1.2, hk_.1.2⟩)); replace HO106 := Aside0.mk (Kd.S_mono (ok' := fun k_ => some k_ ≠ (.slice Ao31 t101.length co31 : Value).ownBlock ∧ some k_ ≠ (.slice Ao37 t109.length co37 : Value).ownBlock ∧ some k_ ≠ (.slice Ao40 t112.length co40 : Value).ownBlock ∧ some k_ ≠ (.slice Ao46 t118.length co46 : Value).ownBlock ∧ k_ < w36.heap.size) (Kd.S_keptB (HO106.out) hkp (fun k_ hk_ hs_ => (hk_.1.1.1.2) hs_)) (fun k_ hk_ => ⟨hk_.1.1.1.1.1.2, hk_.1.1.1.1.2, hk_.1.1.2, hk_.1.2, hk_.1.1.1.2⟩)); replace BK108 := Aside0.mk (blk_kept (bk BK108.out) hkp (fun hs_ => (fun e_ => (Kd.R_ne HO111.out BK108.out (by decide)) e_) hs_)); replace HO114 := Aside0.mk (Kd.S_mono (ok' := fun k_ => some k_ ≠ (.slice Ao31 t101.length co31 : Value).ownBlock ∧ some k_ ≠ (.slice Ao34 t104.length co34 : Value).ownBlock ∧ some k_ ≠ (.slice Ao37 t109.length co37 : Value).ownBlock ∧ some k_ ≠ (.slice Ao46 t118.length co46 : Value).ownBlock ∧ w36.heap.size ≤ k_) (Kd.S_keptB (HO114.out) hkp (fun k_ hk_ hs_ => (hk_.1.1.2) hs_)) (fun k_ hk_ => ⟨hk_.1.1.1.1.1.2, hk_.1.1.1.1.2, hk_.1.1.1.2, hk_.1.2, hk_.1.1.2⟩)); replace BK116 := Aside0.mk (blk_kept (bk BK116.out) hkp (fun hs_ => (fun e_ => (Kd.R_ne HO111.out BK116.out (by decide)) e_) hs_)); replace HO111 := Aside0.mk (Kd.R_reok rfl hy0 (fun k_ e_ => HO111.out.1 k_ e_)); replace HO120 := Aside0.mk (Kd.R_mono (ok' := fun k_ => some k_ ≠ (.slice Ao31 t101.length co31 : Value).ownBlock ∧ some k_ ≠ (.slice Ao37 t109.length co37 : Value).ownBlock) (Kd.R_keptB (HO120.out) hkp (fun k_ hk_ hs_ => (hk_.2) hs_)) (fun k_ hk_ => ⟨hk_.1.1.2, hk_.1.2⟩)); replace HB := Aside0.mk (hb); (try clear hb); (try clear hkp); (try clear hy0); obtain ⟨hcz48_0, hfz48_0⟩ := cells1 BK116.out; obtain ⟨hcz49_0, hfz49_0⟩ := cells1 BK108.out) | (go_at_call 17; (with_reducible refine (laws_eqName.calls k _ _ t112 _ _ t104 true _ ?side1 ?side2 ?side3 ?side4 A16.out).mono ?_); (case side1 => repeat (first | exact (Kd.S_reads' HO114.out).2.2 | (with_reducible refine Kd.C_alloc ?_ _) | (with_reducible refine Kd.C_drewN ?_ _) | (with_reducible refine Kd.C_drew ?_))); (case side2 => exact (Kd.S_reads' HO114.out).2.1); (case side3 => repeat (first | exact (Kd.S_reads' HO106.out).2.2 | (with_reducible refine Kd.C_alloc ?_ _) | (with_reducible refine Kd.C_drewN ?_ _) | (with_reducible refine Kd.C_drew ?_))); (case side4 => exact (Kd.S_reads' HO106.out).2.1); rintro e w50 ⟨rfl, hb⟩; replace HO103 := Aside0.mk (Kd.R_below (rw_ HO103.out) hb); replace HO106 := Aside0.mk (Kd.S_below (sw HO106.out) hb); replace HO111 := Aside0.mk (Kd.R_below (rw_ HO111.out) hb); replace HO114 := Aside0.mk (Kd.S_below (sw HO114.out) hb); replace HO120 := Aside0.mk (Kd.R_below (rw_ HO120.out) hb); replace BK108 := Aside0.mk (blk_below (bk BK108.out) hb); replace BK116 := Aside0.mk (blk_below (bk BK116.out) hb); replace HB := Aside0.mk (below_step (by repeat (first | exact bw HB.out | refine below_set ?_ GE108.out | refine below_set ?_ GE116.out)) hb); (try clear hb); obtain ⟨hcz51_0, hfz51_0⟩ := cells1 BK116.out) | ((with_reducible refine gate_callee (f := 23) rfl ?_); refine goesL_ (some 65) rfl rfl Try.func23 (by kernel_rfl) rfl #[.agg #[.slice Ao40 t112.length co40], .int .i64 1] rfl (by (try simp only [List.map_toArray, List.map_cons, List.map_nil]); first | done | rfl | (simp only [List.length_drop, List.length_take]; rfl)) ?_; (with_reducible refine (laws_markName.calls (fun k_ => (some k_ ≠ (.slice Ao31 t101.length co31 : Value).ownBlock ∧ (some k_ ≠ (.slice Ao34 t104.length co34 : Value).ownBlock ∧ (some k_ ≠ (.slice Ao37 t109.length co37 : Value).ownBlock ∧ (some k_ ≠ (.slice Ao46 t118.length co46 : Value).ownBlock ∧ w36.heap.size ≤ k_)))) ∧ w.heap.size ≤ k_ ∧ k_ < w50.heap.size ∧ ∃ q_, q_ ∈ 31 :: ((Kd.slice 5 (Kd.int .u8))).E ∧ ∃ c_, w50.heap[k_]? = some (Obj.cells c_ q_ (0, 0))) (.slice Ao40 t112.length co40) t112 1 t125 t126 w _ ?side1 ?side2 A18.out).mono ?_); (case side1 => repeat (first | (with_reducible first | exact HB.out | apply below_alloc | apply pw_below_drewN | apply below_drew1 | refine below_set ?_ GE108.out | refine below_set ?_ GE116.out) | exact HB.out)); (case side2 => (with_reducible repeat (first | apply Kd.S_alloc | apply Kd.S_drewN | apply Kd.S_drew)); exact Kd.S_bound HO114.out); rintro e w52 ⟨rfl, hy0, hb, hkp⟩; refine ⟨_, rfl, ?_⟩; replace HO103 := Aside0.mk (Kd.R_mono (ok' := fun k_ => some k_ ≠ (.slice Ao37 t109.length co37 : Value).ownBlock ∧ some k_ ≠ (.slice Ao46 t118.length co46 : Value).ownBlock) (R_keptD HO103.out rfl hkp (fun k_ ek_ hk_ hs_ => (fun e_ => (e_.1.1) ek_) hs_)) (fun k_ hk_ => ⟨hk_.1.1, hk_.1.2⟩)); replace HO106 := Aside0.mk (Kd.S_mono (ok' := fun k_ => (some k_ ≠ (.slice Ao31 t101.length co31 : Value).ownBlock ∧ (some k_ ≠ (.slice Ao37 t109.length co37 : Value).ownBlock ∧ (some k_ ≠ (.slice Ao40 t112.length co40 : Value).ownBlock ∧ (some k_ ≠ (.slice Ao46 t118.length co46 : Value).ownBlock ∧ k_ < w36.heap.size))))) (Kd.S_keptB HO106.out hkp (fun k_ hk_ hs_ => Nat.not_le.2 (hk_.2.2.2.2) (hs_.1.2.2.2.2))) (fun k_ hk_ => hk_.1)); replace BK108 := Aside0.mk (blk_kept (bk BK108.out) hkp (fun hs_ => (fun e_ => typed_not BK108.out (by decide) e_.2.2.2) hs_)); replace HO111 := Aside0.mk (Kd.R_mono (ok' := fun k_ => some k_ ≠ (.slice Ao31 t101.length co31 : Value).ownBlock ∧ some k_ ≠ (.slice Ao46 t118.length co46 : Value).ownBlock) (R_keptD HO111.out rfl hkp (fun k_ ek_ hk_ hs_ => (fun e_ => (e_.1.2.2.1) ek_) hs_)) (fun k_ hk_ => ⟨hk_.1.1.2, hk_.1.2⟩)); replace HO114 := Aside0.mk (Kd.S_mono hy0 (fun k_ e_ => e_.1)); replace BK116 := Aside0.mk (blk_kept (bk BK116.out) hkp (fun hs_ => (fun e_ => typed_not BK116.out (by decide) e_.2.2.2) hs_)); replace HO120 := Aside0.mk (Kd.R_mono (ok' := fun k_ => some k_ ≠ (.slice Ao31 t101.length co31 : Value).ownBlock ∧ some k_ ≠ (.slice Ao37 t109.length co37 : Value).ownBlock) (R_keptD HO120.out rfl hkp (fun k_ ek_ hk_ hs_ => (fun e_ => (e_.1.2.2.2.1) ek_) hs_)) (fun k_ hk_ => ⟨hk_.1.1, hk_.1.2⟩)); replace HB := Aside0.mk (hb); (try clear hb); (try clear hkp); (try clear hy0); obtain ⟨hcz53_0, hfz53_0⟩ := cells1 BK116.out) | ((with_reducible refine gate_callee (f := 27) rfl ?_); refine goesL_ (some 68) rfl rfl Try.func27 (by kernel_rfl) rfl #[.agg #[.slice Ao40 t126.length co40], .int .i64 1] rfl (by (try simp only [List.map_toArray, List.map_cons, List.map_nil]); first | done | (rw [show t126.length = t112.length from (Kd.S_reads' HO114.out).1.symm] <;> rfl) | rfl | (simp only [List.length_drop, List.length_take]; rfl)) ?_; (with_reducible refine (laws_heldName.calls k _ _ t126 1 t127 _ ?side1 ?side2 A19.out).mono ?_); (case side1 => repeat (first | exact (Kd.S_reads' HO114.out).2.2 | (with_reducible refine Kd.C_alloc ?_ _) | (with_reducible refine Kd.C_drewN ?_ _) | (with_reducible refine Kd.C_drew ?_))); (case side2 => rw [show t126.length = t112.length from (Kd.S_reads' HO114.out).1.symm]; exact (Kd.S_reads' HO114.out).2.1); rintro e w54 ⟨rfl, hb⟩; refine ⟨_, rfl, ?_⟩; replace HO103 := Aside0.mk (Kd.R_below (rw_ HO103.out) hb); replace HO106 := Aside0.mk (Kd.S_below (sw HO106.out) hb); replace HO111 := Aside0.mk (Kd.R_below (rw_ HO111.out) hb); replace HO114 := Aside0.mk (Kd.S_below (sw HO114.out) hb); replace HO120 := Aside0.mk (Kd.R_below (rw_ HO120.out) hb); replace BK108 := Aside0.mk (blk_below (bk BK108.out) hb); replace BK116 := Aside0.mk (blk_below (bk BK116.out) hb); replace HB := Aside0.mk (below_step (by repeat (first | exact bw HB.out | refine below_set ?_ GE108.out | refine below_set ?_ GE116.out)) hb); (try clear hb)) | ((with_reducible refine gate_callee (f := 19) rfl ?_); refine goesL_ (some 76) rfl rfl Try.func19 (by kernel_rfl) rfl #[.slice A0 l0.length c0] rfl (by (try simp only [List.map_toArray, List.map_cons, List.map_nil]); first | done | rfl | (simp only [List.length_drop, List.length_take]; rfl)) ?_; (with_reducible refine (laws_toByteS.calls k _ _ l0 t128 _ ?side1 ?side2 A22.out).mono ?_); (case side1 => exact cw HR0.out HB.out); (case side2 => exact HC0.out); rintro e w55 ⟨v129, rfl, ho0, hb⟩; refine ⟨_, rfl, ?_⟩; replace HO106 := Aside0.mk (Kd.S_elder' (sw HO106.out) (Kd.R_base ho0) hb); replace HO114 := Aside0.mk (Kd.S_elder' (sw HO114.out) (Kd.R_base ho0) hb); have HO130 := Aside0.mk (Kd.R_lower (Kd.R_new' (Kd.R_new' (Kd.R_new' ho0 (Kd.R_lt (rw_ HO103.out))) (Kd.R_lt (rw_ HO111.out))) (Kd.R_lt (rw_ HO120.out))) (below_size (by repeat (first | exact bw HB.out | refine below_set ?_ GE108.out | refine below_set ?_ GE116.out)))); replace HO103 := Aside0.mk (Kd.R_elder' (rw_ HO103.out) (Kd.R_base ho0) hb); replace HO111 := Aside0.mk (Kd.R_elder' (rw_ HO111.out) (Kd.R_base ho0) hb); replace HO120 := Aside0.mk (Kd.R_elder' (rw_ HO120.out) (Kd.R_base ho0) hb); replace BK108 := Aside0.mk (blk_below (bk BK108.out) hb); replace BK116 := Aside0.mk (blk_below (bk BK116.out) hb); replace HB := Aside0.mk (below_step (by repeat (first | exact bw HB.out | refine below_set ?_ GE108.out | refine below_set ?_ GE116.out)) hb); (try clear hb); (try clear ho0); obtain ⟨Ao56, co56, eo56⟩ := Kd.R_slice HO130.out; subst eo56) | ((with_reducible refine gate_callee (f := 26) rfl ?_); refine goesL_ (some 78) rfl rfl Try.func26 (by kernel_rfl) rfl #[.slice Ao56 t128.length co56, .int .i64 a1] rfl (by (try simp only [List.map_toArray, List.map_cons, List.map_nil]); first | done | rfl | (simp only [List.length_drop, List.length_take]; rfl)) ?_; (with_reducible refine (impl_NameGet.calls k _ _ t128 a1 t131 t134 _ ?side1 ?side2 A23.out).mono ?_); (case side1 => repeat (first | exact (Kd.R_reads' HO130.out).2.2 | (with_reducible refine Kd.C_alloc ?_ _) | (with_reducible refine Kd.C_drewN ?_ _) | (with_reducible refine Kd.C_drew ?_))); (case side2 => exact (Kd.R_reads' HO130.out).2.1); rintro e w57 ⟨v132, rfl, ho0, hb⟩; refine ⟨_, rfl, ?_⟩; have HO133 := Aside0.mk (Kd.S_lower (S_ge_ (Kd.S_new' (Kd.S_new' (Kd.S_new' (Kd.S_new' (Kd.S_new' (Kd.S_new' ho0 (Kd.R_lt (rw_ HO103.out))) (Kd.S_lt (sw HO106.out))) (Kd.R_lt (rw_ HO111.out))) (Kd.S_lt (sw HO114.out))) (Kd.R_lt (rw_ HO120.out))) (Kd.R_lt (rw_ HO130.out)))) (below_size (by repeat (first | exact bw HB.out | refine below_set ?_ GE108.out | refine below_set ?_ GE116.out)))); replace HO103 := Aside0.mk (Kd.R_below (rw_ HO103.out) hb); replace HO106 := Aside0.mk (Kd.S_elder' (S_lt_ (sw HO106.out)) (Kd.S_base ho0) hb); replace HO111 := Aside0.mk (Kd.R_below (rw_ HO111.out) hb); replace HO114 := Aside0.mk (Kd.S_elder' (S_lt_ (sw HO114.out)) (Kd.S_base ho0) hb); replace HO120 := Aside0.mk (Kd.R_below (rw_ HO120.out) hb); replace HO130 := Aside0.mk (Kd.R_below (rw_ HO130.out) hb); replace BK108 := Aside0.mk (blk_below (bk BK108.out) hb); replace BK116 := Aside0.mk (blk_below (bk BK116.out) hb); replace HB := Aside0.mk (below_step (by repeat (first | exact bw HB.out | refine below_set ?_ GE108.out | refine below_set ?_ GE116.out)) hb); (try clear hb); (try clear ho0)) | ((with_reducible refine gate_dst (N := 13) rfl ?_); refine box_event ?hg (N := 13) ?hd (cs := #[.slice none 0 0]) (t := 27) ?hr ?_; (case hd => rfl); (case hg => rfl); (case hr => first | (go_simp; done) | (go_simp; rfl)); intro gb135 hg w58 hbox hb; replace HO103 := Aside0.mk (Kd.R_below (rw_ HO103.out) hb); replace HO106 := Aside0.mk (Kd.S_below (sw HO106.out) hb); replace HO111 := Aside0.mk (Kd.R_below (rw_ HO111.out) hb); replace HO114 := Aside0.mk (Kd.S_below (sw HO114.out) hb); replace HO120 := Aside0.mk (Kd.R_below (rw_ HO120.out) hb); replace HO130 := Aside0.mk (Kd.R_below (rw_ HO130.out) hb); replace HO133 := Aside0.mk (Kd.S_below (sw HO133.out) hb); have BK135 := Aside0.mk (hbox); have GW135 := Aside0.mk ((by rw [hg]; exact (below_size (by repeat (first | exact bw HB.out | refine below_set ?_ GE108.out | refine below_set ?_ GE116.out))) : w.heap.size ≤ gb135)); have GE135 := Aside0.mk ((by rw [hg]; exact (below_size (by repeat (first | exact bw HB.out | refine below_set ?_ GE108.out | refine below_set ?_ GE116.out))) : w.heap.size ≤ gb135)); replace HB := Aside0.mk (below_step (by repeat (first | exact bw HB.out | refine below_set ?_ GE108.out | refine below_set ?_ GE116.out)) hb); have NB108_135 := Aside0.mk ((by rw [hg]; exact Nat.ne_of_lt (blk_lt (bk BK108.out)) : gb108 ≠ gb135)); have NB135_108 := Aside0.mk ((by rw [hg]; exact Nat.ne_of_gt (blk_lt (bk BK108.out)) : gb135 ≠ gb108)); replace BK108 := Aside0.mk (blk_below (bk BK108.out) hb); have NB116_135 := Aside0.mk ((by rw [hg]; exact Nat.ne_of_lt (blk_lt (bk BK116.out)) : gb116 ≠ gb135)); have NB135_116 := Aside0.mk ((by rw [hg]; exact Nat.ne_of_gt (blk_lt (bk BK116.out)) : gb135 ≠ gb116)); replace BK116 := Aside0.mk (blk_below (bk BK116.out) hb); clear hb hbox hg; obtain ⟨Ao59, co59, eo59⟩ := Kd.S_slice HO133.out; subst eo59; have hnb60 := NB135_108.out; have hnc60 := NB108_135.out; have hnb61 := NB135_116.out; have hnc61 := NB116_135.out; obtain ⟨hcz62_0, hfz62_0⟩ := cells1 BK135.out; obtain ⟨hcz63_0, hfz63_0⟩ := cells1 BK108.out) | ((with_reducible refine gate_callee (f := 17) rfl ?_); refine goesL_ (some 83) rfl rfl Try.func17 (by kernel_rfl) rfl #[.agg #[.slice Ao59 t131.length co59], .agg #[.slice Ao34 t104.length co34]] rfl (by (try simp only [List.map_toArray, List.map_cons, List.map_nil]); first | done | rfl | (simp only [List.length_drop, List.length_take]; rfl)) ?_; (with_reducible refine (laws_eqName.calls k _ _ t131 _ _ t104 true _ ?side1 ?side2 ?side3 ?side4 A24.out).mono ?_); (case side1 => exact (Kd.S_reads' (far1S HO133.out BK135.out (by decide))).2.2); (case side2 => exact (Kd.S_reads' HO133.out).2.1); (case side3 => exact (Kd.S_reads' (far1S HO106.out BK135.out (by decide))).2.2); (case side4 => exact (Kd.S_reads' HO106.out).2.1); rintro e w64 ⟨rfl, hb⟩; refine ⟨_, rfl, ?_⟩; replace HO103 := Aside0.mk (Kd.R_below (far1R HO103.out BK135.out (by decide)) hb); replace HO106 := Aside0.mk (Kd.S_below (far1S HO106.out BK135.out (by decide)) hb); replace HO111 := Aside0.mk (Kd.R_below (far1R HO111.out BK135.out (by decide)) hb); replace HO114 := Aside0.mk (Kd.S_below (far1S HO114.out BK135.out (by decide)) hb); replace HO120 := Aside0.mk (Kd.R_below (far1R HO120.out BK135.out (by decide)) hb); replace HO130 := Aside0.mk (Kd.R_below (far1R HO130.out BK135.out (by decide)) hb); replace HO133 := Aside0.mk (Kd.S_below (far1S HO133.out BK135.out (by decide)) hb); replace BK108 := Aside0.mk (blk_below (bfar1 NB108_135.out BK108.out) hb); replace BK116 := Aside0.mk (blk_below (bfar1 NB116_135.out BK116.out) hb); replace BK135 := Aside0.mk (blk_below (bput1 BK135.out) hb); replace HB := Aside0.mk (below_step (by repeat (first | exact bw HB.out | refine below_set ?_ GE108.out | refine below_set ?_ GE116.out | refine below_set ?_ GE135.out)) hb); (try clear hb); obtain ⟨hcz65_0, hfz65_0⟩ := cells1 BK116.out) | ((with_reducible refine gate_callee (f := 27) rfl ?_); refine goesL_ (some 92) rfl rfl Try.func27 (by kernel_rfl) rfl #[.agg #[.slice Ao40 t126.length co40], .int .i64 1] rfl (by (try simp only [List.map_toArray, List.map_cons, List.map_nil]); first | done | (rw [show t126.length = t112.length from (Kd.S_reads' HO114.out).1.symm] <;> rfl) | rfl | (simp only [List.length_drop, List.length_take]; rfl)) ?_; (with_reducible refine (laws_heldName.calls k _ _ t126 1 t137 _ ?side1 ?side2 A27.out).mono ?_); (case side1 => repeat (first | exact (Kd.S_reads' HO114.out).2.2 | (with_reducible refine Kd.C_alloc ?_ _) | (with_reducible refine Kd.C_drewN ?_ _) | (with_reducible refine Kd.C_drew ?_))); (case side2 => rw [show t126.length = t112.length from (Kd.S_reads' HO114.out).1.symm]; exact (Kd.S_reads' HO114.out).2.1); rintro e w66 ⟨rfl, hb⟩; refine ⟨_, rfl, ?_⟩; replace HO103 := Aside0.mk (Kd.R_below (rw_ HO103.out) hb); replace HO106 := Aside0.mk (Kd.S_below (sw HO106.out) hb); replace HO111 := Aside0.mk (Kd.R_below (rw_ HO111.out) hb); replace HO114 := Aside0.mk (Kd.S_below (sw HO114.out) hb); replace HO120 := Aside0.mk (Kd.R_below (rw_ HO120.out) hb); replace HO130 := Aside0.mk (Kd.R_below (rw_ HO130.out) hb); replace HO133 := Aside0.mk (Kd.S_below (sw HO133.out) hb); replace BK108 := Aside0.mk (blk_below (bk BK108.out) hb); replace BK116 := Aside0.mk (blk_below (bk BK116.out) hb); replace BK135 := Aside0.mk (blk_below (bk BK135.out) hb); replace HB := Aside0.mk (below_step (by repeat (first | exact bw HB.out | refine below_set ?_ GE108.out | refine below_set ?_ GE116.out | refine below_set ?_ GE135.out)) hb); (try clear hb)))
             go_ret
             exact ⟨by first | rfl | (simp [errW_none, errW_some] <;> rfl) | (simp [*, errW_none, errW_some] <;> rfl), by repeat (first | exact bw HB.out | refine below_set ?_ GE108.out | refine below_set ?_ GE116.out | refine below_set ?_ GE135.out)⟩
            ·rw [if_neg c29] at H
             exact absurd H (by simp)
          ·rw [if_neg c26] at H
           exact absurd H (by simp)
         ·replace c25 := Bool.eq_false_iff.mpr c25
          subst c25
          have H1 : (none) = some r := by rw [if_neg (show ¬ (false = true) by decide)] at H; exact H
          clear H
          have H := H1
          clear H1
          exact absurd H (by simp)
        ·rw [if_neg c21] at H
         exact absurd H (by simp)
      ·replace c17 := Bool.eq_false_iff.mpr c17
       subst c17
       have H1 : (none) = some r := by rw [if_neg (show ¬ (false = true) by decide)] at H; exact H
       clear H
       have H := H1
       clear H1
       exact absurd H (by simp)
    ·replace c13 := Bool.eq_false_iff.mpr c13
     subst c13
     have H1 : (none) = some r := by rw [if_neg (show ¬ (false = true) by decide)] at H; exact H
     clear H
     have H := H1
     clear H1
     exact absurd H (by simp)
   ·rw [if_neg c10] at H
    exact absurd H (by simp)
  ·replace c9 := Bool.eq_false_iff.mpr c9
   subst c9
   have H1 : (none) = some r := by rw [if_neg (show ¬ (false = true) by decide)] at H; exact H
   clear H
   have H := H1
   clear H1
   exact absurd H (by simp)

/-- THE ONE PURE STATEMENT of laws_FnExactNameGet: yours. -/
def laws_FnExactNameGet.Pure : Prop := ∀ (l0 : List Int) (a1 : Int), l0.length ≤ maxLen → l0.length * 1 ≤ 140737488351232 → (∀ x ∈ l0, (Lit.int .u8 x).wf = true) → (Lit.int .i64 a1).wf = true → ∃ k, laws_FnExactNameGet.f k l0 a1 = some true
theorem laws_FnExactNameGet.walk (P : laws_FnExactNameGet.Pure) (a0 : Option Addr) (len0 cap0 : Nat) (z0 : List Int) (a1 : Int) (w : World) (w0 : (a0 = none ∧ len0 = 0 ∧ cap0 = 0 ∧ z0 = []) ∨ ∃ x, a0 = some x ∧ len0 ≤ cap0 ∧ cap0 ≤ maxLen ∧ z0.length = cap0 ∧ (∀ i, i < z0.length → w.cell? (x.add i) = some (.int .u8 (z0.getD i 0))) ∧ ∀ n ∈ z0, (Lit.int .u8 n).wf = true) (y0 : len0 * 1 ≤ 140737488351232) (w1 : (Lit.int .i64 a1).wf = true) :
  Calls Try.prog 5 #[.slice a0 len0 cap0, .int .i64 a1] w fun e w' => e = .returned (.bool true) ∧ Below w.heap.size w w' := by
 obtain ⟨l0, rfl, hr0, hm0, hw0, hc0⟩ := ReadsInt.ofRowC w0
 obtain ⟨k, h⟩ := P l0 a1 hm0 y0 hw0 w1
 refine (laws_FnExactNameGet.calls k _ _ l0 a1 true w (Kd.C_of_reads (d := (0 : Int)) (h1 := fun _ => rfl) hr0) hc0 h).mono ?_
 rintro e w' ⟨rfl, hd⟩
 exact ⟨rfl, hd⟩


/-! ### impl_within: function 71 -/
def impl_within.f (a0 : Int) (a1 : Int) (a2 : Int) : Option (Bool) := if a1 ≤ a0 then (some (decide (a0 ≤ a2))) else (some false)
set_option maxHeartbeats 8000000 in
set_option maxRecDepth 100000 in
theorem impl_within.calls (a0 : Int) (a1 : Int) (a2 : Int) (r : Bool) (w : World) (h : impl_within.f a0 a1 a2 = some r) :
  Calls Try.prog 71 #[.int .i64 a0, .int .i64 a1, .int .i64 a2] w fun e w' => e = .returned (.bool r) ∧ Drawn0 w w' := by
 have H : (if a1 ≤ a0 then (some (decide (a0 ≤ a2))) else (some false)) = some r := h
 clear h
 by_cases c4 : a1 ≤ a0
 ·rw [if_pos c4] at H
  have c4b0 : decide (a1 ≤ a0) = true := decide_eq_true c4
  clear c4
  obtain rfl := Option.some.inj H
  go_enter Try.func71, Try.ntmps71
  go_wp2
  go_ret
  exact ⟨by first | rfl | (simp; done) | (simp [*]; done), by repeat (first | exact Drawn0.refl _ | apply Drawn0.step)⟩
 ·rw [if_neg c4] at H
  have c4b0 : decide (a1 ≤ a0) = false := decide_eq_false c4
  clear c4
  obtain rfl := Option.some.inj H
  go_enter Try.func71, Try.ntmps71
  go_wp2
  go_ret
  exact ⟨by first | rfl | (simp; done) | (simp [*]; done), by repeat (first | exact Drawn0.refl _ | apply Drawn0.step)⟩


end Go.Proofs.Ytedbpnfkeabpnaa.Q
