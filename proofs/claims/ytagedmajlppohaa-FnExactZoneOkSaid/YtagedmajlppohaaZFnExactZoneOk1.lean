/- Printed by a program of this session (wip/myprint.py), which drives the kit's printer: functions and what their calls do. -/
import Derived.Test.YtagedmajlppohaaZFnExactZoneOk0
namespace Go.Proofs.Ytagedmajlppohaa.Q
open Go.RowKit Go Go.Proofs.YtagedmajlppohaaW.PrintWords Go.Proofs.YtagedmajlppohaaW.PrintLast Go.Proofs.YtagedmajlppohaaW.PrintMore
attribute [local go_sem] max2_int min2_int max_two min_two
set_option linter.unusedVariables false
set_option linter.unusedSimpArgs false

/-! ### spec_l3cmp: function 61 -/
def spec_l3cmp.j0 : Nat → Int → List (List Int) → Int → Int → Int → List (List Int) → List Int → List Int → List (List Int) → Int → Int → Int → List (List Int) → List Int → List Int → Option (Int)
 | 0, _, _, _, _, _, _, _, _, _, _, _, _, _, _, _ => none
 | k + 1, x5, x102000, x102001, x102002, x102003, x102004, x102005, x102006, x103000, x103001, x103002, x103003, x103004, x103005, x103006 => if x5 = 0 then ((spec_l3put.f x102000 x102001 x102002 x102003 x102004 x102005 x102006).bind fun t105 => ((spec_l3put.f x103000 x103001 x103002 x103003 x103004 x103005 x103006).bind fun t108 => ((spec_l2bytes.f t105 t108).bind fun t111 => (some t111)))) else (some x5)
def spec_l3cmp.f (k : Nat) (l0_0 : List (List Int)) (a0_1 : Int) (a0_2 : Int) (a0_3 : Int) (l0_4 : List (List Int)) (l0_5 : List Int) (l0_6 : List Int) (l1_0 : List (List Int)) (a1_1 : Int) (a1_2 : Int) (a1_3 : Int) (l1_4 : List (List Int)) (l1_5 : List Int) (l1_6 : List Int) : Option (Int) := (spec_l2cmp.f k l0_0 l1_0).bind fun t103 => (if t103 = 0 then ((spec_l3num.f a0_1 a1_1).bind fun t104 => (spec_l3cmp.j0 k t104 l0_0 a0_1 a0_2 a0_3 l0_4 l0_5 l0_6 l1_0 a1_1 a1_2 a1_3 l1_4 l1_5 l1_6)) else (spec_l3cmp.j0 k t103 l0_0 a0_1 a0_2 a0_3 l0_4 l0_5 l0_6 l1_0 a1_1 a1_2 a1_3 l1_4 l1_5 l1_6))
set_option maxHeartbeats 8000000 in
set_option maxRecDepth 100000 in
theorem spec_l3cmp.calls (k : Nat) (A0_0 : Option Addr) (c0_0 : Nat) (l0_0 : List (List Int)) (a0_1 : Int) (a0_2 : Int) (a0_3 : Int) (A0_4 : Option Addr) (c0_4 : Nat) (l0_4 : List (List Int)) (A0_5 : Option Addr) (c0_5 : Nat) (l0_5 : List Int) (A0_6 : Option Addr) (c0_6 : Nat) (l0_6 : List Int) (A1_0 : Option Addr) (c1_0 : Nat) (l1_0 : List (List Int)) (a1_1 : Int) (a1_2 : Int) (a1_3 : Int) (A1_4 : Option Addr) (c1_4 : Nat) (l1_4 : List (List Int)) (A1_5 : Option Addr) (c1_5 : Nat) (l1_5 : List Int) (A1_6 : Option Addr) (c1_6 : Nat) (l1_6 : List Int) (r : Int) (w : World) (hr0_0 : Kd.C (Kd.slice 5 (Kd.int .u8)) w A0_0 l0_0.length l0_0) (hc0_0 : l0_0.length ≤ c0_0) (hr0_4 : Kd.C (Kd.slice 5 (Kd.int .u8)) w A0_4 l0_4.length l0_4) (hc0_4 : l0_4.length ≤ c0_4) (hr0_5 : Kd.C (Kd.int .u8) w A0_5 l0_5.length l0_5) (hc0_5 : l0_5.length ≤ c0_5) (hr0_6 : Kd.C (Kd.int .i64) w A0_6 l0_6.length l0_6) (hc0_6 : l0_6.length ≤ c0_6) (hr1_0 : Kd.C (Kd.slice 5 (Kd.int .u8)) w A1_0 l1_0.length l1_0) (hc1_0 : l1_0.length ≤ c1_0) (hr1_4 : Kd.C (Kd.slice 5 (Kd.int .u8)) w A1_4 l1_4.length l1_4) (hc1_4 : l1_4.length ≤ c1_4) (hr1_5 : Kd.C (Kd.int .u8) w A1_5 l1_5.length l1_5) (hc1_5 : l1_5.length ≤ c1_5) (hr1_6 : Kd.C (Kd.int .i64) w A1_6 l1_6.length l1_6) (hc1_6 : l1_6.length ≤ c1_6) (h : spec_l3cmp.f k l0_0 a0_1 a0_2 a0_3 l0_4 l0_5 l0_6 l1_0 a1_1 a1_2 a1_3 l1_4 l1_5 l1_6 = some r) :
  Calls Try.prog 61 #[.agg #[.slice A0_0 l0_0.length c0_0, .int .i64 a0_1, .int .i64 a0_2, .int .i64 a0_3, .slice A0_4 l0_4.length c0_4, .slice A0_5 l0_5.length c0_5, .slice A0_6 l0_6.length c0_6], .agg #[.slice A1_0 l1_0.length c1_0, .int .i64 a1_1, .int .i64 a1_2, .int .i64 a1_3, .slice A1_4 l1_4.length c1_4, .slice A1_5 l1_5.length c1_5, .slice A1_6 l1_6.length c1_6]] w fun e w' => e = .returned (.int .i64 r) ∧ Below w.heap.size w w' := by
 have hu33 := Try.underlying33
 have hu31 := Try.underlying31
 have HR0_0 := Aside0.mk hr0_0
 have HC0_0 := Aside0.mk hc0_0
 clear hr0_0 hc0_0
 have HR0_4 := Aside0.mk hr0_4
 have HC0_4 := Aside0.mk hc0_4
 clear hr0_4 hc0_4
 have HR0_5 := Aside0.mk hr0_5
 have HC0_5 := Aside0.mk hc0_5
 clear hr0_5 hc0_5
 have HR0_6 := Aside0.mk hr0_6
 have HC0_6 := Aside0.mk hc0_6
 clear hr0_6 hc0_6
 have HR1_0 := Aside0.mk hr1_0
 have HC1_0 := Aside0.mk hc1_0
 clear hr1_0 hc1_0
 have HR1_4 := Aside0.mk hr1_4
 have HC1_4 := Aside0.mk hc1_4
 clear hr1_4 hc1_4
 have HR1_5 := Aside0.mk hr1_5
 have HC1_5 := Aside0.mk hc1_5
 clear hr1_5 hc1_5
 have HR1_6 := Aside0.mk hr1_6
 have HC1_6 := Aside0.mk hc1_6
 clear hr1_6 hc1_6
 have HB := Aside0.mk (Below.refl w.heap.size w)
 have H : ((spec_l2cmp.f k l0_0 l1_0).bind fun t103 => (if t103 = 0 then ((spec_l3num.f a0_1 a1_1).bind fun t104 => (spec_l3cmp.j0 k t104 l0_0 a0_1 a0_2 a0_3 l0_4 l0_5 l0_6 l1_0 a1_1 a1_2 a1_3 l1_4 l1_5 l1_6)) else (spec_l3cmp.j0 k t103 l0_0 a0_1 a0_2 a0_3 l0_4 l0_5 l0_6 l1_0 a1_1 a1_2 a1_3 l1_4 l1_5 l1_6))) = some r := h
 clear h
 replace H := Option.bind_eq_some_iff.mp H
 obtain ⟨t103, A30, H⟩ := H
 replace H : (if t103 = 0 then ((spec_l3num.f a0_1 a1_1).bind fun t104 => (spec_l3cmp.j0 k t104 l0_0 a0_1 a0_2 a0_3 l0_4 l0_5 l0_6 l1_0 a1_1 a1_2 a1_3 l1_4 l1_5 l1_6)) else (spec_l3cmp.j0 k t103 l0_0 a0_1 a0_2 a0_3 l0_4 l0_5 l0_6 l1_0 a1_1 a1_2 a1_3 l1_4 l1_5 l1_6)) = some r := H
 have A3 := Aside0.mk A30
 clear A30
 have HC4 := Aside0.mk H
 clear H
 go_enter Try.func61, Try.ntmps61
 go_upto_if 12 with (first | ((with_reducible refine gate_dst (N := 2) rfl ?_); refine boxed (N := 2) rfl rfl (cs := #[.slice A0_0 l0_0.length c0_0, .int .i64 a0_1, .int .i64 a0_2, .int .i64 a0_3, .slice A0_4 l0_4.length c0_4, .slice A0_5 l0_5.length c0_5, .slice A0_6 l0_6.length c0_6]) (t := 33) HB.out (by first | (go_simp; done) | (go_simp; rfl)) ?_; clear HB; intro gb101 w5 hg HB BK101 GE101 hb; have GW101 := GE101; clear hb hg) | ((with_reducible refine gate_dst (N := 3) rfl ?_); refine box_event ?hg (N := 3) ?hd (cs := #[.slice A1_0 l1_0.length c1_0, .int .i64 a1_1, .int .i64 a1_2, .int .i64 a1_3, .slice A1_4 l1_4.length c1_4, .slice A1_5 l1_5.length c1_5, .slice A1_6 l1_6.length c1_6]) (t := 33) ?hr ?_; (case hd => rfl); (case hg => rfl); (case hr => first | (go_simp; done) | (go_simp; rfl)); intro gb102 hg w6 hbox hb; have BK102 := Aside0.mk (hbox); have GW102 := Aside0.mk ((by rw [hg]; exact (below_size (bw HB.out)) : w.heap.size ≤ gb102)); have GE102 := Aside0.mk ((by rw [hg]; exact (below_size (bw HB.out)) : w.heap.size ≤ gb102)); replace HB := Aside0.mk (below_step (bw HB.out) hb); have NB101_102 := Aside0.mk ((by rw [hg]; exact Nat.ne_of_lt (blk_lt (bk BK101.out)) : gb101 ≠ gb102)); have NB102_101 := Aside0.mk ((by rw [hg]; exact Nat.ne_of_gt (blk_lt (bk BK101.out)) : gb102 ≠ gb101)); replace BK101 := Aside0.mk (blk_below (bk BK101.out) hb); clear hb hbox hg; have hnb7 := NB101_102.out; have hnc7 := NB102_101.out; obtain ⟨hcz8_0, hcz8_1, hcz8_2, hcz8_3, hcz8_4, hcz8_5, hcz8_6, hfz8_0, hfz8_1, hfz8_2, hfz8_3, hfz8_4, hfz8_5, hfz8_6⟩ := cells7 BK101.out; obtain ⟨hcz9_0, hcz9_1, hcz9_2, hcz9_3, hcz9_4, hcz9_5, hcz9_6, hfz9_0, hfz9_1, hfz9_2, hfz9_3, hfz9_4, hfz9_5, hfz9_6⟩ := cells7 BK102.out) | ((with_reducible refine gate_callee (f := 98) rfl ?_); refine goesL_ (some 10) rfl rfl Try.func98 (by kernel_rfl) rfl #[.agg #[.slice A0_0 l0_0.length c0_0], .agg #[.slice A1_0 l1_0.length c1_0]] rfl (by (try simp only [List.map_toArray, List.map_cons, List.map_nil]); first | done | rfl | (simp only [List.length_drop, List.length_take]; rfl)) ?_; (with_reducible refine (spec_l2cmp.calls k _ _ l0_0 _ _ l1_0 t103 _ ?side1 ?side2 ?side3 ?side4 A3.out).mono ?_); (case side1 => exact cw HR0_0.out HB.out); (case side2 => exact HC0_0.out); (case side3 => exact cw HR1_0.out HB.out); (case side4 => exact HC1_0.out); rintro e w10 ⟨rfl, hb⟩; refine ⟨_, rfl, ?_⟩; replace BK101 := Aside0.mk (blk_below (bk BK101.out) hb); replace BK102 := Aside0.mk (blk_below (bk BK102.out) hb); replace HB := Aside0.mk (below_step (bw HB.out) hb); (try clear hb)))
 (try simp only [Act.put, List.setIfInBounds_toArray, List.set_cons_zero, List.set_cons_succ])
 go_cut [5] (fun v5 wc => ∃ (kq : Nat) (x5_3 : Int), v5 = .int .i64 x5_3 ∧ Aside0 (spec_l3cmp.j0 kq x5_3 l0_0 a0_1 a0_2 a0_3 l0_4 l0_5 l0_6 l1_0 a1_1 a1_2 a1_3 l1_4 l1_5 l1_6 = some r) ∧ Aside0 (kq ≤ k) ∧ Aside0 (wc.heap[gb101]? = some (.cells #[(.slice A0_0 l0_0.length c0_0), .int .i64 a0_1, .int .i64 a0_2, .int .i64 a0_3, (.slice A0_4 l0_4.length c0_4), (.slice A0_5 l0_5.length c0_5), (.slice A0_6 l0_6.length c0_6)] 33 (0, 0))) ∧ Aside0 (wc.heap[gb102]? = some (.cells #[(.slice A1_0 l1_0.length c1_0), .int .i64 a1_1, .int .i64 a1_2, .int .i64 a1_3, (.slice A1_4 l1_4.length c1_4), (.slice A1_5 l1_5.length c1_5), (.slice A1_6 l1_6.length c1_6)] 33 (0, 0))) ∧ Aside0 (Below w.heap.size w wc))
 case first =>
  have H := HC4.out
  clear HC4
  by_cases c11 : t103 = 0
  ·rw [if_pos c11] at H
   have c11b0 : (t103 == 0) = true := beq_iff_eq.mpr c11
   have c11b1 : (t103 != 0) = false := bne_eq_false_iff_eq.mpr c11
   clear c11
   (first | rw [c11b0] | (simp only [i64_w, i32_w]; rw [c11b0]) | skip)
   replace H := Option.bind_eq_some_iff.mp H
   obtain ⟨t104, A120, H⟩ := H
   replace H : (spec_l3cmp.j0 k t104 l0_0 a0_1 a0_2 a0_3 l0_4 l0_5 l0_6 l1_0 a1_1 a1_2 a1_3 l1_4 l1_5 l1_6) = some r := H
   have A12 := Aside0.mk A120
   clear A120
   have H' := Aside0.mk H
   clear H
   have hnb13 := NB101_102.out
   have hnc13 := NB102_101.out
   obtain ⟨hcz14_0, hcz14_1, hcz14_2, hcz14_3, hcz14_4, hcz14_5, hcz14_6, hfz14_0, hfz14_1, hfz14_2, hfz14_3, hfz14_4, hfz14_5, hfz14_6⟩ := cells7 BK101.out
   obtain ⟨hcz15_0, hcz15_1, hcz15_2, hcz15_3, hcz15_4, hcz15_5, hcz15_6, hfz15_0, hfz15_1, hfz15_2, hfz15_3, hfz15_4, hfz15_5, hfz15_6⟩ := cells7 BK102.out
   go_wp2_with (first | ((with_reducible refine gate_callee (f := 135) rfl ?_); refine goesL_ (some 17) rfl rfl Try.func135 (by kernel_rfl) rfl #[.int .i64 a0_1, .int .i64 a1_1] rfl (by (try simp only [List.map_toArray, List.map_cons, List.map_nil]); first | done | rfl | (simp only [List.length_drop, List.length_take]; rfl)) ?_; (with_reducible refine (spec_l3num.calls a0_1 a1_1 t104 _ A12.out).mono ?_); rintro e w' ⟨rfl, ⟨nd, rfl⟩⟩; refine ⟨_, rfl, ?_⟩))
   go_meet
   case rel => exact ⟨_, (t104), (by first | rfl | (simp; done) | (simp [*]; done)), H', ⟨by first | omega | exact Nat.le_refl _⟩, ⟨bk BK101.out⟩, ⟨bk BK102.out⟩, ⟨bw HB.out⟩⟩
  ·rw [if_neg c11] at H
   have c11b0 : (t103 == 0) = false := beq_eq_false_iff_ne.mpr c11
   have c11b1 : (t103 != 0) = true := bne_iff_ne.mpr c11
   (first | rw [c11b0] | (simp only [i64_w, i32_w]; rw [c11b0]) | skip)
   have H' := Aside0.mk H
   clear H
   go_wp2
   go_meet
   case rel => exact ⟨_, (t103), (by first | rfl | (simp; done) | (simp [*]; done)), H', ⟨by first | omega | exact Nat.le_refl _⟩, ⟨bk BK101.out⟩, ⟨bk BK102.out⟩, ⟨bw HB.out⟩⟩
 case rest =>
  clear HC4
  try clear c1
  try clear p2
  try clear c6
  try clear c7
  try clear c9
  try clear c11
  try clear c11b0
  try clear c11b1
  try clear c13
  try clear hcz14_0
  try clear hcz14_1
  try clear hcz14_2
  try clear hcz14_3
  try clear hcz14_4
  try clear hcz14_5
  try clear hcz14_6
  try clear hcz15_0
  try clear hcz15_1
  try clear hcz15_2
  try clear hcz15_3
  try clear hcz15_4
  try clear hcz15_5
  try clear hcz15_6
  try clear hcz8_0
  try clear hcz8_1
  try clear hcz8_2
  try clear hcz8_3
  try clear hcz8_4
  try clear hcz8_5
  try clear hcz8_6
  try clear hcz9_0
  try clear hcz9_1
  try clear hcz9_2
  try clear hcz9_3
  try clear hcz9_4
  try clear hcz9_5
  try clear hcz9_6
  try clear hfz14_0
  try clear hfz14_1
  try clear hfz14_2
  try clear hfz14_3
  try clear hfz14_4
  try clear hfz14_5
  try clear hfz14_6
  try clear hfz15_0
  try clear hfz15_1
  try clear hfz15_2
  try clear hfz15_3
  try clear hfz15_4
  try clear hfz15_5
  try clear hfz15_6
  try clear hfz8_0
  try clear hfz8_1
  try clear hfz8_2
  try clear hfz8_3
  try clear hfz8_4
  try clear hfz8_5
  try clear hfz8_6
  try clear hfz9_0
  try clear hfz9_1
  try clear hfz9_2
  try clear hfz9_3
  try clear hfz9_4
  try clear hfz9_5
  try clear hfz9_6
  obtain ⟨kq, x5_3, rfl, HA, HJ3, BK101, BK102, HB⟩ := hcut
  cases kq with
  | zero => exact absurd HA.out (by simp [spec_l3cmp.j0])
  | succ kj3 =>
   have H := HA.out
   clear HA
   simp only [spec_l3cmp.j0] at H
   by_cases c16 : x5_3 = 0
   ·rw [if_pos c16] at H
    have c16b0 : (x5_3 == 0) = true := beq_iff_eq.mpr c16
    have c16b1 : (x5_3 != 0) = false := bne_eq_false_iff_eq.mpr c16
    clear c16
    replace H := Option.bind_eq_some_iff.mp H
    obtain ⟨t105, A170, H⟩ := H
    replace H : ((spec_l3put.f l1_0 a1_1 a1_2 a1_3 l1_4 l1_5 l1_6).bind fun t108 => ((spec_l2bytes.f t105 t108).bind fun t111 => (some t111))) = some r := H
    have A17 := Aside0.mk A170
    clear A170
    replace H := Option.bind_eq_some_iff.mp H
    obtain ⟨t108, A180, H⟩ := H
    replace H : ((spec_l2bytes.f t105 t108).bind fun t111 => (some t111)) = some r := H
    have A18 := Aside0.mk A180
    clear A180
    replace H := Option.bind_eq_some_iff.mp H
    obtain ⟨t111, A190, H⟩ := H
    replace H : (some t111) = some r := H
    have A19 := Aside0.mk A190
    clear A190
    obtain rfl := Option.some.inj H
    try go_wp2
    have n0_ := Aside0.mk (blk_drew BK101.out)
    have n1_ := Aside0.mk (blk_drew BK102.out)
    have n2_ := Aside0.mk (below_drew1 HB.out)
    clear BK101
    clear BK102
    clear HB
    have BK101 := n0_
    have BK102 := n1_
    have HB := n2_
    clear n0_ n1_ n2_
    refine start_ (n := 6) (S := fun w' => w'.cell? ⟨gb101, 0, none⟩ = some (.slice A0_0 l0_0.length c0_0) ∧ w'.cell? ⟨gb101, 1, none⟩ = some (.int .i64 a0_1) ∧ w'.cell? ⟨gb101, 2, none⟩ = some (.int .i64 a0_2) ∧ w'.cell? ⟨gb101, 3, none⟩ = some (.int .i64 a0_3) ∧ w'.cell? ⟨gb101, 4, none⟩ = some (.slice A0_4 l0_4.length c0_4) ∧ w'.cell? ⟨gb101, 5, none⟩ = some (.slice A0_5 l0_5.length c0_5) ∧ w'.cell? ⟨gb101, 6, none⟩ = some (.slice A0_6 l0_6.length c0_6) ∧ w'.cell? ⟨gb102, 0, none⟩ = some (.slice A1_0 l1_0.length c1_0) ∧ w'.cell? ⟨gb102, 1, none⟩ = some (.int .i64 a1_1) ∧ w'.cell? ⟨gb102, 2, none⟩ = some (.int .i64 a1_2) ∧ w'.cell? ⟨gb102, 3, none⟩ = some (.int .i64 a1_3) ∧ w'.cell? ⟨gb102, 4, none⟩ = some (.slice A1_4 l1_4.length c1_4) ∧ w'.cell? ⟨gb102, 5, none⟩ = some (.slice A1_5 l1_5.length c1_5) ∧ w'.cell? ⟨gb102, 6, none⟩ = some (.slice A1_6 l1_6.length c1_6)) (ds := []) (bA 6 0) (by kernel_rfl) rfl rfl ⟨(blk_cell BK101.out 0).trans rfl, (blk_cell BK101.out 1).trans rfl, (blk_cell BK101.out 2).trans rfl, (blk_cell BK101.out 3).trans rfl, (blk_cell BK101.out 4).trans rfl, (blk_cell BK101.out 5).trans rfl, (blk_cell BK101.out 6).trans rfl, (blk_cell BK102.out 0).trans rfl, (blk_cell BK102.out 1).trans rfl, (blk_cell BK102.out 2).trans rfl, (blk_cell BK102.out 3).trans rfl, (blk_cell BK102.out 4).trans rfl, (blk_cell BK102.out 5).trans rfl, (blk_cell BK102.out 6).trans rfl⟩ (fun hHeld => ?_)
    generalize wc.drew = w20 at BK101 BK102 HB hHeld ⊢
    refine take_ (i := 0) (N := some 20) (v := ?_) (a' := ?_) (bA 6 1) rfl rfl (by kernel_rfl) (fun _ _ _ h => h) (Or.inl ⟨by rfl, ?_⟩) hHeld ?_ ?_
    rotate_left; rintro w' ⟨s0, s1, s2, s3, s4, s5, s6, s7, s8, s9, s10, s11, s12, s13⟩; go_simp; with_reducible rfl; rotate_left; go_simp; rfl
    refine take_ (i := 2) (N := some 22) (v := ?_) (a' := ?_) (bA 6 5) rfl rfl (by kernel_rfl) (fun _ _ _ h => h) (Or.inl ⟨by rfl, ?_⟩) hHeld ?_ ?_
    rotate_left; rintro w' ⟨s0, s1, s2, s3, s4, s5, s6, s7, s8, s9, s10, s11, s12, s13⟩; go_simp; with_reducible rfl; rotate_left; go_simp; rfl
    refine one_ (i := 1) (N := some 21) (bA 6 7) rfl rfl (by kernel_rfl) (by decide) (fun K hK => ?_)
    refine goes_ Try.func137 (by kernel_rfl) rfl #[.agg #[.slice A0_0 l0_0.length c0_0, .int .i64 a0_1, .int .i64 a0_2, .int .i64 a0_3, .slice A0_4 l0_4.length c0_4, .slice A0_5 l0_5.length c0_5, .slice A0_6 l0_6.length c0_6]] (by rfl) rfl rfl (by (try simp only [List.map_toArray, List.map_cons, List.map_nil]); first | done | rfl | (simp only [List.length_drop, List.length_take]; rfl)) ?_
    with_reducible refine (spec_l3put.calls _ _ l0_0 a0_1 a0_2 a0_3 _ _ l0_4 _ _ l0_5 _ _ l0_6 t105 _ ?side1 ?side2 ?side3 ?side4 ?side5 ?side6 ?side7 ?side8 A17.out).mono ?_
    (case side1 => exact cw HR0_0.out HB.out)
    (case side2 => exact HC0_0.out)
    (case side3 => exact cw HR0_4.out HB.out)
    (case side4 => exact HC0_4.out)
    (case side5 => exact cw HR0_5.out HB.out)
    (case side6 => exact HC0_5.out)
    (case side7 => exact cw HR0_6.out HB.out)
    (case side8 => exact HC0_6.out)
    rintro e w21 ⟨v106, rfl, ho0, hb⟩
    refine ⟨_, rfl, ?_⟩
    have n0_ := Aside0.mk (Kd.R_lower ho0 (below_size (bw HB.out)))
    have n1_ := Aside0.mk (blk_below (bk BK101.out) hb)
    have n2_ := Aside0.mk (blk_below (bk BK102.out) hb)
    have n3_ := Aside0.mk (below_step (bw HB.out) hb)
    clear BK101
    clear BK102
    clear HB
    have HO107 := n0_
    have BK101 := n1_
    have BK102 := n2_
    have HB := n3_
    clear n0_ n1_ n2_ n3_
    (try clear hb)
    (try clear hb2)
    (try clear hk)
    (try clear hi)
    (try clear ho0)
    refine hK.out _ _ ⟨(blk_cell BK101.out 0).trans rfl, (blk_cell BK101.out 1).trans rfl, (blk_cell BK101.out 2).trans rfl, (blk_cell BK101.out 3).trans rfl, (blk_cell BK101.out 4).trans rfl, (blk_cell BK101.out 5).trans rfl, (blk_cell BK101.out 6).trans rfl, (blk_cell BK102.out 0).trans rfl, (blk_cell BK102.out 1).trans rfl, (blk_cell BK102.out 2).trans rfl, (blk_cell BK102.out 3).trans rfl, (blk_cell BK102.out 4).trans rfl, (blk_cell BK102.out 5).trans rfl, (blk_cell BK102.out 6).trans rfl⟩ (fun hHeld => ?_)
    clear hK K
    refine norm_ (a' := ?_) ?_ ?_; rotate_left; go_simp; rfl
    refine one_ (i := 3) (N := some 23) (bA 6 15) rfl rfl (by kernel_rfl) (by decide) (fun K hK => ?_)
    refine goes_ Try.func137 (by kernel_rfl) rfl #[.agg #[.slice A1_0 l1_0.length c1_0, .int .i64 a1_1, .int .i64 a1_2, .int .i64 a1_3, .slice A1_4 l1_4.length c1_4, .slice A1_5 l1_5.length c1_5, .slice A1_6 l1_6.length c1_6]] (by rfl) rfl rfl (by (try simp only [List.map_toArray, List.map_cons, List.map_nil]); first | done | rfl | (simp only [List.length_drop, List.length_take]; rfl)) ?_
    with_reducible refine (spec_l3put.calls _ _ l1_0 a1_1 a1_2 a1_3 _ _ l1_4 _ _ l1_5 _ _ l1_6 t108 _ ?side1 ?side2 ?side3 ?side4 ?side5 ?side6 ?side7 ?side8 A18.out).mono ?_
    (case side1 => exact cw HR1_0.out HB.out)
    (case side2 => exact HC1_0.out)
    (case side3 => exact cw HR1_4.out HB.out)
    (case side4 => exact HC1_4.out)
    (case side5 => exact cw HR1_5.out HB.out)
    (case side6 => exact HC1_5.out)
    (case side7 => exact cw HR1_6.out HB.out)
    (case side8 => exact HC1_6.out)
    rintro e w22 ⟨v109, rfl, ho0, hb⟩
    refine ⟨_, rfl, ?_⟩
    have n0_ := Aside0.mk (Kd.R_elder' (rw_ HO107.out) (Kd.R_base ho0) hb)
    have n1_ := Aside0.mk (Kd.R_lower (Kd.R_new' ho0 (Kd.R_lt (rw_ HO107.out))) (below_size (bw HB.out)))
    have n2_ := Aside0.mk (blk_below (bk BK101.out) hb)
    have n3_ := Aside0.mk (blk_below (bk BK102.out) hb)
    have n4_ := Aside0.mk (below_step (bw HB.out) hb)
    clear HO107
    clear BK101
    clear BK102
    clear HB
    have HO107 := n0_
    have HO110 := n1_
    have BK101 := n2_
    have BK102 := n3_
    have HB := n4_
    clear n0_ n1_ n2_ n3_ n4_
    (try clear hb)
    (try clear hb2)
    (try clear hk)
    (try clear hi)
    (try clear ho0)
    obtain ⟨Ao23, co23, eo23⟩ := Kd.R_slice HO107.out
    (first | subst eo23 | (injection eo23 with f1_ f2_ f3_; have f4_ := f1_.symm; have f5_ := f3_.symm; clear f1_ f2_ f3_; subst f4_; subst f5_))
    obtain ⟨Ao24, co24, eo24⟩ := Kd.R_slice HO110.out
    (first | subst eo24 | (injection eo24 with f1_ f2_ f3_; have f4_ := f1_.symm; have f5_ := f3_.symm; clear f1_ f2_ f3_; subst f4_; subst f5_))
    refine hK.out _ _ ⟨(blk_cell BK101.out 0).trans rfl, (blk_cell BK101.out 1).trans rfl, (blk_cell BK101.out 2).trans rfl, (blk_cell BK101.out 3).trans rfl, (blk_cell BK101.out 4).trans rfl, (blk_cell BK101.out 5).trans rfl, (blk_cell BK101.out 6).trans rfl, (blk_cell BK102.out 0).trans rfl, (blk_cell BK102.out 1).trans rfl, (blk_cell BK102.out 2).trans rfl, (blk_cell BK102.out 3).trans rfl, (blk_cell BK102.out 4).trans rfl, (blk_cell BK102.out 5).trans rfl, (blk_cell BK102.out 6).trans rfl⟩ (fun hHeld => ?_)
    clear hK K
    refine norm_ (a' := ?_) ?_ ?_; rotate_left; go_simp; rfl
    refine one_ (i := 4) (N := some 24) (bA 6 31) rfl rfl (by kernel_rfl) (by decide) (fun K hK => ?_)
    refine goes_ Try.func136 (by kernel_rfl) rfl #[.slice Ao23 t105.length co23, .slice Ao24 t108.length co24] (by rfl) rfl rfl (by (try simp only [List.map_toArray, List.map_cons, List.map_nil]); first | done | rfl | (simp only [List.length_drop, List.length_take]; rfl)) ?_
    with_reducible refine (spec_l2bytes.calls _ _ t105 _ _ t108 t111 _ ?side1 ?side2 ?side3 ?side4 A19.out).mono ?_
    (case side1 => repeat (first | exact (Kd.R_reads' HO107.out).2.2 | (with_reducible refine Kd.C_alloc ?_ _) | (with_reducible refine Kd.C_drewN ?_ _) | (with_reducible refine Kd.C_drew ?_)))
    (case side2 => exact (Kd.R_reads' HO107.out).2.1)
    (case side3 => repeat (first | exact (Kd.R_reads' HO110.out).2.2 | (with_reducible refine Kd.C_alloc ?_ _) | (with_reducible refine Kd.C_drewN ?_ _) | (with_reducible refine Kd.C_drew ?_)))
    (case side4 => exact (Kd.R_reads' HO110.out).2.1)
    rintro e w' ⟨rfl, ⟨nd, rfl⟩⟩
    refine ⟨_, rfl, ?_⟩
    refine hK.out _ _ ⟨(blk_cell BK101.out 0).trans rfl, (blk_cell BK101.out 1).trans rfl, (blk_cell BK101.out 2).trans rfl, (blk_cell BK101.out 3).trans rfl, (blk_cell BK101.out 4).trans rfl, (blk_cell BK101.out 5).trans rfl, (blk_cell BK101.out 6).trans rfl, (blk_cell BK102.out 0).trans rfl, (blk_cell BK102.out 1).trans rfl, (blk_cell BK102.out 2).trans rfl, (blk_cell BK102.out 3).trans rfl, (blk_cell BK102.out 4).trans rfl, (blk_cell BK102.out 5).trans rfl, (blk_cell BK102.out 6).trans rfl⟩ (fun hHeld => ?_)
    clear hK K
    refine norm_ (a' := ?_) ?_ ?_; rotate_left; go_simp; rfl
    refine pure_ (i := 5) (N := some 5) (v := ?_) (a' := ?_) (bA 6 63) rfl rfl (by kernel_rfl) (fun _ _ _ h => h) (Or.inl ⟨by rfl, ?_⟩) ?_ ?_
    rotate_left; intro w'; go_simp; with_reducible rfl; rotate_left; go_simp; rfl
    refine done_ (by kernel_rfl) ?_
    try go_wp2
    go_ret
    exact ⟨by first | rfl | (simp [errW_none, errW_some] <;> rfl) | (simp [*, errW_none, errW_some] <;> rfl), bw HB.out⟩
   ·rw [if_neg c16] at H
    have c16b0 : (x5_3 == 0) = false := beq_eq_false_iff_ne.mpr c16
    have c16b1 : (x5_3 != 0) = true := bne_iff_ne.mpr c16
    obtain rfl := Option.some.inj H
    go_wp2
    go_ret
    exact ⟨by first | rfl | (simp [errW_none, errW_some] <;> rfl) | (simp [*, errW_none, errW_some] <;> rfl), bw HB.out⟩


/-! ### spec_l2under: function 96 -/
def spec_l2under.f (k : Nat) (l0_0 : List (List Int)) (l1_0 : List (List Int)) : Option (Bool) := if (wrap64 ((l0_0.length : Int) - (l1_0.length : Int))) ≥ 0 then (if 0 ≤ (wrap64 ((l0_0.length : Int) - (l1_0.length : Int))) then (if (wrap64 ((l0_0.length : Int) - (l1_0.length : Int))) ≤ (l0_0.length : Int) then ((spec_l2cmp.f k (l0_0.drop ((wrap64 ((l0_0.length : Int) - (l1_0.length : Int))) : Int).toNat) l1_0).bind fun t107 => (some (t107 == 0))) else (none)) else (none)) else (some false)
def spec_l2under.T2 : Bool × List (List Nat × List Nat) := (true, [([], []), ([0], [0]), ([1], [1]), ([2], [2]), ([3, 2], [2, 3]), ([2], [2]), ([4, 5, 2], [2, 4, 5]), ([6, 2], [2, 6]), ([2], [2]), ([7, 8, 2, 2], [2, 7, 8]), ([9, 2], [2, 9]), ([2, 10], [2, 10]), ([11, 9, 0, 1, 2, 3, 4, 5, 6, 7, 8, 9, 10, 11], [11])])
def spec_l2under.B2 : List Nat := [0, 1, 3, 7, 15, 7, 63, 127, 7, 511, 1023, 2047, 4095]
theorem spec_l2under.tab2 : rtab .any (opsOf Try.f96 2) = spec_l2under.T2 := by kernel_rfl
theorem spec_l2under.bits2 : waitsOk spec_l2under.T2.2 spec_l2under.B2 = true := by kernel_rfl
set_option maxHeartbeats 8000000 in
set_option maxRecDepth 100000 in
theorem spec_l2under.calls (k : Nat) (A0_0 : Option Addr) (c0_0 : Nat) (l0_0 : List (List Int)) (A1_0 : Option Addr) (c1_0 : Nat) (l1_0 : List (List Int)) (r : Bool) (w : World) (hr0_0 : Kd.C (Kd.slice 5 (Kd.int .u8)) w A0_0 l0_0.length l0_0) (hc0_0 : l0_0.length ≤ c0_0) (hr1_0 : Kd.C (Kd.slice 5 (Kd.int .u8)) w A1_0 l1_0.length l1_0) (hc1_0 : l1_0.length ≤ c1_0) (h : spec_l2under.f k l0_0 l1_0 = some r) :
  Calls Try.prog 96 #[.agg #[.slice A0_0 l0_0.length c0_0], .agg #[.slice A1_0 l1_0.length c1_0]] w fun e w' => e = .returned (.bool r) ∧ Below w.heap.size w w' := by
 have hu31 := Try.underlying31
 have HR0_0 := Aside0.mk hr0_0
 have HC0_0 := Aside0.mk hc0_0
 clear hr0_0 hc0_0
 have HR1_0 := Aside0.mk hr1_0
 have HC1_0 := Aside0.mk hc1_0
 clear hr1_0 hc1_0
 have HB := Aside0.mk (Below.refl w.heap.size w)
 have H : (if (wrap64 ((l0_0.length : Int) - (l1_0.length : Int))) ≥ 0 then (if 0 ≤ (wrap64 ((l0_0.length : Int) - (l1_0.length : Int))) then (if (wrap64 ((l0_0.length : Int) - (l1_0.length : Int))) ≤ (l0_0.length : Int) then ((spec_l2cmp.f k (l0_0.drop ((wrap64 ((l0_0.length : Int) - (l1_0.length : Int))) : Int).toNat) l1_0).bind fun t107 => (some (t107 == 0))) else (none)) else (none)) else (some false)) = some r := h
 clear h
 by_cases c3 : (wrap64 ((l0_0.length : Int) - (l1_0.length : Int))) ≥ 0
 ·rw [if_pos c3] at H
  have c3b0 : decide (0 ≤ (wrap64 ((l0_0.length : Int) - (l1_0.length : Int)))) = true := decide_eq_true c3
  clear c3
  obtain ⟨ji4, hji4⟩ : ∃ j_ : Int, (wrap64 ((l0_0.length : Int) - (l1_0.length : Int))) = j_ := ⟨_, rfl⟩
  replace H : (if 0 ≤ (ji4) then (if (ji4) ≤ (l0_0.length : Int) then ((spec_l2cmp.f k (l0_0.drop ((ji4) : Int).toNat) l1_0).bind fun t107 => (some (t107 == 0))) else (none)) else (none)) = some r := by first | (rw [hji4] at H; exact H) | (simp only [hji4] at H ⊢; exact H)
  (try rw [hji4] at c3b0)
  have hji4w : (IntKind.i64.wrap ((l0_0.length : Int) - (l1_0.length : Int))) = ji4 := (i64_w _).trans hji4
  by_cases c5 : 0 ≤ (ji4)
  ·rw [if_pos c5] at H
   have c5b0 := eq_true c5
   have c5b1 : decide (0 ≤ (ji4)) = true := decide_eq_true c5
   clear c5
   by_cases c6 : (ji4) ≤ (l0_0.length : Int)
   ·rw [if_pos c6] at H
    have c6b0 := eq_true c6
    have c6b1 : decide ((ji4) ≤ (l0_0.length : Int)) = true := decide_eq_true c6
    clear c6
    obtain ⟨y103, hy103⟩ : ∃ y_ : List (List Int), y_ = (l0_0.drop ((ji4) : Int).toNat) := ⟨_, rfl⟩
    replace H : ((spec_l2cmp.f k y103 l1_0).bind fun t107 => (some (t107 == 0))) = some r := by first | (rw [hy103]; with_reducible exact H) | (have H2_ := (Option.bind_some _ _).symm.trans H; rw [hy103]; with_reducible exact H2_) | (have H2_ := (Option.bind_some _ _).symm.trans H; with_reducible exact H2_) | with_reducible exact H | (rw [hy103]; exact H) | exact H
    have Ny103 := Aside0.mk hy103
    clear hy103
    replace H := Option.bind_eq_some_iff.mp H
    obtain ⟨t107, A70, H⟩ := H
    replace H : (some (t107 == 0)) = some r := H
    have A7 := Aside0.mk A70
    clear A70
    obtain rfl := Option.some.inj H
    go_enter Try.func96, Try.ntmps96
    try go_wp2_with (first | ((with_reducible refine gate_dst (N := 2) rfl ?_); refine boxed (N := 2) rfl rfl (cs := #[.slice A0_0 l0_0.length c0_0]) (t := 31) HB.out (by first | (go_simp; done) | (go_simp; rfl)) ?_; clear HB; intro gb101 w8 hg HB BK101 GE101 hb; have GW101 := GE101; clear hb hg) | ((with_reducible refine gate_dst (N := 3) rfl ?_); refine box_event ?hg (N := 3) ?hd (cs := #[.slice A1_0 l1_0.length c1_0]) (t := 31) ?hr ?_; (case hd => rfl); (case hg => rfl); (case hr => first | (go_simp; done) | (go_simp; rfl)); intro gb102 hg w9 hbox hb; have BK102 := Aside0.mk (hbox); have GW102 := Aside0.mk ((by rw [hg]; exact (below_size (bw HB.out)) : w.heap.size ≤ gb102)); have GE102 := Aside0.mk ((by rw [hg]; exact (below_size (bw HB.out)) : w.heap.size ≤ gb102)); replace HB := Aside0.mk (below_step (bw HB.out) hb); have NB101_102 := Aside0.mk ((by rw [hg]; exact Nat.ne_of_lt (blk_lt (bk BK101.out)) : gb101 ≠ gb102)); have NB102_101 := Aside0.mk ((by rw [hg]; exact Nat.ne_of_gt (blk_lt (bk BK101.out)) : gb102 ≠ gb101)); replace BK101 := Aside0.mk (blk_below (bk BK101.out) hb); clear hb hbox hg; have hnb10 := NB101_102.out; have hnc10 := NB102_101.out; obtain ⟨hcz11_0, hfz11_0⟩ := cells1 BK101.out; obtain ⟨hcz12_0, hfz12_0⟩ := cells1 BK102.out))
    have n0_ := Aside0.mk (blk_drew BK101.out)
    have n1_ := Aside0.mk (blk_drew BK102.out)
    have n2_ := Aside0.mk (below_drew1 HB.out)
    clear BK101
    clear BK102
    clear HB
    have BK101 := n0_
    have BK102 := n1_
    have HB := n2_
    clear n0_ n1_ n2_
    have q14 : ((ji4) : Int) ≤ ((l0_0.length : Int) : Int) := of_decide_eq_true (by first | (with_reducible assumption) | assumption)
    obtain ⟨i014, hi014, _, hsz14, _⟩ := info_parts info25
    have hroom14 : l0_0.length ≤ c0_0 := HC0_0.out
    have hC14 : Kd.C (Kd.slice 5 (Kd.int .u8)) _ A0_0 l0_0.length l0_0 := HR0_0.out
    have q014 : (0 : Int) ≤ ((ji4) : Int) := of_decide_eq_true (by first | (with_reducible assumption) | assumption)
    have hcut14 := cut_from (P := Try.prog) 22 25 .i64 Try.underlying22 hi014 1 hsz14 A0_0 l0_0.length c0_0 (ji4) q014 q14
    have hr14 := Kd.C_drop (m := ((ji4) : Int).toNat) (c := c0_0) hC14 (by omega) hroom14
    obtain ⟨A14, hA14⟩ : ∃ A1, A1 = (if c0_0 = ((ji4) : Int).toNat then A0_0 else (A0_0 : Option Addr).map (·.add (((ji4) : Int).toNat * 1))) := ⟨_, rfl⟩
    obtain ⟨c14, hc14⟩ : ∃ c1, c1 = c0_0 - ((ji4) : Int).toNat := ⟨_, rfl⟩
    have hy14 : y103.length = l0_0.length - ((ji4) : Int).toNat := (by rw [Ny103.out, List.length_drop] <;> omega)
    rw [show (l0_0).drop ((ji4) : Int).toNat = y103 from Ny103.out.symm] at hr14
    replace hr14 : Kd.C (Kd.slice 5 (Kd.int .u8)) _ A14 y103.length y103 := (by rw [hA14]; exact hr14)
    rw [← hy14, ← hA14, ← hc14] at hcut14
    have HR106 := Aside0.mk hr14
    have HC106 := Aside0.mk (show y103.length ≤ c14 from by rw [hy14, hc14]; exact Nat.sub_le_sub_right hroom14 _)
    clear hr14 hC14 hroom14 hi014 hsz14 hc14
    have KY14 := Aside0.mk hy14
    have KA14 := Aside0.mk hA14
    clear hy14 hA14
    replace q14 := eq_true q14
    refine start_ (n := 13) (S := fun w' => w'.cell? ⟨gb101, 0, none⟩ = some (.slice A0_0 l0_0.length c0_0) ∧ w'.cell? ⟨gb102, 0, none⟩ = some (.slice A1_0 l1_0.length c1_0)) (ds := []) (bA 13 0) (by kernel_rfl) rfl rfl ⟨(blk_cell BK101.out 0).trans rfl, (blk_cell BK102.out 0).trans rfl⟩ (fun hHeld => ?_); refine with_tabW spec_l2under.tab2 spec_l2under.bits2 (fun HT_ HW_ => ?_)
    generalize w9.drew = w13 at BK101 BK102 HB HR106 hHeld ⊢
    refine pu_ HT_ 0 13 (bA 13 1) (v := ?_) (a' := ?_) rfl rfl (by kernel_rfl) (fun _ _ _ h => h) (by rfl) ?_ ?_ ?_; rotate_left; intro w'; go_simp; with_reducible rfl; rotate_left; go_simp; rfl
    refine pu_ HT_ 1 14 (bA 13 3) (v := ?_) (a' := ?_) rfl rfl (by kernel_rfl) (fun _ _ _ h => h) (by rfl) ?_ ?_ ?_; rotate_left; intro w'; go_simp; with_reducible rfl; rotate_left; go_simp; rfl
    refine pu_ HT_ 2 15 (bA 13 7) (v := ?_) (a' := ?_) rfl rfl (by kernel_rfl) (fun _ _ _ h => h) (by rfl) ?_ ?_ ?_; rotate_left; intro w'; go_simp; with_reducible rfl; rotate_left; go_simp; rfl
    refine pu_ HT_ 3 16 (bA 13 15) (v := ?_) (a' := ?_) rfl rfl (by kernel_rfl) (fun _ _ _ h => h) (by rfl) ?_ ?_ ?_; rotate_left; intro w'; go_simp; with_reducible rfl; rotate_left; go_simp; rfl
    refine pu_ HT_ 5 18 (bA 13 47) (v := ?_) (a' := ?_) rfl rfl (by kernel_rfl) (fun _ _ _ h => h) (by rfl) ?_ ?_ ?_; rotate_left; intro w'; go_simp; with_reducible rfl; rotate_left; go_simp; rfl
    refine take_ (i := 4) (N := some 17) (v := ?_) (a' := ?_) (bA 13 63) rfl rfl (take_ofW HT_.out HW_.out (by kernel_rfl)) (fun _ _ _ h => h) (Or.inl ⟨by rfl, ?_⟩) hHeld ?_ ?_
    rotate_left; rintro w' ⟨s0, s1⟩; go_simp; with_reducible rfl; rotate_left; go_simp; rfl
    refine pu_ HT_ 6 19 (bA 13 127) (v := ?_) (a' := ?_) rfl rfl (by kernel_rfl) (fun _ _ _ h => h) (by rfl) ?_ ?_ ?_; rotate_left; intro w'; go_simp; with_reducible rfl; rotate_left; go_simp; rfl
    refine pu_ HT_ 7 20 (bA 13 255) (v := ?_) (a' := ?_) rfl rfl (by kernel_rfl) (fun _ _ _ h => h) (by rfl) ?_ ?_ ?_; rotate_left; intro w'; go_simp; with_reducible rfl; rotate_left; go_simp; rfl
    refine take_ (i := 8) (N := some 21) (v := ?_) (a' := ?_) (bA 13 511) rfl rfl (take_ofW HT_.out HW_.out (by kernel_rfl)) (fun _ _ _ h => h) (Or.inl ⟨by rfl, ?_⟩) hHeld ?_ ?_
    rotate_left; rintro w' ⟨s0, s1⟩; go_simp; with_reducible rfl; rotate_left; go_simp; rfl
    refine one_ (i := 9) (N := some 22) (bA 13 1023) rfl rfl (one_of HT_.out (by kernel_rfl)) (by decide) (fun K hK => ?_)
    refine goes_ Try.func98 (by kernel_rfl) rfl #[.agg #[.slice A14 y103.length c14], .agg #[.slice A1_0 l1_0.length c1_0]] (by rfl) rfl rfl (by (try simp only [List.map_toArray, List.map_cons, List.map_nil]); first | done | rfl | (simp only [List.length_drop, List.length_take]; rfl)) ?_
    with_reducible refine (spec_l2cmp.calls k _ _ y103 _ _ l1_0 t107 _ ?side1 ?side2 ?side3 ?side4 A7.out).mono ?_
    (case side1 => exact cw HR106.out HB.out)
    (case side2 => exact HC106.out)
    (case side3 => exact cw HR1_0.out HB.out)
    (case side4 => exact HC1_0.out)
    rintro e w15 ⟨rfl, hb⟩
    refine ⟨_, rfl, ?_⟩
    have n0_ := Aside0.mk (blk_below (bk BK101.out) hb)
    have n1_ := Aside0.mk (blk_below (bk BK102.out) hb)
    have n2_ := Aside0.mk (below_step (bw HB.out) hb)
    clear BK101
    clear BK102
    clear HB
    have BK101 := n0_
    have BK102 := n1_
    have HB := n2_
    clear n0_ n1_ n2_
    (try clear hb)
    (try clear hb2)
    (try clear hk)
    (try clear hi)
    refine hK.out _ _ ⟨(blk_cell BK101.out 0).trans rfl, (blk_cell BK102.out 0).trans rfl⟩ (fun hHeld => ?_)
    clear hK K
    refine norm_ (a' := ?_) ?_ ?_; rotate_left; go_simp; rfl
    refine pu_ HT_ 10 23 (bA 13 2047) (v := ?_) (a' := ?_) rfl rfl (by kernel_rfl) (fun _ _ _ h => h) (by rfl) ?_ ?_ ?_; rotate_left; intro w'; go_simp; with_reducible rfl; rotate_left; go_simp; rfl
    refine pu_ HT_ 11 24 (bA 13 4095) (v := ?_) (a' := ?_) rfl rfl (by kernel_rfl) (fun _ _ _ h => h) (by rfl) ?_ ?_ ?_; rotate_left; intro w'; go_simp; with_reducible rfl; rotate_left; go_simp; rfl
    refine pu_ HT_ 12 4 (bA 13 8191) (v := ?_) (a' := ?_) rfl rfl (by kernel_rfl) (fun _ _ _ h => h) (by rfl) ?_ ?_ ?_; rotate_left; intro w'; go_simp; with_reducible rfl; rotate_left; go_simp; rfl
    refine done_ (done_of HT_.out (by kernel_rfl)) ?_
    try go_wp2
    go_ret
    exact ⟨by first | rfl | (simp [errW_none, errW_some] <;> rfl) | (simp only [← hji4]; first | rfl | (simp [errW_none, errW_some] <;> rfl)) | (simp [*, errW_none, errW_some] <;> rfl), bw HB.out⟩
   ·rw [if_neg c6] at H
    exact absurd H (by simp)
  ·rw [if_neg c5] at H
   exact absurd H (by simp)
 ·rw [if_neg c3] at H
  have c3b0 : decide (0 ≤ (wrap64 ((l0_0.length : Int) - (l1_0.length : Int)))) = false := decide_eq_false c3
  clear c3
  obtain rfl := Option.some.inj H
  go_enter Try.func96, Try.ntmps96
  try go_wp2_with (first | ((with_reducible refine gate_dst (N := 2) rfl ?_); refine boxed (N := 2) rfl rfl (cs := #[.slice A0_0 l0_0.length c0_0]) (t := 31) HB.out (by first | (go_simp; done) | (go_simp; rfl)) ?_; clear HB; intro gb101 w16 hg HB BK101 GE101 hb; have GW101 := GE101; clear hb hg) | ((with_reducible refine gate_dst (N := 3) rfl ?_); refine box_event ?hg (N := 3) ?hd (cs := #[.slice A1_0 l1_0.length c1_0]) (t := 31) ?hr ?_; (case hd => rfl); (case hg => rfl); (case hr => first | (go_simp; done) | (go_simp; rfl)); intro gb102 hg w17 hbox hb; have BK102 := Aside0.mk (hbox); have GW102 := Aside0.mk ((by rw [hg]; exact (below_size (bw HB.out)) : w.heap.size ≤ gb102)); have GE102 := Aside0.mk ((by rw [hg]; exact (below_size (bw HB.out)) : w.heap.size ≤ gb102)); replace HB := Aside0.mk (below_step (bw HB.out) hb); have NB101_102 := Aside0.mk ((by rw [hg]; exact Nat.ne_of_lt (blk_lt (bk BK101.out)) : gb101 ≠ gb102)); have NB102_101 := Aside0.mk ((by rw [hg]; exact Nat.ne_of_gt (blk_lt (bk BK101.out)) : gb102 ≠ gb101)); replace BK101 := Aside0.mk (blk_below (bk BK101.out) hb); clear hb hbox hg; have hnb18 := NB101_102.out; have hnc18 := NB102_101.out; obtain ⟨hcz19_0, hfz19_0⟩ := cells1 BK101.out; obtain ⟨hcz20_0, hfz20_0⟩ := cells1 BK102.out))
  have n0_ := Aside0.mk (blk_drew BK101.out)
  have n1_ := Aside0.mk (blk_drew BK102.out)
  have n2_ := Aside0.mk (below_drew1 HB.out)
  clear BK101
  clear BK102
  clear HB
  have BK101 := n0_
  have BK102 := n1_
  have HB := n2_
  clear n0_ n1_ n2_
  refine start_ (n := 13) (S := fun w' => True) (ds := []) (bA 13 0) (by kernel_rfl) rfl rfl trivial (fun hHeld => ?_); refine with_tabW spec_l2under.tab2 spec_l2under.bits2 (fun HT_ HW_ => ?_)
  generalize w17.drew = w21 at BK101 BK102 HB hHeld ⊢
  refine pu_ HT_ 0 13 (bA 13 1) (v := ?_) (a' := ?_) rfl rfl (by kernel_rfl) (fun _ _ _ h => h) (by rfl) ?_ ?_ ?_; rotate_left; intro w'; go_simp; with_reducible rfl; rotate_left; go_simp; rfl
  refine pu_ HT_ 1 14 (bA 13 3) (v := ?_) (a' := ?_) rfl rfl (by kernel_rfl) (fun _ _ _ h => h) (by rfl) ?_ ?_ ?_; rotate_left; intro w'; go_simp; with_reducible rfl; rotate_left; go_simp; rfl
  refine pu_ HT_ 2 15 (bA 13 7) (v := ?_) (a' := ?_) rfl rfl (by kernel_rfl) (fun _ _ _ h => h) (by rfl) ?_ ?_ ?_; rotate_left; intro w'; go_simp; with_reducible rfl; rotate_left; go_simp; rfl
  refine sk_ HT_ 3 16 (bA 13 15) (a' := ?_) rfl rfl (by kernel_rfl) (fun _ _ _ h => h) (by rfl) ?_ ?_; rotate_left; go_simp; rfl
  refine sk_ HT_ 4 17 (bA 13 31) (a' := ?_) rfl rfl (by kernel_rfl) (fun _ _ _ h => h) (by rfl) ?_ ?_; rotate_left; go_simp; rfl
  refine sk_ HT_ 5 18 (bA 13 63) (a' := ?_) rfl rfl (by kernel_rfl) (fun _ _ _ h => h) (by rfl) ?_ ?_; rotate_left; go_simp; rfl
  refine sk_ HT_ 6 19 (bA 13 127) (a' := ?_) rfl rfl (by kernel_rfl) (fun _ _ _ h => h) (by rfl) ?_ ?_; rotate_left; go_simp; rfl
  refine sk_ HT_ 7 20 (bA 13 255) (a' := ?_) rfl rfl (by kernel_rfl) (fun _ _ _ h => h) (by rfl) ?_ ?_; rotate_left; go_simp; rfl
  refine sk_ HT_ 8 21 (bA 13 511) (a' := ?_) rfl rfl (by kernel_rfl) (fun _ _ _ h => h) (by rfl) ?_ ?_; rotate_left; go_simp; rfl
  refine sk_ HT_ 9 22 (bA 13 1023) (a' := ?_) rfl rfl (by kernel_rfl) (fun _ _ _ h => h) (by rfl) ?_ ?_; rotate_left; go_simp; rfl
  refine sk_ HT_ 10 23 (bA 13 2047) (a' := ?_) rfl rfl (by kernel_rfl) (fun _ _ _ h => h) (by rfl) ?_ ?_; rotate_left; go_simp; rfl
  refine pu_ HT_ 11 24 (bA 13 4095) (v := ?_) (a' := ?_) rfl rfl (by kernel_rfl) (fun _ _ _ h => h) (by rfl) ?_ ?_ ?_; rotate_left; intro w'; go_simp; with_reducible rfl; rotate_left; go_simp; rfl
  refine pu_ HT_ 12 4 (bA 13 8191) (v := ?_) (a' := ?_) rfl rfl (by kernel_rfl) (fun _ _ _ h => h) (by rfl) ?_ ?_ ?_; rotate_left; intro w'; go_simp; with_reducible rfl; rotate_left; go_simp; rfl
  refine done_ (done_of HT_.out (by kernel_rfl)) ?_
  try go_wp2
  go_ret
  exact ⟨by first | rfl | (simp [errW_none, errW_some] <;> rfl) | (simp [*, errW_none, errW_some] <;> rfl), bw HB.out⟩


/-! ### spec_l5alone: function 97 -/
mutual
def spec_l5alone.l0 : Nat → List (S33) → Int → Int → Option (Bool)
 | 0, _, _, _ => none
 | k + 1, x0, x1, x5 => if x5 < (x0.length : Int) then (if x5 = x1 then (spec_l5alone.j1 k x0 x1 x5 false) else (if 0 ≤ x5 then (if 0 ≤ x1 then (if x1 < (x0.length : Int) then ((spec_l2cmp.f k ((rd_T33 x0 x5).f0.f0) ((rd_T33 x0 x1).f0.f0)).bind fun t104 => (spec_l5alone.j1 k x0 x1 x5 (t104 == 0))) else (none)) else (none)) else (none))) else (some true)
def spec_l5alone.j1 : Nat → List (S33) → Int → Int → Bool → Option (Bool)
 | 0, _, _, _, _ => none
 | k + 1, x0, x1, x5, x34 => if x34 = true then (some false) else (spec_l5alone.l0 k x0 x1 (wrap64 (x5 + 1)))
end
def spec_l5alone.f (k : Nat) (l0 : List (S33)) (a1 : Int) : Option (Bool) := if 0 ≤ a1 then (if a1 < (l0.length : Int) then (if ((rd_T33 l0 a1).f1) = 5 then (spec_l5alone.l0 k l0 a1 0) else (some true)) else (none)) else (none)
def spec_l5alone.T6 : Bool × List (List Nat × List Nat) := (true, [([], []), ([], []), ([0, 1], [0, 1]), ([2], [2]), ([3], [3]), ([3], [3]), ([4, 5, 3], [3, 4, 5]), ([6, 3], [3, 6]), ([7, 3], [3, 7]), ([3], [3]), ([3], [3]), ([9, 10, 3], [3, 9, 10]), ([11, 3], [3, 11]), ([12, 3], [3, 12]), ([8, 13, 3, 3], [3, 8, 13]), ([14, 3], [3, 14]), ([3, 15], [3, 15])])
def spec_l5alone.B6 : List Nat := [0, 0, 3, 7, 15, 15, 63, 127, 255, 15, 15, 1551, 3599, 7695, 16383, 32767, 65535]
theorem spec_l5alone.tab6 : rtab .any (opsOf Try.f97 6) = spec_l5alone.T6 := by kernel_rfl
theorem spec_l5alone.bits6 : waitsOk spec_l5alone.T6.2 spec_l5alone.B6 = true := by kernel_rfl
set_option maxHeartbeats 8000000 in
set_option maxRecDepth 100000 in
theorem spec_l5alone.calls (k : Nat) (A0 : Option Addr) (c0 : Nat) (l0 : List (S33)) (a1 : Int) (r : Bool) (w : World) (hr0 : Kd.C k33 w A0 l0.length l0) (hc0 : l0.length ≤ c0) (h : spec_l5alone.f k l0 a1 = some r) :
  Calls Try.prog 97 #[.slice A0 l0.length c0, .int .i64 a1] w fun e w' => e = .returned (.bool r) ∧ Below w.heap.size w w' := by
 have hu31 := Try.underlying31
 have HR0 := Aside0.mk hr0
 have HC0 := Aside0.mk hc0
 clear hr0 hc0
 have HB := Aside0.mk (Below.refl w.heap.size w)
 have H : (if 0 ≤ a1 then (if a1 < (l0.length : Int) then (if ((rd_T33 l0 a1).f1) = 5 then (spec_l5alone.l0 k l0 a1 0) else (some true)) else (none)) else (none)) = some r := h
 clear h
 by_cases c3 : 0 ≤ a1
 ·rw [if_pos c3] at H
  have c3b0 : decide (0 ≤ a1) = true := decide_eq_true c3
  clear c3
  by_cases c4 : a1 < (l0.length : Int)
  ·rw [if_pos c4] at H
   have c4b0 : decide (a1 < (l0.length : Int)) = true := decide_eq_true c4
   clear c4
   by_cases c5 : ((rd_T33 l0 a1).f1) = 5
   ·rw [if_pos c5] at H
    have c5b0 : (((rd_T33 l0 a1).f1) == 5) = true := beq_iff_eq.mpr c5
    have c5b1 : (((rd_T33 l0 a1).f1) != 5) = false := bne_eq_false_iff_eq.mpr c5
    clear c5
    have H' := Aside0.mk H
    clear H
    have p101 : 0 ≤ (a1 : Int) := of_decide_eq_true (by first | (with_reducible assumption) | assumption)
    have q101 : a1 < (l0.length : Int) := of_decide_eq_true (by first | (with_reducible assumption) | assumption)
    obtain ⟨ad101, A101_0, c101_0, A101_4, c101_4, A101_5, c101_5, A101_6, c101_6, e101, hx101_0, hx101_1, hx101_2, hx101_3, hx101_4, hx101_5, hx101_6, hl101_0, hi101_0, hl101_4, hi101_4, hl101_5, hi101_5, hl101_6, hi101_6⟩ := at_T33 HR0.out a1 p101 q101
    cases e101
    have HR101_0 := Aside0.mk hi101_0
    have HC101_0 := Aside0.mk hl101_0
    clear hi101_0 hl101_0
    have HR101_4 := Aside0.mk hi101_4
    have HC101_4 := Aside0.mk hl101_4
    clear hi101_4 hl101_4
    have HR101_5 := Aside0.mk hi101_5
    have HC101_5 := Aside0.mk hl101_5
    clear hi101_5 hl101_5
    have HR101_6 := Aside0.mk hi101_6
    have HC101_6 := Aside0.mk hl101_6
    clear hi101_6 hl101_6
    replace p101 := eq_true p101
    replace q101 := eq_true q101
    go_enter Try.func97, Try.ntmps97
    go_wp2
    go_loopg [5] k (fun kq v5 w' => ∃ (x5_1 : Int), v5 = .int .i64 x5_1 ∧ Aside0 (spec_l5alone.l0 kq l0 a1 x5_1 = some r) ∧ Aside0 (kq ≤ k) ∧ Aside0 (Below w.heap.size w w'))
    case atStart => exact ⟨(0), (by first | rfl | (simp; done) | (simp [*]; done)), H', ⟨Nat.le_refl _⟩, ⟨bw HB.out⟩⟩
    case round =>
     clear H'
     try clear c1
     try clear p1
     try clear q1
     try clear hx1
     try clear p2
     try clear c3
     try clear c3b0
     try clear c4
     try clear c4b0
     try clear c5
     try clear c5b0
     try clear c5b1
     try clear hx101_0
     try clear hx101_1
     try clear hx101_2
     try clear hx101_3
     try clear hx101_4
     try clear hx101_5
     try clear hx101_6
     try clear p101
     try clear q101
     obtain ⟨x5_1, rfl, HA, HK1, HB⟩ := hrel
     cases gk with
     | zero => exact absurd HA.out (by simp [spec_l5alone.l0])
     | succ k1 =>
      have H := HA.out
      clear HA
      simp only [spec_l5alone.l0] at H
      by_cases c6 : x5_1 < (l0.length : Int)
      ·rw [if_pos c6] at H
       have c6b0 : decide (x5_1 < (l0.length : Int)) = true := decide_eq_true c6
       clear c6
       have HC7 := Aside0.mk H
       clear H
       go_upto_region 6 with (fail)
       go_cut [34] (fun v34 wc => ∃ (kq : Nat) (x34_6 : Bool), v34 = .bool x34_6 ∧ Aside0 (spec_l5alone.j1 kq l0 a1 x5_1 x34_6 = some r) ∧ Aside0 (kq ≤ k1) ∧ Aside0 (Below w.heap.size w wc))
       case first =>
        have H := HC7.out
        clear HC7
        by_cases c8 : x5_1 = a1
        ·rw [if_pos c8] at H
         have c8b0 : (x5_1 == a1) = true := beq_iff_eq.mpr c8
         have c8b1 : (x5_1 != a1) = false := bne_eq_false_iff_eq.mpr c8
         clear c8
         (first | rw [c8b0] | (simp only [i64_w, i32_w]; rw [c8b0]) | skip)
         have H' := Aside0.mk H
         clear H
         try go_wp2
         have n0_ := Aside0.mk (below_drew1 HB.out)
         clear HB
         have HB := n0_
         clear n0_
         refine start_ (n := 17) (S := fun w' => True) (ds := []) (bA 17 0) (by kernel_rfl) rfl rfl trivial (fun hHeld => ?_); refine with_tabW spec_l5alone.tab6 spec_l5alone.bits6 (fun HT_ HW_ => ?_)
         generalize wr.drew = w9 at HB hHeld ⊢
         refine pu_ HT_ 0 18 (bA 17 1) (v := ?_) (a' := ?_) rfl rfl (by kernel_rfl) (fun _ _ _ h => h) (by rfl) ?_ ?_ ?_; rotate_left; intro w'; go_simp; with_reducible rfl; rotate_left; go_simp; rfl
         refine pu_ HT_ 1 19 (bA 17 3) (v := ?_) (a' := ?_) rfl rfl (by kernel_rfl) (fun _ _ _ h => h) (by rfl) ?_ ?_ ?_; rotate_left; intro w'; go_simp; with_reducible rfl; rotate_left; go_simp; rfl
         refine pu_ HT_ 2 20 (bA 17 7) (v := ?_) (a' := ?_) rfl rfl (by kernel_rfl) (fun _ _ _ h => h) (by rfl) ?_ ?_ ?_; rotate_left; intro w'; go_simp; with_reducible rfl; rotate_left; go_simp; rfl
         refine pu_ HT_ 3 21 (bA 17 15) (v := ?_) (a' := ?_) rfl rfl (by kernel_rfl) (fun _ _ _ h => h) (by rfl) ?_ ?_ ?_; rotate_left; intro w'; go_simp; with_reducible rfl; rotate_left; go_simp; rfl
         refine sk_ HT_ 4 22 (bA 17 31) (a' := ?_) rfl rfl (by kernel_rfl) (fun _ _ _ h => h) (by rfl) ?_ ?_; rotate_left; go_simp; rfl
         refine sk_ HT_ 5 23 (bA 17 63) (a' := ?_) rfl rfl (by kernel_rfl) (fun _ _ _ h => h) (by rfl) ?_ ?_; rotate_left; go_simp; rfl
         refine sk_ HT_ 6 24 (bA 17 127) (a' := ?_) rfl rfl (by kernel_rfl) (fun _ _ _ h => h) (by rfl) ?_ ?_; rotate_left; go_simp; rfl
         refine sk_ HT_ 7 25 (bA 17 255) (a' := ?_) rfl rfl (by kernel_rfl) (fun _ _ _ h => h) (by rfl) ?_ ?_; rotate_left; go_simp; rfl
         refine sk_ HT_ 8 26 (bA 17 511) (a' := ?_) rfl rfl (by kernel_rfl) (fun _ _ _ h => h) (by rfl) ?_ ?_; rotate_left; go_simp; rfl
         refine sk_ HT_ 9 27 (bA 17 1023) (a' := ?_) rfl rfl (by kernel_rfl) (fun _ _ _ h => h) (by rfl) ?_ ?_; rotate_left; go_simp; rfl
         refine sk_ HT_ 10 28 (bA 17 2047) (a' := ?_) rfl rfl (by kernel_rfl) (fun _ _ _ h => h) (by rfl) ?_ ?_; rotate_left; go_simp; rfl
         refine sk_ HT_ 11 29 (bA 17 4095) (a' := ?_) rfl rfl (by kernel_rfl) (fun _ _ _ h => h) (by rfl) ?_ ?_; rotate_left; go_simp; rfl
         refine sk_ HT_ 12 30 (bA 17 8191) (a' := ?_) rfl rfl (by kernel_rfl) (fun _ _ _ h => h) (by rfl) ?_ ?_; rotate_left; go_simp; rfl
         refine sk_ HT_ 13 31 (bA 17 16383) (a' := ?_) rfl rfl (by kernel_rfl) (fun _ _ _ h => h) (by rfl) ?_ ?_; rotate_left; go_simp; rfl
         refine sk_ HT_ 14 32 (bA 17 32767) (a' := ?_) rfl rfl (by kernel_rfl) (fun _ _ _ h => h) (by rfl) ?_ ?_; rotate_left; go_simp; rfl
         refine sk_ HT_ 15 33 (bA 17 65535) (a' := ?_) rfl rfl (by kernel_rfl) (fun _ _ _ h => h) (by rfl) ?_ ?_; rotate_left; go_simp; rfl
         refine pu_ HT_ 16 34 (bA 17 131071) (v := ?_) (a' := ?_) rfl rfl (by kernel_rfl) (fun _ _ _ h => h) (by rfl) ?_ ?_ ?_; rotate_left; intro w'; go_simp; with_reducible rfl; rotate_left; go_simp; rfl
         refine done_ (done_of HT_.out (by kernel_rfl)) ?_
         try go_wp2
         go_meet
         case rel => exact ⟨_, (false), (by first | rfl | (simp; done) | (simp [*]; done)), H', ⟨by have := HK1.out; first | omega | exact Nat.le_refl _⟩, ⟨bw HB.out⟩⟩
        ·rw [if_neg c8] at H
         have c8b0 : (x5_1 == a1) = false := beq_eq_false_iff_ne.mpr c8
         have c8b1 : (x5_1 != a1) = true := bne_iff_ne.mpr c8
         (first | rw [c8b0] | (simp only [i64_w, i32_w]; rw [c8b0]) | skip)
         by_cases c10 : 0 ≤ x5_1
         ·rw [if_pos c10] at H
          have c10b0 : decide (0 ≤ x5_1) = true := decide_eq_true c10
          clear c10
          by_cases c11 : 0 ≤ a1
          ·rw [if_pos c11] at H
           have c11b0 : decide (0 ≤ a1) = true := decide_eq_true c11
           clear c11
           by_cases c12 : a1 < (l0.length : Int)
           ·rw [if_pos c12] at H
            have c12b0 : decide (a1 < (l0.length : Int)) = true := decide_eq_true c12
            clear c12
            replace H := Option.bind_eq_some_iff.mp H
            obtain ⟨t104, A130, H⟩ := H
            replace H : (spec_l5alone.j1 k1 l0 a1 x5_1 (t104 == 0)) = some r := H
            have A13 := Aside0.mk A130
            clear A130
            have H' := Aside0.mk H
            clear H
            try go_wp2
            have n0_ := Aside0.mk (below_drew1 HB.out)
            clear HB
            have HB := n0_
            clear n0_
            have p102 : 0 ≤ (x5_1 : Int) := of_decide_eq_true (by first | (with_reducible assumption) | assumption)
            have q102 : x5_1 < (l0.length : Int) := of_decide_eq_true (by first | (with_reducible assumption) | assumption)
            obtain ⟨ad102, A102_0, c102_0, A102_4, c102_4, A102_5, c102_5, A102_6, c102_6, e102, hx102_0, hx102_1, hx102_2, hx102_3, hx102_4, hx102_5, hx102_6, hl102_0, hi102_0, hl102_4, hi102_4, hl102_5, hi102_5, hl102_6, hi102_6⟩ := at_T33 HR0.out x5_1 p102 q102
            have hw102_6 := hx102_6
            have hw102_5 := hx102_5
            have hw102_4 := hx102_4
            have hw102_3 := hx102_3
            have hw102_2 := hx102_2
            have hw102_1 := hx102_1
            have hw102_0 := hx102_0
            obtain rfl : ad101 = ad102 := (by injection e102)
            replace hx102_0 := (HB.out.cell (World.block_lt_of_cell? w _ hx102_0)).trans hx102_0
            replace hx102_1 := (HB.out.cell (World.block_lt_of_cell? w _ hx102_1)).trans hx102_1
            replace hx102_2 := (HB.out.cell (World.block_lt_of_cell? w _ hx102_2)).trans hx102_2
            replace hx102_3 := (HB.out.cell (World.block_lt_of_cell? w _ hx102_3)).trans hx102_3
            replace hx102_4 := (HB.out.cell (World.block_lt_of_cell? w _ hx102_4)).trans hx102_4
            replace hx102_5 := (HB.out.cell (World.block_lt_of_cell? w _ hx102_5)).trans hx102_5
            replace hx102_6 := (HB.out.cell (World.block_lt_of_cell? w _ hx102_6)).trans hx102_6
            have HR102_0 := Aside0.mk hi102_0
            have HC102_0 := Aside0.mk hl102_0
            clear hi102_0 hl102_0
            have HR102_4 := Aside0.mk hi102_4
            have HC102_4 := Aside0.mk hl102_4
            clear hi102_4 hl102_4
            have HR102_5 := Aside0.mk hi102_5
            have HC102_5 := Aside0.mk hl102_5
            clear hi102_5 hl102_5
            have HR102_6 := Aside0.mk hi102_6
            have HC102_6 := Aside0.mk hl102_6
            clear hi102_6 hl102_6
            replace p102 := eq_true p102
            replace q102 := eq_true q102
            have p103 : 0 ≤ (a1 : Int) := of_decide_eq_true (by first | (with_reducible assumption) | assumption)
            have q103 : a1 < (l0.length : Int) := of_decide_eq_true (by first | (with_reducible assumption) | assumption)
            obtain ⟨ad103, A103_0, c103_0, A103_4, c103_4, A103_5, c103_5, A103_6, c103_6, e103, hx103_0, hx103_1, hx103_2, hx103_3, hx103_4, hx103_5, hx103_6, hl103_0, hi103_0, hl103_4, hi103_4, hl103_5, hi103_5, hl103_6, hi103_6⟩ := at_T33 HR0.out a1 p103 q103
            have hw103_6 := hx103_6
            have hw103_5 := hx103_5
            have hw103_4 := hx103_4
            have hw103_3 := hx103_3
            have hw103_2 := hx103_2
            have hw103_1 := hx103_1
            have hw103_0 := hx103_0
            obtain rfl : ad101 = ad103 := (by injection e103)
            replace hx103_0 := (HB.out.cell (World.block_lt_of_cell? w _ hx103_0)).trans hx103_0
            replace hx103_1 := (HB.out.cell (World.block_lt_of_cell? w _ hx103_1)).trans hx103_1
            replace hx103_2 := (HB.out.cell (World.block_lt_of_cell? w _ hx103_2)).trans hx103_2
            replace hx103_3 := (HB.out.cell (World.block_lt_of_cell? w _ hx103_3)).trans hx103_3
            replace hx103_4 := (HB.out.cell (World.block_lt_of_cell? w _ hx103_4)).trans hx103_4
            replace hx103_5 := (HB.out.cell (World.block_lt_of_cell? w _ hx103_5)).trans hx103_5
            replace hx103_6 := (HB.out.cell (World.block_lt_of_cell? w _ hx103_6)).trans hx103_6
            have HR103_0 := Aside0.mk hi103_0
            have HC103_0 := Aside0.mk hl103_0
            clear hi103_0 hl103_0
            have HR103_4 := Aside0.mk hi103_4
            have HC103_4 := Aside0.mk hl103_4
            clear hi103_4 hl103_4
            have HR103_5 := Aside0.mk hi103_5
            have HC103_5 := Aside0.mk hl103_5
            clear hi103_5 hl103_5
            have HR103_6 := Aside0.mk hi103_6
            have HC103_6 := Aside0.mk hl103_6
            clear hi103_6 hl103_6
            replace p103 := eq_true p103
            replace q103 := eq_true q103
            refine start_ (n := 17) (S := fun w' => w'.cell? (ad101.add ((x5_1).toNat * 7)) = some (.slice A102_0 ((rd_T33 l0 x5_1).f0.f0).length c102_0) ∧ w'.cell? ⟨(ad101.add ((x5_1).toNat * 7)).block, (ad101.add ((x5_1).toNat * 7)).off + 1, none⟩ = some (.int .i64 ((rd_T33 l0 x5_1).f1)) ∧ w'.cell? ⟨(ad101.add ((x5_1).toNat * 7)).block, (ad101.add ((x5_1).toNat * 7)).off + 2, none⟩ = some (.int .i64 ((rd_T33 l0 x5_1).f2)) ∧ w'.cell? ⟨(ad101.add ((x5_1).toNat * 7)).block, (ad101.add ((x5_1).toNat * 7)).off + 3, none⟩ = some (.int .i64 ((rd_T33 l0 x5_1).f3)) ∧ w'.cell? ⟨(ad101.add ((x5_1).toNat * 7)).block, (ad101.add ((x5_1).toNat * 7)).off + 4, none⟩ = some (.slice A102_4 ((rd_T33 l0 x5_1).f4.f0).length c102_4) ∧ w'.cell? ⟨(ad101.add ((x5_1).toNat * 7)).block, (ad101.add ((x5_1).toNat * 7)).off + 5, none⟩ = some (.slice A102_5 ((rd_T33 l0 x5_1).f5).length c102_5) ∧ w'.cell? ⟨(ad101.add ((x5_1).toNat * 7)).block, (ad101.add ((x5_1).toNat * 7)).off + 6, none⟩ = some (.slice A102_6 ((rd_T33 l0 x5_1).f6).length c102_6) ∧ w'.cell? (ad101.add ((a1).toNat * 7)) = some (.slice A103_0 ((rd_T33 l0 a1).f0.f0).length c103_0) ∧ w'.cell? ⟨(ad101.add ((a1).toNat * 7)).block, (ad101.add ((a1).toNat * 7)).off + 1, none⟩ = some (.int .i64 ((rd_T33 l0 a1).f1)) ∧ w'.cell? ⟨(ad101.add ((a1).toNat * 7)).block, (ad101.add ((a1).toNat * 7)).off + 2, none⟩ = some (.int .i64 ((rd_T33 l0 a1).f2)) ∧ w'.cell? ⟨(ad101.add ((a1).toNat * 7)).block, (ad101.add ((a1).toNat * 7)).off + 3, none⟩ = some (.int .i64 ((rd_T33 l0 a1).f3)) ∧ w'.cell? ⟨(ad101.add ((a1).toNat * 7)).block, (ad101.add ((a1).toNat * 7)).off + 4, none⟩ = some (.slice A103_4 ((rd_T33 l0 a1).f4.f0).length c103_4) ∧ w'.cell? ⟨(ad101.add ((a1).toNat * 7)).block, (ad101.add ((a1).toNat * 7)).off + 5, none⟩ = some (.slice A103_5 ((rd_T33 l0 a1).f5).length c103_5) ∧ w'.cell? ⟨(ad101.add ((a1).toNat * 7)).block, (ad101.add ((a1).toNat * 7)).off + 6, none⟩ = some (.slice A103_6 ((rd_T33 l0 a1).f6).length c103_6)) (ds := []) (bA 17 0) (by kernel_rfl) rfl rfl ⟨((HB.out.cell (World.block_lt_of_cell? w _ hw102_0)).trans hw102_0), ((HB.out.cell (World.block_lt_of_cell? w _ hw102_1)).trans hw102_1), ((HB.out.cell (World.block_lt_of_cell? w _ hw102_2)).trans hw102_2), ((HB.out.cell (World.block_lt_of_cell? w _ hw102_3)).trans hw102_3), ((HB.out.cell (World.block_lt_of_cell? w _ hw102_4)).trans hw102_4), ((HB.out.cell (World.block_lt_of_cell? w _ hw102_5)).trans hw102_5), ((HB.out.cell (World.block_lt_of_cell? w _ hw102_6)).trans hw102_6), ((HB.out.cell (World.block_lt_of_cell? w _ hw103_0)).trans hw103_0), ((HB.out.cell (World.block_lt_of_cell? w _ hw103_1)).trans hw103_1), ((HB.out.cell (World.block_lt_of_cell? w _ hw103_2)).trans hw103_2), ((HB.out.cell (World.block_lt_of_cell? w _ hw103_3)).trans hw103_3), ((HB.out.cell (World.block_lt_of_cell? w _ hw103_4)).trans hw103_4), ((HB.out.cell (World.block_lt_of_cell? w _ hw103_5)).trans hw103_5), ((HB.out.cell (World.block_lt_of_cell? w _ hw103_6)).trans hw103_6)⟩ (fun hHeld => ?_); refine with_tabW spec_l5alone.tab6 spec_l5alone.bits6 (fun HT_ HW_ => ?_)
            generalize wr.drew = w14 at HB HR102_0 HR102_4 HR102_5 HR102_6 HR103_0 HR103_4 HR103_5 HR103_6 hx102_0 hx102_1 hx102_2 hx102_3 hx102_4 hx102_5 hx102_6 hx103_0 hx103_1 hx103_2 hx103_3 hx103_4 hx103_5 hx103_6 hHeld ⊢
            refine pu_ HT_ 0 18 (bA 17 1) (v := ?_) (a' := ?_) rfl rfl (by kernel_rfl) (fun _ _ _ h => h) (by rfl) ?_ ?_ ?_; rotate_left; intro w'; go_simp; with_reducible rfl; rotate_left; go_simp; rfl
            refine pu_ HT_ 1 19 (bA 17 3) (v := ?_) (a' := ?_) rfl rfl (by kernel_rfl) (fun _ _ _ h => h) (by rfl) ?_ ?_ ?_; rotate_left; intro w'; go_simp; with_reducible rfl; rotate_left; go_simp; rfl
            refine pu_ HT_ 2 20 (bA 17 7) (v := ?_) (a' := ?_) rfl rfl (by kernel_rfl) (fun _ _ _ h => h) (by rfl) ?_ ?_ ?_; rotate_left; intro w'; go_simp; with_reducible rfl; rotate_left; go_simp; rfl
            refine pu_ HT_ 3 21 (bA 17 15) (v := ?_) (a' := ?_) rfl rfl (by kernel_rfl) (fun _ _ _ h => h) (by rfl) ?_ ?_ ?_; rotate_left; intro w'; go_simp; with_reducible rfl; rotate_left; go_simp; rfl
            refine pu_ HT_ 4 22 (bA 17 31) (v := ?_) (a' := ?_) rfl rfl (by kernel_rfl) (fun _ _ _ h => h) (by rfl) ?_ ?_ ?_; rotate_left; intro w'; go_simp; with_reducible rfl; rotate_left; go_simp; rfl
            refine pu_ HT_ 5 23 (bA 17 63) (v := ?_) (a' := ?_) rfl rfl (by kernel_rfl) (fun _ _ _ h => h) (by rfl) ?_ ?_ ?_; rotate_left; intro w'; go_simp; with_reducible rfl; rotate_left; go_simp; rfl
            refine pu_ HT_ 6 24 (bA 17 127) (v := ?_) (a' := ?_) rfl rfl (by kernel_rfl) (fun _ _ _ h => h) (by rfl) ?_ ?_ ?_; rotate_left; intro w'; go_simp; with_reducible rfl; rotate_left; go_simp; rfl
            refine pu_ HT_ 7 25 (bA 17 255) (v := ?_) (a' := ?_) rfl rfl (by kernel_rfl) (fun _ _ _ h => h) (by rfl) ?_ ?_ ?_; rotate_left; intro w'; go_simp; with_reducible rfl; rotate_left; go_simp; rfl
            refine pu_ HT_ 9 27 (bA 17 767) (v := ?_) (a' := ?_) rfl rfl (by kernel_rfl) (fun _ _ _ h => h) (by rfl) ?_ ?_ ?_; rotate_left; intro w'; go_simp; with_reducible rfl; rotate_left; go_simp; rfl
            refine pu_ HT_ 10 28 (bA 17 1791) (v := ?_) (a' := ?_) rfl rfl (by kernel_rfl) (fun _ _ _ h => h) (by rfl) ?_ ?_ ?_; rotate_left; intro w'; go_simp; with_reducible rfl; rotate_left; go_simp; rfl
            refine pu_ HT_ 11 29 (bA 17 3839) (v := ?_) (a' := ?_) rfl rfl (by kernel_rfl) (fun _ _ _ h => h) (by rfl) ?_ ?_ ?_; rotate_left; intro w'; go_simp; with_reducible rfl; rotate_left; go_simp; rfl
            refine pu_ HT_ 12 30 (bA 17 7935) (v := ?_) (a' := ?_) rfl rfl (by kernel_rfl) (fun _ _ _ h => h) (by rfl) ?_ ?_ ?_; rotate_left; intro w'; go_simp; with_reducible rfl; rotate_left; go_simp; rfl
            refine take_ (i := 8) (N := some 26) (v := ?_) (a' := ?_) (bA 17 8191) rfl rfl (take_ofW HT_.out HW_.out (by kernel_rfl)) (fun _ _ _ h => h) (Or.inl ⟨by rfl, ?_⟩) hHeld ?_ ?_
            rotate_left; rintro w' ⟨s0, s1, s2, s3, s4, s5, s6, s7, s8, s9, s10, s11, s12, s13⟩; go_simp; with_reducible rfl; rotate_left; go_simp; rfl
            refine take_ (i := 13) (N := some 31) (v := ?_) (a' := ?_) (bA 17 16383) rfl rfl (take_ofW HT_.out HW_.out (by kernel_rfl)) (fun _ _ _ h => h) (Or.inl ⟨by rfl, ?_⟩) hHeld ?_ ?_
            rotate_left; rintro w' ⟨s0, s1, s2, s3, s4, s5, s6, s7, s8, s9, s10, s11, s12, s13⟩; go_simp; with_reducible rfl; rotate_left; go_simp; rfl
            refine one_ (i := 14) (N := some 32) (bA 17 32767) rfl rfl (one_of HT_.out (by kernel_rfl)) (by decide) (fun K hK => ?_)
            refine goes_ Try.func98 (by kernel_rfl) rfl #[.agg #[.slice A102_0 ((rd_T33 l0 x5_1).f0.f0).length c102_0], .agg #[.slice A103_0 ((rd_T33 l0 a1).f0.f0).length c103_0]] (by rfl) rfl rfl (by (try simp only [List.map_toArray, List.map_cons, List.map_nil]); first | done | rfl | (simp only [List.length_drop, List.length_take]; rfl)) ?_
            with_reducible refine (spec_l2cmp.calls k1 _ _ ((rd_T33 l0 x5_1).f0.f0) _ _ ((rd_T33 l0 a1).f0.f0) t104 _ ?side1 ?side2 ?side3 ?side4 A13.out).mono ?_
            (case side1 => exact cw HR102_0.out HB.out)
            (case side2 => exact HC102_0.out)
            (case side3 => exact cw HR103_0.out HB.out)
            (case side4 => exact HC103_0.out)
            rintro e w15 ⟨rfl, hb⟩
            refine ⟨_, rfl, ?_⟩
            have n0_ := Aside0.mk (below_step (bw HB.out) hb)
            clear HB
            have HB := n0_
            clear n0_
            (try clear hb)
            (try clear hb2)
            (try clear hk)
            (try clear hi)
            refine hK.out _ _ ⟨((HB.out.cell (World.block_lt_of_cell? w _ hw102_0)).trans hw102_0), ((HB.out.cell (World.block_lt_of_cell? w _ hw102_1)).trans hw102_1), ((HB.out.cell (World.block_lt_of_cell? w _ hw102_2)).trans hw102_2), ((HB.out.cell (World.block_lt_of_cell? w _ hw102_3)).trans hw102_3), ((HB.out.cell (World.block_lt_of_cell? w _ hw102_4)).trans hw102_4), ((HB.out.cell (World.block_lt_of_cell? w _ hw102_5)).trans hw102_5), ((HB.out.cell (World.block_lt_of_cell? w _ hw102_6)).trans hw102_6), ((HB.out.cell (World.block_lt_of_cell? w _ hw103_0)).trans hw103_0), ((HB.out.cell (World.block_lt_of_cell? w _ hw103_1)).trans hw103_1), ((HB.out.cell (World.block_lt_of_cell? w _ hw103_2)).trans hw103_2), ((HB.out.cell (World.block_lt_of_cell? w _ hw103_3)).trans hw103_3), ((HB.out.cell (World.block_lt_of_cell? w _ hw103_4)).trans hw103_4), ((HB.out.cell (World.block_lt_of_cell? w _ hw103_5)).trans hw103_5), ((HB.out.cell (World.block_lt_of_cell? w _ hw103_6)).trans hw103_6)⟩ (fun hHeld => ?_)
            clear hK K
            refine norm_ (a' := ?_) ?_ ?_; rotate_left; go_simp; rfl
            refine pu_ HT_ 15 33 (bA 17 65535) (v := ?_) (a' := ?_) rfl rfl (by kernel_rfl) (fun _ _ _ h => h) (by rfl) ?_ ?_ ?_; rotate_left; intro w'; go_simp; with_reducible rfl; rotate_left; go_simp; rfl
            refine pu_ HT_ 16 34 (bA 17 131071) (v := ?_) (a' := ?_) rfl rfl (by kernel_rfl) (fun _ _ _ h => h) (by rfl) ?_ ?_ ?_; rotate_left; intro w'; go_simp; with_reducible rfl; rotate_left; go_simp; rfl
            refine done_ (done_of HT_.out (by kernel_rfl)) ?_
            try go_wp2
            go_meet
            case rel => exact ⟨_, ((t104 == 0)), (by first | rfl | (simp; done) | (simp [*]; done)), H', ⟨by have := HK1.out; first | omega | exact Nat.le_refl _⟩, ⟨bw HB.out⟩⟩
           ·rw [if_neg c12] at H
            exact absurd H (by simp)
          ·rw [if_neg c11] at H
           exact absurd H (by simp)
         ·rw [if_neg c10] at H
          exact absurd H (by simp)
       case rest =>
        clear HC7
        try clear c1
        try clear p1
        try clear q1
        try clear hx1
        try clear p2
        try clear c3
        try clear c3b0
        try clear c4
        try clear c4b0
        try clear c5
        try clear c5b0
        try clear c5b1
        try clear c6
        try clear c6b0
        try clear c8
        try clear c8b0
        try clear c8b1
        try clear c9
        try clear c10
        try clear c10b0
        try clear p10
        try clear q10
        try clear hx10
        try clear c11
        try clear c11b0
        try clear c12
        try clear c12b0
        try clear hx101_0
        try clear hx101_1
        try clear hx101_2
        try clear hx101_3
        try clear hx101_4
        try clear hx101_5
        try clear hx101_6
        try clear hx102_0
        try clear hx102_1
        try clear hx102_2
        try clear hx102_3
        try clear hx102_4
        try clear hx102_5
        try clear hx102_6
        try clear hx103_0
        try clear hx103_1
        try clear hx103_2
        try clear hx103_3
        try clear hx103_4
        try clear hx103_5
        try clear hx103_6
        try clear p1
        try clear p101
        try clear p102
        try clear p103
        try clear p2
        try clear q1
        try clear q101
        try clear q102
        try clear q103
        obtain ⟨kq, x34_6, rfl, HA, HJ6, HB⟩ := hcut
        cases kq with
        | zero => exact absurd HA.out (by simp [spec_l5alone.j1])
        | succ kj6 =>
         have H := HA.out
         clear HA
         simp only [spec_l5alone.j1] at H
         by_cases c16 : x34_6 = true
         ·subst c16
          have H1 : (some false) = some r := by rw [if_pos rfl] at H; exact H
          clear H
          have H := H1
          clear H1
          obtain rfl := Option.some.inj H
          go_wp2
          go_ret
          exact ⟨by first | rfl | (simp [errW_none, errW_some] <;> rfl) | (simp [*, errW_none, errW_some] <;> rfl), bw HB.out⟩
         ·replace c16 := Bool.eq_false_iff.mpr c16
          subst c16
          have H1 : (spec_l5alone.l0 kj6 l0 a1 (wrap64 (x5_1 + 1))) = some r := by rw [if_neg (show ¬ (false = true) by decide)] at H; exact H
          clear H
          have H := H1
          clear H1
          have H' := Aside0.mk H
          clear H
          go_wp2
          go_roundg kj6
          case measure => have := HK1.out; have := HJ6.out; omega
          case rel => exact ⟨(wrap64 (x5_1 + 1)), (by first | rfl | (simp; done) | (simp [*]; done)), H', ⟨by have := HK1.out; have := HJ6.out; omega⟩, ⟨bw HB.out⟩⟩
      ·rw [if_neg c6] at H
       have c6b0 : decide (x5_1 < (l0.length : Int)) = false := decide_eq_false c6
       clear c6
       obtain rfl := Option.some.inj H
       go_wp2
       go_ret
       exact ⟨by first | rfl | (simp [errW_none, errW_some] <;> rfl) | (simp [*, errW_none, errW_some] <;> rfl), bw HB.out⟩
   ·rw [if_neg c5] at H
    have c5b0 : (((rd_T33 l0 a1).f1) == 5) = false := beq_eq_false_iff_ne.mpr c5
    have c5b1 : (((rd_T33 l0 a1).f1) != 5) = true := bne_iff_ne.mpr c5
    obtain rfl := Option.some.inj H
    have p101 : 0 ≤ (a1 : Int) := of_decide_eq_true (by first | (with_reducible assumption) | assumption)
    have q101 : a1 < (l0.length : Int) := of_decide_eq_true (by first | (with_reducible assumption) | assumption)
    obtain ⟨ad101, A101_0, c101_0, A101_4, c101_4, A101_5, c101_5, A101_6, c101_6, e101, hx101_0, hx101_1, hx101_2, hx101_3, hx101_4, hx101_5, hx101_6, hl101_0, hi101_0, hl101_4, hi101_4, hl101_5, hi101_5, hl101_6, hi101_6⟩ := at_T33 HR0.out a1 p101 q101
    cases e101
    have HR101_0 := Aside0.mk hi101_0
    have HC101_0 := Aside0.mk hl101_0
    clear hi101_0 hl101_0
    have HR101_4 := Aside0.mk hi101_4
    have HC101_4 := Aside0.mk hl101_4
    clear hi101_4 hl101_4
    have HR101_5 := Aside0.mk hi101_5
    have HC101_5 := Aside0.mk hl101_5
    clear hi101_5 hl101_5
    have HR101_6 := Aside0.mk hi101_6
    have HC101_6 := Aside0.mk hl101_6
    clear hi101_6 hl101_6
    replace p101 := eq_true p101
    replace q101 := eq_true q101
    go_enter Try.func97, Try.ntmps97
    go_wp2
    go_ret
    exact ⟨by first | rfl | (simp [errW_none, errW_some] <;> rfl) | (simp [*, errW_none, errW_some] <;> rfl), bw HB.out⟩
  ·rw [if_neg c4] at H
   exact absurd H (by simp)
 ·rw [if_neg c3] at H
  exact absurd H (by simp)


/-! ### spec_ZoneOk: function 35 -/
mutual
def spec_ZoneOk.j0 : Nat → Bool → List (List Int) → List (S33) → Option (Bool)
 | 0, _, _, _ => none
 | k + 1, x15, x102000, x102001 => if x15 = true then (some false) else (spec_ZoneOk.l0 k 0 0 x102000 x102001)
def spec_ZoneOk.l0 : Nat → Int → Int → List (List Int) → List (S33) → Option (Bool)
 | 0, _, _, _, _ => none
 | k + 1, x3, x4, x102000, x102001 => if x4 < (x102001.length : Int) then (if 0 ≤ x4 then ((spec_RrOk.f k ((rd_T33 x102001 x4).f0.f0) ((rd_T33 x102001 x4).f1) ((rd_T33 x102001 x4).f2) ((rd_T33 x102001 x4).f3) ((rd_T33 x102001 x4).f4.f0) ((rd_T33 x102001 x4).f5) ((rd_T33 x102001 x4).f6)).bind fun t105 => (if t105 = true then ((spec_l2under.f k ((rd_T33 x102001 x4).f0.f0) x102000).bind fun t106 => (if t106 = true then (if x4 > 0 then (if 0 ≤ (wrap64 (x4 - 1)) then (if (wrap64 (x4 - 1)) < (x102001.length : Int) then ((spec_l3cmp.f k ((rd_T33 x102001 (wrap64 (x4 - 1))).f0.f0) ((rd_T33 x102001 (wrap64 (x4 - 1))).f1) ((rd_T33 x102001 (wrap64 (x4 - 1))).f2) ((rd_T33 x102001 (wrap64 (x4 - 1))).f3) ((rd_T33 x102001 (wrap64 (x4 - 1))).f4.f0) ((rd_T33 x102001 (wrap64 (x4 - 1))).f5) ((rd_T33 x102001 (wrap64 (x4 - 1))).f6) ((rd_T33 x102001 x4).f0.f0) ((rd_T33 x102001 x4).f1) ((rd_T33 x102001 x4).f2) ((rd_T33 x102001 x4).f3) ((rd_T33 x102001 x4).f4.f0) ((rd_T33 x102001 x4).f5) ((rd_T33 x102001 x4).f6)).bind fun t108 => (if t108 ≥ 0 then (spec_ZoneOk.j2 k x3 x4 true x102000 x102001 ((rd_T33 x102001 x4).f0.f0) ((rd_T33 x102001 x4).f1) ((rd_T33 x102001 x4).f2) ((rd_T33 x102001 x4).f3) ((rd_T33 x102001 x4).f4.f0) ((rd_T33 x102001 x4).f5) ((rd_T33 x102001 x4).f6)) else ((spec_l5alone.f k x102001 x4).bind fun t109 => (spec_ZoneOk.j2 k x3 x4 (!t109) x102000 x102001 ((rd_T33 x102001 x4).f0.f0) ((rd_T33 x102001 x4).f1) ((rd_T33 x102001 x4).f2) ((rd_T33 x102001 x4).f3) ((rd_T33 x102001 x4).f4.f0) ((rd_T33 x102001 x4).f5) ((rd_T33 x102001 x4).f6))))) else (none)) else (none)) else ((spec_l5alone.f k x102001 x4).bind fun t110 => (spec_ZoneOk.j2 k x3 x4 (!t110) x102000 x102001 ((rd_T33 x102001 x4).f0.f0) ((rd_T33 x102001 x4).f1) ((rd_T33 x102001 x4).f2) ((rd_T33 x102001 x4).f3) ((rd_T33 x102001 x4).f4.f0) ((rd_T33 x102001 x4).f5) ((rd_T33 x102001 x4).f6)))) else (spec_ZoneOk.j2 k x3 x4 true x102000 x102001 ((rd_T33 x102001 x4).f0.f0) ((rd_T33 x102001 x4).f1) ((rd_T33 x102001 x4).f2) ((rd_T33 x102001 x4).f3) ((rd_T33 x102001 x4).f4.f0) ((rd_T33 x102001 x4).f5) ((rd_T33 x102001 x4).f6)))) else (spec_ZoneOk.j2 k x3 x4 true x102000 x102001 ((rd_T33 x102001 x4).f0.f0) ((rd_T33 x102001 x4).f1) ((rd_T33 x102001 x4).f2) ((rd_T33 x102001 x4).f3) ((rd_T33 x102001 x4).f4.f0) ((rd_T33 x102001 x4).f5) ((rd_T33 x102001 x4).f6)))) else (none)) else (some (x3 == 1))
def spec_ZoneOk.j2 : Nat → Int → Int → Bool → List (List Int) → List (S33) → List (List Int) → Int → Int → Int → List (List Int) → List Int → List Int → Option (Bool)
 | 0, _, _, _, _, _, _, _, _, _, _, _, _ => none
 | k + 1, x3, x4, x60, x102000, x102001, x105000, x105001, x105002, x105003, x105004, x105005, x105006 => if x60 = true then (some false) else (if x105001 = 6 then ((spec_l2cmp.f k x105000 x102000).bind fun t111 => (if t111 = 0 then (spec_ZoneOk.l0 k (wrap64 (x3 + 1)) (wrap64 (x4 + 1)) x102000 x102001) else (some false))) else (spec_ZoneOk.l0 k x3 (wrap64 (x4 + 1)) x102000 x102001))
end
def spec_ZoneOk.f (k : Nat) (l0_0 : List (List Int)) (l0_1 : List (S33)) : Option (Bool) := (spec_NameOk.f k l0_0).bind fun t102 => (if t102 = true then (spec_ZoneOk.j0 k (decide ((l0_1.length : Int) > 60)) l0_0 l0_1) else (spec_ZoneOk.j0 k true l0_0 l0_1))
def spec_ZoneOk.T8 : Bool × List (List Nat × List Nat) := (true, [([], []), ([0], [0]), ([1], [1]), ([2, 1], [2]), ([3], [3]), ([4, 3], [3, 4]), ([3], [3]), ([6, 3], [3, 6]), ([5, 7, 3, 3], [3, 5, 7]), ([8, 3], [3, 8]), ([3, 9], [3, 9]), ([10, 8], [10]), ([11], [11]), ([12, 11], [11, 12]), ([13, 11, 11], [11, 13]), ([14], [14]), ([15, 14], [14, 15]), ([14], [14]), ([17, 14], [14, 17]), ([16, 18, 14], [14, 16, 18]), ([19, 14], [14, 19]), ([14], [14]), ([20, 21, 14, 14], [14, 20, 21]), ([22, 14], [14, 22]), ([14, 23, 11], [11, 14, 23]), ([11, 24], [11, 24]), ([25, 22], [25]), ([26], [26]), ([27, 26], [26, 27]), ([26], [26]), ([28, 29, 26, 26], [26, 28, 29]), ([30, 26], [26, 30]), ([26, 31], [26, 31])])
def spec_ZoneOk.B8 : List Nat := [0, 1, 3, 7, 15, 31, 15, 79, 255, 511, 1023, 2047, 4095, 8191, 16383, 32767, 65535, 32767, 163839, 524287, 1048575, 32767, 4194303, 8388607, 16777215, 33554431, 67108863, 134217727, 268435455, 134217727, 1073741823, 2147483647, 4294967295]
theorem spec_ZoneOk.tab8 : rtab .any (opsOf Try.f35 8) = spec_ZoneOk.T8 := by kernel_rfl
theorem spec_ZoneOk.bits8 : waitsOk spec_ZoneOk.T8.2 spec_ZoneOk.B8 = true := by kernel_rfl
set_option maxHeartbeats 8000000 in
set_option maxRecDepth 100000 in
theorem spec_ZoneOk.calls (k : Nat) (A0_0 : Option Addr) (c0_0 : Nat) (l0_0 : List (List Int)) (A0_1 : Option Addr) (c0_1 : Nat) (l0_1 : List (S33)) (r : Bool) (w : World) (hr0_0 : Kd.C (Kd.slice 5 (Kd.int .u8)) w A0_0 l0_0.length l0_0) (hc0_0 : l0_0.length ≤ c0_0) (hr0_1 : Kd.C k33 w A0_1 l0_1.length l0_1) (hc0_1 : l0_1.length ≤ c0_1) (h : spec_ZoneOk.f k l0_0 l0_1 = some r) :
  Calls Try.prog 35 #[.agg #[.slice A0_0 l0_0.length c0_0, .slice A0_1 l0_1.length c0_1]] w fun e w' => e = .returned (.bool r) ∧ Below w.heap.size w w' := by
 have hu59 := Try.underlying59
 have hu31 := Try.underlying31
 have hu33 := Try.underlying33
 have HR0_0 := Aside0.mk hr0_0
 have HC0_0 := Aside0.mk hc0_0
 clear hr0_0 hc0_0
 have HR0_1 := Aside0.mk hr0_1
 have HC0_1 := Aside0.mk hc0_1
 clear hr0_1 hc0_1
 have HB := Aside0.mk (Below.refl w.heap.size w)
 have H : ((spec_NameOk.f k l0_0).bind fun t102 => (if t102 = true then (spec_ZoneOk.j0 k (decide ((l0_1.length : Int) > 60)) l0_0 l0_1) else (spec_ZoneOk.j0 k true l0_0 l0_1))) = some r := h
 clear h
 have HC2 := Aside0.mk H
 clear H
 go_enter Try.func35, Try.ntmps35
 go_upto_region 1 with (first | ((with_reducible refine gate_dst (N := 1) rfl ?_); (try (refine gate_guard (by rfl) ?_; dsimp only)); refine boxed (N := 1) rfl rfl (cs := #[.slice A0_0 l0_0.length c0_0, .slice A0_1 l0_1.length c0_1]) (t := 59) HB.out (by first | (go_simp; done) | (go_simp; rfl)) ?_; clear HB; intro gb101 w3 hg HB BK101 GE101 hb; have GW101 := GE101; clear hb hg))
 (try simp only [Act.put, List.setIfInBounds_toArray, List.set_cons_zero, List.set_cons_succ])
 go_cut [15] (fun v15 wc => ∃ (kq : Nat) (x15_1 : Bool), v15 = .bool x15_1 ∧ Aside0 (spec_ZoneOk.j0 kq x15_1 l0_0 l0_1 = some r) ∧ Aside0 (kq ≤ k) ∧ Aside0 (wc.heap[gb101]? = some (.cells #[(.slice A0_0 l0_0.length c0_0), (.slice A0_1 l0_1.length c0_1)] 59 (0, 0))) ∧ Aside0 (Below w.heap.size w wc))
 case first =>
  have H := HC2.out
  clear HC2
  replace H := Option.bind_eq_some_iff.mp H
  obtain ⟨t102, A40, H⟩ := H
  replace H : (if t102 = true then (spec_ZoneOk.j0 k (decide ((l0_1.length : Int) > 60)) l0_0 l0_1) else (spec_ZoneOk.j0 k true l0_0 l0_1)) = some r := H
  have A4 := Aside0.mk A40
  clear A40
  by_cases c5 : t102 = true
  ·subst c5
   have H1 : (spec_ZoneOk.j0 k (decide ((l0_1.length : Int) > 60)) l0_0 l0_1) = some r := by rw [if_pos rfl] at H; exact H
   clear H
   have H := H1
   clear H1
   have H' := Aside0.mk H
   clear H
   obtain ⟨hcz6_0, hcz6_1, hfz6_0, hfz6_1⟩ := cells2 BK101.out
   go_wp2_with (first | ((with_reducible refine gate_callee (f := 76) rfl ?_); refine goesL_ (some 8) rfl rfl Try.func76 (by kernel_rfl) rfl #[.agg #[.slice A0_0 l0_0.length c0_0]] rfl (by (try simp only [List.map_toArray, List.map_cons, List.map_nil]); first | done | rfl | (simp only [List.length_drop, List.length_take]; rfl)) ?_; (with_reducible refine (spec_NameOk.calls k _ _ l0_0 true _ ?side1 ?side2 A4.out).mono ?_); (case side1 => exact cw HR0_0.out HB.out); (case side2 => exact HC0_0.out); rintro e w7 ⟨rfl, hb⟩; refine ⟨_, rfl, ?_⟩; replace BK101 := Aside0.mk (blk_below (bk BK101.out) hb); replace HB := Aside0.mk (below_step (by repeat (first | exact bw HB.out | refine below_set ?_ GE101.out)) hb); (try clear hb); obtain ⟨hcz8_0, hcz8_1, hfz8_0, hfz8_1⟩ := cells2 BK101.out))
   go_meet
   case rel => exact ⟨_, (decide ((l0_1.length : Int) > 60)), (by first | rfl | (simp; done) | (simp [*]; done)), H', ⟨by first | omega | exact Nat.le_refl _⟩, ⟨bk BK101.out⟩, ⟨by repeat (first | exact bw HB.out | refine below_set ?_ GE101.out)⟩⟩
  ·replace c5 := Bool.eq_false_iff.mpr c5
   subst c5
   have H1 : (spec_ZoneOk.j0 k true l0_0 l0_1) = some r := by rw [if_neg (show ¬ (false = true) by decide)] at H; exact H
   clear H
   have H := H1
   clear H1
   have H' := Aside0.mk H
   clear H
   obtain ⟨hcz9_0, hcz9_1, hfz9_0, hfz9_1⟩ := cells2 BK101.out
   go_wp2_with (first | ((with_reducible refine gate_callee (f := 76) rfl ?_); refine goesL_ (some 8) rfl rfl Try.func76 (by kernel_rfl) rfl #[.agg #[.slice A0_0 l0_0.length c0_0]] rfl (by (try simp only [List.map_toArray, List.map_cons, List.map_nil]); first | done | rfl | (simp only [List.length_drop, List.length_take]; rfl)) ?_; (with_reducible refine (spec_NameOk.calls k _ _ l0_0 false _ ?side1 ?side2 A4.out).mono ?_); (case side1 => exact cw HR0_0.out HB.out); (case side2 => exact HC0_0.out); rintro e w10 ⟨rfl, hb⟩; refine ⟨_, rfl, ?_⟩; replace BK101 := Aside0.mk (blk_below (bk BK101.out) hb); replace HB := Aside0.mk (below_step (by repeat (first | exact bw HB.out | refine below_set ?_ GE101.out)) hb); (try clear hb)))
   go_meet
   case rel => exact ⟨_, (true), (by first | rfl | (simp; done) | (simp [*]; done)), H', ⟨by first | omega | exact Nat.le_refl _⟩, ⟨bk BK101.out⟩, ⟨by repeat (first | exact bw HB.out | refine below_set ?_ GE101.out)⟩⟩
 case rest =>
  clear HC2
  try clear p2
  try clear c3
  try clear c5
  try clear c7
  try clear hcz6_0
  try clear hcz6_1
  try clear hcz8_0
  try clear hcz8_1
  try clear hcz9_0
  try clear hcz9_1
  try clear hfz6_0
  try clear hfz6_1
  try clear hfz8_0
  try clear hfz8_1
  try clear hfz9_0
  try clear hfz9_1
  obtain ⟨kq, x15_1, rfl, HA, HJ1, BK101, HB⟩ := hcut
  cases kq with
  | zero => exact absurd HA.out (by simp [spec_ZoneOk.j0])
  | succ kj1 =>
   have H := HA.out
   clear HA
   simp only [spec_ZoneOk.j0] at H
   by_cases c11 : x15_1 = true
   ·subst c11
    have H1 : (some false) = some r := by rw [if_pos rfl] at H; exact H
    clear H
    have H := H1
    clear H1
    obtain rfl := Option.some.inj H
    go_wp2
    go_ret
    exact ⟨by first | rfl | (simp [errW_none, errW_some] <;> rfl) | (simp [*, errW_none, errW_some] <;> rfl), by repeat (first | exact bw HB.out | refine below_set ?_ GE101.out)⟩
   ·replace c11 := Bool.eq_false_iff.mpr c11
    subst c11
    have H1 : (spec_ZoneOk.l0 kj1 0 0 l0_0 l0_1) = some r := by rw [if_neg (show ¬ (false = true) by decide)] at H; exact H
    clear H
    have H := H1
    clear H1
    have H' := Aside0.mk H
    clear H
    go_wp2
    go_loopg [3, 4] kj1 (fun kq v3 v4 w' => ∃ (x3_2 : Int) (x4_2 : Int), v3 = .int .i64 x3_2 ∧ v4 = .int .i64 x4_2 ∧ Aside0 (spec_ZoneOk.l0 kq x3_2 x4_2 l0_0 l0_1 = some r) ∧ Aside0 (kq ≤ kj1) ∧ Aside0 (w'.heap[gb101]? = some (.cells #[(.slice A0_0 l0_0.length c0_0), (.slice A0_1 l0_1.length c0_1)] 59 (0, 0))) ∧ Aside0 (Below w.heap.size w w'))
    case atStart => exact ⟨(0), (0), (by first | rfl | (simp; done) | (simp [*]; done)), (by first | rfl | (simp; done) | (simp [*]; done)), H', ⟨Nat.le_refl _⟩, ⟨bk BK101.out⟩, ⟨by repeat (first | exact bw HB.out | refine below_set ?_ GE101.out)⟩⟩
    case round =>
     clear H'
     try clear c1
     try clear p2
     try clear c3
     try clear c5
     try clear c7
     try clear c11
     try clear hcz6_0
     try clear hcz6_1
     try clear hcz8_0
     try clear hcz8_1
     try clear hcz9_0
     try clear hcz9_1
     try clear hfz6_0
     try clear hfz6_1
     try clear hfz8_0
     try clear hfz8_1
     try clear hfz9_0
     try clear hfz9_1
     try clear p2
     obtain ⟨x3_2, x4_2, rfl, rfl, HA, HK2, BK101, HB⟩ := hrel
     cases gk with
     | zero => exact absurd HA.out (by simp [spec_ZoneOk.l0])
     | succ k2 =>
      have H := HA.out
      clear HA
      simp only [spec_ZoneOk.l0] at H
      by_cases c12 : x4_2 < (l0_1.length : Int)
      ·rw [if_pos c12] at H
       have c12b0 : decide (x4_2 < (l0_1.length : Int)) = true := decide_eq_true c12
       clear c12
       by_cases c13 : 0 ≤ x4_2
       ·rw [if_pos c13] at H
        have c13b0 : decide (0 ≤ x4_2) = true := decide_eq_true c13
        clear c13
        have HC14 := Aside0.mk H
        clear H
        obtain ⟨hcz15_0, hcz15_1, hfz15_0, hfz15_1⟩ := cells2 BK101.out
        have p103 : 0 ≤ (x4_2 : Int) := of_decide_eq_true (by first | (with_reducible assumption) | assumption)
        have q103 : x4_2 < (l0_1.length : Int) := of_decide_eq_true (by first | (with_reducible assumption) | assumption)
        obtain ⟨ad103, A103_0, c103_0, A103_4, c103_4, A103_5, c103_5, A103_6, c103_6, e103, hx103_0, hx103_1, hx103_2, hx103_3, hx103_4, hx103_5, hx103_6, hl103_0, hi103_0, hl103_4, hi103_4, hl103_5, hi103_5, hl103_6, hi103_6⟩ := at_T33 HR0_1.out x4_2 p103 q103
        cases e103
        replace hx103_0 := (HB.out.cell (World.block_lt_of_cell? w _ hx103_0)).trans hx103_0
        replace hx103_1 := (HB.out.cell (World.block_lt_of_cell? w _ hx103_1)).trans hx103_1
        replace hx103_2 := (HB.out.cell (World.block_lt_of_cell? w _ hx103_2)).trans hx103_2
        replace hx103_3 := (HB.out.cell (World.block_lt_of_cell? w _ hx103_3)).trans hx103_3
        replace hx103_4 := (HB.out.cell (World.block_lt_of_cell? w _ hx103_4)).trans hx103_4
        replace hx103_5 := (HB.out.cell (World.block_lt_of_cell? w _ hx103_5)).trans hx103_5
        replace hx103_6 := (HB.out.cell (World.block_lt_of_cell? w _ hx103_6)).trans hx103_6
        have HR103_0 := Aside0.mk hi103_0
        have HC103_0 := Aside0.mk hl103_0
        clear hi103_0 hl103_0
        have HR103_4 := Aside0.mk hi103_4
        have HC103_4 := Aside0.mk hl103_4
        clear hi103_4 hl103_4
        have HR103_5 := Aside0.mk hi103_5
        have HC103_5 := Aside0.mk hl103_5
        clear hi103_5 hl103_5
        have HR103_6 := Aside0.mk hi103_6
        have HC103_6 := Aside0.mk hl103_6
        clear hi103_6 hl103_6
        replace p103 := eq_true p103
        replace q103 := eq_true q103
        go_upto_region 8 with (first | ((with_reducible refine gate_dst (N := 5) rfl ?_); (try (refine gate_guard (by rfl) ?_; dsimp only)); refine box_event ?hg (N := 5) ?hd (cs := #[.slice none 0 0, .int .i64 0, .int .i64 0, .int .i64 0, .slice none 0 0, .slice none 0 0, .slice none 0 0]) (t := 33) ?hr ?_; (case hd => rfl); (case hg => rfl); (case hr => first | (go_simp; done) | (go_simp; rfl)); intro gb104 hg w16 hbox hb; have BK104 := Aside0.mk (hbox); have GW104 := Aside0.mk ((by rw [hg]; exact (below_size (by repeat (first | exact bw HB.out | refine below_set ?_ GE101.out))) : w.heap.size ≤ gb104)); have GE104 := Aside0.mk ((by rw [hg]; exact (below_size (by repeat (first | exact bw HB.out | refine below_set ?_ GE101.out))) : w.heap.size ≤ gb104)); replace HB := Aside0.mk (below_step (by repeat (first | exact bw HB.out | refine below_set ?_ GE101.out)) hb); have NB101_104 := Aside0.mk ((by rw [hg]; exact Nat.ne_of_lt (blk_lt (bk BK101.out)) : gb101 ≠ gb104)); have NB104_101 := Aside0.mk ((by rw [hg]; exact Nat.ne_of_gt (blk_lt (bk BK101.out)) : gb104 ≠ gb101)); replace BK101 := Aside0.mk (blk_below (bk BK101.out) hb); clear hb hbox hg; have hnb17 := NB104_101.out; have hnc17 := NB101_104.out; obtain ⟨hcz18_0, hcz18_1, hcz18_2, hcz18_3, hcz18_4, hcz18_5, hcz18_6, hfz18_0, hfz18_1, hfz18_2, hfz18_3, hfz18_4, hfz18_5, hfz18_6⟩ := cells7 BK104.out))
        (try simp only [Act.put, List.setIfInBounds_toArray, List.set_cons_zero, List.set_cons_succ])
        go_cut [60] (fun v60 wc => ∃ (kq : Nat) (x60_13 : Bool), v60 = .bool x60_13 ∧ Aside0 (spec_ZoneOk.j2 kq x3_2 x4_2 x60_13 l0_0 l0_1 ((rd_T33 l0_1 x4_2).f0.f0) ((rd_T33 l0_1 x4_2).f1) ((rd_T33 l0_1 x4_2).f2) ((rd_T33 l0_1 x4_2).f3) ((rd_T33 l0_1 x4_2).f4.f0) ((rd_T33 l0_1 x4_2).f5) ((rd_T33 l0_1 x4_2).f6) = some r) ∧ Aside0 (kq ≤ k2) ∧ Aside0 (wc.heap[gb101]? = some (.cells #[(.slice A0_0 l0_0.length c0_0), (.slice (some ad103) l0_1.length c0_1)] 59 (0, 0))) ∧ Aside0 (wc.heap[gb104]? = some (.cells #[(.slice A103_0 ((rd_T33 l0_1 x4_2).f0.f0).length c103_0), .int .i64 ((rd_T33 l0_1 x4_2).f1), .int .i64 ((rd_T33 l0_1 x4_2).f2), .int .i64 ((rd_T33 l0_1 x4_2).f3), (.slice A103_4 ((rd_T33 l0_1 x4_2).f4.f0).length c103_4), (.slice A103_5 ((rd_T33 l0_1 x4_2).f5).length c103_5), (.slice A103_6 ((rd_T33 l0_1 x4_2).f6).length c103_6)] 33 (0, 0))) ∧ Aside0 (Below w.heap.size w wc))
        case first =>
         have H := HC14.out
         clear HC14
         replace H := Option.bind_eq_some_iff.mp H
         obtain ⟨t105, A190, H⟩ := H
         replace H : (if t105 = true then ((spec_l2under.f k2 ((rd_T33 l0_1 x4_2).f0.f0) l0_0).bind fun t106 => (if t106 = true then (if x4_2 > 0 then (if 0 ≤ (wrap64 (x4_2 - 1)) then (if (wrap64 (x4_2 - 1)) < (l0_1.length : Int) then ((spec_l3cmp.f k2 ((rd_T33 l0_1 (wrap64 (x4_2 - 1))).f0.f0) ((rd_T33 l0_1 (wrap64 (x4_2 - 1))).f1) ((rd_T33 l0_1 (wrap64 (x4_2 - 1))).f2) ((rd_T33 l0_1 (wrap64 (x4_2 - 1))).f3) ((rd_T33 l0_1 (wrap64 (x4_2 - 1))).f4.f0) ((rd_T33 l0_1 (wrap64 (x4_2 - 1))).f5) ((rd_T33 l0_1 (wrap64 (x4_2 - 1))).f6) ((rd_T33 l0_1 x4_2).f0.f0) ((rd_T33 l0_1 x4_2).f1) ((rd_T33 l0_1 x4_2).f2) ((rd_T33 l0_1 x4_2).f3) ((rd_T33 l0_1 x4_2).f4.f0) ((rd_T33 l0_1 x4_2).f5) ((rd_T33 l0_1 x4_2).f6)).bind fun t108 => (if t108 ≥ 0 then (spec_ZoneOk.j2 k2 x3_2 x4_2 true l0_0 l0_1 ((rd_T33 l0_1 x4_2).f0.f0) ((rd_T33 l0_1 x4_2).f1) ((rd_T33 l0_1 x4_2).f2) ((rd_T33 l0_1 x4_2).f3) ((rd_T33 l0_1 x4_2).f4.f0) ((rd_T33 l0_1 x4_2).f5) ((rd_T33 l0_1 x4_2).f6)) else ((spec_l5alone.f k2 l0_1 x4_2).bind fun t109 => (spec_ZoneOk.j2 k2 x3_2 x4_2 (!t109) l0_0 l0_1 ((rd_T33 l0_1 x4_2).f0.f0) ((rd_T33 l0_1 x4_2).f1) ((rd_T33 l0_1 x4_2).f2) ((rd_T33 l0_1 x4_2).f3) ((rd_T33 l0_1 x4_2).f4.f0) ((rd_T33 l0_1 x4_2).f5) ((rd_T33 l0_1 x4_2).f6))))) else (none)) else (none)) else ((spec_l5alone.f k2 l0_1 x4_2).bind fun t110 => (spec_ZoneOk.j2 k2 x3_2 x4_2 (!t110) l0_0 l0_1 ((rd_T33 l0_1 x4_2).f0.f0) ((rd_T33 l0_1 x4_2).f1) ((rd_T33 l0_1 x4_2).f2) ((rd_T33 l0_1 x4_2).f3) ((rd_T33 l0_1 x4_2).f4.f0) ((rd_T33 l0_1 x4_2).f5) ((rd_T33 l0_1 x4_2).f6)))) else (spec_ZoneOk.j2 k2 x3_2 x4_2 true l0_0 l0_1 ((rd_T33 l0_1 x4_2).f0.f0) ((rd_T33 l0_1 x4_2).f1) ((rd_T33 l0_1 x4_2).f2) ((rd_T33 l0_1 x4_2).f3) ((rd_T33 l0_1 x4_2).f4.f0) ((rd_T33 l0_1 x4_2).f5) ((rd_T33 l0_1 x4_2).f6)))) else (spec_ZoneOk.j2 k2 x3_2 x4_2 true l0_0 l0_1 ((rd_T33 l0_1 x4_2).f0.f0) ((rd_T33 l0_1 x4_2).f1) ((rd_T33 l0_1 x4_2).f2) ((rd_T33 l0_1 x4_2).f3) ((rd_T33 l0_1 x4_2).f4.f0) ((rd_T33 l0_1 x4_2).f5) ((rd_T33 l0_1 x4_2).f6))) = some r := H
         have A19 := Aside0.mk A190
         clear A190
         by_cases c20 : t105 = true
         ·subst c20
          have H1 : ((spec_l2under.f k2 ((rd_T33 l0_1 x4_2).f0.f0) l0_0).bind fun t106 => (if t106 = true then (if x4_2 > 0 then (if 0 ≤ (wrap64 (x4_2 - 1)) then (if (wrap64 (x4_2 - 1)) < (l0_1.length : Int) then ((spec_l3cmp.f k2 ((rd_T33 l0_1 (wrap64 (x4_2 - 1))).f0.f0) ((rd_T33 l0_1 (wrap64 (x4_2 - 1))).f1) ((rd_T33 l0_1 (wrap64 (x4_2 - 1))).f2) ((rd_T33 l0_1 (wrap64 (x4_2 - 1))).f3) ((rd_T33 l0_1 (wrap64 (x4_2 - 1))).f4.f0) ((rd_T33 l0_1 (wrap64 (x4_2 - 1))).f5) ((rd_T33 l0_1 (wrap64 (x4_2 - 1))).f6) ((rd_T33 l0_1 x4_2).f0.f0) ((rd_T33 l0_1 x4_2).f1) ((rd_T33 l0_1 x4_2).f2) ((rd_T33 l0_1 x4_2).f3) ((rd_T33 l0_1 x4_2).f4.f0) ((rd_T33 l0_1 x4_2).f5) ((rd_T33 l0_1 x4_2).f6)).bind fun t108 => (if t108 ≥ 0 then (spec_ZoneOk.j2 k2 x3_2 x4_2 true l0_0 l0_1 ((rd_T33 l0_1 x4_2).f0.f0) ((rd_T33 l0_1 x4_2).f1) ((rd_T33 l0_1 x4_2).f2) ((rd_T33 l0_1 x4_2).f3) ((rd_T33 l0_1 x4_2).f4.f0) ((rd_T33 l0_1 x4_2).f5) ((rd_T33 l0_1 x4_2).f6)) else ((spec_l5alone.f k2 l0_1 x4_2).bind fun t109 => (spec_ZoneOk.j2 k2 x3_2 x4_2 (!t109) l0_0 l0_1 ((rd_T33 l0_1 x4_2).f0.f0) ((rd_T33 l0_1 x4_2).f1) ((rd_T33 l0_1 x4_2).f2) ((rd_T33 l0_1 x4_2).f3) ((rd_T33 l0_1 x4_2).f4.f0) ((rd_T33 l0_1 x4_2).f5) ((rd_T33 l0_1 x4_2).f6))))) else (none)) else (none)) else ((spec_l5alone.f k2 l0_1 x4_2).bind fun t110 => (spec_ZoneOk.j2 k2 x3_2 x4_2 (!t110) l0_0 l0_1 ((rd_T33 l0_1 x4_2).f0.f0) ((rd_T33 l0_1 x4_2).f1) ((rd_T33 l0_1 x4_2).f2) ((rd_T33 l0_1 x4_2).f3) ((rd_T33 l0_1 x4_2).f4.f0) ((rd_T33 l0_1 x4_2).f5) ((rd_T33 l0_1 x4_2).f6)))) else (spec_ZoneOk.j2 k2 x3_2 x4_2 true l0_0 l0_1 ((rd_T33 l0_1 x4_2).f0.f0) ((rd_T33 l0_1 x4_2).f1) ((rd_T33 l0_1 x4_2).f2) ((rd_T33 l0_1 x4_2).f3) ((rd_T33 l0_1 x4_2).f4.f0) ((rd_T33 l0_1 x4_2).f5) ((rd_T33 l0_1 x4_2).f6)))) = some r := by rw [if_pos rfl] at H; exact H
          clear H
          have H := H1
          clear H1
          replace H := Option.bind_eq_some_iff.mp H
          obtain ⟨t106, A210, H⟩ := H
          replace H : (if t106 = true then (if x4_2 > 0 then (if 0 ≤ (wrap64 (x4_2 - 1)) then (if (wrap64 (x4_2 - 1)) < (l0_1.length : Int) then ((spec_l3cmp.f k2 ((rd_T33 l0_1 (wrap64 (x4_2 - 1))).f0.f0) ((rd_T33 l0_1 (wrap64 (x4_2 - 1))).f1) ((rd_T33 l0_1 (wrap64 (x4_2 - 1))).f2) ((rd_T33 l0_1 (wrap64 (x4_2 - 1))).f3) ((rd_T33 l0_1 (wrap64 (x4_2 - 1))).f4.f0) ((rd_T33 l0_1 (wrap64 (x4_2 - 1))).f5) ((rd_T33 l0_1 (wrap64 (x4_2 - 1))).f6) ((rd_T33 l0_1 x4_2).f0.f0) ((rd_T33 l0_1 x4_2).f1) ((rd_T33 l0_1 x4_2).f2) ((rd_T33 l0_1 x4_2).f3) ((rd_T33 l0_1 x4_2).f4.f0) ((rd_T33 l0_1 x4_2).f5) ((rd_T33 l0_1 x4_2).f6)).bind fun t108 => (if t108 ≥ 0 then (spec_ZoneOk.j2 k2 x3_2 x4_2 true l0_0 l0_1 ((rd_T33 l0_1 x4_2).f0.f0) ((rd_T33 l0_1 x4_2).f1) ((rd_T33 l0_1 x4_2).f2) ((rd_T33 l0_1 x4_2).f3) ((rd_T33 l0_1 x4_2).f4.f0) ((rd_T33 l0_1 x4_2).f5) ((rd_T33 l0_1 x4_2).f6)) else ((spec_l5alone.f k2 l0_1 x4_2).bind fun t109 => (spec_ZoneOk.j2 k2 x3_2 x4_2 (!t109) l0_0 l0_1 ((rd_T33 l0_1 x4_2).f0.f0) ((rd_T33 l0_1 x4_2).f1) ((rd_T33 l0_1 x4_2).f2) ((rd_T33 l0_1 x4_2).f3) ((rd_T33 l0_1 x4_2).f4.f0) ((rd_T33 l0_1 x4_2).f5) ((rd_T33 l0_1 x4_2).f6))))) else (none)) else (none)) else ((spec_l5alone.f k2 l0_1 x4_2).bind fun t110 => (spec_ZoneOk.j2 k2 x3_2 x4_2 (!t110) l0_0 l0_1 ((rd_T33 l0_1 x4_2).f0.f0) ((rd_T33 l0_1 x4_2).f1) ((rd_T33 l0_1 x4_2).f2) ((rd_T33 l0_1 x4_2).f3) ((rd_T33 l0_1 x4_2).f4.f0) ((rd_T33 l0_1 x4_2).f5) ((rd_T33 l0_1 x4_2).f6)))) else (spec_ZoneOk.j2 k2 x3_2 x4_2 true l0_0 l0_1 ((rd_T33 l0_1 x4_2).f0.f0) ((rd_T33 l0_1 x4_2).f1) ((rd_T33 l0_1 x4_2).f2) ((rd_T33 l0_1 x4_2).f3) ((rd_T33 l0_1 x4_2).f4.f0) ((rd_T33 l0_1 x4_2).f5) ((rd_T33 l0_1 x4_2).f6))) = some r := H
          have A21 := Aside0.mk A210
          clear A210
          by_cases c22 : t106 = true
          ·subst c22
           have H1 : (if x4_2 > 0 then (if 0 ≤ (wrap64 (x4_2 - 1)) then (if (wrap64 (x4_2 - 1)) < (l0_1.length : Int) then ((spec_l3cmp.f k2 ((rd_T33 l0_1 (wrap64 (x4_2 - 1))).f0.f0) ((rd_T33 l0_1 (wrap64 (x4_2 - 1))).f1) ((rd_T33 l0_1 (wrap64 (x4_2 - 1))).f2) ((rd_T33 l0_1 (wrap64 (x4_2 - 1))).f3) ((rd_T33 l0_1 (wrap64 (x4_2 - 1))).f4.f0) ((rd_T33 l0_1 (wrap64 (x4_2 - 1))).f5) ((rd_T33 l0_1 (wrap64 (x4_2 - 1))).f6) ((rd_T33 l0_1 x4_2).f0.f0) ((rd_T33 l0_1 x4_2).f1) ((rd_T33 l0_1 x4_2).f2) ((rd_T33 l0_1 x4_2).f3) ((rd_T33 l0_1 x4_2).f4.f0) ((rd_T33 l0_1 x4_2).f5) ((rd_T33 l0_1 x4_2).f6)).bind fun t108 => (if t108 ≥ 0 then (spec_ZoneOk.j2 k2 x3_2 x4_2 true l0_0 l0_1 ((rd_T33 l0_1 x4_2).f0.f0) ((rd_T33 l0_1 x4_2).f1) ((rd_T33 l0_1 x4_2).f2) ((rd_T33 l0_1 x4_2).f3) ((rd_T33 l0_1 x4_2).f4.f0) ((rd_T33 l0_1 x4_2).f5) ((rd_T33 l0_1 x4_2).f6)) else ((spec_l5alone.f k2 l0_1 x4_2).bind fun t109 => (spec_ZoneOk.j2 k2 x3_2 x4_2 (!t109) l0_0 l0_1 ((rd_T33 l0_1 x4_2).f0.f0) ((rd_T33 l0_1 x4_2).f1) ((rd_T33 l0_1 x4_2).f2) ((rd_T33 l0_1 x4_2).f3) ((rd_T33 l0_1 x4_2).f4.f0) ((rd_T33 l0_1 x4_2).f5) ((rd_T33 l0_1 x4_2).f6))))) else (none)) else (none)) else ((spec_l5alone.f k2 l0_1 x4_2).bind fun t110 => (spec_ZoneOk.j2 k2 x3_2 x4_2 (!t110) l0_0 l0_1 ((rd_T33 l0_1 x4_2).f0.f0) ((rd_T33 l0_1 x4_2).f1) ((rd_T33 l0_1 x4_2).f2) ((rd_T33 l0_1 x4_2).f3) ((rd_T33 l0_1 x4_2).f4.f0) ((rd_T33 l0_1 x4_2).f5) ((rd_T33 l0_1 x4_2).f6)))) = some r := by rw [if_pos rfl] at H; exact H
           clear H
           have H := H1
           clear H1
           by_cases c23 : x4_2 > 0
           ·rw [if_pos c23] at H
            have c23b0 : decide (0 < x4_2) = true := decide_eq_true c23
            clear c23
            (first | rw [c23b0] | (simp only [i64_w, i32_w]; rw [c23b0]) | skip)
            obtain ⟨ji24, hji24⟩ : ∃ j_ : Int, (wrap64 (x4_2 - 1)) = j_ := ⟨_, rfl⟩
            replace H : (if 0 ≤ (ji24) then (if (ji24) < (l0_1.length : Int) then ((spec_l3cmp.f k2 ((rd_T33 l0_1 (ji24)).f0.f0) ((rd_T33 l0_1 (ji24)).f1) ((rd_T33 l0_1 (ji24)).f2) ((rd_T33 l0_1 (ji24)).f3) ((rd_T33 l0_1 (ji24)).f4.f0) ((rd_T33 l0_1 (ji24)).f5) ((rd_T33 l0_1 (ji24)).f6) ((rd_T33 l0_1 x4_2).f0.f0) ((rd_T33 l0_1 x4_2).f1) ((rd_T33 l0_1 x4_2).f2) ((rd_T33 l0_1 x4_2).f3) ((rd_T33 l0_1 x4_2).f4.f0) ((rd_T33 l0_1 x4_2).f5) ((rd_T33 l0_1 x4_2).f6)).bind fun t108 => (if t108 ≥ 0 then (spec_ZoneOk.j2 k2 x3_2 x4_2 true l0_0 l0_1 ((rd_T33 l0_1 x4_2).f0.f0) ((rd_T33 l0_1 x4_2).f1) ((rd_T33 l0_1 x4_2).f2) ((rd_T33 l0_1 x4_2).f3) ((rd_T33 l0_1 x4_2).f4.f0) ((rd_T33 l0_1 x4_2).f5) ((rd_T33 l0_1 x4_2).f6)) else ((spec_l5alone.f k2 l0_1 x4_2).bind fun t109 => (spec_ZoneOk.j2 k2 x3_2 x4_2 (!t109) l0_0 l0_1 ((rd_T33 l0_1 x4_2).f0.f0) ((rd_T33 l0_1 x4_2).f1) ((rd_T33 l0_1 x4_2).f2) ((rd_T33 l0_1 x4_2).f3) ((rd_T33 l0_1 x4_2).f4.f0) ((rd_T33 l0_1 x4_2).f5) ((rd_T33 l0_1 x4_2).f6))))) else (none)) else (none)) = some r := by first | (rw [hji24] at H; exact H) | (simp only [hji24] at H ⊢; exact H)
            (try rw [hji24] at A19)
            (try rw [hji24] at A21)
            have hji24w : (IntKind.i64.wrap (x4_2 - 1)) = ji24 := (i64_w _).trans hji24
            by_cases c25 : 0 ≤ (ji24)
            ·rw [if_pos c25] at H
             have c25b0 : decide (0 ≤ (ji24)) = true := decide_eq_true c25
             clear c25
             by_cases c26 : (ji24) < (l0_1.length : Int)
             ·rw [if_pos c26] at H
              have c26b0 : decide ((ji24) < (l0_1.length : Int)) = true := decide_eq_true c26
              clear c26
              replace H := Option.bind_eq_some_iff.mp H
              obtain ⟨t108, A270, H⟩ := H
              replace H : (if t108 ≥ 0 then (spec_ZoneOk.j2 k2 x3_2 x4_2 true l0_0 l0_1 ((rd_T33 l0_1 x4_2).f0.f0) ((rd_T33 l0_1 x4_2).f1) ((rd_T33 l0_1 x4_2).f2) ((rd_T33 l0_1 x4_2).f3) ((rd_T33 l0_1 x4_2).f4.f0) ((rd_T33 l0_1 x4_2).f5) ((rd_T33 l0_1 x4_2).f6)) else ((spec_l5alone.f k2 l0_1 x4_2).bind fun t109 => (spec_ZoneOk.j2 k2 x3_2 x4_2 (!t109) l0_0 l0_1 ((rd_T33 l0_1 x4_2).f0.f0) ((rd_T33 l0_1 x4_2).f1) ((rd_T33 l0_1 x4_2).f2) ((rd_T33 l0_1 x4_2).f3) ((rd_T33 l0_1 x4_2).f4.f0) ((rd_T33 l0_1 x4_2).f5) ((rd_T33 l0_1 x4_2).f6)))) = some r := H
              have A27 := Aside0.mk A270
              clear A270
              by_cases c28 : t108 ≥ 0
              ·rw [if_pos c28] at H
               have c28b0 : decide (0 ≤ t108) = true := decide_eq_true c28
               clear c28
               have H' := Aside0.mk H
               clear H
               try go_wp2
               have n0_ : Aside0 ((((((((w16.setCell ⟨gb104, 0, none⟩ (.slice A103_0 ((rd_T33 l0_1 x4_2).f0.f0).length c103_0)).setCell ⟨gb104, 1, none⟩ (.int .i64 ((rd_T33 l0_1 x4_2).f1))).setCell ⟨gb104, 2, none⟩ (.int .i64 ((rd_T33 l0_1 x4_2).f2))).setCell ⟨gb104, 3, none⟩ (.int .i64 ((rd_T33 l0_1 x4_2).f3))).setCell ⟨gb104, 4, none⟩ (.slice A103_4 ((rd_T33 l0_1 x4_2).f4.f0).length c103_4)).setCell ⟨gb104, 5, none⟩ (.slice A103_5 ((rd_T33 l0_1 x4_2).f5).length c103_5)).setCell ⟨gb104, 6, none⟩ (.slice A103_6 ((rd_T33 l0_1 x4_2).f6).length c103_6)).heap[gb101]? = some (.cells #[.slice A0_0 l0_0.length c0_0, .slice (some ad103) l0_1.length c0_1] 59 (0, 0))) := ⟨bfar7 NB101_104.out BK101.out⟩
               have n1_ : Aside0 ((((((((w16.setCell ⟨gb104, 0, none⟩ (.slice A103_0 ((rd_T33 l0_1 x4_2).f0.f0).length c103_0)).setCell ⟨gb104, 1, none⟩ (.int .i64 ((rd_T33 l0_1 x4_2).f1))).setCell ⟨gb104, 2, none⟩ (.int .i64 ((rd_T33 l0_1 x4_2).f2))).setCell ⟨gb104, 3, none⟩ (.int .i64 ((rd_T33 l0_1 x4_2).f3))).setCell ⟨gb104, 4, none⟩ (.slice A103_4 ((rd_T33 l0_1 x4_2).f4.f0).length c103_4)).setCell ⟨gb104, 5, none⟩ (.slice A103_5 ((rd_T33 l0_1 x4_2).f5).length c103_5)).setCell ⟨gb104, 6, none⟩ (.slice A103_6 ((rd_T33 l0_1 x4_2).f6).length c103_6)).heap[gb104]? = some (.cells #[.slice A103_0 ((rd_T33 l0_1 x4_2).f0.f0).length c103_0, .int .i64 ((rd_T33 l0_1 x4_2).f1), .int .i64 ((rd_T33 l0_1 x4_2).f2), .int .i64 ((rd_T33 l0_1 x4_2).f3), .slice A103_4 ((rd_T33 l0_1 x4_2).f4.f0).length c103_4, .slice A103_5 ((rd_T33 l0_1 x4_2).f5).length c103_5, .slice A103_6 ((rd_T33 l0_1 x4_2).f6).length c103_6] 33 (0, 0))) := ⟨bput7 BK104.out⟩
               have n2_ : Aside0 (Below w.heap.size w (((((((w16.setCell ⟨gb104, 0, none⟩ (.slice A103_0 ((rd_T33 l0_1 x4_2).f0.f0).length c103_0)).setCell ⟨gb104, 1, none⟩ (.int .i64 ((rd_T33 l0_1 x4_2).f1))).setCell ⟨gb104, 2, none⟩ (.int .i64 ((rd_T33 l0_1 x4_2).f2))).setCell ⟨gb104, 3, none⟩ (.int .i64 ((rd_T33 l0_1 x4_2).f3))).setCell ⟨gb104, 4, none⟩ (.slice A103_4 ((rd_T33 l0_1 x4_2).f4.f0).length c103_4)).setCell ⟨gb104, 5, none⟩ (.slice A103_5 ((rd_T33 l0_1 x4_2).f5).length c103_5)).setCell ⟨gb104, 6, none⟩ (.slice A103_6 ((rd_T33 l0_1 x4_2).f6).length c103_6))) := ⟨by repeat (first | exact bw HB.out | refine below_set ?_ GE101.out | refine below_set ?_ GE104.out)⟩
               (try clear BK101)
               (try clear BK104)
               (try clear HB)
               generalize (((((((w16.setCell ⟨gb104, 0, none⟩ (.slice A103_0 ((rd_T33 l0_1 x4_2).f0.f0).length c103_0)).setCell ⟨gb104, 1, none⟩ (.int .i64 ((rd_T33 l0_1 x4_2).f1))).setCell ⟨gb104, 2, none⟩ (.int .i64 ((rd_T33 l0_1 x4_2).f2))).setCell ⟨gb104, 3, none⟩ (.int .i64 ((rd_T33 l0_1 x4_2).f3))).setCell ⟨gb104, 4, none⟩ (.slice A103_4 ((rd_T33 l0_1 x4_2).f4.f0).length c103_4)).setCell ⟨gb104, 5, none⟩ (.slice A103_5 ((rd_T33 l0_1 x4_2).f5).length c103_5)).setCell ⟨gb104, 6, none⟩ (.slice A103_6 ((rd_T33 l0_1 x4_2).f6).length c103_6)) = w29 at n0_ n1_ n2_ ⊢
               have BK101 := n0_
               have BK104 := n1_
               have HB := n2_
               clear n0_ n1_ n2_
               have n0_ := Aside0.mk (blk_drew BK101.out)
               have n1_ := Aside0.mk (blk_drew BK104.out)
               have n2_ := Aside0.mk (below_drew1 HB.out)
               clear BK101
               clear BK104
               clear HB
               have BK101 := n0_
               have BK104 := n1_
               have HB := n2_
               clear n0_ n1_ n2_
               have p107 : 0 ≤ ((ji24) : Int) := of_decide_eq_true (by first | (with_reducible assumption) | assumption)
               have q107 : (ji24) < (l0_1.length : Int) := of_decide_eq_true (by first | (with_reducible assumption) | assumption)
               obtain ⟨ad107, A107_0, c107_0, A107_4, c107_4, A107_5, c107_5, A107_6, c107_6, e107, hx107_0, hx107_1, hx107_2, hx107_3, hx107_4, hx107_5, hx107_6, hl107_0, hi107_0, hl107_4, hi107_4, hl107_5, hi107_5, hl107_6, hi107_6⟩ := at_T33 HR0_1.out (ji24) p107 q107
               have hw107_6 := hx107_6
               have hw107_5 := hx107_5
               have hw107_4 := hx107_4
               have hw107_3 := hx107_3
               have hw107_2 := hx107_2
               have hw107_1 := hx107_1
               have hw107_0 := hx107_0
               obtain rfl : ad103 = ad107 := (by injection e107)
               replace hx107_0 := (HB.out.cell (World.block_lt_of_cell? w _ hx107_0)).trans hx107_0
               replace hx107_1 := (HB.out.cell (World.block_lt_of_cell? w _ hx107_1)).trans hx107_1
               replace hx107_2 := (HB.out.cell (World.block_lt_of_cell? w _ hx107_2)).trans hx107_2
               replace hx107_3 := (HB.out.cell (World.block_lt_of_cell? w _ hx107_3)).trans hx107_3
               replace hx107_4 := (HB.out.cell (World.block_lt_of_cell? w _ hx107_4)).trans hx107_4
               replace hx107_5 := (HB.out.cell (World.block_lt_of_cell? w _ hx107_5)).trans hx107_5
               replace hx107_6 := (HB.out.cell (World.block_lt_of_cell? w _ hx107_6)).trans hx107_6
               have HR107_0 := Aside0.mk hi107_0
               have HC107_0 := Aside0.mk hl107_0
               clear hi107_0 hl107_0
               have HR107_4 := Aside0.mk hi107_4
               have HC107_4 := Aside0.mk hl107_4
               clear hi107_4 hl107_4
               have HR107_5 := Aside0.mk hi107_5
               have HC107_5 := Aside0.mk hl107_5
               clear hi107_5 hl107_5
               have HR107_6 := Aside0.mk hi107_6
               have HC107_6 := Aside0.mk hl107_6
               clear hi107_6 hl107_6
               replace p107 := eq_true p107
               replace q107 := eq_true q107
               refine start_ (n := 33) (S := fun w' => w'.cell? ⟨gb104, 0, none⟩ = some (.slice A103_0 ((rd_T33 l0_1 x4_2).f0.f0).length c103_0) ∧ w'.cell? ⟨gb104, 1, none⟩ = some (.int .i64 ((rd_T33 l0_1 x4_2).f1)) ∧ w'.cell? ⟨gb104, 2, none⟩ = some (.int .i64 ((rd_T33 l0_1 x4_2).f2)) ∧ w'.cell? ⟨gb104, 3, none⟩ = some (.int .i64 ((rd_T33 l0_1 x4_2).f3)) ∧ w'.cell? ⟨gb104, 4, none⟩ = some (.slice A103_4 ((rd_T33 l0_1 x4_2).f4.f0).length c103_4) ∧ w'.cell? ⟨gb104, 5, none⟩ = some (.slice A103_5 ((rd_T33 l0_1 x4_2).f5).length c103_5) ∧ w'.cell? ⟨gb104, 6, none⟩ = some (.slice A103_6 ((rd_T33 l0_1 x4_2).f6).length c103_6) ∧ w'.cell? ⟨gb101, 0, none⟩ = some (.slice A0_0 l0_0.length c0_0) ∧ w'.cell? ⟨gb101, 1, none⟩ = some (.slice (some ad103) l0_1.length c0_1) ∧ w'.cell? (ad103.add (((ji24)).toNat * 7)) = some (.slice A107_0 ((rd_T33 l0_1 (ji24)).f0.f0).length c107_0) ∧ w'.cell? ⟨(ad103.add (((ji24)).toNat * 7)).block, (ad103.add (((ji24)).toNat * 7)).off + 1, none⟩ = some (.int .i64 ((rd_T33 l0_1 (ji24)).f1)) ∧ w'.cell? ⟨(ad103.add (((ji24)).toNat * 7)).block, (ad103.add (((ji24)).toNat * 7)).off + 2, none⟩ = some (.int .i64 ((rd_T33 l0_1 (ji24)).f2)) ∧ w'.cell? ⟨(ad103.add (((ji24)).toNat * 7)).block, (ad103.add (((ji24)).toNat * 7)).off + 3, none⟩ = some (.int .i64 ((rd_T33 l0_1 (ji24)).f3)) ∧ w'.cell? ⟨(ad103.add (((ji24)).toNat * 7)).block, (ad103.add (((ji24)).toNat * 7)).off + 4, none⟩ = some (.slice A107_4 ((rd_T33 l0_1 (ji24)).f4.f0).length c107_4) ∧ w'.cell? ⟨(ad103.add (((ji24)).toNat * 7)).block, (ad103.add (((ji24)).toNat * 7)).off + 5, none⟩ = some (.slice A107_5 ((rd_T33 l0_1 (ji24)).f5).length c107_5) ∧ w'.cell? ⟨(ad103.add (((ji24)).toNat * 7)).block, (ad103.add (((ji24)).toNat * 7)).off + 6, none⟩ = some (.slice A107_6 ((rd_T33 l0_1 (ji24)).f6).length c107_6)) (ds := []) (bA 33 0) (by kernel_rfl) rfl rfl ⟨(blk_cell BK104.out 0).trans rfl, (blk_cell BK104.out 1).trans rfl, (blk_cell BK104.out 2).trans rfl, (blk_cell BK104.out 3).trans rfl, (blk_cell BK104.out 4).trans rfl, (blk_cell BK104.out 5).trans rfl, (blk_cell BK104.out 6).trans rfl, (blk_cell BK101.out 0).trans rfl, (blk_cell BK101.out 1).trans rfl, ((HB.out.cell (World.block_lt_of_cell? w _ hw107_0)).trans hw107_0), ((HB.out.cell (World.block_lt_of_cell? w _ hw107_1)).trans hw107_1), ((HB.out.cell (World.block_lt_of_cell? w _ hw107_2)).trans hw107_2), ((HB.out.cell (World.block_lt_of_cell? w _ hw107_3)).trans hw107_3), ((HB.out.cell (World.block_lt_of_cell? w _ hw107_4)).trans hw107_4), ((HB.out.cell (World.block_lt_of_cell? w _ hw107_5)).trans hw107_5), ((HB.out.cell (World.block_lt_of_cell? w _ hw107_6)).trans hw107_6)⟩ (fun hHeld => ?_); refine with_tabW spec_ZoneOk.tab8 spec_ZoneOk.bits8 (fun HT_ HW_ => ?_)
               generalize w29.drew = w30 at BK101 BK104 HB HR107_0 HR107_4 HR107_5 HR107_6 hx107_0 hx107_1 hx107_2 hx107_3 hx107_4 hx107_5 hx107_6 hHeld ⊢
               refine take_ (i := 0) (N := some 28) (v := ?_) (a' := ?_) (bA 33 1) rfl rfl (take_ofW HT_.out HW_.out (by kernel_rfl)) (fun _ _ _ h => h) (Or.inl ⟨by rfl, ?_⟩) hHeld ?_ ?_
               rotate_left; rintro w' ⟨s0, s1, s2, s3, s4, s5, s6, s7, s8, s9, s10, s11, s12, s13, s14, s15⟩; go_simp; with_reducible rfl; rotate_left; go_simp; rfl
               refine one_ (i := 1) (N := some 29) (bA 33 3) rfl rfl (one_of HT_.out (by kernel_rfl)) (by decide) (fun K hK => ?_)
               refine goes_ Try.func60 (by kernel_rfl) rfl #[.agg #[.slice A103_0 ((rd_T33 l0_1 x4_2).f0.f0).length c103_0, .int .i64 ((rd_T33 l0_1 x4_2).f1), .int .i64 ((rd_T33 l0_1 x4_2).f2), .int .i64 ((rd_T33 l0_1 x4_2).f3), .slice A103_4 ((rd_T33 l0_1 x4_2).f4.f0).length c103_4, .slice A103_5 ((rd_T33 l0_1 x4_2).f5).length c103_5, .slice A103_6 ((rd_T33 l0_1 x4_2).f6).length c103_6]] (by rfl) rfl rfl (by (try simp only [List.map_toArray, List.map_cons, List.map_nil]); first | done | rfl | (simp only [List.length_drop, List.length_take]; rfl)) ?_
               with_reducible refine (spec_RrOk.calls k2 _ _ ((rd_T33 l0_1 x4_2).f0.f0) ((rd_T33 l0_1 x4_2).f1) ((rd_T33 l0_1 x4_2).f2) ((rd_T33 l0_1 x4_2).f3) _ _ ((rd_T33 l0_1 x4_2).f4.f0) _ _ ((rd_T33 l0_1 x4_2).f5) _ _ ((rd_T33 l0_1 x4_2).f6) true _ ?side1 ?side2 ?side3 ?side4 ?side5 ?side6 ?side7 ?side8 A19.out).mono ?_
               (case side1 => exact cw HR103_0.out HB.out)
               (case side2 => exact HC103_0.out)
               (case side3 => exact cw HR103_4.out HB.out)
               (case side4 => exact HC103_4.out)
               (case side5 => exact cw HR103_5.out HB.out)
               (case side6 => exact HC103_5.out)
               (case side7 => exact cw HR103_6.out HB.out)
               (case side8 => exact HC103_6.out)
               rintro e w31 ⟨rfl, hb⟩
               refine ⟨_, rfl, ?_⟩
               have n0_ := Aside0.mk (blk_below (bk BK101.out) hb)
               have n1_ := Aside0.mk (blk_below (bk BK104.out) hb)
               have n2_ := Aside0.mk (below_step (by repeat (first | exact bw HB.out | refine below_set ?_ GE101.out | refine below_set ?_ GE104.out)) hb)
               clear BK101
               clear BK104
               clear HB
               have BK101 := n0_
               have BK104 := n1_
               have HB := n2_
               clear n0_ n1_ n2_
               (try clear hb)
               (try clear hb2)
               (try clear hk)
               (try clear hi)
               refine hK.out _ _ ⟨(blk_cell BK104.out 0).trans rfl, (blk_cell BK104.out 1).trans rfl, (blk_cell BK104.out 2).trans rfl, (blk_cell BK104.out 3).trans rfl, (blk_cell BK104.out 4).trans rfl, (blk_cell BK104.out 5).trans rfl, (blk_cell BK104.out 6).trans rfl, (blk_cell BK101.out 0).trans rfl, (blk_cell BK101.out 1).trans rfl, ((HB.out.cell (World.block_lt_of_cell? w _ hw107_0)).trans hw107_0), ((HB.out.cell (World.block_lt_of_cell? w _ hw107_1)).trans hw107_1), ((HB.out.cell (World.block_lt_of_cell? w _ hw107_2)).trans hw107_2), ((HB.out.cell (World.block_lt_of_cell? w _ hw107_3)).trans hw107_3), ((HB.out.cell (World.block_lt_of_cell? w _ hw107_4)).trans hw107_4), ((HB.out.cell (World.block_lt_of_cell? w _ hw107_5)).trans hw107_5), ((HB.out.cell (World.block_lt_of_cell? w _ hw107_6)).trans hw107_6)⟩ (fun hHeld => ?_)
               clear hK K
               refine norm_ (a' := ?_) ?_ ?_; rotate_left; go_simp; rfl
               refine pu_ HT_ 2 30 (bA 33 7) (v := ?_) (a' := ?_) rfl rfl (by kernel_rfl) (fun _ _ _ h => h) (by rfl) ?_ ?_ ?_; rotate_left; intro w'; go_simp; with_reducible rfl; rotate_left; go_simp; rfl
               refine pu_ HT_ 3 31 (bA 33 15) (v := ?_) (a' := ?_) rfl rfl (by kernel_rfl) (fun _ _ _ h => h) (by rfl) ?_ ?_ ?_; rotate_left; intro w'; go_simp; with_reducible rfl; rotate_left; go_simp; rfl
               refine pu_ HT_ 4 32 (bA 33 31) (v := ?_) (a' := ?_) rfl rfl (by kernel_rfl) (fun _ _ _ h => h) (by rfl) ?_ ?_ ?_; rotate_left; intro w'; go_simp; with_reducible rfl; rotate_left; go_simp; rfl
               refine pu_ HT_ 6 34 (bA 33 95) (v := ?_) (a' := ?_) rfl rfl (by kernel_rfl) (fun _ _ _ h => h) (by rfl) ?_ ?_ ?_; rotate_left; intro w'; go_simp; with_reducible rfl; rotate_left; go_simp; rfl
               refine take_ (i := 5) (N := some 33) (v := ?_) (a' := ?_) (bA 33 127) rfl rfl (take_ofW HT_.out HW_.out (by kernel_rfl)) (fun _ _ _ h => h) (Or.inl ⟨by rfl, ?_⟩) hHeld ?_ ?_
               rotate_left; rintro w' ⟨s0, s1, s2, s3, s4, s5, s6, s7, s8, s9, s10, s11, s12, s13, s14, s15⟩; go_simp; with_reducible rfl; rotate_left; go_simp; rfl
               refine take_ (i := 7) (N := some 35) (v := ?_) (a' := ?_) (bA 33 255) rfl rfl (take_ofW HT_.out HW_.out (by kernel_rfl)) (fun _ _ _ h => h) (Or.inl ⟨by rfl, ?_⟩) hHeld ?_ ?_
               rotate_left; rintro w' ⟨s0, s1, s2, s3, s4, s5, s6, s7, s8, s9, s10, s11, s12, s13, s14, s15⟩; go_simp; with_reducible rfl; rotate_left; go_simp; rfl
               refine one_ (i := 8) (N := some 36) (bA 33 511) rfl rfl (one_of HT_.out (by kernel_rfl)) (by decide) (fun K hK => ?_)
               refine goes_ Try.func96 (by kernel_rfl) rfl #[.agg #[.slice A103_0 ((rd_T33 l0_1 x4_2).f0.f0).length c103_0], .agg #[.slice A0_0 l0_0.length c0_0]] (by rfl) rfl rfl (by (try simp only [List.map_toArray, List.map_cons, List.map_nil]); first | done | rfl | (simp only [List.length_drop, List.length_take]; rfl)) ?_
               with_reducible refine (spec_l2under.calls k2 _ _ ((rd_T33 l0_1 x4_2).f0.f0) _ _ l0_0 true _ ?side1 ?side2 ?side3 ?side4 A21.out).mono ?_
               (case side1 => exact cw HR103_0.out HB.out)
               (case side2 => exact HC103_0.out)
               (case side3 => exact cw HR0_0.out HB.out)
               (case side4 => exact HC0_0.out)
               rintro e w32 ⟨rfl, hb⟩
               refine ⟨_, rfl, ?_⟩
               have n0_ := Aside0.mk (blk_below (bk BK101.out) hb)
               have n1_ := Aside0.mk (blk_below (bk BK104.out) hb)
               have n2_ := Aside0.mk (below_step (by repeat (first | exact bw HB.out | refine below_set ?_ GE101.out | refine below_set ?_ GE104.out)) hb)
               clear BK101
               clear BK104
               clear HB
               have BK101 := n0_
               have BK104 := n1_
               have HB := n2_
               clear n0_ n1_ n2_
               (try clear hb)
               (try clear hb2)
               (try clear hk)
               (try clear hi)
               refine hK.out _ _ ⟨(blk_cell BK104.out 0).trans rfl, (blk_cell BK104.out 1).trans rfl, (blk_cell BK104.out 2).trans rfl, (blk_cell BK104.out 3).trans rfl, (blk_cell BK104.out 4).trans rfl, (blk_cell BK104.out 5).trans rfl, (blk_cell BK104.out 6).trans rfl, (blk_cell BK101.out 0).trans rfl, (blk_cell BK101.out 1).trans rfl, ((HB.out.cell (World.block_lt_of_cell? w _ hw107_0)).trans hw107_0), ((HB.out.cell (World.block_lt_of_cell? w _ hw107_1)).trans hw107_1), ((HB.out.cell (World.block_lt_of_cell? w _ hw107_2)).trans hw107_2), ((HB.out.cell (World.block_lt_of_cell? w _ hw107_3)).trans hw107_3), ((HB.out.cell (World.block_lt_of_cell? w _ hw107_4)).trans hw107_4), ((HB.out.cell (World.block_lt_of_cell? w _ hw107_5)).trans hw107_5), ((HB.out.cell (World.block_lt_of_cell? w _ hw107_6)).trans hw107_6)⟩ (fun hHeld => ?_)
               clear hK K
               refine norm_ (a' := ?_) ?_ ?_; rotate_left; go_simp; rfl
               refine pu_ HT_ 9 37 (bA 33 1023) (v := ?_) (a' := ?_) rfl rfl (by kernel_rfl) (fun _ _ _ h => h) (by rfl) ?_ ?_ ?_; rotate_left; intro w'; go_simp; with_reducible rfl; rotate_left; go_simp; rfl
               refine pu_ HT_ 10 38 (bA 33 2047) (v := ?_) (a' := ?_) rfl rfl (by kernel_rfl) (fun _ _ _ h => h) (by rfl) ?_ ?_ ?_; rotate_left; intro w'; go_simp; with_reducible rfl; rotate_left; go_simp; rfl
               refine pu_ HT_ 11 39 (bA 33 4095) (v := ?_) (a' := ?_) rfl rfl (by kernel_rfl) (fun _ _ _ h => h) (by rfl) ?_ ?_ ?_; rotate_left; intro w'; go_simp; with_reducible rfl; rotate_left; go_simp; rfl
               refine pu_ HT_ 12 40 (bA 33 8191) (v := ?_) (a' := ?_) rfl rfl (by kernel_rfl) (fun _ _ _ h => h) (by rfl) ?_ ?_ ?_; rotate_left; intro w'; go_simp; with_reducible rfl; rotate_left; go_simp; rfl
               refine pu_ HT_ 13 41 (bA 33 16383) (v := ?_) (a' := ?_) rfl rfl (by kernel_rfl) (fun _ _ _ h => h) (by rfl) ?_ ?_ ?_; rotate_left; intro w'; go_simp; with_reducible rfl; rotate_left; go_simp; rfl
               refine pu_ HT_ 14 42 (bA 33 32767) (v := ?_) (a' := ?_) rfl rfl (by kernel_rfl) (fun _ _ _ h => h) (by rfl) ?_ ?_ ?_; rotate_left; intro w'; go_simp; with_reducible rfl; rotate_left; go_simp; rfl
               refine pu_ HT_ 15 43 (bA 33 65535) (v := ?_) (a' := ?_) rfl rfl (by kernel_rfl) (fun _ _ _ h => h) (by rfl) ?_ ?_ ?_; rotate_left; intro w'; go_simp; with_reducible rfl; rotate_left; go_simp; rfl
               refine pu_ HT_ 17 45 (bA 33 196607) (v := ?_) (a' := ?_) rfl rfl (by kernel_rfl) (fun _ _ _ h => h) (by rfl) ?_ ?_ ?_; rotate_left; intro w'; go_simp; with_reducible rfl; rotate_left; go_simp; rfl
               refine pu_ HT_ 18 46 (bA 33 458751) (v := ?_) (a' := ?_) rfl rfl (by kernel_rfl) (fun _ _ _ h => h) (by rfl) ?_ ?_ ?_; rotate_left; intro w'; go_simp; with_reducible rfl; rotate_left; go_simp; rfl
               refine take_ (i := 16) (N := some 44) (v := ?_) (a' := ?_) (bA 33 524287) rfl rfl (take_ofW HT_.out HW_.out (by kernel_rfl)) (fun _ _ _ h => h) (Or.inl ⟨by rfl, ?_⟩) hHeld ?_ ?_
               rotate_left; rintro w' ⟨s0, s1, s2, s3, s4, s5, s6, s7, s8, s9, s10, s11, s12, s13, s14, s15⟩; go_simp; with_reducible rfl; rotate_left; go_simp; rfl
               refine pu_ HT_ 19 47 (bA 33 1048575) (v := ?_) (a' := ?_) rfl rfl (by kernel_rfl) (fun _ _ _ h => h) (by rfl) ?_ ?_ ?_; rotate_left; intro w'; go_simp; with_reducible rfl; rotate_left; go_simp; rfl
               refine take_ (i := 20) (N := some 48) (v := ?_) (a' := ?_) (bA 33 2097151) rfl rfl (take_ofW HT_.out HW_.out (by kernel_rfl)) (fun _ _ _ h => h) (Or.inl ⟨by rfl, ?_⟩) hHeld ?_ ?_
               rotate_left; rintro w' ⟨s0, s1, s2, s3, s4, s5, s6, s7, s8, s9, s10, s11, s12, s13, s14, s15⟩; go_simp; with_reducible rfl; rotate_left; go_simp; rfl
               refine take_ (i := 21) (N := some 49) (v := ?_) (a' := ?_) (bA 33 4194303) rfl rfl (take_ofW HT_.out HW_.out (by kernel_rfl)) (fun _ _ _ h => h) (Or.inl ⟨by rfl, ?_⟩) hHeld ?_ ?_
               rotate_left; rintro w' ⟨s0, s1, s2, s3, s4, s5, s6, s7, s8, s9, s10, s11, s12, s13, s14, s15⟩; go_simp; with_reducible rfl; rotate_left; go_simp; rfl
               refine one_ (i := 22) (N := some 50) (bA 33 8388607) rfl rfl (one_of HT_.out (by kernel_rfl)) (by decide) (fun K hK => ?_)
               refine goes_ Try.func61 (by kernel_rfl) rfl #[.agg #[.slice A107_0 ((rd_T33 l0_1 (ji24)).f0.f0).length c107_0, .int .i64 ((rd_T33 l0_1 (ji24)).f1), .int .i64 ((rd_T33 l0_1 (ji24)).f2), .int .i64 ((rd_T33 l0_1 (ji24)).f3), .slice A107_4 ((rd_T33 l0_1 (ji24)).f4.f0).length c107_4, .slice A107_5 ((rd_T33 l0_1 (ji24)).f5).length c107_5, .slice A107_6 ((rd_T33 l0_1 (ji24)).f6).length c107_6], .agg #[.slice A103_0 ((rd_T33 l0_1 x4_2).f0.f0).length c103_0, .int .i64 ((rd_T33 l0_1 x4_2).f1), .int .i64 ((rd_T33 l0_1 x4_2).f2), .int .i64 ((rd_T33 l0_1 x4_2).f3), .slice A103_4 ((rd_T33 l0_1 x4_2).f4.f0).length c103_4, .slice A103_5 ((rd_T33 l0_1 x4_2).f5).length c103_5, .slice A103_6 ((rd_T33 l0_1 x4_2).f6).length c103_6]] (by rfl) rfl rfl (by (try simp only [List.map_toArray, List.map_cons, List.map_nil]); first | done | (simp only [hji24]; rfl) | rfl | (simp only [List.length_drop, List.length_take]; rfl)) ?_
               with_reducible refine (spec_l3cmp.calls k2 _ _ ((rd_T33 l0_1 (ji24)).f0.f0) ((rd_T33 l0_1 (ji24)).f1) ((rd_T33 l0_1 (ji24)).f2) ((rd_T33 l0_1 (ji24)).f3) _ _ ((rd_T33 l0_1 (ji24)).f4.f0) _ _ ((rd_T33 l0_1 (ji24)).f5) _ _ ((rd_T33 l0_1 (ji24)).f6) _ _ ((rd_T33 l0_1 x4_2).f0.f0) ((rd_T33 l0_1 x4_2).f1) ((rd_T33 l0_1 x4_2).f2) ((rd_T33 l0_1 x4_2).f3) _ _ ((rd_T33 l0_1 x4_2).f4.f0) _ _ ((rd_T33 l0_1 x4_2).f5) _ _ ((rd_T33 l0_1 x4_2).f6) t108 _ ?side1 ?side2 ?side3 ?side4 ?side5 ?side6 ?side7 ?side8 ?side9 ?side10 ?side11 ?side12 ?side13 ?side14 ?side15 ?side16 A27.out).mono ?_
               (case side1 => exact cw HR107_0.out HB.out)
               (case side2 => exact HC107_0.out)
               (case side3 => exact cw HR107_4.out HB.out)
               (case side4 => exact HC107_4.out)
               (case side5 => exact cw HR107_5.out HB.out)
               (case side6 => exact HC107_5.out)
               (case side7 => exact cw HR107_6.out HB.out)
               (case side8 => exact HC107_6.out)
               (case side9 => exact cw HR103_0.out HB.out)
               (case side10 => exact HC103_0.out)
               (case side11 => exact cw HR103_4.out HB.out)
               (case side12 => exact HC103_4.out)
               (case side13 => exact cw HR103_5.out HB.out)
               (case side14 => exact HC103_5.out)
               (case side15 => exact cw HR103_6.out HB.out)
               (case side16 => exact HC103_6.out)
               rintro e w33 ⟨rfl, hb⟩
               refine ⟨_, rfl, ?_⟩
               have n0_ := Aside0.mk (blk_below (bk BK101.out) hb)
               have n1_ := Aside0.mk (blk_below (bk BK104.out) hb)
               have n2_ := Aside0.mk (below_step (by repeat (first | exact bw HB.out | refine below_set ?_ GE101.out | refine below_set ?_ GE104.out)) hb)
               clear BK101
               clear BK104
               clear HB
               have BK101 := n0_
               have BK104 := n1_
               have HB := n2_
               clear n0_ n1_ n2_
               (try clear hb)
               (try clear hb2)
               (try clear hk)
               (try clear hi)
               refine hK.out _ _ ⟨(blk_cell BK104.out 0).trans rfl, (blk_cell BK104.out 1).trans rfl, (blk_cell BK104.out 2).trans rfl, (blk_cell BK104.out 3).trans rfl, (blk_cell BK104.out 4).trans rfl, (blk_cell BK104.out 5).trans rfl, (blk_cell BK104.out 6).trans rfl, (blk_cell BK101.out 0).trans rfl, (blk_cell BK101.out 1).trans rfl, ((HB.out.cell (World.block_lt_of_cell? w _ hw107_0)).trans hw107_0), ((HB.out.cell (World.block_lt_of_cell? w _ hw107_1)).trans hw107_1), ((HB.out.cell (World.block_lt_of_cell? w _ hw107_2)).trans hw107_2), ((HB.out.cell (World.block_lt_of_cell? w _ hw107_3)).trans hw107_3), ((HB.out.cell (World.block_lt_of_cell? w _ hw107_4)).trans hw107_4), ((HB.out.cell (World.block_lt_of_cell? w _ hw107_5)).trans hw107_5), ((HB.out.cell (World.block_lt_of_cell? w _ hw107_6)).trans hw107_6)⟩ (fun hHeld => ?_)
               clear hK K
               refine norm_ (a' := ?_) ?_ ?_; rotate_left; go_simp; rfl
               refine pu_ HT_ 23 51 (bA 33 16777215) (v := ?_) (a' := ?_) rfl rfl (by kernel_rfl) (fun _ _ _ h => h) (by rfl) ?_ ?_ ?_; rotate_left; intro w'; go_simp; with_reducible rfl; rotate_left; go_simp; rfl
               refine pu_ HT_ 24 52 (bA 33 33554431) (v := ?_) (a' := ?_) rfl rfl (by kernel_rfl) (fun _ _ _ h => h) (by rfl) ?_ ?_ ?_; rotate_left; intro w'; go_simp; with_reducible rfl; rotate_left; go_simp; rfl
               refine pu_ HT_ 25 53 (bA 33 67108863) (v := ?_) (a' := ?_) rfl rfl (by kernel_rfl) (fun _ _ _ h => h) (by rfl) ?_ ?_ ?_; rotate_left; intro w'; go_simp; with_reducible rfl; rotate_left; go_simp; rfl
               refine pu_ HT_ 26 54 (bA 33 134217727) (v := ?_) (a' := ?_) rfl rfl (by kernel_rfl) (fun _ _ _ h => h) (by rfl) ?_ ?_ ?_; rotate_left; intro w'; go_simp; with_reducible rfl; rotate_left; go_simp; rfl
               refine sk_ HT_ 27 55 (bA 33 268435455) (a' := ?_) rfl rfl (by kernel_rfl) (fun _ _ _ h => h) (by rfl) ?_ ?_; rotate_left; go_simp; rfl
               refine sk_ HT_ 28 56 (bA 33 536870911) (a' := ?_) rfl rfl (by kernel_rfl) (fun _ _ _ h => h) (by rfl) ?_ ?_; rotate_left; go_simp; rfl
               refine sk_ HT_ 29 57 (bA 33 1073741823) (a' := ?_) rfl rfl (by kernel_rfl) (fun _ _ _ h => h) (by rfl) ?_ ?_; rotate_left; go_simp; rfl
               refine sk_ HT_ 30 58 (bA 33 2147483647) (a' := ?_) rfl rfl (by kernel_rfl) (fun _ _ _ h => h) (by rfl) ?_ ?_; rotate_left; go_simp; rfl
               refine sk_ HT_ 31 59 (bA 33 4294967295) (a' := ?_) rfl rfl (by kernel_rfl) (fun _ _ _ h => h) (by rfl) ?_ ?_; rotate_left; go_simp; rfl
               refine pu_ HT_ 32 60 (bA 33 8589934591) (v := ?_) (a' := ?_) rfl rfl (by kernel_rfl) (fun _ _ _ h => h) (by rfl) ?_ ?_ ?_; rotate_left; intro w'; go_simp; with_reducible rfl; rotate_left; go_simp; rfl
               refine done_ (done_of HT_.out (by kernel_rfl)) ?_
               try go_wp2
               go_meet
               case rel => exact ⟨_, (true), (by first | rfl | (simp; done) | (simp [*]; done)), H', ⟨by have := HJ1.out; have := HK2.out; first | omega | exact Nat.le_refl _⟩, ⟨bk BK101.out⟩, ⟨bk BK104.out⟩, ⟨by repeat (first | exact bw HB.out | refine below_set ?_ GE101.out | refine below_set ?_ GE104.out)⟩⟩
              ·rw [if_neg c28] at H
               have c28b0 : decide (0 ≤ t108) = false := decide_eq_false c28
               clear c28
               replace H := Option.bind_eq_some_iff.mp H
               obtain ⟨t109, A340, H⟩ := H
               replace H : (spec_ZoneOk.j2 k2 x3_2 x4_2 (!t109) l0_0 l0_1 ((rd_T33 l0_1 x4_2).f0.f0) ((rd_T33 l0_1 x4_2).f1) ((rd_T33 l0_1 x4_2).f2) ((rd_T33 l0_1 x4_2).f3) ((rd_T33 l0_1 x4_2).f4.f0) ((rd_T33 l0_1 x4_2).f5) ((rd_T33 l0_1 x4_2).f6)) = some r := H
               have A34 := Aside0.mk A340
               clear A340
               have H' := Aside0.mk H
               clear H
               try go_wp2
               have n0_ : Aside0 ((((((((w16.setCell ⟨gb104, 0, none⟩ (.slice A103_0 ((rd_T33 l0_1 x4_2).f0.f0).length c103_0)).setCell ⟨gb104, 1, none⟩ (.int .i64 ((rd_T33 l0_1 x4_2).f1))).setCell ⟨gb104, 2, none⟩ (.int .i64 ((rd_T33 l0_1 x4_2).f2))).setCell ⟨gb104, 3, none⟩ (.int .i64 ((rd_T33 l0_1 x4_2).f3))).setCell ⟨gb104, 4, none⟩ (.slice A103_4 ((rd_T33 l0_1 x4_2).f4.f0).length c103_4)).setCell ⟨gb104, 5, none⟩ (.slice A103_5 ((rd_T33 l0_1 x4_2).f5).length c103_5)).setCell ⟨gb104, 6, none⟩ (.slice A103_6 ((rd_T33 l0_1 x4_2).f6).length c103_6)).heap[gb101]? = some (.cells #[.slice A0_0 l0_0.length c0_0, .slice (some ad103) l0_1.length c0_1] 59 (0, 0))) := ⟨bfar7 NB101_104.out BK101.out⟩
               have n1_ : Aside0 ((((((((w16.setCell ⟨gb104, 0, none⟩ (.slice A103_0 ((rd_T33 l0_1 x4_2).f0.f0).length c103_0)).setCell ⟨gb104, 1, none⟩ (.int .i64 ((rd_T33 l0_1 x4_2).f1))).setCell ⟨gb104, 2, none⟩ (.int .i64 ((rd_T33 l0_1 x4_2).f2))).setCell ⟨gb104, 3, none⟩ (.int .i64 ((rd_T33 l0_1 x4_2).f3))).setCell ⟨gb104, 4, none⟩ (.slice A103_4 ((rd_T33 l0_1 x4_2).f4.f0).length c103_4)).setCell ⟨gb104, 5, none⟩ (.slice A103_5 ((rd_T33 l0_1 x4_2).f5).length c103_5)).setCell ⟨gb104, 6, none⟩ (.slice A103_6 ((rd_T33 l0_1 x4_2).f6).length c103_6)).heap[gb104]? = some (.cells #[.slice A103_0 ((rd_T33 l0_1 x4_2).f0.f0).length c103_0, .int .i64 ((rd_T33 l0_1 x4_2).f1), .int .i64 ((rd_T33 l0_1 x4_2).f2), .int .i64 ((rd_T33 l0_1 x4_2).f3), .slice A103_4 ((rd_T33 l0_1 x4_2).f4.f0).length c103_4, .slice A103_5 ((rd_T33 l0_1 x4_2).f5).length c103_5, .slice A103_6 ((rd_T33 l0_1 x4_2).f6).length c103_6] 33 (0, 0))) := ⟨bput7 BK104.out⟩
               have n2_ : Aside0 (Below w.heap.size w (((((((w16.setCell ⟨gb104, 0, none⟩ (.slice A103_0 ((rd_T33 l0_1 x4_2).f0.f0).length c103_0)).setCell ⟨gb104, 1, none⟩ (.int .i64 ((rd_T33 l0_1 x4_2).f1))).setCell ⟨gb104, 2, none⟩ (.int .i64 ((rd_T33 l0_1 x4_2).f2))).setCell ⟨gb104, 3, none⟩ (.int .i64 ((rd_T33 l0_1 x4_2).f3))).setCell ⟨gb104, 4, none⟩ (.slice A103_4 ((rd_T33 l0_1 x4_2).f4.f0).length c103_4)).setCell ⟨gb104, 5, none⟩ (.slice A103_5 ((rd_T33 l0_1 x4_2).f5).length c103_5)).setCell ⟨gb104, 6, none⟩ (.slice A103_6 ((rd_T33 l0_1 x4_2).f6).length c103_6))) := ⟨by repeat (first | exact bw HB.out | refine below_set ?_ GE101.out | refine below_set ?_ GE104.out)⟩
               (try clear BK101)
               (try clear BK104)
               (try clear HB)
               generalize (((((((w16.setCell ⟨gb104, 0, none⟩ (.slice A103_0 ((rd_T33 l0_1 x4_2).f0.f0).length c103_0)).setCell ⟨gb104, 1, none⟩ (.int .i64 ((rd_T33 l0_1 x4_2).f1))).setCell ⟨gb104, 2, none⟩ (.int .i64 ((rd_T33 l0_1 x4_2).f2))).setCell ⟨gb104, 3, none⟩ (.int .i64 ((rd_T33 l0_1 x4_2).f3))).setCell ⟨gb104, 4, none⟩ (.slice A103_4 ((rd_T33 l0_1 x4_2).f4.f0).length c103_4)).setCell ⟨gb104, 5, none⟩ (.slice A103_5 ((rd_T33 l0_1 x4_2).f5).length c103_5)).setCell ⟨gb104, 6, none⟩ (.slice A103_6 ((rd_T33 l0_1 x4_2).f6).length c103_6)) = w35 at n0_ n1_ n2_ ⊢
               have BK101 := n0_
               have BK104 := n1_
               have HB := n2_
               clear n0_ n1_ n2_
               have n0_ := Aside0.mk (blk_drew BK101.out)
               have n1_ := Aside0.mk (blk_drew BK104.out)
               have n2_ := Aside0.mk (below_drew1 HB.out)
               clear BK101
               clear BK104
               clear HB
               have BK101 := n0_
               have BK104 := n1_
               have HB := n2_
               clear n0_ n1_ n2_
               have p107 : 0 ≤ ((ji24) : Int) := of_decide_eq_true (by first | (with_reducible assumption) | assumption)
               have q107 : (ji24) < (l0_1.length : Int) := of_decide_eq_true (by first | (with_reducible assumption) | assumption)
               obtain ⟨ad107, A107_0, c107_0, A107_4, c107_4, A107_5, c107_5, A107_6, c107_6, e107, hx107_0, hx107_1, hx107_2, hx107_3, hx107_4, hx107_5, hx107_6, hl107_0, hi107_0, hl107_4, hi107_4, hl107_5, hi107_5, hl107_6, hi107_6⟩ := at_T33 HR0_1.out (ji24) p107 q107
               have hw107_6 := hx107_6
               have hw107_5 := hx107_5
               have hw107_4 := hx107_4
               have hw107_3 := hx107_3
               have hw107_2 := hx107_2
               have hw107_1 := hx107_1
               have hw107_0 := hx107_0
               obtain rfl : ad103 = ad107 := (by injection e107)
               replace hx107_0 := (HB.out.cell (World.block_lt_of_cell? w _ hx107_0)).trans hx107_0
               replace hx107_1 := (HB.out.cell (World.block_lt_of_cell? w _ hx107_1)).trans hx107_1
               replace hx107_2 := (HB.out.cell (World.block_lt_of_cell? w _ hx107_2)).trans hx107_2
               replace hx107_3 := (HB.out.cell (World.block_lt_of_cell? w _ hx107_3)).trans hx107_3
               replace hx107_4 := (HB.out.cell (World.block_lt_of_cell? w _ hx107_4)).trans hx107_4
               replace hx107_5 := (HB.out.cell (World.block_lt_of_cell? w _ hx107_5)).trans hx107_5
               replace hx107_6 := (HB.out.cell (World.block_lt_of_cell? w _ hx107_6)).trans hx107_6
               have HR107_0 := Aside0.mk hi107_0
               have HC107_0 := Aside0.mk hl107_0
               clear hi107_0 hl107_0
               have HR107_4 := Aside0.mk hi107_4
               have HC107_4 := Aside0.mk hl107_4
               clear hi107_4 hl107_4
               have HR107_5 := Aside0.mk hi107_5
               have HC107_5 := Aside0.mk hl107_5
               clear hi107_5 hl107_5
               have HR107_6 := Aside0.mk hi107_6
               have HC107_6 := Aside0.mk hl107_6
               clear hi107_6 hl107_6
               replace p107 := eq_true p107
               replace q107 := eq_true q107
               refine start_ (n := 33) (S := fun w' => w'.cell? ⟨gb104, 0, none⟩ = some (.slice A103_0 ((rd_T33 l0_1 x4_2).f0.f0).length c103_0) ∧ w'.cell? ⟨gb104, 1, none⟩ = some (.int .i64 ((rd_T33 l0_1 x4_2).f1)) ∧ w'.cell? ⟨gb104, 2, none⟩ = some (.int .i64 ((rd_T33 l0_1 x4_2).f2)) ∧ w'.cell? ⟨gb104, 3, none⟩ = some (.int .i64 ((rd_T33 l0_1 x4_2).f3)) ∧ w'.cell? ⟨gb104, 4, none⟩ = some (.slice A103_4 ((rd_T33 l0_1 x4_2).f4.f0).length c103_4) ∧ w'.cell? ⟨gb104, 5, none⟩ = some (.slice A103_5 ((rd_T33 l0_1 x4_2).f5).length c103_5) ∧ w'.cell? ⟨gb104, 6, none⟩ = some (.slice A103_6 ((rd_T33 l0_1 x4_2).f6).length c103_6) ∧ w'.cell? ⟨gb101, 0, none⟩ = some (.slice A0_0 l0_0.length c0_0) ∧ w'.cell? ⟨gb101, 1, none⟩ = some (.slice (some ad103) l0_1.length c0_1) ∧ w'.cell? (ad103.add (((ji24)).toNat * 7)) = some (.slice A107_0 ((rd_T33 l0_1 (ji24)).f0.f0).length c107_0) ∧ w'.cell? ⟨(ad103.add (((ji24)).toNat * 7)).block, (ad103.add (((ji24)).toNat * 7)).off + 1, none⟩ = some (.int .i64 ((rd_T33 l0_1 (ji24)).f1)) ∧ w'.cell? ⟨(ad103.add (((ji24)).toNat * 7)).block, (ad103.add (((ji24)).toNat * 7)).off + 2, none⟩ = some (.int .i64 ((rd_T33 l0_1 (ji24)).f2)) ∧ w'.cell? ⟨(ad103.add (((ji24)).toNat * 7)).block, (ad103.add (((ji24)).toNat * 7)).off + 3, none⟩ = some (.int .i64 ((rd_T33 l0_1 (ji24)).f3)) ∧ w'.cell? ⟨(ad103.add (((ji24)).toNat * 7)).block, (ad103.add (((ji24)).toNat * 7)).off + 4, none⟩ = some (.slice A107_4 ((rd_T33 l0_1 (ji24)).f4.f0).length c107_4) ∧ w'.cell? ⟨(ad103.add (((ji24)).toNat * 7)).block, (ad103.add (((ji24)).toNat * 7)).off + 5, none⟩ = some (.slice A107_5 ((rd_T33 l0_1 (ji24)).f5).length c107_5) ∧ w'.cell? ⟨(ad103.add (((ji24)).toNat * 7)).block, (ad103.add (((ji24)).toNat * 7)).off + 6, none⟩ = some (.slice A107_6 ((rd_T33 l0_1 (ji24)).f6).length c107_6)) (ds := []) (bA 33 0) (by kernel_rfl) rfl rfl ⟨(blk_cell BK104.out 0).trans rfl, (blk_cell BK104.out 1).trans rfl, (blk_cell BK104.out 2).trans rfl, (blk_cell BK104.out 3).trans rfl, (blk_cell BK104.out 4).trans rfl, (blk_cell BK104.out 5).trans rfl, (blk_cell BK104.out 6).trans rfl, (blk_cell BK101.out 0).trans rfl, (blk_cell BK101.out 1).trans rfl, ((HB.out.cell (World.block_lt_of_cell? w _ hw107_0)).trans hw107_0), ((HB.out.cell (World.block_lt_of_cell? w _ hw107_1)).trans hw107_1), ((HB.out.cell (World.block_lt_of_cell? w _ hw107_2)).trans hw107_2), ((HB.out.cell (World.block_lt_of_cell? w _ hw107_3)).trans hw107_3), ((HB.out.cell (World.block_lt_of_cell? w _ hw107_4)).trans hw107_4), ((HB.out.cell (World.block_lt_of_cell? w _ hw107_5)).trans hw107_5), ((HB.out.cell (World.block_lt_of_cell? w _ hw107_6)).trans hw107_6)⟩ (fun hHeld => ?_); refine with_tabW spec_ZoneOk.tab8 spec_ZoneOk.bits8 (fun HT_ HW_ => ?_)
               generalize w35.drew = w36 at BK101 BK104 HB HR107_0 HR107_4 HR107_5 HR107_6 hx107_0 hx107_1 hx107_2 hx107_3 hx107_4 hx107_5 hx107_6 hHeld ⊢
               refine take_ (i := 0) (N := some 28) (v := ?_) (a' := ?_) (bA 33 1) rfl rfl (take_ofW HT_.out HW_.out (by kernel_rfl)) (fun _ _ _ h => h) (Or.inl ⟨by rfl, ?_⟩) hHeld ?_ ?_
               rotate_left; rintro w' ⟨s0, s1, s2, s3, s4, s5, s6, s7, s8, s9, s10, s11, s12, s13, s14, s15⟩; go_simp; with_reducible rfl; rotate_left; go_simp; rfl
               refine one_ (i := 1) (N := some 29) (bA 33 3) rfl rfl (one_of HT_.out (by kernel_rfl)) (by decide) (fun K hK => ?_)
               refine goes_ Try.func60 (by kernel_rfl) rfl #[.agg #[.slice A103_0 ((rd_T33 l0_1 x4_2).f0.f0).length c103_0, .int .i64 ((rd_T33 l0_1 x4_2).f1), .int .i64 ((rd_T33 l0_1 x4_2).f2), .int .i64 ((rd_T33 l0_1 x4_2).f3), .slice A103_4 ((rd_T33 l0_1 x4_2).f4.f0).length c103_4, .slice A103_5 ((rd_T33 l0_1 x4_2).f5).length c103_5, .slice A103_6 ((rd_T33 l0_1 x4_2).f6).length c103_6]] (by rfl) rfl rfl (by (try simp only [List.map_toArray, List.map_cons, List.map_nil]); first | done | rfl | (simp only [List.length_drop, List.length_take]; rfl)) ?_
               with_reducible refine (spec_RrOk.calls k2 _ _ ((rd_T33 l0_1 x4_2).f0.f0) ((rd_T33 l0_1 x4_2).f1) ((rd_T33 l0_1 x4_2).f2) ((rd_T33 l0_1 x4_2).f3) _ _ ((rd_T33 l0_1 x4_2).f4.f0) _ _ ((rd_T33 l0_1 x4_2).f5) _ _ ((rd_T33 l0_1 x4_2).f6) true _ ?side1 ?side2 ?side3 ?side4 ?side5 ?side6 ?side7 ?side8 A19.out).mono ?_
               (case side1 => exact cw HR103_0.out HB.out)
               (case side2 => exact HC103_0.out)
               (case side3 => exact cw HR103_4.out HB.out)
               (case side4 => exact HC103_4.out)
               (case side5 => exact cw HR103_5.out HB.out)
               (case side6 => exact HC103_5.out)
               (case side7 => exact cw HR103_6.out HB.out)
               (case side8 => exact HC103_6.out)
               rintro e w37 ⟨rfl, hb⟩
               refine ⟨_, rfl, ?_⟩
               have n0_ := Aside0.mk (blk_below (bk BK101.out) hb)
               have n1_ := Aside0.mk (blk_below (bk BK104.out) hb)
               have n2_ := Aside0.mk (below_step (by repeat (first | exact bw HB.out | refine below_set ?_ GE101.out | refine below_set ?_ GE104.out)) hb)
               clear BK101
               clear BK104
               clear HB
               have BK101 := n0_
               have BK104 := n1_
               have HB := n2_
               clear n0_ n1_ n2_
               (try clear hb)
               (try clear hb2)
               (try clear hk)
               (try clear hi)
               refine hK.out _ _ ⟨(blk_cell BK104.out 0).trans rfl, (blk_cell BK104.out 1).trans rfl, (blk_cell BK104.out 2).trans rfl, (blk_cell BK104.out 3).trans rfl, (blk_cell BK104.out 4).trans rfl, (blk_cell BK104.out 5).trans rfl, (blk_cell BK104.out 6).trans rfl, (blk_cell BK101.out 0).trans rfl, (blk_cell BK101.out 1).trans rfl, ((HB.out.cell (World.block_lt_of_cell? w _ hw107_0)).trans hw107_0), ((HB.out.cell (World.block_lt_of_cell? w _ hw107_1)).trans hw107_1), ((HB.out.cell (World.block_lt_of_cell? w _ hw107_2)).trans hw107_2), ((HB.out.cell (World.block_lt_of_cell? w _ hw107_3)).trans hw107_3), ((HB.out.cell (World.block_lt_of_cell? w _ hw107_4)).trans hw107_4), ((HB.out.cell (World.block_lt_of_cell? w _ hw107_5)).trans hw107_5), ((HB.out.cell (World.block_lt_of_cell? w _ hw107_6)).trans hw107_6)⟩ (fun hHeld => ?_)
               clear hK K
               refine norm_ (a' := ?_) ?_ ?_; rotate_left; go_simp; rfl
               refine pu_ HT_ 2 30 (bA 33 7) (v := ?_) (a' := ?_) rfl rfl (by kernel_rfl) (fun _ _ _ h => h) (by rfl) ?_ ?_ ?_; rotate_left; intro w'; go_simp; with_reducible rfl; rotate_left; go_simp; rfl
               refine pu_ HT_ 3 31 (bA 33 15) (v := ?_) (a' := ?_) rfl rfl (by kernel_rfl) (fun _ _ _ h => h) (by rfl) ?_ ?_ ?_; rotate_left; intro w'; go_simp; with_reducible rfl; rotate_left; go_simp; rfl
               refine pu_ HT_ 4 32 (bA 33 31) (v := ?_) (a' := ?_) rfl rfl (by kernel_rfl) (fun _ _ _ h => h) (by rfl) ?_ ?_ ?_; rotate_left; intro w'; go_simp; with_reducible rfl; rotate_left; go_simp; rfl
               refine pu_ HT_ 6 34 (bA 33 95) (v := ?_) (a' := ?_) rfl rfl (by kernel_rfl) (fun _ _ _ h => h) (by rfl) ?_ ?_ ?_; rotate_left; intro w'; go_simp; with_reducible rfl; rotate_left; go_simp; rfl
               refine take_ (i := 5) (N := some 33) (v := ?_) (a' := ?_) (bA 33 127) rfl rfl (take_ofW HT_.out HW_.out (by kernel_rfl)) (fun _ _ _ h => h) (Or.inl ⟨by rfl, ?_⟩) hHeld ?_ ?_
               rotate_left; rintro w' ⟨s0, s1, s2, s3, s4, s5, s6, s7, s8, s9, s10, s11, s12, s13, s14, s15⟩; go_simp; with_reducible rfl; rotate_left; go_simp; rfl
               refine take_ (i := 7) (N := some 35) (v := ?_) (a' := ?_) (bA 33 255) rfl rfl (take_ofW HT_.out HW_.out (by kernel_rfl)) (fun _ _ _ h => h) (Or.inl ⟨by rfl, ?_⟩) hHeld ?_ ?_
               rotate_left; rintro w' ⟨s0, s1, s2, s3, s4, s5, s6, s7, s8, s9, s10, s11, s12, s13, s14, s15⟩; go_simp; with_reducible rfl; rotate_left; go_simp; rfl
               refine one_ (i := 8) (N := some 36) (bA 33 511) rfl rfl (one_of HT_.out (by kernel_rfl)) (by decide) (fun K hK => ?_)
               refine goes_ Try.func96 (by kernel_rfl) rfl #[.agg #[.slice A103_0 ((rd_T33 l0_1 x4_2).f0.f0).length c103_0], .agg #[.slice A0_0 l0_0.length c0_0]] (by rfl) rfl rfl (by (try simp only [List.map_toArray, List.map_cons, List.map_nil]); first | done | rfl | (simp only [List.length_drop, List.length_take]; rfl)) ?_
               with_reducible refine (spec_l2under.calls k2 _ _ ((rd_T33 l0_1 x4_2).f0.f0) _ _ l0_0 true _ ?side1 ?side2 ?side3 ?side4 A21.out).mono ?_
               (case side1 => exact cw HR103_0.out HB.out)
               (case side2 => exact HC103_0.out)
               (case side3 => exact cw HR0_0.out HB.out)
               (case side4 => exact HC0_0.out)
               rintro e w38 ⟨rfl, hb⟩
               refine ⟨_, rfl, ?_⟩
               have n0_ := Aside0.mk (blk_below (bk BK101.out) hb)
               have n1_ := Aside0.mk (blk_below (bk BK104.out) hb)
               have n2_ := Aside0.mk (below_step (by repeat (first | exact bw HB.out | refine below_set ?_ GE101.out | refine below_set ?_ GE104.out)) hb)
               clear BK101
               clear BK104
               clear HB
               have BK101 := n0_
               have BK104 := n1_
               have HB := n2_
               clear n0_ n1_ n2_
               (try clear hb)
               (try clear hb2)
               (try clear hk)
               (try clear hi)
               refine hK.out _ _ ⟨(blk_cell BK104.out 0).trans rfl, (blk_cell BK104.out 1).trans rfl, (blk_cell BK104.out 2).trans rfl, (blk_cell BK104.out 3).trans rfl, (blk_cell BK104.out 4).trans rfl, (blk_cell BK104.out 5).trans rfl, (blk_cell BK104.out 6).trans rfl, (blk_cell BK101.out 0).trans rfl, (blk_cell BK101.out 1).trans rfl, ((HB.out.cell (World.block_lt_of_cell? w _ hw107_0)).trans hw107_0), ((HB.out.cell (World.block_lt_of_cell? w _ hw107_1)).trans hw107_1), ((HB.out.cell (World.block_lt_of_cell? w _ hw107_2)).trans hw107_2), ((HB.out.cell (World.block_lt_of_cell? w _ hw107_3)).trans hw107_3), ((HB.out.cell (World.block_lt_of_cell? w _ hw107_4)).trans hw107_4), ((HB.out.cell (World.block_lt_of_cell? w _ hw107_5)).trans hw107_5), ((HB.out.cell (World.block_lt_of_cell? w _ hw107_6)).trans hw107_6)⟩ (fun hHeld => ?_)
               clear hK K
               refine norm_ (a' := ?_) ?_ ?_; rotate_left; go_simp; rfl
               refine pu_ HT_ 9 37 (bA 33 1023) (v := ?_) (a' := ?_) rfl rfl (by kernel_rfl) (fun _ _ _ h => h) (by rfl) ?_ ?_ ?_; rotate_left; intro w'; go_simp; with_reducible rfl; rotate_left; go_simp; rfl
               refine pu_ HT_ 10 38 (bA 33 2047) (v := ?_) (a' := ?_) rfl rfl (by kernel_rfl) (fun _ _ _ h => h) (by rfl) ?_ ?_ ?_; rotate_left; intro w'; go_simp; with_reducible rfl; rotate_left; go_simp; rfl
               refine pu_ HT_ 11 39 (bA 33 4095) (v := ?_) (a' := ?_) rfl rfl (by kernel_rfl) (fun _ _ _ h => h) (by rfl) ?_ ?_ ?_; rotate_left; intro w'; go_simp; with_reducible rfl; rotate_left; go_simp; rfl
               refine pu_ HT_ 12 40 (bA 33 8191) (v := ?_) (a' := ?_) rfl rfl (by kernel_rfl) (fun _ _ _ h => h) (by rfl) ?_ ?_ ?_; rotate_left; intro w'; go_simp; with_reducible rfl; rotate_left; go_simp; rfl
               refine pu_ HT_ 13 41 (bA 33 16383) (v := ?_) (a' := ?_) rfl rfl (by kernel_rfl) (fun _ _ _ h => h) (by rfl) ?_ ?_ ?_; rotate_left; intro w'; go_simp; with_reducible rfl; rotate_left; go_simp; rfl
               refine pu_ HT_ 14 42 (bA 33 32767) (v := ?_) (a' := ?_) rfl rfl (by kernel_rfl) (fun _ _ _ h => h) (by rfl) ?_ ?_ ?_; rotate_left; intro w'; go_simp; with_reducible rfl; rotate_left; go_simp; rfl
               refine pu_ HT_ 15 43 (bA 33 65535) (v := ?_) (a' := ?_) rfl rfl (by kernel_rfl) (fun _ _ _ h => h) (by rfl) ?_ ?_ ?_; rotate_left; intro w'; go_simp; with_reducible rfl; rotate_left; go_simp; rfl
               refine pu_ HT_ 17 45 (bA 33 196607) (v := ?_) (a' := ?_) rfl rfl (by kernel_rfl) (fun _ _ _ h => h) (by rfl) ?_ ?_ ?_; rotate_left; intro w'; go_simp; with_reducible rfl; rotate_left; go_simp; rfl
               refine pu_ HT_ 18 46 (bA 33 458751) (v := ?_) (a' := ?_) rfl rfl (by kernel_rfl) (fun _ _ _ h => h) (by rfl) ?_ ?_ ?_; rotate_left; intro w'; go_simp; with_reducible rfl; rotate_left; go_simp; rfl
               refine take_ (i := 16) (N := some 44) (v := ?_) (a' := ?_) (bA 33 524287) rfl rfl (take_ofW HT_.out HW_.out (by kernel_rfl)) (fun _ _ _ h => h) (Or.inl ⟨by rfl, ?_⟩) hHeld ?_ ?_
               rotate_left; rintro w' ⟨s0, s1, s2, s3, s4, s5, s6, s7, s8, s9, s10, s11, s12, s13, s14, s15⟩; go_simp; with_reducible rfl; rotate_left; go_simp; rfl
               refine pu_ HT_ 19 47 (bA 33 1048575) (v := ?_) (a' := ?_) rfl rfl (by kernel_rfl) (fun _ _ _ h => h) (by rfl) ?_ ?_ ?_; rotate_left; intro w'; go_simp; with_reducible rfl; rotate_left; go_simp; rfl
               refine take_ (i := 20) (N := some 48) (v := ?_) (a' := ?_) (bA 33 2097151) rfl rfl (take_ofW HT_.out HW_.out (by kernel_rfl)) (fun _ _ _ h => h) (Or.inl ⟨by rfl, ?_⟩) hHeld ?_ ?_
               rotate_left; rintro w' ⟨s0, s1, s2, s3, s4, s5, s6, s7, s8, s9, s10, s11, s12, s13, s14, s15⟩; go_simp; with_reducible rfl; rotate_left; go_simp; rfl
               refine take_ (i := 21) (N := some 49) (v := ?_) (a' := ?_) (bA 33 4194303) rfl rfl (take_ofW HT_.out HW_.out (by kernel_rfl)) (fun _ _ _ h => h) (Or.inl ⟨by rfl, ?_⟩) hHeld ?_ ?_
               rotate_left; rintro w' ⟨s0, s1, s2, s3, s4, s5, s6, s7, s8, s9, s10, s11, s12, s13, s14, s15⟩; go_simp; with_reducible rfl; rotate_left; go_simp; rfl
               refine one_ (i := 22) (N := some 50) (bA 33 8388607) rfl rfl (one_of HT_.out (by kernel_rfl)) (by decide) (fun K hK => ?_)
               refine goes_ Try.func61 (by kernel_rfl) rfl #[.agg #[.slice A107_0 ((rd_T33 l0_1 (ji24)).f0.f0).length c107_0, .int .i64 ((rd_T33 l0_1 (ji24)).f1), .int .i64 ((rd_T33 l0_1 (ji24)).f2), .int .i64 ((rd_T33 l0_1 (ji24)).f3), .slice A107_4 ((rd_T33 l0_1 (ji24)).f4.f0).length c107_4, .slice A107_5 ((rd_T33 l0_1 (ji24)).f5).length c107_5, .slice A107_6 ((rd_T33 l0_1 (ji24)).f6).length c107_6], .agg #[.slice A103_0 ((rd_T33 l0_1 x4_2).f0.f0).length c103_0, .int .i64 ((rd_T33 l0_1 x4_2).f1), .int .i64 ((rd_T33 l0_1 x4_2).f2), .int .i64 ((rd_T33 l0_1 x4_2).f3), .slice A103_4 ((rd_T33 l0_1 x4_2).f4.f0).length c103_4, .slice A103_5 ((rd_T33 l0_1 x4_2).f5).length c103_5, .slice A103_6 ((rd_T33 l0_1 x4_2).f6).length c103_6]] (by rfl) rfl rfl (by (try simp only [List.map_toArray, List.map_cons, List.map_nil]); first | done | (simp only [hji24]; rfl) | rfl | (simp only [List.length_drop, List.length_take]; rfl)) ?_
               with_reducible refine (spec_l3cmp.calls k2 _ _ ((rd_T33 l0_1 (ji24)).f0.f0) ((rd_T33 l0_1 (ji24)).f1) ((rd_T33 l0_1 (ji24)).f2) ((rd_T33 l0_1 (ji24)).f3) _ _ ((rd_T33 l0_1 (ji24)).f4.f0) _ _ ((rd_T33 l0_1 (ji24)).f5) _ _ ((rd_T33 l0_1 (ji24)).f6) _ _ ((rd_T33 l0_1 x4_2).f0.f0) ((rd_T33 l0_1 x4_2).f1) ((rd_T33 l0_1 x4_2).f2) ((rd_T33 l0_1 x4_2).f3) _ _ ((rd_T33 l0_1 x4_2).f4.f0) _ _ ((rd_T33 l0_1 x4_2).f5) _ _ ((rd_T33 l0_1 x4_2).f6) t108 _ ?side1 ?side2 ?side3 ?side4 ?side5 ?side6 ?side7 ?side8 ?side9 ?side10 ?side11 ?side12 ?side13 ?side14 ?side15 ?side16 A27.out).mono ?_
               (case side1 => exact cw HR107_0.out HB.out)
               (case side2 => exact HC107_0.out)
               (case side3 => exact cw HR107_4.out HB.out)
               (case side4 => exact HC107_4.out)
               (case side5 => exact cw HR107_5.out HB.out)
               (case side6 => exact HC107_5.out)
               (case side7 => exact cw HR107_6.out HB.out)
               (case side8 => exact HC107_6.out)
               (case side9 => exact cw HR103_0.out HB.out)
               (case side10 => exact HC103_0.out)
               (case side11 => exact cw HR103_4.out HB.out)
               (case side12 => exact HC103_4.out)
               (case side13 => exact cw HR103_5.out HB.out)
               (case side14 => exact HC103_5.out)
               (case side15 => exact cw HR103_6.out HB.out)
               (case side16 => exact HC103_6.out)
               rintro e w39 ⟨rfl, hb⟩
               refine ⟨_, rfl, ?_⟩
               have n0_ := Aside0.mk (blk_below (bk BK101.out) hb)
               have n1_ := Aside0.mk (blk_below (bk BK104.out) hb)
               have n2_ := Aside0.mk (below_step (by repeat (first | exact bw HB.out | refine below_set ?_ GE101.out | refine below_set ?_ GE104.out)) hb)
               clear BK101
               clear BK104
               clear HB
               have BK101 := n0_
               have BK104 := n1_
               have HB := n2_
               clear n0_ n1_ n2_
               (try clear hb)
               (try clear hb2)
               (try clear hk)
               (try clear hi)
               refine hK.out _ _ ⟨(blk_cell BK104.out 0).trans rfl, (blk_cell BK104.out 1).trans rfl, (blk_cell BK104.out 2).trans rfl, (blk_cell BK104.out 3).trans rfl, (blk_cell BK104.out 4).trans rfl, (blk_cell BK104.out 5).trans rfl, (blk_cell BK104.out 6).trans rfl, (blk_cell BK101.out 0).trans rfl, (blk_cell BK101.out 1).trans rfl, ((HB.out.cell (World.block_lt_of_cell? w _ hw107_0)).trans hw107_0), ((HB.out.cell (World.block_lt_of_cell? w _ hw107_1)).trans hw107_1), ((HB.out.cell (World.block_lt_of_cell? w _ hw107_2)).trans hw107_2), ((HB.out.cell (World.block_lt_of_cell? w _ hw107_3)).trans hw107_3), ((HB.out.cell (World.block_lt_of_cell? w _ hw107_4)).trans hw107_4), ((HB.out.cell (World.block_lt_of_cell? w _ hw107_5)).trans hw107_5), ((HB.out.cell (World.block_lt_of_cell? w _ hw107_6)).trans hw107_6)⟩ (fun hHeld => ?_)
               clear hK K
               refine norm_ (a' := ?_) ?_ ?_; rotate_left; go_simp; rfl
               refine pu_ HT_ 23 51 (bA 33 16777215) (v := ?_) (a' := ?_) rfl rfl (by kernel_rfl) (fun _ _ _ h => h) (by rfl) ?_ ?_ ?_; rotate_left; intro w'; go_simp; with_reducible rfl; rotate_left; go_simp; rfl
               refine pu_ HT_ 24 52 (bA 33 33554431) (v := ?_) (a' := ?_) rfl rfl (by kernel_rfl) (fun _ _ _ h => h) (by rfl) ?_ ?_ ?_; rotate_left; intro w'; go_simp; with_reducible rfl; rotate_left; go_simp; rfl
               refine pu_ HT_ 25 53 (bA 33 67108863) (v := ?_) (a' := ?_) rfl rfl (by kernel_rfl) (fun _ _ _ h => h) (by rfl) ?_ ?_ ?_; rotate_left; intro w'; go_simp; with_reducible rfl; rotate_left; go_simp; rfl
               refine pu_ HT_ 26 54 (bA 33 134217727) (v := ?_) (a' := ?_) rfl rfl (by kernel_rfl) (fun _ _ _ h => h) (by rfl) ?_ ?_ ?_; rotate_left; intro w'; go_simp; with_reducible rfl; rotate_left; go_simp; rfl
               refine pu_ HT_ 27 55 (bA 33 268435455) (v := ?_) (a' := ?_) rfl rfl (by kernel_rfl) (fun _ _ _ h => h) (by rfl) ?_ ?_ ?_; rotate_left; intro w'; go_simp; with_reducible rfl; rotate_left; go_simp; rfl
               refine pu_ HT_ 29 57 (bA 33 805306367) (v := ?_) (a' := ?_) rfl rfl (by kernel_rfl) (fun _ _ _ h => h) (by rfl) ?_ ?_ ?_; rotate_left; intro w'; go_simp; with_reducible rfl; rotate_left; go_simp; rfl
               refine take_ (i := 28) (N := some 56) (v := ?_) (a' := ?_) (bA 33 1073741823) rfl rfl (take_ofW HT_.out HW_.out (by kernel_rfl)) (fun _ _ _ h => h) (Or.inl ⟨by rfl, ?_⟩) hHeld ?_ ?_
               rotate_left; rintro w' ⟨s0, s1, s2, s3, s4, s5, s6, s7, s8, s9, s10, s11, s12, s13, s14, s15⟩; go_simp; with_reducible rfl; rotate_left; go_simp; rfl
               refine one_ (i := 30) (N := some 58) (bA 33 2147483647) rfl rfl (one_of HT_.out (by kernel_rfl)) (by decide) (fun K hK => ?_)
               refine goes_ Try.func97 (by kernel_rfl) rfl #[.slice (some ad103) l0_1.length c0_1, .int .i64 x4_2] (by rfl) rfl rfl (by (try simp only [List.map_toArray, List.map_cons, List.map_nil]); first | done | rfl | (simp only [List.length_drop, List.length_take]; rfl)) ?_
               with_reducible refine (spec_l5alone.calls k2 _ _ l0_1 x4_2 t109 _ ?side1 ?side2 A34.out).mono ?_
               (case side1 => exact cw HR0_1.out HB.out)
               (case side2 => exact HC0_1.out)
               rintro e w40 ⟨rfl, hb⟩
               refine ⟨_, rfl, ?_⟩
               have n0_ := Aside0.mk (blk_below (bk BK101.out) hb)
               have n1_ := Aside0.mk (blk_below (bk BK104.out) hb)
               have n2_ := Aside0.mk (below_step (by repeat (first | exact bw HB.out | refine below_set ?_ GE101.out | refine below_set ?_ GE104.out)) hb)
               clear BK101
               clear BK104
               clear HB
               have BK101 := n0_
               have BK104 := n1_
               have HB := n2_
               clear n0_ n1_ n2_
               (try clear hb)
               (try clear hb2)
               (try clear hk)
               (try clear hi)
               refine hK.out _ _ ⟨(blk_cell BK104.out 0).trans rfl, (blk_cell BK104.out 1).trans rfl, (blk_cell BK104.out 2).trans rfl, (blk_cell BK104.out 3).trans rfl, (blk_cell BK104.out 4).trans rfl, (blk_cell BK104.out 5).trans rfl, (blk_cell BK104.out 6).trans rfl, (blk_cell BK101.out 0).trans rfl, (blk_cell BK101.out 1).trans rfl, ((HB.out.cell (World.block_lt_of_cell? w _ hw107_0)).trans hw107_0), ((HB.out.cell (World.block_lt_of_cell? w _ hw107_1)).trans hw107_1), ((HB.out.cell (World.block_lt_of_cell? w _ hw107_2)).trans hw107_2), ((HB.out.cell (World.block_lt_of_cell? w _ hw107_3)).trans hw107_3), ((HB.out.cell (World.block_lt_of_cell? w _ hw107_4)).trans hw107_4), ((HB.out.cell (World.block_lt_of_cell? w _ hw107_5)).trans hw107_5), ((HB.out.cell (World.block_lt_of_cell? w _ hw107_6)).trans hw107_6)⟩ (fun hHeld => ?_)
               clear hK K
               refine norm_ (a' := ?_) ?_ ?_; rotate_left; go_simp; rfl
               refine pu_ HT_ 31 59 (bA 33 4294967295) (v := ?_) (a' := ?_) rfl rfl (by kernel_rfl) (fun _ _ _ h => h) (by rfl) ?_ ?_ ?_; rotate_left; intro w'; go_simp; with_reducible rfl; rotate_left; go_simp; rfl
               refine pu_ HT_ 32 60 (bA 33 8589934591) (v := ?_) (a' := ?_) rfl rfl (by kernel_rfl) (fun _ _ _ h => h) (by rfl) ?_ ?_ ?_; rotate_left; intro w'; go_simp; with_reducible rfl; rotate_left; go_simp; rfl
               refine done_ (done_of HT_.out (by kernel_rfl)) ?_
               try go_wp2
               go_meet
               case rel => exact ⟨_, (!t109), (by first | rfl | (simp; done) | (simp [*]; done)), H', ⟨by have := HJ1.out; have := HK2.out; first | omega | exact Nat.le_refl _⟩, ⟨bk BK101.out⟩, ⟨bk BK104.out⟩, ⟨by repeat (first | exact bw HB.out | refine below_set ?_ GE101.out | refine below_set ?_ GE104.out)⟩⟩
             ·rw [if_neg c26] at H
              exact absurd H (by simp)
            ·rw [if_neg c25] at H
             exact absurd H (by simp)
           ·rw [if_neg c23] at H
            have c23b0 : decide (0 < x4_2) = false := decide_eq_false c23
            clear c23
            (first | rw [c23b0] | (simp only [i64_w, i32_w]; rw [c23b0]) | skip)
            replace H := Option.bind_eq_some_iff.mp H
            obtain ⟨t110, A410, H⟩ := H
            replace H : (spec_ZoneOk.j2 k2 x3_2 x4_2 (!t110) l0_0 l0_1 ((rd_T33 l0_1 x4_2).f0.f0) ((rd_T33 l0_1 x4_2).f1) ((rd_T33 l0_1 x4_2).f2) ((rd_T33 l0_1 x4_2).f3) ((rd_T33 l0_1 x4_2).f4.f0) ((rd_T33 l0_1 x4_2).f5) ((rd_T33 l0_1 x4_2).f6)) = some r := H
            have A41 := Aside0.mk A410
            clear A410
            have H' := Aside0.mk H
            clear H
            try go_wp2
            have n0_ : Aside0 ((((((((w16.setCell ⟨gb104, 0, none⟩ (.slice A103_0 ((rd_T33 l0_1 x4_2).f0.f0).length c103_0)).setCell ⟨gb104, 1, none⟩ (.int .i64 ((rd_T33 l0_1 x4_2).f1))).setCell ⟨gb104, 2, none⟩ (.int .i64 ((rd_T33 l0_1 x4_2).f2))).setCell ⟨gb104, 3, none⟩ (.int .i64 ((rd_T33 l0_1 x4_2).f3))).setCell ⟨gb104, 4, none⟩ (.slice A103_4 ((rd_T33 l0_1 x4_2).f4.f0).length c103_4)).setCell ⟨gb104, 5, none⟩ (.slice A103_5 ((rd_T33 l0_1 x4_2).f5).length c103_5)).setCell ⟨gb104, 6, none⟩ (.slice A103_6 ((rd_T33 l0_1 x4_2).f6).length c103_6)).heap[gb101]? = some (.cells #[.slice A0_0 l0_0.length c0_0, .slice (some ad103) l0_1.length c0_1] 59 (0, 0))) := ⟨bfar7 NB101_104.out BK101.out⟩
            have n1_ : Aside0 ((((((((w16.setCell ⟨gb104, 0, none⟩ (.slice A103_0 ((rd_T33 l0_1 x4_2).f0.f0).length c103_0)).setCell ⟨gb104, 1, none⟩ (.int .i64 ((rd_T33 l0_1 x4_2).f1))).setCell ⟨gb104, 2, none⟩ (.int .i64 ((rd_T33 l0_1 x4_2).f2))).setCell ⟨gb104, 3, none⟩ (.int .i64 ((rd_T33 l0_1 x4_2).f3))).setCell ⟨gb104, 4, none⟩ (.slice A103_4 ((rd_T33 l0_1 x4_2).f4.f0).length c103_4)).setCell ⟨gb104, 5, none⟩ (.slice A103_5 ((rd_T33 l0_1 x4_2).f5).length c103_5)).setCell ⟨gb104, 6, none⟩ (.slice A103_6 ((rd_T33 l0_1 x4_2).f6).length c103_6)).heap[gb104]? = some (.cells #[.slice A103_0 ((rd_T33 l0_1 x4_2).f0.f0).length c103_0, .int .i64 ((rd_T33 l0_1 x4_2).f1), .int .i64 ((rd_T33 l0_1 x4_2).f2), .int .i64 ((rd_T33 l0_1 x4_2).f3), .slice A103_4 ((rd_T33 l0_1 x4_2).f4.f0).length c103_4, .slice A103_5 ((rd_T33 l0_1 x4_2).f5).length c103_5, .slice A103_6 ((rd_T33 l0_1 x4_2).f6).length c103_6] 33 (0, 0))) := ⟨bput7 BK104.out⟩
            have n2_ : Aside0 (Below w.heap.size w (((((((w16.setCell ⟨gb104, 0, none⟩ (.slice A103_0 ((rd_T33 l0_1 x4_2).f0.f0).length c103_0)).setCell ⟨gb104, 1, none⟩ (.int .i64 ((rd_T33 l0_1 x4_2).f1))).setCell ⟨gb104, 2, none⟩ (.int .i64 ((rd_T33 l0_1 x4_2).f2))).setCell ⟨gb104, 3, none⟩ (.int .i64 ((rd_T33 l0_1 x4_2).f3))).setCell ⟨gb104, 4, none⟩ (.slice A103_4 ((rd_T33 l0_1 x4_2).f4.f0).length c103_4)).setCell ⟨gb104, 5, none⟩ (.slice A103_5 ((rd_T33 l0_1 x4_2).f5).length c103_5)).setCell ⟨gb104, 6, none⟩ (.slice A103_6 ((rd_T33 l0_1 x4_2).f6).length c103_6))) := ⟨by repeat (first | exact bw HB.out | refine below_set ?_ GE101.out | refine below_set ?_ GE104.out)⟩
            (try clear BK101)
            (try clear BK104)
            (try clear HB)
            generalize (((((((w16.setCell ⟨gb104, 0, none⟩ (.slice A103_0 ((rd_T33 l0_1 x4_2).f0.f0).length c103_0)).setCell ⟨gb104, 1, none⟩ (.int .i64 ((rd_T33 l0_1 x4_2).f1))).setCell ⟨gb104, 2, none⟩ (.int .i64 ((rd_T33 l0_1 x4_2).f2))).setCell ⟨gb104, 3, none⟩ (.int .i64 ((rd_T33 l0_1 x4_2).f3))).setCell ⟨gb104, 4, none⟩ (.slice A103_4 ((rd_T33 l0_1 x4_2).f4.f0).length c103_4)).setCell ⟨gb104, 5, none⟩ (.slice A103_5 ((rd_T33 l0_1 x4_2).f5).length c103_5)).setCell ⟨gb104, 6, none⟩ (.slice A103_6 ((rd_T33 l0_1 x4_2).f6).length c103_6)) = w42 at n0_ n1_ n2_ ⊢
            have BK101 := n0_
            have BK104 := n1_
            have HB := n2_
            clear n0_ n1_ n2_
            have n0_ := Aside0.mk (blk_drew BK101.out)
            have n1_ := Aside0.mk (blk_drew BK104.out)
            have n2_ := Aside0.mk (below_drew1 HB.out)
            clear BK101
            clear BK104
            clear HB
            have BK101 := n0_
            have BK104 := n1_
            have HB := n2_
            clear n0_ n1_ n2_
            refine start_ (n := 33) (S := fun w' => w'.cell? ⟨gb104, 0, none⟩ = some (.slice A103_0 ((rd_T33 l0_1 x4_2).f0.f0).length c103_0) ∧ w'.cell? ⟨gb104, 1, none⟩ = some (.int .i64 ((rd_T33 l0_1 x4_2).f1)) ∧ w'.cell? ⟨gb104, 2, none⟩ = some (.int .i64 ((rd_T33 l0_1 x4_2).f2)) ∧ w'.cell? ⟨gb104, 3, none⟩ = some (.int .i64 ((rd_T33 l0_1 x4_2).f3)) ∧ w'.cell? ⟨gb104, 4, none⟩ = some (.slice A103_4 ((rd_T33 l0_1 x4_2).f4.f0).length c103_4) ∧ w'.cell? ⟨gb104, 5, none⟩ = some (.slice A103_5 ((rd_T33 l0_1 x4_2).f5).length c103_5) ∧ w'.cell? ⟨gb104, 6, none⟩ = some (.slice A103_6 ((rd_T33 l0_1 x4_2).f6).length c103_6) ∧ w'.cell? ⟨gb101, 0, none⟩ = some (.slice A0_0 l0_0.length c0_0) ∧ w'.cell? ⟨gb101, 1, none⟩ = some (.slice (some ad103) l0_1.length c0_1)) (ds := []) (bA 33 0) (by kernel_rfl) rfl rfl ⟨(blk_cell BK104.out 0).trans rfl, (blk_cell BK104.out 1).trans rfl, (blk_cell BK104.out 2).trans rfl, (blk_cell BK104.out 3).trans rfl, (blk_cell BK104.out 4).trans rfl, (blk_cell BK104.out 5).trans rfl, (blk_cell BK104.out 6).trans rfl, (blk_cell BK101.out 0).trans rfl, (blk_cell BK101.out 1).trans rfl⟩ (fun hHeld => ?_); refine with_tabW spec_ZoneOk.tab8 spec_ZoneOk.bits8 (fun HT_ HW_ => ?_)
            generalize w42.drew = w43 at BK101 BK104 HB hHeld ⊢
            refine take_ (i := 0) (N := some 28) (v := ?_) (a' := ?_) (bA 33 1) rfl rfl (take_ofW HT_.out HW_.out (by kernel_rfl)) (fun _ _ _ h => h) (Or.inl ⟨by rfl, ?_⟩) hHeld ?_ ?_
            rotate_left; rintro w' ⟨s0, s1, s2, s3, s4, s5, s6, s7, s8⟩; go_simp; with_reducible rfl; rotate_left; go_simp; rfl
            refine one_ (i := 1) (N := some 29) (bA 33 3) rfl rfl (one_of HT_.out (by kernel_rfl)) (by decide) (fun K hK => ?_)
            refine goes_ Try.func60 (by kernel_rfl) rfl #[.agg #[.slice A103_0 ((rd_T33 l0_1 x4_2).f0.f0).length c103_0, .int .i64 ((rd_T33 l0_1 x4_2).f1), .int .i64 ((rd_T33 l0_1 x4_2).f2), .int .i64 ((rd_T33 l0_1 x4_2).f3), .slice A103_4 ((rd_T33 l0_1 x4_2).f4.f0).length c103_4, .slice A103_5 ((rd_T33 l0_1 x4_2).f5).length c103_5, .slice A103_6 ((rd_T33 l0_1 x4_2).f6).length c103_6]] (by rfl) rfl rfl (by (try simp only [List.map_toArray, List.map_cons, List.map_nil]); first | done | rfl | (simp only [List.length_drop, List.length_take]; rfl)) ?_
            with_reducible refine (spec_RrOk.calls k2 _ _ ((rd_T33 l0_1 x4_2).f0.f0) ((rd_T33 l0_1 x4_2).f1) ((rd_T33 l0_1 x4_2).f2) ((rd_T33 l0_1 x4_2).f3) _ _ ((rd_T33 l0_1 x4_2).f4.f0) _ _ ((rd_T33 l0_1 x4_2).f5) _ _ ((rd_T33 l0_1 x4_2).f6) true _ ?side1 ?side2 ?side3 ?side4 ?side5 ?side6 ?side7 ?side8 A19.out).mono ?_
            (case side1 => exact cw HR103_0.out HB.out)
            (case side2 => exact HC103_0.out)
            (case side3 => exact cw HR103_4.out HB.out)
            (case side4 => exact HC103_4.out)
            (case side5 => exact cw HR103_5.out HB.out)
            (case side6 => exact HC103_5.out)
            (case side7 => exact cw HR103_6.out HB.out)
            (case side8 => exact HC103_6.out)
            rintro e w44 ⟨rfl, hb⟩
            refine ⟨_, rfl, ?_⟩
            have n0_ := Aside0.mk (blk_below (bk BK101.out) hb)
            have n1_ := Aside0.mk (blk_below (bk BK104.out) hb)
            have n2_ := Aside0.mk (below_step (by repeat (first | exact bw HB.out | refine below_set ?_ GE101.out | refine below_set ?_ GE104.out)) hb)
            clear BK101
            clear BK104
            clear HB
            have BK101 := n0_
            have BK104 := n1_
            have HB := n2_
            clear n0_ n1_ n2_
            (try clear hb)
            (try clear hb2)
            (try clear hk)
            (try clear hi)
            refine hK.out _ _ ⟨(blk_cell BK104.out 0).trans rfl, (blk_cell BK104.out 1).trans rfl, (blk_cell BK104.out 2).trans rfl, (blk_cell BK104.out 3).trans rfl, (blk_cell BK104.out 4).trans rfl, (blk_cell BK104.out 5).trans rfl, (blk_cell BK104.out 6).trans rfl, (blk_cell BK101.out 0).trans rfl, (blk_cell BK101.out 1).trans rfl⟩ (fun hHeld => ?_)
            clear hK K
            refine norm_ (a' := ?_) ?_ ?_; rotate_left; go_simp; rfl
            refine pu_ HT_ 2 30 (bA 33 7) (v := ?_) (a' := ?_) rfl rfl (by kernel_rfl) (fun _ _ _ h => h) (by rfl) ?_ ?_ ?_; rotate_left; intro w'; go_simp; with_reducible rfl; rotate_left; go_simp; rfl
            refine pu_ HT_ 3 31 (bA 33 15) (v := ?_) (a' := ?_) rfl rfl (by kernel_rfl) (fun _ _ _ h => h) (by rfl) ?_ ?_ ?_; rotate_left; intro w'; go_simp; with_reducible rfl; rotate_left; go_simp; rfl
            refine pu_ HT_ 4 32 (bA 33 31) (v := ?_) (a' := ?_) rfl rfl (by kernel_rfl) (fun _ _ _ h => h) (by rfl) ?_ ?_ ?_; rotate_left; intro w'; go_simp; with_reducible rfl; rotate_left; go_simp; rfl
            refine pu_ HT_ 6 34 (bA 33 95) (v := ?_) (a' := ?_) rfl rfl (by kernel_rfl) (fun _ _ _ h => h) (by rfl) ?_ ?_ ?_; rotate_left; intro w'; go_simp; with_reducible rfl; rotate_left; go_simp; rfl
            refine take_ (i := 5) (N := some 33) (v := ?_) (a' := ?_) (bA 33 127) rfl rfl (take_ofW HT_.out HW_.out (by kernel_rfl)) (fun _ _ _ h => h) (Or.inl ⟨by rfl, ?_⟩) hHeld ?_ ?_
            rotate_left; rintro w' ⟨s0, s1, s2, s3, s4, s5, s6, s7, s8⟩; go_simp; with_reducible rfl; rotate_left; go_simp; rfl
            refine take_ (i := 7) (N := some 35) (v := ?_) (a' := ?_) (bA 33 255) rfl rfl (take_ofW HT_.out HW_.out (by kernel_rfl)) (fun _ _ _ h => h) (Or.inl ⟨by rfl, ?_⟩) hHeld ?_ ?_
            rotate_left; rintro w' ⟨s0, s1, s2, s3, s4, s5, s6, s7, s8⟩; go_simp; with_reducible rfl; rotate_left; go_simp; rfl
            refine one_ (i := 8) (N := some 36) (bA 33 511) rfl rfl (one_of HT_.out (by kernel_rfl)) (by decide) (fun K hK => ?_)
            refine goes_ Try.func96 (by kernel_rfl) rfl #[.agg #[.slice A103_0 ((rd_T33 l0_1 x4_2).f0.f0).length c103_0], .agg #[.slice A0_0 l0_0.length c0_0]] (by rfl) rfl rfl (by (try simp only [List.map_toArray, List.map_cons, List.map_nil]); first | done | rfl | (simp only [List.length_drop, List.length_take]; rfl)) ?_
            with_reducible refine (spec_l2under.calls k2 _ _ ((rd_T33 l0_1 x4_2).f0.f0) _ _ l0_0 true _ ?side1 ?side2 ?side3 ?side4 A21.out).mono ?_
            (case side1 => exact cw HR103_0.out HB.out)
            (case side2 => exact HC103_0.out)
            (case side3 => exact cw HR0_0.out HB.out)
            (case side4 => exact HC0_0.out)
            rintro e w45 ⟨rfl, hb⟩
            refine ⟨_, rfl, ?_⟩
            have n0_ := Aside0.mk (blk_below (bk BK101.out) hb)
            have n1_ := Aside0.mk (blk_below (bk BK104.out) hb)
            have n2_ := Aside0.mk (below_step (by repeat (first | exact bw HB.out | refine below_set ?_ GE101.out | refine below_set ?_ GE104.out)) hb)
            clear BK101
            clear BK104
            clear HB
            have BK101 := n0_
            have BK104 := n1_
            have HB := n2_
            clear n0_ n1_ n2_
            (try clear hb)
            (try clear hb2)
            (try clear hk)
            (try clear hi)
            refine hK.out _ _ ⟨(blk_cell BK104.out 0).trans rfl, (blk_cell BK104.out 1).trans rfl, (blk_cell BK104.out 2).trans rfl, (blk_cell BK104.out 3).trans rfl, (blk_cell BK104.out 4).trans rfl, (blk_cell BK104.out 5).trans rfl, (blk_cell BK104.out 6).trans rfl, (blk_cell BK101.out 0).trans rfl, (blk_cell BK101.out 1).trans rfl⟩ (fun hHeld => ?_)
            clear hK K
            refine norm_ (a' := ?_) ?_ ?_; rotate_left; go_simp; rfl
            refine pu_ HT_ 9 37 (bA 33 1023) (v := ?_) (a' := ?_) rfl rfl (by kernel_rfl) (fun _ _ _ h => h) (by rfl) ?_ ?_ ?_; rotate_left; intro w'; go_simp; with_reducible rfl; rotate_left; go_simp; rfl
            refine pu_ HT_ 10 38 (bA 33 2047) (v := ?_) (a' := ?_) rfl rfl (by kernel_rfl) (fun _ _ _ h => h) (by rfl) ?_ ?_ ?_; rotate_left; intro w'; go_simp; with_reducible rfl; rotate_left; go_simp; rfl
            refine pu_ HT_ 11 39 (bA 33 4095) (v := ?_) (a' := ?_) rfl rfl (by kernel_rfl) (fun _ _ _ h => h) (by rfl) ?_ ?_ ?_; rotate_left; intro w'; go_simp; with_reducible rfl; rotate_left; go_simp; rfl
            refine pu_ HT_ 12 40 (bA 33 8191) (v := ?_) (a' := ?_) rfl rfl (by kernel_rfl) (fun _ _ _ h => h) (by rfl) ?_ ?_ ?_; rotate_left; intro w'; go_simp; with_reducible rfl; rotate_left; go_simp; rfl
            refine pu_ HT_ 13 41 (bA 33 16383) (v := ?_) (a' := ?_) rfl rfl (by kernel_rfl) (fun _ _ _ h => h) (by rfl) ?_ ?_ ?_; rotate_left; intro w'; go_simp; with_reducible rfl; rotate_left; go_simp; rfl
            refine pu_ HT_ 14 42 (bA 33 32767) (v := ?_) (a' := ?_) rfl rfl (by kernel_rfl) (fun _ _ _ h => h) (by rfl) ?_ ?_ ?_; rotate_left; intro w'; go_simp; with_reducible rfl; rotate_left; go_simp; rfl
            refine sk_ HT_ 15 43 (bA 33 65535) (a' := ?_) rfl rfl (by kernel_rfl) (fun _ _ _ h => h) (by rfl) ?_ ?_; rotate_left; go_simp; rfl
            refine sk_ HT_ 16 44 (bA 33 131071) (a' := ?_) rfl rfl (by kernel_rfl) (fun _ _ _ h => h) (by rfl) ?_ ?_; rotate_left; go_simp; rfl
            refine sk_ HT_ 17 45 (bA 33 262143) (a' := ?_) rfl rfl (by kernel_rfl) (fun _ _ _ h => h) (by rfl) ?_ ?_; rotate_left; go_simp; rfl
            refine sk_ HT_ 18 46 (bA 33 524287) (a' := ?_) rfl rfl (by kernel_rfl) (fun _ _ _ h => h) (by rfl) ?_ ?_; rotate_left; go_simp; rfl
            refine sk_ HT_ 19 47 (bA 33 1048575) (a' := ?_) rfl rfl (by kernel_rfl) (fun _ _ _ h => h) (by rfl) ?_ ?_; rotate_left; go_simp; rfl
            refine sk_ HT_ 20 48 (bA 33 2097151) (a' := ?_) rfl rfl (by kernel_rfl) (fun _ _ _ h => h) (by rfl) ?_ ?_; rotate_left; go_simp; rfl
            refine sk_ HT_ 21 49 (bA 33 4194303) (a' := ?_) rfl rfl (by kernel_rfl) (fun _ _ _ h => h) (by rfl) ?_ ?_; rotate_left; go_simp; rfl
            refine sk_ HT_ 22 50 (bA 33 8388607) (a' := ?_) rfl rfl (by kernel_rfl) (fun _ _ _ h => h) (by rfl) ?_ ?_; rotate_left; go_simp; rfl
            refine sk_ HT_ 23 51 (bA 33 16777215) (a' := ?_) rfl rfl (by kernel_rfl) (fun _ _ _ h => h) (by rfl) ?_ ?_; rotate_left; go_simp; rfl
            refine pu_ HT_ 24 52 (bA 33 33554431) (v := ?_) (a' := ?_) rfl rfl (by kernel_rfl) (fun _ _ _ h => h) (by rfl) ?_ ?_ ?_; rotate_left; intro w'; go_simp; with_reducible rfl; rotate_left; go_simp; rfl
            refine pu_ HT_ 25 53 (bA 33 67108863) (v := ?_) (a' := ?_) rfl rfl (by kernel_rfl) (fun _ _ _ h => h) (by rfl) ?_ ?_ ?_; rotate_left; intro w'; go_simp; with_reducible rfl; rotate_left; go_simp; rfl
            refine pu_ HT_ 26 54 (bA 33 134217727) (v := ?_) (a' := ?_) rfl rfl (by kernel_rfl) (fun _ _ _ h => h) (by rfl) ?_ ?_ ?_; rotate_left; intro w'; go_simp; with_reducible rfl; rotate_left; go_simp; rfl
            refine pu_ HT_ 27 55 (bA 33 268435455) (v := ?_) (a' := ?_) rfl rfl (by kernel_rfl) (fun _ _ _ h => h) (by rfl) ?_ ?_ ?_; rotate_left; intro w'; go_simp; with_reducible rfl; rotate_left; go_simp; rfl
            refine pu_ HT_ 29 57 (bA 33 805306367) (v := ?_) (a' := ?_) rfl rfl (by kernel_rfl) (fun _ _ _ h => h) (by rfl) ?_ ?_ ?_; rotate_left; intro w'; go_simp; with_reducible rfl; rotate_left; go_simp; rfl
            refine take_ (i := 28) (N := some 56) (v := ?_) (a' := ?_) (bA 33 1073741823) rfl rfl (take_ofW HT_.out HW_.out (by kernel_rfl)) (fun _ _ _ h => h) (Or.inl ⟨by rfl, ?_⟩) hHeld ?_ ?_
            rotate_left; rintro w' ⟨s0, s1, s2, s3, s4, s5, s6, s7, s8⟩; go_simp; with_reducible rfl; rotate_left; go_simp; rfl
            refine one_ (i := 30) (N := some 58) (bA 33 2147483647) rfl rfl (one_of HT_.out (by kernel_rfl)) (by decide) (fun K hK => ?_)
            refine goes_ Try.func97 (by kernel_rfl) rfl #[.slice (some ad103) l0_1.length c0_1, .int .i64 x4_2] (by rfl) rfl rfl (by (try simp only [List.map_toArray, List.map_cons, List.map_nil]); first | done | rfl | (simp only [List.length_drop, List.length_take]; rfl)) ?_
            with_reducible refine (spec_l5alone.calls k2 _ _ l0_1 x4_2 t110 _ ?side1 ?side2 A41.out).mono ?_
            (case side1 => exact cw HR0_1.out HB.out)
            (case side2 => exact HC0_1.out)
            rintro e w46 ⟨rfl, hb⟩
            refine ⟨_, rfl, ?_⟩
            have n0_ := Aside0.mk (blk_below (bk BK101.out) hb)
            have n1_ := Aside0.mk (blk_below (bk BK104.out) hb)
            have n2_ := Aside0.mk (below_step (by repeat (first | exact bw HB.out | refine below_set ?_ GE101.out | refine below_set ?_ GE104.out)) hb)
            clear BK101
            clear BK104
            clear HB
            have BK101 := n0_
            have BK104 := n1_
            have HB := n2_
            clear n0_ n1_ n2_
            (try clear hb)
            (try clear hb2)
            (try clear hk)
            (try clear hi)
            refine hK.out _ _ ⟨(blk_cell BK104.out 0).trans rfl, (blk_cell BK104.out 1).trans rfl, (blk_cell BK104.out 2).trans rfl, (blk_cell BK104.out 3).trans rfl, (blk_cell BK104.out 4).trans rfl, (blk_cell BK104.out 5).trans rfl, (blk_cell BK104.out 6).trans rfl, (blk_cell BK101.out 0).trans rfl, (blk_cell BK101.out 1).trans rfl⟩ (fun hHeld => ?_)
            clear hK K
            refine norm_ (a' := ?_) ?_ ?_; rotate_left; go_simp; rfl
            refine pu_ HT_ 31 59 (bA 33 4294967295) (v := ?_) (a' := ?_) rfl rfl (by kernel_rfl) (fun _ _ _ h => h) (by rfl) ?_ ?_ ?_; rotate_left; intro w'; go_simp; with_reducible rfl; rotate_left; go_simp; rfl
            refine pu_ HT_ 32 60 (bA 33 8589934591) (v := ?_) (a' := ?_) rfl rfl (by kernel_rfl) (fun _ _ _ h => h) (by rfl) ?_ ?_ ?_; rotate_left; intro w'; go_simp; with_reducible rfl; rotate_left; go_simp; rfl
            refine done_ (done_of HT_.out (by kernel_rfl)) ?_
            try go_wp2
            go_meet
            case rel => exact ⟨_, (!t110), (by first | rfl | (simp; done) | (simp [*]; done)), H', ⟨by have := HJ1.out; have := HK2.out; first | omega | exact Nat.le_refl _⟩, ⟨bk BK101.out⟩, ⟨bk BK104.out⟩, ⟨by repeat (first | exact bw HB.out | refine below_set ?_ GE101.out | refine below_set ?_ GE104.out)⟩⟩
          ·replace c22 := Bool.eq_false_iff.mpr c22
           subst c22
           have H1 : (spec_ZoneOk.j2 k2 x3_2 x4_2 true l0_0 l0_1 ((rd_T33 l0_1 x4_2).f0.f0) ((rd_T33 l0_1 x4_2).f1) ((rd_T33 l0_1 x4_2).f2) ((rd_T33 l0_1 x4_2).f3) ((rd_T33 l0_1 x4_2).f4.f0) ((rd_T33 l0_1 x4_2).f5) ((rd_T33 l0_1 x4_2).f6)) = some r := by rw [if_neg (show ¬ (false = true) by decide)] at H; exact H
           clear H
           have H := H1
           clear H1
           have H' := Aside0.mk H
           clear H
           try go_wp2
           have n0_ : Aside0 ((((((((w16.setCell ⟨gb104, 0, none⟩ (.slice A103_0 ((rd_T33 l0_1 x4_2).f0.f0).length c103_0)).setCell ⟨gb104, 1, none⟩ (.int .i64 ((rd_T33 l0_1 x4_2).f1))).setCell ⟨gb104, 2, none⟩ (.int .i64 ((rd_T33 l0_1 x4_2).f2))).setCell ⟨gb104, 3, none⟩ (.int .i64 ((rd_T33 l0_1 x4_2).f3))).setCell ⟨gb104, 4, none⟩ (.slice A103_4 ((rd_T33 l0_1 x4_2).f4.f0).length c103_4)).setCell ⟨gb104, 5, none⟩ (.slice A103_5 ((rd_T33 l0_1 x4_2).f5).length c103_5)).setCell ⟨gb104, 6, none⟩ (.slice A103_6 ((rd_T33 l0_1 x4_2).f6).length c103_6)).heap[gb101]? = some (.cells #[.slice A0_0 l0_0.length c0_0, .slice (some ad103) l0_1.length c0_1] 59 (0, 0))) := ⟨bfar7 NB101_104.out BK101.out⟩
           have n1_ : Aside0 ((((((((w16.setCell ⟨gb104, 0, none⟩ (.slice A103_0 ((rd_T33 l0_1 x4_2).f0.f0).length c103_0)).setCell ⟨gb104, 1, none⟩ (.int .i64 ((rd_T33 l0_1 x4_2).f1))).setCell ⟨gb104, 2, none⟩ (.int .i64 ((rd_T33 l0_1 x4_2).f2))).setCell ⟨gb104, 3, none⟩ (.int .i64 ((rd_T33 l0_1 x4_2).f3))).setCell ⟨gb104, 4, none⟩ (.slice A103_4 ((rd_T33 l0_1 x4_2).f4.f0).length c103_4)).setCell ⟨gb104, 5, none⟩ (.slice A103_5 ((rd_T33 l0_1 x4_2).f5).length c103_5)).setCell ⟨gb104, 6, none⟩ (.slice A103_6 ((rd_T33 l0_1 x4_2).f6).length c103_6)).heap[gb104]? = some (.cells #[.slice A103_0 ((rd_T33 l0_1 x4_2).f0.f0).length c103_0, .int .i64 ((rd_T33 l0_1 x4_2).f1), .int .i64 ((rd_T33 l0_1 x4_2).f2), .int .i64 ((rd_T33 l0_1 x4_2).f3), .slice A103_4 ((rd_T33 l0_1 x4_2).f4.f0).length c103_4, .slice A103_5 ((rd_T33 l0_1 x4_2).f5).length c103_5, .slice A103_6 ((rd_T33 l0_1 x4_2).f6).length c103_6] 33 (0, 0))) := ⟨bput7 BK104.out⟩
           have n2_ : Aside0 (Below w.heap.size w (((((((w16.setCell ⟨gb104, 0, none⟩ (.slice A103_0 ((rd_T33 l0_1 x4_2).f0.f0).length c103_0)).setCell ⟨gb104, 1, none⟩ (.int .i64 ((rd_T33 l0_1 x4_2).f1))).setCell ⟨gb104, 2, none⟩ (.int .i64 ((rd_T33 l0_1 x4_2).f2))).setCell ⟨gb104, 3, none⟩ (.int .i64 ((rd_T33 l0_1 x4_2).f3))).setCell ⟨gb104, 4, none⟩ (.slice A103_4 ((rd_T33 l0_1 x4_2).f4.f0).length c103_4)).setCell ⟨gb104, 5, none⟩ (.slice A103_5 ((rd_T33 l0_1 x4_2).f5).length c103_5)).setCell ⟨gb104, 6, none⟩ (.slice A103_6 ((rd_T33 l0_1 x4_2).f6).length c103_6))) := ⟨by repeat (first | exact bw HB.out | refine below_set ?_ GE101.out | refine below_set ?_ GE104.out)⟩
           (try clear BK101)
           (try clear BK104)
           (try clear HB)
           generalize (((((((w16.setCell ⟨gb104, 0, none⟩ (.slice A103_0 ((rd_T33 l0_1 x4_2).f0.f0).length c103_0)).setCell ⟨gb104, 1, none⟩ (.int .i64 ((rd_T33 l0_1 x4_2).f1))).setCell ⟨gb104, 2, none⟩ (.int .i64 ((rd_T33 l0_1 x4_2).f2))).setCell ⟨gb104, 3, none⟩ (.int .i64 ((rd_T33 l0_1 x4_2).f3))).setCell ⟨gb104, 4, none⟩ (.slice A103_4 ((rd_T33 l0_1 x4_2).f4.f0).length c103_4)).setCell ⟨gb104, 5, none⟩ (.slice A103_5 ((rd_T33 l0_1 x4_2).f5).length c103_5)).setCell ⟨gb104, 6, none⟩ (.slice A103_6 ((rd_T33 l0_1 x4_2).f6).length c103_6)) = w47 at n0_ n1_ n2_ ⊢
           have BK101 := n0_
           have BK104 := n1_
           have HB := n2_
           clear n0_ n1_ n2_
           have n0_ := Aside0.mk (blk_drew BK101.out)
           have n1_ := Aside0.mk (blk_drew BK104.out)
           have n2_ := Aside0.mk (below_drew1 HB.out)
           clear BK101
           clear BK104
           clear HB
           have BK101 := n0_
           have BK104 := n1_
           have HB := n2_
           clear n0_ n1_ n2_
           refine start_ (n := 33) (S := fun w' => w'.cell? ⟨gb104, 0, none⟩ = some (.slice A103_0 ((rd_T33 l0_1 x4_2).f0.f0).length c103_0) ∧ w'.cell? ⟨gb104, 1, none⟩ = some (.int .i64 ((rd_T33 l0_1 x4_2).f1)) ∧ w'.cell? ⟨gb104, 2, none⟩ = some (.int .i64 ((rd_T33 l0_1 x4_2).f2)) ∧ w'.cell? ⟨gb104, 3, none⟩ = some (.int .i64 ((rd_T33 l0_1 x4_2).f3)) ∧ w'.cell? ⟨gb104, 4, none⟩ = some (.slice A103_4 ((rd_T33 l0_1 x4_2).f4.f0).length c103_4) ∧ w'.cell? ⟨gb104, 5, none⟩ = some (.slice A103_5 ((rd_T33 l0_1 x4_2).f5).length c103_5) ∧ w'.cell? ⟨gb104, 6, none⟩ = some (.slice A103_6 ((rd_T33 l0_1 x4_2).f6).length c103_6) ∧ w'.cell? ⟨gb101, 0, none⟩ = some (.slice A0_0 l0_0.length c0_0) ∧ w'.cell? ⟨gb101, 1, none⟩ = some (.slice (some ad103) l0_1.length c0_1)) (ds := []) (bA 33 0) (by kernel_rfl) rfl rfl ⟨(blk_cell BK104.out 0).trans rfl, (blk_cell BK104.out 1).trans rfl, (blk_cell BK104.out 2).trans rfl, (blk_cell BK104.out 3).trans rfl, (blk_cell BK104.out 4).trans rfl, (blk_cell BK104.out 5).trans rfl, (blk_cell BK104.out 6).trans rfl, (blk_cell BK101.out 0).trans rfl, (blk_cell BK101.out 1).trans rfl⟩ (fun hHeld => ?_); refine with_tabW spec_ZoneOk.tab8 spec_ZoneOk.bits8 (fun HT_ HW_ => ?_)
           generalize w47.drew = w48 at BK101 BK104 HB hHeld ⊢
           refine take_ (i := 0) (N := some 28) (v := ?_) (a' := ?_) (bA 33 1) rfl rfl (take_ofW HT_.out HW_.out (by kernel_rfl)) (fun _ _ _ h => h) (Or.inl ⟨by rfl, ?_⟩) hHeld ?_ ?_
           rotate_left; rintro w' ⟨s0, s1, s2, s3, s4, s5, s6, s7, s8⟩; go_simp; with_reducible rfl; rotate_left; go_simp; rfl
           refine one_ (i := 1) (N := some 29) (bA 33 3) rfl rfl (one_of HT_.out (by kernel_rfl)) (by decide) (fun K hK => ?_)
           refine goes_ Try.func60 (by kernel_rfl) rfl #[.agg #[.slice A103_0 ((rd_T33 l0_1 x4_2).f0.f0).length c103_0, .int .i64 ((rd_T33 l0_1 x4_2).f1), .int .i64 ((rd_T33 l0_1 x4_2).f2), .int .i64 ((rd_T33 l0_1 x4_2).f3), .slice A103_4 ((rd_T33 l0_1 x4_2).f4.f0).length c103_4, .slice A103_5 ((rd_T33 l0_1 x4_2).f5).length c103_5, .slice A103_6 ((rd_T33 l0_1 x4_2).f6).length c103_6]] (by rfl) rfl rfl (by (try simp only [List.map_toArray, List.map_cons, List.map_nil]); first | done | rfl | (simp only [List.length_drop, List.length_take]; rfl)) ?_
           with_reducible refine (spec_RrOk.calls k2 _ _ ((rd_T33 l0_1 x4_2).f0.f0) ((rd_T33 l0_1 x4_2).f1) ((rd_T33 l0_1 x4_2).f2) ((rd_T33 l0_1 x4_2).f3) _ _ ((rd_T33 l0_1 x4_2).f4.f0) _ _ ((rd_T33 l0_1 x4_2).f5) _ _ ((rd_T33 l0_1 x4_2).f6) true _ ?side1 ?side2 ?side3 ?side4 ?side5 ?side6 ?side7 ?side8 A19.out).mono ?_
           (case side1 => exact cw HR103_0.out HB.out)
           (case side2 => exact HC103_0.out)
           (case side3 => exact cw HR103_4.out HB.out)
           (case side4 => exact HC103_4.out)
           (case side5 => exact cw HR103_5.out HB.out)
           (case side6 => exact HC103_5.out)
           (case side7 => exact cw HR103_6.out HB.out)
           (case side8 => exact HC103_6.out)
           rintro e w49 ⟨rfl, hb⟩
           refine ⟨_, rfl, ?_⟩
           have n0_ := Aside0.mk (blk_below (bk BK101.out) hb)
           have n1_ := Aside0.mk (blk_below (bk BK104.out) hb)
           have n2_ := Aside0.mk (below_step (by repeat (first | exact bw HB.out | refine below_set ?_ GE101.out | refine below_set ?_ GE104.out)) hb)
           clear BK101
           clear BK104
           clear HB
           have BK101 := n0_
           have BK104 := n1_
           have HB := n2_
           clear n0_ n1_ n2_
           (try clear hb)
           (try clear hb2)
           (try clear hk)
           (try clear hi)
           refine hK.out _ _ ⟨(blk_cell BK104.out 0).trans rfl, (blk_cell BK104.out 1).trans rfl, (blk_cell BK104.out 2).trans rfl, (blk_cell BK104.out 3).trans rfl, (blk_cell BK104.out 4).trans rfl, (blk_cell BK104.out 5).trans rfl, (blk_cell BK104.out 6).trans rfl, (blk_cell BK101.out 0).trans rfl, (blk_cell BK101.out 1).trans rfl⟩ (fun hHeld => ?_)
           clear hK K
           refine norm_ (a' := ?_) ?_ ?_; rotate_left; go_simp; rfl
           refine pu_ HT_ 2 30 (bA 33 7) (v := ?_) (a' := ?_) rfl rfl (by kernel_rfl) (fun _ _ _ h => h) (by rfl) ?_ ?_ ?_; rotate_left; intro w'; go_simp; with_reducible rfl; rotate_left; go_simp; rfl
           refine pu_ HT_ 3 31 (bA 33 15) (v := ?_) (a' := ?_) rfl rfl (by kernel_rfl) (fun _ _ _ h => h) (by rfl) ?_ ?_ ?_; rotate_left; intro w'; go_simp; with_reducible rfl; rotate_left; go_simp; rfl
           refine pu_ HT_ 4 32 (bA 33 31) (v := ?_) (a' := ?_) rfl rfl (by kernel_rfl) (fun _ _ _ h => h) (by rfl) ?_ ?_ ?_; rotate_left; intro w'; go_simp; with_reducible rfl; rotate_left; go_simp; rfl
           refine pu_ HT_ 6 34 (bA 33 95) (v := ?_) (a' := ?_) rfl rfl (by kernel_rfl) (fun _ _ _ h => h) (by rfl) ?_ ?_ ?_; rotate_left; intro w'; go_simp; with_reducible rfl; rotate_left; go_simp; rfl
           refine take_ (i := 5) (N := some 33) (v := ?_) (a' := ?_) (bA 33 127) rfl rfl (take_ofW HT_.out HW_.out (by kernel_rfl)) (fun _ _ _ h => h) (Or.inl ⟨by rfl, ?_⟩) hHeld ?_ ?_
           rotate_left; rintro w' ⟨s0, s1, s2, s3, s4, s5, s6, s7, s8⟩; go_simp; with_reducible rfl; rotate_left; go_simp; rfl
           refine take_ (i := 7) (N := some 35) (v := ?_) (a' := ?_) (bA 33 255) rfl rfl (take_ofW HT_.out HW_.out (by kernel_rfl)) (fun _ _ _ h => h) (Or.inl ⟨by rfl, ?_⟩) hHeld ?_ ?_
           rotate_left; rintro w' ⟨s0, s1, s2, s3, s4, s5, s6, s7, s8⟩; go_simp; with_reducible rfl; rotate_left; go_simp; rfl
           refine one_ (i := 8) (N := some 36) (bA 33 511) rfl rfl (one_of HT_.out (by kernel_rfl)) (by decide) (fun K hK => ?_)
           refine goes_ Try.func96 (by kernel_rfl) rfl #[.agg #[.slice A103_0 ((rd_T33 l0_1 x4_2).f0.f0).length c103_0], .agg #[.slice A0_0 l0_0.length c0_0]] (by rfl) rfl rfl (by (try simp only [List.map_toArray, List.map_cons, List.map_nil]); first | done | rfl | (simp only [List.length_drop, List.length_take]; rfl)) ?_
           with_reducible refine (spec_l2under.calls k2 _ _ ((rd_T33 l0_1 x4_2).f0.f0) _ _ l0_0 false _ ?side1 ?side2 ?side3 ?side4 A21.out).mono ?_
           (case side1 => exact cw HR103_0.out HB.out)
           (case side2 => exact HC103_0.out)
           (case side3 => exact cw HR0_0.out HB.out)
           (case side4 => exact HC0_0.out)
           rintro e w50 ⟨rfl, hb⟩
           refine ⟨_, rfl, ?_⟩
           have n0_ := Aside0.mk (blk_below (bk BK101.out) hb)
           have n1_ := Aside0.mk (blk_below (bk BK104.out) hb)
           have n2_ := Aside0.mk (below_step (by repeat (first | exact bw HB.out | refine below_set ?_ GE101.out | refine below_set ?_ GE104.out)) hb)
           clear BK101
           clear BK104
           clear HB
           have BK101 := n0_
           have BK104 := n1_
           have HB := n2_
           clear n0_ n1_ n2_
           (try clear hb)
           (try clear hb2)
           (try clear hk)
           (try clear hi)
           refine hK.out _ _ ⟨(blk_cell BK104.out 0).trans rfl, (blk_cell BK104.out 1).trans rfl, (blk_cell BK104.out 2).trans rfl, (blk_cell BK104.out 3).trans rfl, (blk_cell BK104.out 4).trans rfl, (blk_cell BK104.out 5).trans rfl, (blk_cell BK104.out 6).trans rfl, (blk_cell BK101.out 0).trans rfl, (blk_cell BK101.out 1).trans rfl⟩ (fun hHeld => ?_)
           clear hK K
           refine norm_ (a' := ?_) ?_ ?_; rotate_left; go_simp; rfl
           refine pu_ HT_ 9 37 (bA 33 1023) (v := ?_) (a' := ?_) rfl rfl (by kernel_rfl) (fun _ _ _ h => h) (by rfl) ?_ ?_ ?_; rotate_left; intro w'; go_simp; with_reducible rfl; rotate_left; go_simp; rfl
           refine pu_ HT_ 10 38 (bA 33 2047) (v := ?_) (a' := ?_) rfl rfl (by kernel_rfl) (fun _ _ _ h => h) (by rfl) ?_ ?_ ?_; rotate_left; intro w'; go_simp; with_reducible rfl; rotate_left; go_simp; rfl
           refine pu_ HT_ 11 39 (bA 33 4095) (v := ?_) (a' := ?_) rfl rfl (by kernel_rfl) (fun _ _ _ h => h) (by rfl) ?_ ?_ ?_; rotate_left; intro w'; go_simp; with_reducible rfl; rotate_left; go_simp; rfl
           refine sk_ HT_ 12 40 (bA 33 8191) (a' := ?_) rfl rfl (by kernel_rfl) (fun _ _ _ h => h) (by rfl) ?_ ?_; rotate_left; go_simp; rfl
           refine sk_ HT_ 13 41 (bA 33 16383) (a' := ?_) rfl rfl (by kernel_rfl) (fun _ _ _ h => h) (by rfl) ?_ ?_; rotate_left; go_simp; rfl
           refine sk_ HT_ 14 42 (bA 33 32767) (a' := ?_) rfl rfl (by kernel_rfl) (fun _ _ _ h => h) (by rfl) ?_ ?_; rotate_left; go_simp; rfl
           refine sk_ HT_ 15 43 (bA 33 65535) (a' := ?_) rfl rfl (by kernel_rfl) (fun _ _ _ h => h) (by rfl) ?_ ?_; rotate_left; go_simp; rfl
           refine sk_ HT_ 16 44 (bA 33 131071) (a' := ?_) rfl rfl (by kernel_rfl) (fun _ _ _ h => h) (by rfl) ?_ ?_; rotate_left; go_simp; rfl
           refine sk_ HT_ 17 45 (bA 33 262143) (a' := ?_) rfl rfl (by kernel_rfl) (fun _ _ _ h => h) (by rfl) ?_ ?_; rotate_left; go_simp; rfl
           refine sk_ HT_ 18 46 (bA 33 524287) (a' := ?_) rfl rfl (by kernel_rfl) (fun _ _ _ h => h) (by rfl) ?_ ?_; rotate_left; go_simp; rfl
           refine sk_ HT_ 19 47 (bA 33 1048575) (a' := ?_) rfl rfl (by kernel_rfl) (fun _ _ _ h => h) (by rfl) ?_ ?_; rotate_left; go_simp; rfl
           refine sk_ HT_ 20 48 (bA 33 2097151) (a' := ?_) rfl rfl (by kernel_rfl) (fun _ _ _ h => h) (by rfl) ?_ ?_; rotate_left; go_simp; rfl
           refine sk_ HT_ 21 49 (bA 33 4194303) (a' := ?_) rfl rfl (by kernel_rfl) (fun _ _ _ h => h) (by rfl) ?_ ?_; rotate_left; go_simp; rfl
           refine sk_ HT_ 22 50 (bA 33 8388607) (a' := ?_) rfl rfl (by kernel_rfl) (fun _ _ _ h => h) (by rfl) ?_ ?_; rotate_left; go_simp; rfl
           refine sk_ HT_ 23 51 (bA 33 16777215) (a' := ?_) rfl rfl (by kernel_rfl) (fun _ _ _ h => h) (by rfl) ?_ ?_; rotate_left; go_simp; rfl
           refine sk_ HT_ 24 52 (bA 33 33554431) (a' := ?_) rfl rfl (by kernel_rfl) (fun _ _ _ h => h) (by rfl) ?_ ?_; rotate_left; go_simp; rfl
           refine pu_ HT_ 25 53 (bA 33 67108863) (v := ?_) (a' := ?_) rfl rfl (by kernel_rfl) (fun _ _ _ h => h) (by rfl) ?_ ?_ ?_; rotate_left; intro w'; go_simp; with_reducible rfl; rotate_left; go_simp; rfl
           refine pu_ HT_ 26 54 (bA 33 134217727) (v := ?_) (a' := ?_) rfl rfl (by kernel_rfl) (fun _ _ _ h => h) (by rfl) ?_ ?_ ?_; rotate_left; intro w'; go_simp; with_reducible rfl; rotate_left; go_simp; rfl
           refine sk_ HT_ 27 55 (bA 33 268435455) (a' := ?_) rfl rfl (by kernel_rfl) (fun _ _ _ h => h) (by rfl) ?_ ?_; rotate_left; go_simp; rfl
           refine sk_ HT_ 28 56 (bA 33 536870911) (a' := ?_) rfl rfl (by kernel_rfl) (fun _ _ _ h => h) (by rfl) ?_ ?_; rotate_left; go_simp; rfl
           refine sk_ HT_ 29 57 (bA 33 1073741823) (a' := ?_) rfl rfl (by kernel_rfl) (fun _ _ _ h => h) (by rfl) ?_ ?_; rotate_left; go_simp; rfl
           refine sk_ HT_ 30 58 (bA 33 2147483647) (a' := ?_) rfl rfl (by kernel_rfl) (fun _ _ _ h => h) (by rfl) ?_ ?_; rotate_left; go_simp; rfl
           refine sk_ HT_ 31 59 (bA 33 4294967295) (a' := ?_) rfl rfl (by kernel_rfl) (fun _ _ _ h => h) (by rfl) ?_ ?_; rotate_left; go_simp; rfl
           refine pu_ HT_ 32 60 (bA 33 8589934591) (v := ?_) (a' := ?_) rfl rfl (by kernel_rfl) (fun _ _ _ h => h) (by rfl) ?_ ?_ ?_; rotate_left; intro w'; go_simp; with_reducible rfl; rotate_left; go_simp; rfl
           refine done_ (done_of HT_.out (by kernel_rfl)) ?_
           try go_wp2
           go_meet
           case rel => exact ⟨_, (true), (by first | rfl | (simp; done) | (simp [*]; done)), H', ⟨by have := HJ1.out; have := HK2.out; first | omega | exact Nat.le_refl _⟩, ⟨bk BK101.out⟩, ⟨bk BK104.out⟩, ⟨by repeat (first | exact bw HB.out | refine below_set ?_ GE101.out | refine below_set ?_ GE104.out)⟩⟩
         ·replace c20 := Bool.eq_false_iff.mpr c20
          subst c20
          have H1 : (spec_ZoneOk.j2 k2 x3_2 x4_2 true l0_0 l0_1 ((rd_T33 l0_1 x4_2).f0.f0) ((rd_T33 l0_1 x4_2).f1) ((rd_T33 l0_1 x4_2).f2) ((rd_T33 l0_1 x4_2).f3) ((rd_T33 l0_1 x4_2).f4.f0) ((rd_T33 l0_1 x4_2).f5) ((rd_T33 l0_1 x4_2).f6)) = some r := by rw [if_neg (show ¬ (false = true) by decide)] at H; exact H
          clear H
          have H := H1
          clear H1
          have H' := Aside0.mk H
          clear H
          try go_wp2
          have n0_ : Aside0 ((((((((w16.setCell ⟨gb104, 0, none⟩ (.slice A103_0 ((rd_T33 l0_1 x4_2).f0.f0).length c103_0)).setCell ⟨gb104, 1, none⟩ (.int .i64 ((rd_T33 l0_1 x4_2).f1))).setCell ⟨gb104, 2, none⟩ (.int .i64 ((rd_T33 l0_1 x4_2).f2))).setCell ⟨gb104, 3, none⟩ (.int .i64 ((rd_T33 l0_1 x4_2).f3))).setCell ⟨gb104, 4, none⟩ (.slice A103_4 ((rd_T33 l0_1 x4_2).f4.f0).length c103_4)).setCell ⟨gb104, 5, none⟩ (.slice A103_5 ((rd_T33 l0_1 x4_2).f5).length c103_5)).setCell ⟨gb104, 6, none⟩ (.slice A103_6 ((rd_T33 l0_1 x4_2).f6).length c103_6)).heap[gb101]? = some (.cells #[.slice A0_0 l0_0.length c0_0, .slice (some ad103) l0_1.length c0_1] 59 (0, 0))) := ⟨bfar7 NB101_104.out BK101.out⟩
          have n1_ : Aside0 ((((((((w16.setCell ⟨gb104, 0, none⟩ (.slice A103_0 ((rd_T33 l0_1 x4_2).f0.f0).length c103_0)).setCell ⟨gb104, 1, none⟩ (.int .i64 ((rd_T33 l0_1 x4_2).f1))).setCell ⟨gb104, 2, none⟩ (.int .i64 ((rd_T33 l0_1 x4_2).f2))).setCell ⟨gb104, 3, none⟩ (.int .i64 ((rd_T33 l0_1 x4_2).f3))).setCell ⟨gb104, 4, none⟩ (.slice A103_4 ((rd_T33 l0_1 x4_2).f4.f0).length c103_4)).setCell ⟨gb104, 5, none⟩ (.slice A103_5 ((rd_T33 l0_1 x4_2).f5).length c103_5)).setCell ⟨gb104, 6, none⟩ (.slice A103_6 ((rd_T33 l0_1 x4_2).f6).length c103_6)).heap[gb104]? = some (.cells #[.slice A103_0 ((rd_T33 l0_1 x4_2).f0.f0).length c103_0, .int .i64 ((rd_T33 l0_1 x4_2).f1), .int .i64 ((rd_T33 l0_1 x4_2).f2), .int .i64 ((rd_T33 l0_1 x4_2).f3), .slice A103_4 ((rd_T33 l0_1 x4_2).f4.f0).length c103_4, .slice A103_5 ((rd_T33 l0_1 x4_2).f5).length c103_5, .slice A103_6 ((rd_T33 l0_1 x4_2).f6).length c103_6] 33 (0, 0))) := ⟨bput7 BK104.out⟩
          have n2_ : Aside0 (Below w.heap.size w (((((((w16.setCell ⟨gb104, 0, none⟩ (.slice A103_0 ((rd_T33 l0_1 x4_2).f0.f0).length c103_0)).setCell ⟨gb104, 1, none⟩ (.int .i64 ((rd_T33 l0_1 x4_2).f1))).setCell ⟨gb104, 2, none⟩ (.int .i64 ((rd_T33 l0_1 x4_2).f2))).setCell ⟨gb104, 3, none⟩ (.int .i64 ((rd_T33 l0_1 x4_2).f3))).setCell ⟨gb104, 4, none⟩ (.slice A103_4 ((rd_T33 l0_1 x4_2).f4.f0).length c103_4)).setCell ⟨gb104, 5, none⟩ (.slice A103_5 ((rd_T33 l0_1 x4_2).f5).length c103_5)).setCell ⟨gb104, 6, none⟩ (.slice A103_6 ((rd_T33 l0_1 x4_2).f6).length c103_6))) := ⟨by repeat (first | exact bw HB.out | refine below_set ?_ GE101.out | refine below_set ?_ GE104.out)⟩
          (try clear BK101)
          (try clear BK104)
          (try clear HB)
          generalize (((((((w16.setCell ⟨gb104, 0, none⟩ (.slice A103_0 ((rd_T33 l0_1 x4_2).f0.f0).length c103_0)).setCell ⟨gb104, 1, none⟩ (.int .i64 ((rd_T33 l0_1 x4_2).f1))).setCell ⟨gb104, 2, none⟩ (.int .i64 ((rd_T33 l0_1 x4_2).f2))).setCell ⟨gb104, 3, none⟩ (.int .i64 ((rd_T33 l0_1 x4_2).f3))).setCell ⟨gb104, 4, none⟩ (.slice A103_4 ((rd_T33 l0_1 x4_2).f4.f0).length c103_4)).setCell ⟨gb104, 5, none⟩ (.slice A103_5 ((rd_T33 l0_1 x4_2).f5).length c103_5)).setCell ⟨gb104, 6, none⟩ (.slice A103_6 ((rd_T33 l0_1 x4_2).f6).length c103_6)) = w51 at n0_ n1_ n2_ ⊢
          have BK101 := n0_
          have BK104 := n1_
          have HB := n2_
          clear n0_ n1_ n2_
          have n0_ := Aside0.mk (blk_drew BK101.out)
          have n1_ := Aside0.mk (blk_drew BK104.out)
          have n2_ := Aside0.mk (below_drew1 HB.out)
          clear BK101
          clear BK104
          clear HB
          have BK101 := n0_
          have BK104 := n1_
          have HB := n2_
          clear n0_ n1_ n2_
          refine start_ (n := 33) (S := fun w' => w'.cell? ⟨gb104, 0, none⟩ = some (.slice A103_0 ((rd_T33 l0_1 x4_2).f0.f0).length c103_0) ∧ w'.cell? ⟨gb104, 1, none⟩ = some (.int .i64 ((rd_T33 l0_1 x4_2).f1)) ∧ w'.cell? ⟨gb104, 2, none⟩ = some (.int .i64 ((rd_T33 l0_1 x4_2).f2)) ∧ w'.cell? ⟨gb104, 3, none⟩ = some (.int .i64 ((rd_T33 l0_1 x4_2).f3)) ∧ w'.cell? ⟨gb104, 4, none⟩ = some (.slice A103_4 ((rd_T33 l0_1 x4_2).f4.f0).length c103_4) ∧ w'.cell? ⟨gb104, 5, none⟩ = some (.slice A103_5 ((rd_T33 l0_1 x4_2).f5).length c103_5) ∧ w'.cell? ⟨gb104, 6, none⟩ = some (.slice A103_6 ((rd_T33 l0_1 x4_2).f6).length c103_6)) (ds := []) (bA 33 0) (by kernel_rfl) rfl rfl ⟨(blk_cell BK104.out 0).trans rfl, (blk_cell BK104.out 1).trans rfl, (blk_cell BK104.out 2).trans rfl, (blk_cell BK104.out 3).trans rfl, (blk_cell BK104.out 4).trans rfl, (blk_cell BK104.out 5).trans rfl, (blk_cell BK104.out 6).trans rfl⟩ (fun hHeld => ?_); refine with_tabW spec_ZoneOk.tab8 spec_ZoneOk.bits8 (fun HT_ HW_ => ?_)
          generalize w51.drew = w52 at BK101 BK104 HB hHeld ⊢
          refine take_ (i := 0) (N := some 28) (v := ?_) (a' := ?_) (bA 33 1) rfl rfl (take_ofW HT_.out HW_.out (by kernel_rfl)) (fun _ _ _ h => h) (Or.inl ⟨by rfl, ?_⟩) hHeld ?_ ?_
          rotate_left; rintro w' ⟨s0, s1, s2, s3, s4, s5, s6⟩; go_simp; with_reducible rfl; rotate_left; go_simp; rfl
          refine one_ (i := 1) (N := some 29) (bA 33 3) rfl rfl (one_of HT_.out (by kernel_rfl)) (by decide) (fun K hK => ?_)
          refine goes_ Try.func60 (by kernel_rfl) rfl #[.agg #[.slice A103_0 ((rd_T33 l0_1 x4_2).f0.f0).length c103_0, .int .i64 ((rd_T33 l0_1 x4_2).f1), .int .i64 ((rd_T33 l0_1 x4_2).f2), .int .i64 ((rd_T33 l0_1 x4_2).f3), .slice A103_4 ((rd_T33 l0_1 x4_2).f4.f0).length c103_4, .slice A103_5 ((rd_T33 l0_1 x4_2).f5).length c103_5, .slice A103_6 ((rd_T33 l0_1 x4_2).f6).length c103_6]] (by rfl) rfl rfl (by (try simp only [List.map_toArray, List.map_cons, List.map_nil]); first | done | rfl | (simp only [List.length_drop, List.length_take]; rfl)) ?_
          with_reducible refine (spec_RrOk.calls k2 _ _ ((rd_T33 l0_1 x4_2).f0.f0) ((rd_T33 l0_1 x4_2).f1) ((rd_T33 l0_1 x4_2).f2) ((rd_T33 l0_1 x4_2).f3) _ _ ((rd_T33 l0_1 x4_2).f4.f0) _ _ ((rd_T33 l0_1 x4_2).f5) _ _ ((rd_T33 l0_1 x4_2).f6) false _ ?side1 ?side2 ?side3 ?side4 ?side5 ?side6 ?side7 ?side8 A19.out).mono ?_
          (case side1 => exact cw HR103_0.out HB.out)
          (case side2 => exact HC103_0.out)
          (case side3 => exact cw HR103_4.out HB.out)
          (case side4 => exact HC103_4.out)
          (case side5 => exact cw HR103_5.out HB.out)
          (case side6 => exact HC103_5.out)
          (case side7 => exact cw HR103_6.out HB.out)
          (case side8 => exact HC103_6.out)
          rintro e w53 ⟨rfl, hb⟩
          refine ⟨_, rfl, ?_⟩
          have n0_ := Aside0.mk (blk_below (bk BK101.out) hb)
          have n1_ := Aside0.mk (blk_below (bk BK104.out) hb)
          have n2_ := Aside0.mk (below_step (by repeat (first | exact bw HB.out | refine below_set ?_ GE101.out | refine below_set ?_ GE104.out)) hb)
          clear BK101
          clear BK104
          clear HB
          have BK101 := n0_
          have BK104 := n1_
          have HB := n2_
          clear n0_ n1_ n2_
          (try clear hb)
          (try clear hb2)
          (try clear hk)
          (try clear hi)
          refine hK.out _ _ ⟨(blk_cell BK104.out 0).trans rfl, (blk_cell BK104.out 1).trans rfl, (blk_cell BK104.out 2).trans rfl, (blk_cell BK104.out 3).trans rfl, (blk_cell BK104.out 4).trans rfl, (blk_cell BK104.out 5).trans rfl, (blk_cell BK104.out 6).trans rfl⟩ (fun hHeld => ?_)
          clear hK K
          refine norm_ (a' := ?_) ?_ ?_; rotate_left; go_simp; rfl
          refine pu_ HT_ 2 30 (bA 33 7) (v := ?_) (a' := ?_) rfl rfl (by kernel_rfl) (fun _ _ _ h => h) (by rfl) ?_ ?_ ?_; rotate_left; intro w'; go_simp; with_reducible rfl; rotate_left; go_simp; rfl
          refine pu_ HT_ 3 31 (bA 33 15) (v := ?_) (a' := ?_) rfl rfl (by kernel_rfl) (fun _ _ _ h => h) (by rfl) ?_ ?_ ?_; rotate_left; intro w'; go_simp; with_reducible rfl; rotate_left; go_simp; rfl
          refine sk_ HT_ 4 32 (bA 33 31) (a' := ?_) rfl rfl (by kernel_rfl) (fun _ _ _ h => h) (by rfl) ?_ ?_; rotate_left; go_simp; rfl
          refine sk_ HT_ 5 33 (bA 33 63) (a' := ?_) rfl rfl (by kernel_rfl) (fun _ _ _ h => h) (by rfl) ?_ ?_; rotate_left; go_simp; rfl
          refine sk_ HT_ 6 34 (bA 33 127) (a' := ?_) rfl rfl (by kernel_rfl) (fun _ _ _ h => h) (by rfl) ?_ ?_; rotate_left; go_simp; rfl
          refine sk_ HT_ 7 35 (bA 33 255) (a' := ?_) rfl rfl (by kernel_rfl) (fun _ _ _ h => h) (by rfl) ?_ ?_; rotate_left; go_simp; rfl
          refine sk_ HT_ 8 36 (bA 33 511) (a' := ?_) rfl rfl (by kernel_rfl) (fun _ _ _ h => h) (by rfl) ?_ ?_; rotate_left; go_simp; rfl
          refine sk_ HT_ 9 37 (bA 33 1023) (a' := ?_) rfl rfl (by kernel_rfl) (fun _ _ _ h => h) (by rfl) ?_ ?_; rotate_left; go_simp; rfl
          refine pu_ HT_ 10 38 (bA 33 2047) (v := ?_) (a' := ?_) rfl rfl (by kernel_rfl) (fun _ _ _ h => h) (by rfl) ?_ ?_ ?_; rotate_left; intro w'; go_simp; with_reducible rfl; rotate_left; go_simp; rfl
          refine pu_ HT_ 11 39 (bA 33 4095) (v := ?_) (a' := ?_) rfl rfl (by kernel_rfl) (fun _ _ _ h => h) (by rfl) ?_ ?_ ?_; rotate_left; intro w'; go_simp; with_reducible rfl; rotate_left; go_simp; rfl
          refine sk_ HT_ 12 40 (bA 33 8191) (a' := ?_) rfl rfl (by kernel_rfl) (fun _ _ _ h => h) (by rfl) ?_ ?_; rotate_left; go_simp; rfl
          refine sk_ HT_ 13 41 (bA 33 16383) (a' := ?_) rfl rfl (by kernel_rfl) (fun _ _ _ h => h) (by rfl) ?_ ?_; rotate_left; go_simp; rfl
          refine sk_ HT_ 14 42 (bA 33 32767) (a' := ?_) rfl rfl (by kernel_rfl) (fun _ _ _ h => h) (by rfl) ?_ ?_; rotate_left; go_simp; rfl
          refine sk_ HT_ 15 43 (bA 33 65535) (a' := ?_) rfl rfl (by kernel_rfl) (fun _ _ _ h => h) (by rfl) ?_ ?_; rotate_left; go_simp; rfl
          refine sk_ HT_ 16 44 (bA 33 131071) (a' := ?_) rfl rfl (by kernel_rfl) (fun _ _ _ h => h) (by rfl) ?_ ?_; rotate_left; go_simp; rfl
          refine sk_ HT_ 17 45 (bA 33 262143) (a' := ?_) rfl rfl (by kernel_rfl) (fun _ _ _ h => h) (by rfl) ?_ ?_; rotate_left; go_simp; rfl
          refine sk_ HT_ 18 46 (bA 33 524287) (a' := ?_) rfl rfl (by kernel_rfl) (fun _ _ _ h => h) (by rfl) ?_ ?_; rotate_left; go_simp; rfl
          refine sk_ HT_ 19 47 (bA 33 1048575) (a' := ?_) rfl rfl (by kernel_rfl) (fun _ _ _ h => h) (by rfl) ?_ ?_; rotate_left; go_simp; rfl
          refine sk_ HT_ 20 48 (bA 33 2097151) (a' := ?_) rfl rfl (by kernel_rfl) (fun _ _ _ h => h) (by rfl) ?_ ?_; rotate_left; go_simp; rfl
          refine sk_ HT_ 21 49 (bA 33 4194303) (a' := ?_) rfl rfl (by kernel_rfl) (fun _ _ _ h => h) (by rfl) ?_ ?_; rotate_left; go_simp; rfl
          refine sk_ HT_ 22 50 (bA 33 8388607) (a' := ?_) rfl rfl (by kernel_rfl) (fun _ _ _ h => h) (by rfl) ?_ ?_; rotate_left; go_simp; rfl
          refine sk_ HT_ 23 51 (bA 33 16777215) (a' := ?_) rfl rfl (by kernel_rfl) (fun _ _ _ h => h) (by rfl) ?_ ?_; rotate_left; go_simp; rfl
          refine sk_ HT_ 24 52 (bA 33 33554431) (a' := ?_) rfl rfl (by kernel_rfl) (fun _ _ _ h => h) (by rfl) ?_ ?_; rotate_left; go_simp; rfl
          refine pu_ HT_ 25 53 (bA 33 67108863) (v := ?_) (a' := ?_) rfl rfl (by kernel_rfl) (fun _ _ _ h => h) (by rfl) ?_ ?_ ?_; rotate_left; intro w'; go_simp; with_reducible rfl; rotate_left; go_simp; rfl
          refine pu_ HT_ 26 54 (bA 33 134217727) (v := ?_) (a' := ?_) rfl rfl (by kernel_rfl) (fun _ _ _ h => h) (by rfl) ?_ ?_ ?_; rotate_left; intro w'; go_simp; with_reducible rfl; rotate_left; go_simp; rfl
          refine sk_ HT_ 27 55 (bA 33 268435455) (a' := ?_) rfl rfl (by kernel_rfl) (fun _ _ _ h => h) (by rfl) ?_ ?_; rotate_left; go_simp; rfl
          refine sk_ HT_ 28 56 (bA 33 536870911) (a' := ?_) rfl rfl (by kernel_rfl) (fun _ _ _ h => h) (by rfl) ?_ ?_; rotate_left; go_simp; rfl
          refine sk_ HT_ 29 57 (bA 33 1073741823) (a' := ?_) rfl rfl (by kernel_rfl) (fun _ _ _ h => h) (by rfl) ?_ ?_; rotate_left; go_simp; rfl
          refine sk_ HT_ 30 58 (bA 33 2147483647) (a' := ?_) rfl rfl (by kernel_rfl) (fun _ _ _ h => h) (by rfl) ?_ ?_; rotate_left; go_simp; rfl
          refine sk_ HT_ 31 59 (bA 33 4294967295) (a' := ?_) rfl rfl (by kernel_rfl) (fun _ _ _ h => h) (by rfl) ?_ ?_; rotate_left; go_simp; rfl
          refine pu_ HT_ 32 60 (bA 33 8589934591) (v := ?_) (a' := ?_) rfl rfl (by kernel_rfl) (fun _ _ _ h => h) (by rfl) ?_ ?_ ?_; rotate_left; intro w'; go_simp; with_reducible rfl; rotate_left; go_simp; rfl
          refine done_ (done_of HT_.out (by kernel_rfl)) ?_
          try go_wp2
          go_meet
          case rel => exact ⟨_, (true), (by first | rfl | (simp; done) | (simp [*]; done)), H', ⟨by have := HJ1.out; have := HK2.out; first | omega | exact Nat.le_refl _⟩, ⟨bk BK101.out⟩, ⟨bk BK104.out⟩, ⟨by repeat (first | exact bw HB.out | refine below_set ?_ GE101.out | refine below_set ?_ GE104.out)⟩⟩
        case rest =>
         clear HC14
         try clear c1
         try clear c2
         try clear p2
         try clear c6
         try clear c9
         try clear c10
         try clear c20
         try clear c22
         obtain ⟨kq, x60_13, rfl, HA, HJ13, BK101, BK104, HB⟩ := hcut
         cases kq with
         | zero => exact absurd HA.out (by simp [spec_ZoneOk.j2])
         | succ kj13 =>
          have H := HA.out
          clear HA
          simp only [spec_ZoneOk.j2] at H
          by_cases c54 : x60_13 = true
          ·subst c54
           have H1 : (some false) = some r := by rw [if_pos rfl] at H; exact H
           clear H
           have H := H1
           clear H1
           obtain rfl := Option.some.inj H
           go_wp2
           go_ret
           exact ⟨by first | rfl | (simp [errW_none, errW_some] <;> rfl) | (simp [*, errW_none, errW_some] <;> rfl), by repeat (first | exact bw HB.out | refine below_set ?_ GE101.out | refine below_set ?_ GE104.out)⟩
          ·replace c54 := Bool.eq_false_iff.mpr c54
           subst c54
           have H1 : (if ((rd_T33 l0_1 x4_2).f1) = 6 then ((spec_l2cmp.f kj13 ((rd_T33 l0_1 x4_2).f0.f0) l0_0).bind fun t111 => (if t111 = 0 then (spec_ZoneOk.l0 kj13 (wrap64 (x3_2 + 1)) (wrap64 (x4_2 + 1)) l0_0 l0_1) else (some false))) else (spec_ZoneOk.l0 kj13 x3_2 (wrap64 (x4_2 + 1)) l0_0 l0_1)) = some r := by rw [if_neg (show ¬ (false = true) by decide)] at H; exact H
           clear H
           have H := H1
           clear H1
           by_cases c55 : ((rd_T33 l0_1 x4_2).f1) = 6
           ·rw [if_pos c55] at H
            have c55b0 : (((rd_T33 l0_1 x4_2).f1) == 6) = true := beq_iff_eq.mpr c55
            have c55b1 : (((rd_T33 l0_1 x4_2).f1) != 6) = false := bne_eq_false_iff_eq.mpr c55
            clear c55
            replace H := Option.bind_eq_some_iff.mp H
            obtain ⟨t111, A560, H⟩ := H
            replace H : (if t111 = 0 then (spec_ZoneOk.l0 kj13 (wrap64 (x3_2 + 1)) (wrap64 (x4_2 + 1)) l0_0 l0_1) else (some false)) = some r := H
            have A56 := Aside0.mk A560
            clear A560
            by_cases c57 : t111 = 0
            ·rw [if_pos c57] at H
             have c57b0 : (t111 == 0) = true := beq_iff_eq.mpr c57
             have c57b1 : (t111 != 0) = false := bne_eq_false_iff_eq.mpr c57
             clear c57
             have H' := Aside0.mk H
             clear H
             have hnb58 := NB104_101.out
             have hnc58 := NB101_104.out
             obtain ⟨hcz59_0, hcz59_1, hcz59_2, hcz59_3, hcz59_4, hcz59_5, hcz59_6, hfz59_0, hfz59_1, hfz59_2, hfz59_3, hfz59_4, hfz59_5, hfz59_6⟩ := cells7 BK104.out
             obtain ⟨hcz60_0, hcz60_1, hfz60_0, hfz60_1⟩ := cells2 BK101.out
             go_wp2_with (first | ((with_reducible refine gate_callee (f := 98) rfl ?_); refine goesL_ (some 70) rfl rfl Try.func98 (by kernel_rfl) rfl #[.agg #[.slice A103_0 ((rd_T33 l0_1 x4_2).f0.f0).length c103_0], .agg #[.slice A0_0 l0_0.length c0_0]] rfl (by (try simp only [List.map_toArray, List.map_cons, List.map_nil]); first | done | rfl | (simp only [List.length_drop, List.length_take]; rfl)) ?_; (with_reducible refine (spec_l2cmp.calls kj13 _ _ ((rd_T33 l0_1 x4_2).f0.f0) _ _ l0_0 t111 _ ?side1 ?side2 ?side3 ?side4 A56.out).mono ?_); (case side1 => exact cw HR103_0.out HB.out); (case side2 => exact HC103_0.out); (case side3 => exact cw HR0_0.out HB.out); (case side4 => exact HC0_0.out); rintro e w61 ⟨rfl, hb⟩; refine ⟨_, rfl, ?_⟩; replace BK101 := Aside0.mk (blk_below (bk BK101.out) hb); replace BK104 := Aside0.mk (blk_below (bk BK104.out) hb); replace HB := Aside0.mk (below_step (by repeat (first | exact bw HB.out | refine below_set ?_ GE101.out | refine below_set ?_ GE104.out)) hb); (try clear hb)))
             go_roundg kj13
             case measure => have := HJ1.out; have := HK2.out; have := HJ13.out; omega
             case rel => exact ⟨(wrap64 (x3_2 + 1)), (wrap64 (x4_2 + 1)), (by first | rfl | (simp; done) | (simp [*]; done)), (by first | rfl | (simp; done) | (simp [*]; done)), H', ⟨by have := HJ1.out; have := HK2.out; have := HJ13.out; omega⟩, ⟨bk BK101.out⟩, ⟨by repeat (first | exact bw HB.out | refine below_set ?_ GE101.out | refine below_set ?_ GE104.out)⟩⟩
            ·rw [if_neg c57] at H
             have c57b0 : (t111 == 0) = false := beq_eq_false_iff_ne.mpr c57
             have c57b1 : (t111 != 0) = true := bne_iff_ne.mpr c57
             obtain rfl := Option.some.inj H
             have hnb62 := NB104_101.out
             have hnc62 := NB101_104.out
             obtain ⟨hcz63_0, hcz63_1, hcz63_2, hcz63_3, hcz63_4, hcz63_5, hcz63_6, hfz63_0, hfz63_1, hfz63_2, hfz63_3, hfz63_4, hfz63_5, hfz63_6⟩ := cells7 BK104.out
             obtain ⟨hcz64_0, hcz64_1, hfz64_0, hfz64_1⟩ := cells2 BK101.out
             go_wp2_with (first | ((with_reducible refine gate_callee (f := 98) rfl ?_); refine goesL_ (some 70) rfl rfl Try.func98 (by kernel_rfl) rfl #[.agg #[.slice A103_0 ((rd_T33 l0_1 x4_2).f0.f0).length c103_0], .agg #[.slice A0_0 l0_0.length c0_0]] rfl (by (try simp only [List.map_toArray, List.map_cons, List.map_nil]); first | done | rfl | (simp only [List.length_drop, List.length_take]; rfl)) ?_; (with_reducible refine (spec_l2cmp.calls kj13 _ _ ((rd_T33 l0_1 x4_2).f0.f0) _ _ l0_0 t111 _ ?side1 ?side2 ?side3 ?side4 A56.out).mono ?_); (case side1 => exact cw HR103_0.out HB.out); (case side2 => exact HC103_0.out); (case side3 => exact cw HR0_0.out HB.out); (case side4 => exact HC0_0.out); rintro e w65 ⟨rfl, hb⟩; refine ⟨_, rfl, ?_⟩; replace BK101 := Aside0.mk (blk_below (bk BK101.out) hb); replace BK104 := Aside0.mk (blk_below (bk BK104.out) hb); replace HB := Aside0.mk (below_step (by repeat (first | exact bw HB.out | refine below_set ?_ GE101.out | refine below_set ?_ GE104.out)) hb); (try clear hb)))
             go_ret
             exact ⟨by first | rfl | (simp [errW_none, errW_some] <;> rfl) | (simp [*, errW_none, errW_some] <;> rfl), by repeat (first | exact bw HB.out | refine below_set ?_ GE101.out | refine below_set ?_ GE104.out)⟩
           ·rw [if_neg c55] at H
            have c55b0 : (((rd_T33 l0_1 x4_2).f1) == 6) = false := beq_eq_false_iff_ne.mpr c55
            have c55b1 : (((rd_T33 l0_1 x4_2).f1) != 6) = true := bne_iff_ne.mpr c55
            have H' := Aside0.mk H
            clear H
            have hnb66 := NB104_101.out
            have hnc66 := NB101_104.out
            obtain ⟨hcz67_0, hcz67_1, hcz67_2, hcz67_3, hcz67_4, hcz67_5, hcz67_6, hfz67_0, hfz67_1, hfz67_2, hfz67_3, hfz67_4, hfz67_5, hfz67_6⟩ := cells7 BK104.out
            go_wp2
            go_roundg kj13
            case measure => have := HJ1.out; have := HK2.out; have := HJ13.out; omega
            case rel => exact ⟨(x3_2), (wrap64 (x4_2 + 1)), (by first | rfl | (simp; done) | (simp [*]; done)), (by first | rfl | (simp; done) | (simp [*]; done)), H', ⟨by have := HJ1.out; have := HK2.out; have := HJ13.out; omega⟩, ⟨bk BK101.out⟩, ⟨by repeat (first | exact bw HB.out | refine below_set ?_ GE101.out | refine below_set ?_ GE104.out)⟩⟩
       ·rw [if_neg c13] at H
        exact absurd H (by simp)
      ·rw [if_neg c12] at H
       have c12b0 : decide (x4_2 < (l0_1.length : Int)) = false := decide_eq_false c12
       clear c12
       obtain rfl := Option.some.inj H
       obtain ⟨hcz68_0, hcz68_1, hfz68_0, hfz68_1⟩ := cells2 BK101.out
       go_wp2
       go_ret
       exact ⟨by first | rfl | (simp [errW_none, errW_some] <;> rfl) | (simp [*, errW_none, errW_some] <;> rfl), by repeat (first | exact bw HB.out | refine below_set ?_ GE101.out)⟩


/-! ### laws_toByteS: function 26 -/
def laws_toByteS.l0 : Nat → List Int → List Int → Int → Option (List Int)
 | 0, _, _, _ => none
 | k + 1, x0, x3, x4 => if x4 < (x0.length : Int) then (if 0 ≤ x4 then (if x4 < (x3.length : Int) then (laws_toByteS.l0 k x0 (x3.set (x4 : Int).toNat (rd x0 x4)) (wrap64 (x4 + 1))) else (none)) else (none)) else (some x3)
def laws_toByteS.f (k : Nat) (l0 : List Int) : Option (List Int) := if 0 ≤ (l0.length : Int) then (if ((l0.length : Int) : Int).toNat ≤ 281474976710656 then (laws_toByteS.l0 k l0 (List.replicate ((l0.length : Int) : Int).toNat 0) 0) else (none)) else (none)
set_option maxHeartbeats 8000000 in
set_option maxRecDepth 100000 in
theorem laws_toByteS.calls (k : Nat) (A0 : Option Addr) (c0 : Nat) (l0 : List Int) (r : List Int) (w : World) (hr0 : Kd.C (Kd.int .u8) w A0 l0.length l0) (hc0 : l0.length ≤ c0) (h : laws_toByteS.f k l0 = some r) :
  Calls Try.prog 26 #[.slice A0 l0.length c0] w fun e w' => ∃ v0_ : Value, e = .returned (v0_) ∧ Kd.R (Kd.int .u8) 5 w' w.heap.size (fun _ => True) v0_ r ∧ Below w.heap.size w w' := by
 have HR0 := Aside0.mk hr0
 have HC0 := Aside0.mk hc0
 clear hr0 hc0
 have HB := Aside0.mk (Below.refl w.heap.size w)
 have H : (if 0 ≤ (l0.length : Int) then (if ((l0.length : Int) : Int).toNat ≤ 281474976710656 then (laws_toByteS.l0 k l0 (List.replicate ((l0.length : Int) : Int).toNat 0) 0) else (none)) else (none)) = some r := h
 clear h
 by_cases c2 : 0 ≤ (l0.length : Int)
 ·rw [if_pos c2] at H
  have c2b0 := eq_true c2
  have c2b1 : decide (0 ≤ (l0.length : Int)) = true := decide_eq_true c2
  clear c2
  by_cases c3 : ((l0.length : Int) : Int).toNat ≤ 281474976710656
  ·rw [if_pos c3] at H
   have c3b0 := eq_true c3
   have c3b1 : decide (((l0.length : Int) : Int).toNat ≤ 281474976710656) = true := decide_eq_true c3
   clear c3
   obtain ⟨y101, hy101⟩ : ∃ y_ : List Int, y_ = (List.replicate ((l0.length : Int) : Int).toNat 0) := ⟨_, rfl⟩
   replace H : (laws_toByteS.l0 k l0 y101 0) = some r := by first | (rw [hy101]; with_reducible exact H) | (have H2_ := (Option.bind_some _ _).symm.trans H; rw [hy101]; with_reducible exact H2_) | (have H2_ := (Option.bind_some _ _).symm.trans H; with_reducible exact H2_) | with_reducible exact H | (rw [hy101]; exact H) | exact H
   have Ny101 := Aside0.mk hy101
   clear hy101
   have H' := Aside0.mk H
   clear H
   go_enter Try.func26, Try.ntmps26
   go_wp2_with (first | ((with_reducible refine gate_dst (N := 7) rfl ?_); refine Kd.R_make (Kd.int .u8) _ 5 rfl (N := 7) rfl 25 _ _ rfl (l0.length : Int) rfl rfl Try.underlying25 (.int .u8 0) 1 info5 rfl (by decide) (by omega) 0 (ok := fun _ => True) (okp := fun _ => True) rfl (fun _ hk => hk) trivial (of_decide_eq_true (by first | (with_reducible assumption) | assumption)) (Nat.le_trans (Nat.mul_le_mul_right _ (of_decide_eq_true (by first | (with_reducible assumption) | assumption) : (l0.length : Int).toNat ≤ 281474976710656)) (by omega)) (Below.refl _ _) (Nat.le_refl _) ?_; intro v102 w4 ho5 hb hg_ hnew_; clear hg_ hnew_; (first | rw [← Ny101.out] at ho5 | (simp only [Int.reduceToNat] at ho5; rw [← Ny101.out] at ho5)); have HO103 := Aside0.mk (Kd.R_lower ho5 (below_size (bw HB.out))); replace HB := Aside0.mk (below_step (bw HB.out) hb); clear hb ho5))
   go_loopg [4] k (fun kq v4 w' => ∃ (x3_1 : List Int) (x4_1 : Int), v4 = .int .i64 x4_1 ∧ Aside0 (laws_toByteS.l0 kq l0 x3_1 x4_1 = some r) ∧ Aside0 (kq ≤ k) ∧ Aside0 (Kd.R (Kd.int .u8) 5 w' w.heap.size (fun _ => True) v102 x3_1) ∧ Aside0 (Below w.heap.size w w'))
   case atStart => exact ⟨(y101), (0), (by first | rfl | (simp; done) | (simp [*]; done)), H', ⟨Nat.le_refl _⟩, ⟨rw_ HO103.out⟩, ⟨bw HB.out⟩⟩
   case round =>
    clear H'
    try clear c2
    try clear c2b0
    try clear c2b1
    try clear p2
    try clear c3
    try clear c3b0
    try clear c3b1
    obtain ⟨x3_1, x4_1, rfl, HA, HK1, HO_3, HB⟩ := hrel
    cases gk with
    | zero => exact absurd HA.out (by simp [laws_toByteS.l0])
    | succ k1 =>
     have H := HA.out
     clear HA
     simp only [laws_toByteS.l0] at H
     by_cases c6 : x4_1 < (l0.length : Int)
     ·rw [if_pos c6] at H
      have c6b0 : decide (x4_1 < (l0.length : Int)) = true := decide_eq_true c6
      clear c6
      by_cases c7 : 0 ≤ x4_1
      ·rw [if_pos c7] at H
       have c7b0 : decide (0 ≤ x4_1) = true := decide_eq_true c7
       clear c7
       by_cases c8 : x4_1 < (x3_1.length : Int)
       ·rw [if_pos c8] at H
        have c8b0 : decide (x4_1 < (x3_1.length : Int)) = true := decide_eq_true c8
        clear c8
        obtain ⟨y105, hy105⟩ : ∃ y_ : List Int, y_ = (x3_1.set (x4_1 : Int).toNat (rd l0 x4_1)) := ⟨_, rfl⟩
        replace H : (laws_toByteS.l0 k1 l0 y105 (wrap64 (x4_1 + 1))) = some r := by first | (rw [hy105]; with_reducible exact H) | (have H2_ := (Option.bind_some _ _).symm.trans H; rw [hy105]; with_reducible exact H2_) | (have H2_ := (Option.bind_some _ _).symm.trans H; with_reducible exact H2_) | with_reducible exact H | (rw [hy105]; exact H) | exact H
        have Ny105 := Aside0.mk hy105
        clear hy105
        have H' := Aside0.mk H
        clear H
        have p104 : 0 ≤ (x4_1 : Int) := of_decide_eq_true (by first | (with_reducible assumption) | assumption)
        have q104 : x4_1 < (l0.length : Int) := of_decide_eq_true (by first | (with_reducible assumption) | assumption)
        obtain ⟨ad104, e104, hx104_0⟩ := Kd.at_int HR0.out x4_1 p104 q104
        cases e104
        replace hx104_0 := (HB.out.cell (World.block_lt_of_cell? w _ hx104_0)).trans hx104_0
        replace p104 := eq_true p104
        replace q104 := eq_true q104
        have p9 : 0 ≤ (x4_1 : Int) := of_decide_eq_true (by first | (with_reducible assumption) | assumption)
        have q9 : (x4_1 : Int) < ((x3_1.length : Int) : Int) := of_decide_eq_true (by first | (with_reducible assumption) | assumption)
        obtain ⟨go9, co9, eo9, gb9, gl9, cl9, HG9⟩ := Kd.R_form HO_3.out (by omega)
        (first | cases eo9 | (injection eo9 with ea_ en_ ec_; (first | subst ea_ | (injection ea_ with ea_; subst ea_)); subst ec_; clear en_))
        have GB9 := Aside0.mk gb9
        have GG9 := Aside0.mk HG9
        clear gb9 gl9 HG9
        obtain ⟨hx9_0, hf9_0⟩ := Kd.R_celln 0 HO_3.out (x4_1 : Int) p9 q9
        replace p9 := eq_true p9
        replace q9 := eq_true q9
        have HP10 := Kd.R_putg HO_3.out (x4_1 : Int) (rd l0 x4_1)
        go_wp2_with (first | ((with_reducible refine gate_store (t := 5) (p := 20) rfl ?_); refine store_event (t := 5) (p := 20) (v := ?vo_w11) (w1 := (wr.setCell ⟨go9, (x4_1 : Int).toNat, none⟩ (.int .u8 (rd l0 x4_1)))) ?hg ?ho ?hn ?hr ?_; (case ho => rfl); (case hg => rfl); (case hn => rfl); (case hr => first | (go_simp; done) | (go_simp; rfl)); intro w11 hw; have hg : wr.grownBy w11 (some go9) := (by rw [hw]; exact HP10.2); have hp_ : Kd.R (Kd.int .u8) 5 w11 w.heap.size (fun _ => True) (.slice (some ⟨go9, 0, none⟩) x3_1.length co9) y105 := (by rw [hw, Ny105.out]; exact HP10.1); clear HP10; replace HO_3 := Aside0.mk (hp_); replace HB := Aside0.mk ((by rw [hw]; exact below_set (HB.out) GB9.out : Below w.heap.size w w11)); clear hg hw hp_))
        go_roundg k1
        case measure => have := HK1.out; omega
        case rel => exact ⟨(y105), (wrap64 (x4_1 + 1)), (by first | rfl | (simp; done) | (simp [*]; done)), H', ⟨by have := HK1.out; omega⟩, ⟨rw_ HO_3.out⟩, ⟨bw HB.out⟩⟩
       ·rw [if_neg c8] at H
        exact absurd H (by simp)
      ·rw [if_neg c7] at H
       exact absurd H (by simp)
     ·rw [if_neg c6] at H
      have c6b0 : decide (x4_1 < (l0.length : Int)) = false := decide_eq_false c6
      clear c6
      obtain rfl := Option.some.inj H
      go_wp2
      go_ret
      exact ⟨_, by first | rfl | (simp [errW_none, errW_some] <;> rfl) | (simp [*, errW_none, errW_some] <;> rfl), rw_ HO_3.out, bw HB.out⟩
  ·rw [if_neg c3] at H
   exact absurd H (by simp)
 ·rw [if_neg c2] at H
  exact absurd H (by simp)


/-! ### laws_toByteSS: function 107 -/
def laws_toByteSS.l0 : Nat → List (List Int) → List (List Int) → Int → Option ((List (List Int)))
 | 0, _, _, _ => none
 | k + 1, x0, x3, x4 => if x4 < (x0.length : Int) then (if 0 ≤ x4 then ((laws_toByteS.f k (rd_L10 x0 x4)).bind fun t105 => (if x4 < (x3.length : Int) then (laws_toByteSS.l0 k x0 (x3.set (x4 : Int).toNat t105) (wrap64 (x4 + 1))) else (none))) else (none)) else (some x3)
def laws_toByteSS.f (k : Nat) (l0 : List (List Int)) : Option ((List (List Int))) := if 0 ≤ (l0.length : Int) then (if ((l0.length : Int) : Int).toNat ≤ 11728124029610 then (laws_toByteSS.l0 k l0 (List.replicate ((l0.length : Int) : Int).toNat []) 0) else (none)) else (none)
set_option maxHeartbeats 8000000 in
set_option maxRecDepth 100000 in
theorem laws_toByteSS.calls (k : Nat) (A0 : Option Addr) (c0 : Nat) (l0 : List (List Int)) (r : List (List Int)) (w : World) (hr0 : Kd.C (Kd.slice 5 (Kd.int .u8)) w A0 l0.length l0) (hc0 : l0.length ≤ c0) (h : laws_toByteSS.f k l0 = some r) :
  Calls Try.prog 107 #[.slice A0 l0.length c0] w fun e w' => ∃ v0_ : Value, e = .returned (v0_) ∧ Kd.S (Kd.slice 5 (Kd.int .u8)) 25 w' w.heap.size (fun _ => True) v0_ r ∧ Below w.heap.size w w' := by
 have HR0 := Aside0.mk hr0
 have HC0 := Aside0.mk hc0
 clear hr0 hc0
 have HB := Aside0.mk (Below.refl w.heap.size w)
 have H : (if 0 ≤ (l0.length : Int) then (if ((l0.length : Int) : Int).toNat ≤ 11728124029610 then (laws_toByteSS.l0 k l0 (List.replicate ((l0.length : Int) : Int).toNat []) 0) else (none)) else (none)) = some r := h
 clear h
 by_cases c2 : 0 ≤ (l0.length : Int)
 ·rw [if_pos c2] at H
  have c2b0 := eq_true c2
  have c2b1 : decide (0 ≤ (l0.length : Int)) = true := decide_eq_true c2
  clear c2
  by_cases c3 : ((l0.length : Int) : Int).toNat ≤ 11728124029610
  ·rw [if_pos c3] at H
   have c3b0 := eq_true c3
   have c3b1 : decide (((l0.length : Int) : Int).toNat ≤ 11728124029610) = true := decide_eq_true c3
   clear c3
   obtain ⟨y101, hy101⟩ : ∃ y_ : List (List Int), y_ = (List.replicate ((l0.length : Int) : Int).toNat []) := ⟨_, rfl⟩
   replace H : (laws_toByteSS.l0 k l0 y101 0) = some r := by first | (rw [hy101]; with_reducible exact H) | (have H2_ := (Option.bind_some _ _).symm.trans H; rw [hy101]; with_reducible exact H2_) | (have H2_ := (Option.bind_some _ _).symm.trans H; with_reducible exact H2_) | with_reducible exact H | (rw [hy101]; exact H) | exact H
   have Ny101 := Aside0.mk hy101
   clear hy101
   have H' := Aside0.mk H
   clear H
   go_enter Try.func107, Try.ntmps107
   go_wp2_with (first | ((with_reducible refine gate_dst (N := 7) rfl ?_); refine Kd.S_make (Kd.slice 5 (Kd.int .u8)) _ 25 rfl (N := 7) rfl 22 _ _ rfl (l0.length : Int) rfl rfl Try.underlying22 (.slice none 0 0) 24 info25 rfl (by decide) (by omega) [] (ok := fun _ => True) (okp := fun _ => True) ⟨_, rfl, Kd.R_nil _ _ _ _ _⟩ (fun _ hk => hk) trivial (of_decide_eq_true (by first | (with_reducible assumption) | assumption)) (Nat.le_trans (Nat.mul_le_mul_right _ (of_decide_eq_true (by first | (with_reducible assumption) | assumption) : (l0.length : Int).toNat ≤ 11728124029610)) (by omega)) (Below.refl _ _) (Nat.le_refl _) ?_; intro v102 w4 ho5 hb hg_ hnew_; clear hg_ hnew_; (first | rw [← Ny101.out] at ho5 | (simp only [Int.reduceToNat] at ho5; rw [← Ny101.out] at ho5)); have HO103 := Aside0.mk (Kd.S_lower ho5 (below_size (bw HB.out))); replace HB := Aside0.mk (below_step (bw HB.out) hb); clear hb ho5))
   go_loopg [4] k (fun kq v4 w' => ∃ (x3_1 : List (List Int)) (x4_1 : Int), v4 = .int .i64 x4_1 ∧ Aside0 (laws_toByteSS.l0 kq l0 x3_1 x4_1 = some r) ∧ Aside0 (kq ≤ k) ∧ Aside0 (Kd.S (Kd.slice 5 (Kd.int .u8)) 25 w' w.heap.size (fun _ => True) v102 x3_1) ∧ Aside0 (Below w.heap.size w w'))
   case atStart => exact ⟨(y101), (0), (by first | rfl | (simp; done) | (simp [*]; done)), H', ⟨Nat.le_refl _⟩, ⟨sw HO103.out⟩, ⟨bw HB.out⟩⟩
   case round =>
    clear H'
    try clear c1
    try clear c2
    try clear c2b0
    try clear c2b1
    try clear p2
    try clear c3
    try clear c3b0
    try clear c3b1
    obtain ⟨x3_1, x4_1, rfl, HA, HK1, HO_3, HB⟩ := hrel
    cases gk with
    | zero => exact absurd HA.out (by simp [laws_toByteSS.l0])
    | succ k1 =>
     have H := HA.out
     clear HA
     simp only [laws_toByteSS.l0] at H
     by_cases c6 : x4_1 < (l0.length : Int)
     ·rw [if_pos c6] at H
      have c6b0 : decide (x4_1 < (l0.length : Int)) = true := decide_eq_true c6
      clear c6
      by_cases c7 : 0 ≤ x4_1
      ·rw [if_pos c7] at H
       have c7b0 : decide (0 ≤ x4_1) = true := decide_eq_true c7
       clear c7
       replace H := Option.bind_eq_some_iff.mp H
       obtain ⟨t105, A80, H⟩ := H
       replace H : (if x4_1 < (x3_1.length : Int) then (laws_toByteSS.l0 k1 l0 (x3_1.set (x4_1 : Int).toNat t105) (wrap64 (x4_1 + 1))) else (none)) = some r := H
       have A8 := Aside0.mk A80
       clear A80
       by_cases c9 : x4_1 < (x3_1.length : Int)
       ·rw [if_pos c9] at H
        have c9b0 : decide (x4_1 < (x3_1.length : Int)) = true := decide_eq_true c9
        clear c9
        obtain ⟨y108, hy108⟩ : ∃ y_ : List (List Int), y_ = (x3_1.set (x4_1 : Int).toNat t105) := ⟨_, rfl⟩
        replace H : (laws_toByteSS.l0 k1 l0 y108 (wrap64 (x4_1 + 1))) = some r := by first | (rw [hy108]; with_reducible exact H) | (have H2_ := (Option.bind_some _ _).symm.trans H; rw [hy108]; with_reducible exact H2_) | (have H2_ := (Option.bind_some _ _).symm.trans H; with_reducible exact H2_) | with_reducible exact H | (rw [hy108]; exact H) | exact H
        have Ny108 := Aside0.mk hy108
        clear hy108
        have H' := Aside0.mk H
        clear H
        have p104 : 0 ≤ (x4_1 : Int) := of_decide_eq_true (by first | (with_reducible assumption) | assumption)
        have q104 : x4_1 < (l0.length : Int) := of_decide_eq_true (by first | (with_reducible assumption) | assumption)
        obtain ⟨ad104, A104_0, c104_0, e104, hx104_0, hl104_0, hi104_0⟩ := at_L10 HR0.out x4_1 p104 q104
        cases e104
        replace hx104_0 := (HB.out.cell (World.block_lt_of_cell? w _ hx104_0)).trans hx104_0
        have HR104_0 := Aside0.mk hi104_0
        have HC104_0 := Aside0.mk hl104_0
        clear hi104_0 hl104_0
        replace p104 := eq_true p104
        replace q104 := eq_true q104
        go_wp2_with (first | ((with_reducible refine gate_callee (f := 26) rfl ?_); refine goesL_ (some 20) rfl rfl Try.func26 (by kernel_rfl) rfl #[.slice A104_0 (rd_L10 l0 x4_1).length c104_0] rfl (by (try simp only [List.map_toArray, List.map_cons, List.map_nil]); first | done | rfl | (simp only [List.length_drop, List.length_take]; rfl)) ?_; (with_reducible refine (laws_toByteS.calls k1 _ _ (rd_L10 l0 x4_1) t105 _ ?side1 ?side2 A8.out).mono ?_); (case side1 => exact cw HR104_0.out HB.out); (case side2 => exact HC104_0.out); rintro e w11 ⟨v106, rfl, ho0, hb⟩; refine ⟨_, rfl, ?_⟩; replace HO_3 := Aside0.mk (Kd.S_elder' (sw HO_3.out) (Kd.R_base ho0) hb); have HO107 := Aside0.mk (Kd.R_lower ho0 (below_size (bw HB.out))); replace HB := Aside0.mk (below_step (bw HB.out) hb); (try clear hb); (try clear ho0); have p10 : 0 ≤ (x4_1 : Int) := of_decide_eq_true (by first | (with_reducible assumption) | assumption); have q10 : (x4_1 : Int) < ((x3_1.length : Int) : Int) := of_decide_eq_true (by first | (with_reducible assumption) | assumption); obtain ⟨go10, co10, eo10, gb10, gl10, cl10, HG10⟩ := Kd.S_form HO_3.out (by omega); (first | cases eo10 | (injection eo10 with ea_ en_ ec_; (first | subst ea_ | (injection ea_ with ea_; subst ea_)); subst ec_; clear en_)); have GB10 := Aside0.mk gb10; have GG10 := Aside0.mk HG10; clear gb10 gl10 HG10; obtain ⟨_, ce10, hcl10, hM10, hcc10, hfr10, _, _⟩ := Kd.S_elem HO_3.out [] (x4_1 : Int) p10 q10; obtain ⟨ve10_0, rfl, ge10_0⟩ := hM10; have hx10_0 := hcc10 0 _ rfl; have hf10_0 := hfr10 0; (try simp only [show ((Kd.slice 5 (Kd.int .u8))).sz = 1 from rfl, Nat.mul_one, Nat.add_zero] at hx10_0); (try simp only [show ((Kd.slice 5 (Kd.int .u8))).sz = 1 from rfl, Nat.mul_one, Nat.add_zero] at hf10_0); (try clear hcl10); (try clear hcc10); (try clear hfr10); (try clear hM10); replace p10 := eq_true p10; replace q10 := eq_true q10; have n_ := Aside0.mk (Kd.S_mono (ok' := (fun k_ => some k_ ≠ (v106 : Value).ownBlock)) HO_3.out (fun k_ hk => hk.2)); clear HO_3; have HO_3 := n_; clear n_; have HX12 := Aside0.mk (show Kd.S (Kd.slice 5 (Kd.int .u8)) 25 w11 w.heap.size (fun k_ => ((fun _ => True)) k_ ∧ ¬ ((fun k_ => some k_ = (v106 : Value).ownBlock)) k_) (.slice (some ⟨go10, 0, none⟩) x3_1.length co10) x3_1 from (by (with_reducible repeat (first | apply Kd.S_alloc | apply Kd.S_drewN | apply Kd.S_drew)); exact Kd.S_mono HO_3.out (fun k_ hk => ⟨trivial, fun e_ => hk e_⟩))); obtain ⟨oki12, ce12, hcl12, hM12, hcc12, hfr12, hoki12, hH12⟩ := Kd.S_elem HX12.out [] (x4_1 : Int) (of_decide_eq_true (by first | (with_reducible assumption) | assumption)) (by have h_ : (x4_1 : Int) < ((x3_1.length : Int) : Int) := of_decide_eq_true (by first | (with_reducible assumption) | assumption); first | exact h_ | (have e_ := (Kd.S_reads' HO_3.out).1; omega) | simpa using h_); obtain ⟨ve12_0, rfl, ge12_0⟩ := hM12; have HP12 := Kd.S_seg hH12 (of_decide_eq_true (by first | (with_reducible assumption) | assumption)) (by have h_ : (x4_1 : Int) < ((x3_1.length : Int) : Int) := of_decide_eq_true (by first | (with_reducible assumption) | assumption); first | exact h_ | (have e_ := (Kd.S_reads' HO_3.out).1; omega) | simpa using h_) (seg := [v106]) (j := 0) (show 1 ≤ 1 from by decide) (x' := t105) (Kd.M_row (Kd.R_mono (Kd.R_tight rfl (Kd.R_mono (ok' := fun k_ => ((fun _ => True)) k_ ∧ k_ ≠ go10) (Kd.R_apart' (HO107.out) (Kd.S_typed HO_3.out) (by decide)) (fun k_ hk => ⟨trivial, fun e_ => (hk.2) (by rw [e_]; rfl)⟩))) (fun _ h_ => Or.inr (h_)))) (fun _ hk => hk) (fun k_ hk_ => ((Kd.R_mono (ok' := fun k_ => ((fun _ => True)) k_ ∧ k_ ≠ go10) (Kd.R_apart' (HO107.out) (Kd.S_typed HO_3.out) (by decide)) (fun k_ hk => ⟨trivial, fun e_ => (hk.2) (by rw [e_]; rfl)⟩))).1 k_ hk_.symm); have hx12_0 := hcc12 0 _ rfl; (try simp only [show ((Kd.slice 5 (Kd.int .u8))).sz = 1 from rfl, Nat.mul_one, Nat.add_zero] at hx12_0); have hf12_0 := hfr12 0; (try simp only [show ((Kd.slice 5 (Kd.int .u8))).sz = 1 from rfl, Nat.mul_one, Nat.add_zero] at hf12_0); (try clear hcl12); (try clear hcc12); (try clear hfr12); (try clear hM12); (try clear hoki12); (try clear hH12); (try simp only [show ((Kd.slice 5 (Kd.int .u8))).sz = 1 from rfl, Nat.mul_one, Nat.add_zero] at HP12)) | ((with_reducible refine gate_store (t := 25) (p := 21) rfl ?_); refine store_event (t := 25) (p := 21) (v := ?vo_w13) (w1 := (w11.setCell ⟨go10, (x4_1 : Int).toNat, none⟩ (v106))) ?hg ?ho ?hn ?hr ?_; (case ho => rfl); (case hg => rfl); (case hn => rfl); (case hr => first | (go_simp; done) | (go_simp; rfl) | ((first | (obtain ⟨A_, c_, e_⟩ := Kd.R_slice HO107.out; rw [e_]) | (obtain ⟨A_, c_, e_⟩ := Kd.S_slice HO107.out; rw [e_])); first | (go_simp; done) | (go_simp; rfl))); intro w13 hw; have hg : w11.grownBy w13 (some go10) := (by rw [hw]; exact HP12.2); have hp_ : Kd.S (Kd.slice 5 (Kd.int .u8)) 25 w13 w.heap.size (fun _ => True) (.slice (some ⟨go10, 0, none⟩) x3_1.length co10) y108 := (by rw [hw, Ny108.out]; exact HP12.1); clear HP12; replace HO_3 := Aside0.mk (hp_); replace HB := Aside0.mk ((by rw [hw]; exact below_set (HB.out) GB10.out : Below w.heap.size w w13)); clear HO107; clear hg hw hp_))
        go_roundg k1
        case measure => have := HK1.out; omega
        case rel => exact ⟨(y108), (wrap64 (x4_1 + 1)), (by first | rfl | (simp; done) | (simp [*]; done)), H', ⟨by have := HK1.out; omega⟩, ⟨sw HO_3.out⟩, ⟨bw HB.out⟩⟩
       ·rw [if_neg c9] at H
        exact absurd H (by simp)
      ·rw [if_neg c7] at H
       exact absurd H (by simp)
     ·rw [if_neg c6] at H
      have c6b0 : decide (x4_1 < (l0.length : Int)) = false := decide_eq_false c6
      clear c6
      obtain rfl := Option.some.inj H
      go_wp2
      go_ret
      exact ⟨_, by first | rfl | (simp [errW_none, errW_some] <;> rfl) | (simp [*, errW_none, errW_some] <;> rfl), sw HO_3.out, bw HB.out⟩
  ·rw [if_neg c3] at H
   exact absurd H (by simp)
 ·rw [if_neg c2] at H
  exact absurd H (by simp)


/-! ### laws_toName: function 41 -/
def laws_toName.f (k : Nat) (l0_0 : List (List Int)) : Option ((List (List Int))) := (laws_toByteSS.f k l0_0).bind fun t104 => (some t104)
set_option maxHeartbeats 8000000 in
set_option maxRecDepth 100000 in
theorem laws_toName.calls (k : Nat) (A0_0 : Option Addr) (c0_0 : Nat) (l0_0 : List (List Int)) (r : List (List Int)) (w : World) (hr0_0 : Kd.C (Kd.slice 5 (Kd.int .u8)) w A0_0 l0_0.length l0_0) (hc0_0 : l0_0.length ≤ c0_0) (h : laws_toName.f k l0_0 = some r) :
  Calls Try.prog 41 #[.agg #[.slice A0_0 l0_0.length c0_0]] w fun e w' => ∃ v0_ : Value, e = .returned (.agg #[v0_]) ∧ Kd.S (Kd.slice 5 (Kd.int .u8)) 25 w' w.heap.size (fun _ => True) v0_ r ∧ Below w.heap.size w w' := by
 have hu24 := Try.underlying24
 have hu31 := Try.underlying31
 have HR0_0 := Aside0.mk hr0_0
 have HC0_0 := Aside0.mk hc0_0
 clear hr0_0 hc0_0
 have HB := Aside0.mk (Below.refl w.heap.size w)
 have H : ((laws_toByteSS.f k l0_0).bind fun t104 => (some t104)) = some r := h
 clear h
 replace H := Option.bind_eq_some_iff.mp H
 obtain ⟨t104, A20, H⟩ := H
 replace H : (some t104) = some r := H
 have A2 := Aside0.mk A20
 clear A20
 obtain rfl := Option.some.inj H
 go_enter Try.func41, Try.ntmps41
 go_wp2_with (first | ((with_reducible refine gate_dst (N := 1) rfl ?_); refine boxed (N := 1) rfl rfl (cs := #[.slice A0_0 l0_0.length c0_0]) (t := 24) HB.out (by first | (go_simp; done) | (go_simp; rfl)) ?_; clear HB; intro gb101 w3 hg HB BK101 GE101 hb; have GW101 := GE101; clear hb hg) | ((with_reducible refine gate_dst (N := 2) rfl ?_); refine box_event ?hg (N := 2) ?hd (cs := #[.slice none 0 0]) (t := 31) ?hr ?_; (case hd => rfl); (case hg => rfl); (case hr => first | (go_simp; done) | (go_simp; rfl)); intro gb102 hg w4 hbox hb; have BK102 := Aside0.mk (hbox); have GW102 := Aside0.mk ((by rw [hg]; exact (below_size (by repeat (first | exact bw HB.out | refine below_set ?_ GE101.out))) : w.heap.size ≤ gb102)); have GE102 := Aside0.mk ((by rw [hg]; exact (below_size (by repeat (first | exact bw HB.out | refine below_set ?_ GE101.out))) : w.heap.size ≤ gb102)); replace HB := Aside0.mk (below_step (by repeat (first | exact bw HB.out | refine below_set ?_ GE101.out)) hb); have NB101_102 := Aside0.mk ((by rw [hg]; exact Nat.ne_of_lt (blk_lt (bk BK101.out)) : gb101 ≠ gb102)); have NB102_101 := Aside0.mk ((by rw [hg]; exact Nat.ne_of_gt (blk_lt (bk BK101.out)) : gb102 ≠ gb101)); replace BK101 := Aside0.mk (blk_below (bk BK101.out) hb); clear hb hbox hg) | ((with_reducible refine gate_dst (N := 3) rfl ?_); refine box_event ?hg (N := 3) ?hd (cs := #[.slice none 0 0]) (t := 31) ?hr ?_; (case hd => rfl); (case hg => rfl); (case hr => first | (go_simp; done) | (go_simp; rfl)); intro gb103 hg w5 hbox hb; have BK103 := Aside0.mk (hbox); have GW103 := Aside0.mk ((by rw [hg]; exact (below_size (by repeat (first | exact bw HB.out | refine below_set ?_ GE101.out | refine below_set ?_ GE102.out))) : w.heap.size ≤ gb103)); have GE103 := Aside0.mk ((by rw [hg]; exact (below_size (by repeat (first | exact bw HB.out | refine below_set ?_ GE101.out | refine below_set ?_ GE102.out))) : w.heap.size ≤ gb103)); replace HB := Aside0.mk (below_step (by repeat (first | exact bw HB.out | refine below_set ?_ GE101.out | refine below_set ?_ GE102.out)) hb); have NB101_103 := Aside0.mk ((by rw [hg]; exact Nat.ne_of_lt (blk_lt (bk BK101.out)) : gb101 ≠ gb103)); have NB103_101 := Aside0.mk ((by rw [hg]; exact Nat.ne_of_gt (blk_lt (bk BK101.out)) : gb103 ≠ gb101)); replace BK101 := Aside0.mk (blk_below (bk BK101.out) hb); have NB102_103 := Aside0.mk ((by rw [hg]; exact Nat.ne_of_lt (blk_lt (bk BK102.out)) : gb102 ≠ gb103)); have NB103_102 := Aside0.mk ((by rw [hg]; exact Nat.ne_of_gt (blk_lt (bk BK102.out)) : gb103 ≠ gb102)); replace BK102 := Aside0.mk (blk_below (bk BK102.out) hb); clear hb hbox hg; have hnb6 := NB101_102.out; have hnc6 := NB102_101.out; have hnb7 := NB101_103.out; have hnc7 := NB103_101.out; obtain ⟨hcz8_0, hfz8_0⟩ := cells1 BK101.out) | ((with_reducible refine gate_callee (f := 107) rfl ?_); refine goesL_ (some 6) rfl rfl Try.func107 (by kernel_rfl) rfl #[.slice A0_0 l0_0.length c0_0] rfl (by (try simp only [List.map_toArray, List.map_cons, List.map_nil]); first | done | rfl | (simp only [List.length_drop, List.length_take]; rfl)) ?_; (with_reducible refine (laws_toByteSS.calls k _ _ l0_0 t104 _ ?side1 ?side2 A2.out).mono ?_); (case side1 => exact cw HR0_0.out HB.out); (case side2 => exact HC0_0.out); rintro e w9 ⟨v105, rfl, ho0, hb⟩; refine ⟨_, rfl, ?_⟩; have HO106 := Aside0.mk (Kd.S_lower ho0 (below_size (by repeat (first | exact bw HB.out | refine below_set ?_ GE101.out | refine below_set ?_ GE102.out | refine below_set ?_ GE103.out)))); replace BK101 := Aside0.mk (blk_below (bk BK101.out) hb); replace BK102 := Aside0.mk (blk_below (bk BK102.out) hb); replace BK103 := Aside0.mk (blk_below (bk BK103.out) hb); replace HB := Aside0.mk (below_step (by repeat (first | exact bw HB.out | refine below_set ?_ GE101.out | refine below_set ?_ GE102.out | refine below_set ?_ GE103.out)) hb); (try clear hb); (try clear ho0); obtain ⟨Ao10, co10, eo10⟩ := Kd.S_slice HO106.out; subst eo10; have hnb11 := NB103_102.out; have hnc11 := NB102_103.out; obtain ⟨hcz12_0, hfz12_0⟩ := cells1 BK103.out; obtain ⟨hcz13_0, hfz13_0⟩ := cells1 BK102.out))
 refine bodyPost_ret (results_cell_row rfl _ _ gb102 31 #[.slice Ao10 t104.length co10] (0, 0) _ rfl (by (with_reducible repeat (first | refine blk_drewN ?_ _ | refine blk_drew ?_ | refine blk_alloc ?_ _)); refine blk_put (cs := #[.slice none 0 0]) ?_ 0 _ rfl; (with_reducible repeat (first | refine blk_drewN ?_ _ | refine blk_drew ?_ | refine blk_alloc ?_ _)); refine blk_far ?_ NB102_103.out _; (with_reducible repeat (first | refine blk_drewN ?_ _ | refine blk_drew ?_ | refine blk_alloc ?_ _)); exact BK102.out) Try.underlying31 rfl (by kernel_rfl)) rfl ?_
 exact ⟨_, by first | rfl | (simp [errW_none, errW_some] <;> rfl) | (simp [*, errW_none, errW_some] <;> rfl), by (with_reducible repeat (first | apply Kd.S_alloc | apply Kd.S_drewN | apply Kd.S_drew)); exact Kd.S_mono (Kd.S_far (p := ⟨gb102, 0, none⟩) (Kd.S_far (p := ⟨gb103, 0, none⟩) (Kd.S_types (Kd.S_types HO106.out BK103.out (by decide)) BK102.out (by decide)) (fun _ hk => hk.1.2) (.slice Ao10 t104.length co10)) (fun _ hk => hk.2) (.slice Ao10 t104.length co10)) (fun _ hk => trivial), by repeat (first | exact bw HB.out | refine below_set ?_ GE101.out | refine below_set ?_ GE102.out | refine below_set ?_ GE103.out)⟩


/-! ### laws_toIntS: function 62 -/
def laws_toIntS.l0 : Nat → List Int → List Int → Int → Option (List Int)
 | 0, _, _, _ => none
 | k + 1, x0, x3, x4 => if x4 < (x0.length : Int) then (if 0 ≤ x4 then (if x4 < (x3.length : Int) then (laws_toIntS.l0 k x0 (x3.set (x4 : Int).toNat (rd x0 x4)) (wrap64 (x4 + 1))) else (none)) else (none)) else (some x3)
def laws_toIntS.f (k : Nat) (l0 : List Int) : Option (List Int) := if 0 ≤ (l0.length : Int) then (if ((l0.length : Int) : Int).toNat ≤ 35184372088832 then (laws_toIntS.l0 k l0 (List.replicate ((l0.length : Int) : Int).toNat 0) 0) else (none)) else (none)
set_option maxHeartbeats 8000000 in
set_option maxRecDepth 100000 in
theorem laws_toIntS.calls (k : Nat) (A0 : Option Addr) (c0 : Nat) (l0 : List Int) (r : List Int) (w : World) (hr0 : Kd.C (Kd.int .i64) w A0 l0.length l0) (hc0 : l0.length ≤ c0) (h : laws_toIntS.f k l0 = some r) :
  Calls Try.prog 62 #[.slice A0 l0.length c0] w fun e w' => ∃ v0_ : Value, e = .returned (v0_) ∧ Kd.R (Kd.int .i64) 3 w' w.heap.size (fun _ => True) v0_ r ∧ Below w.heap.size w w' := by
 have HR0 := Aside0.mk hr0
 have HC0 := Aside0.mk hc0
 clear hr0 hc0
 have HB := Aside0.mk (Below.refl w.heap.size w)
 have H : (if 0 ≤ (l0.length : Int) then (if ((l0.length : Int) : Int).toNat ≤ 35184372088832 then (laws_toIntS.l0 k l0 (List.replicate ((l0.length : Int) : Int).toNat 0) 0) else (none)) else (none)) = some r := h
 clear h
 by_cases c2 : 0 ≤ (l0.length : Int)
 ·rw [if_pos c2] at H
  have c2b0 := eq_true c2
  have c2b1 : decide (0 ≤ (l0.length : Int)) = true := decide_eq_true c2
  clear c2
  by_cases c3 : ((l0.length : Int) : Int).toNat ≤ 35184372088832
  ·rw [if_pos c3] at H
   have c3b0 := eq_true c3
   have c3b1 : decide (((l0.length : Int) : Int).toNat ≤ 35184372088832) = true := decide_eq_true c3
   clear c3
   obtain ⟨y101, hy101⟩ : ∃ y_ : List Int, y_ = (List.replicate ((l0.length : Int) : Int).toNat 0) := ⟨_, rfl⟩
   replace H : (laws_toIntS.l0 k l0 y101 0) = some r := by first | (rw [hy101]; with_reducible exact H) | (have H2_ := (Option.bind_some _ _).symm.trans H; rw [hy101]; with_reducible exact H2_) | (have H2_ := (Option.bind_some _ _).symm.trans H; with_reducible exact H2_) | with_reducible exact H | (rw [hy101]; exact H) | exact H
   have Ny101 := Aside0.mk hy101
   clear hy101
   have H' := Aside0.mk H
   clear H
   go_enter Try.func62, Try.ntmps62
   go_wp2_with (first | ((with_reducible refine gate_dst (N := 7) rfl ?_); refine Kd.R_make (Kd.int .i64) _ 3 rfl (N := 7) rfl 26 _ _ rfl (l0.length : Int) rfl rfl Try.underlying26 (.int .i64 0) 8 info3 rfl (by decide) (by omega) 0 (ok := fun _ => True) (okp := fun _ => True) rfl (fun _ hk => hk) trivial (of_decide_eq_true (by first | (with_reducible assumption) | assumption)) (Nat.le_trans (Nat.mul_le_mul_right _ (of_decide_eq_true (by first | (with_reducible assumption) | assumption) : (l0.length : Int).toNat ≤ 35184372088832)) (by omega)) (Below.refl _ _) (Nat.le_refl _) ?_; intro v102 w4 ho5 hb hg_ hnew_; clear hg_ hnew_; (first | rw [← Ny101.out] at ho5 | (simp only [Int.reduceToNat] at ho5; rw [← Ny101.out] at ho5)); have HO103 := Aside0.mk (Kd.R_lower ho5 (below_size (bw HB.out))); replace HB := Aside0.mk (below_step (bw HB.out) hb); clear hb ho5))
   go_loopg [4] k (fun kq v4 w' => ∃ (x3_1 : List Int) (x4_1 : Int), v4 = .int .i64 x4_1 ∧ Aside0 (laws_toIntS.l0 kq l0 x3_1 x4_1 = some r) ∧ Aside0 (kq ≤ k) ∧ Aside0 (Kd.R (Kd.int .i64) 3 w' w.heap.size (fun _ => True) v102 x3_1) ∧ Aside0 (Below w.heap.size w w'))
   case atStart => exact ⟨(y101), (0), (by first | rfl | (simp; done) | (simp [*]; done)), H', ⟨Nat.le_refl _⟩, ⟨rw_ HO103.out⟩, ⟨bw HB.out⟩⟩
   case round =>
    clear H'
    try clear c2
    try clear c2b0
    try clear c2b1
    try clear p2
    try clear c3
    try clear c3b0
    try clear c3b1
    obtain ⟨x3_1, x4_1, rfl, HA, HK1, HO_3, HB⟩ := hrel
    cases gk with
    | zero => exact absurd HA.out (by simp [laws_toIntS.l0])
    | succ k1 =>
     have H := HA.out
     clear HA
     simp only [laws_toIntS.l0] at H
     by_cases c6 : x4_1 < (l0.length : Int)
     ·rw [if_pos c6] at H
      have c6b0 : decide (x4_1 < (l0.length : Int)) = true := decide_eq_true c6
      clear c6
      by_cases c7 : 0 ≤ x4_1
      ·rw [if_pos c7] at H
       have c7b0 : decide (0 ≤ x4_1) = true := decide_eq_true c7
       clear c7
       by_cases c8 : x4_1 < (x3_1.length : Int)
       ·rw [if_pos c8] at H
        have c8b0 : decide (x4_1 < (x3_1.length : Int)) = true := decide_eq_true c8
        clear c8
        obtain ⟨y105, hy105⟩ : ∃ y_ : List Int, y_ = (x3_1.set (x4_1 : Int).toNat (rd l0 x4_1)) := ⟨_, rfl⟩
        replace H : (laws_toIntS.l0 k1 l0 y105 (wrap64 (x4_1 + 1))) = some r := by first | (rw [hy105]; with_reducible exact H) | (have H2_ := (Option.bind_some _ _).symm.trans H; rw [hy105]; with_reducible exact H2_) | (have H2_ := (Option.bind_some _ _).symm.trans H; with_reducible exact H2_) | with_reducible exact H | (rw [hy105]; exact H) | exact H
        have Ny105 := Aside0.mk hy105
        clear hy105
        have H' := Aside0.mk H
        clear H
        have p104 : 0 ≤ (x4_1 : Int) := of_decide_eq_true (by first | (with_reducible assumption) | assumption)
        have q104 : x4_1 < (l0.length : Int) := of_decide_eq_true (by first | (with_reducible assumption) | assumption)
        obtain ⟨ad104, e104, hx104_0⟩ := Kd.at_int HR0.out x4_1 p104 q104
        cases e104
        replace hx104_0 := (HB.out.cell (World.block_lt_of_cell? w _ hx104_0)).trans hx104_0
        replace p104 := eq_true p104
        replace q104 := eq_true q104
        have p9 : 0 ≤ (x4_1 : Int) := of_decide_eq_true (by first | (with_reducible assumption) | assumption)
        have q9 : (x4_1 : Int) < ((x3_1.length : Int) : Int) := of_decide_eq_true (by first | (with_reducible assumption) | assumption)
        obtain ⟨go9, co9, eo9, gb9, gl9, cl9, HG9⟩ := Kd.R_form HO_3.out (by omega)
        (first | cases eo9 | (injection eo9 with ea_ en_ ec_; (first | subst ea_ | (injection ea_ with ea_; subst ea_)); subst ec_; clear en_))
        have GB9 := Aside0.mk gb9
        have GG9 := Aside0.mk HG9
        clear gb9 gl9 HG9
        obtain ⟨hx9_0, hf9_0⟩ := Kd.R_celln 0 HO_3.out (x4_1 : Int) p9 q9
        replace p9 := eq_true p9
        replace q9 := eq_true q9
        have HP10 := Kd.R_putg HO_3.out (x4_1 : Int) (rd l0 x4_1)
        go_wp2_with (first | ((with_reducible refine gate_store (t := 3) (p := 20) rfl ?_); refine store_event (t := 3) (p := 20) (v := ?vo_w11) (w1 := (wr.setCell ⟨go9, (x4_1 : Int).toNat, none⟩ (.int .i64 (rd l0 x4_1)))) ?hg ?ho ?hn ?hr ?_; (case ho => rfl); (case hg => rfl); (case hn => rfl); (case hr => first | (go_simp; done) | (go_simp; rfl)); intro w11 hw; have hg : wr.grownBy w11 (some go9) := (by rw [hw]; exact HP10.2); have hp_ : Kd.R (Kd.int .i64) 3 w11 w.heap.size (fun _ => True) (.slice (some ⟨go9, 0, none⟩) x3_1.length co9) y105 := (by rw [hw, Ny105.out]; exact HP10.1); clear HP10; replace HO_3 := Aside0.mk (hp_); replace HB := Aside0.mk ((by rw [hw]; exact below_set (HB.out) GB9.out : Below w.heap.size w w11)); clear hg hw hp_))
        go_roundg k1
        case measure => have := HK1.out; omega
        case rel => exact ⟨(y105), (wrap64 (x4_1 + 1)), (by first | rfl | (simp; done) | (simp [*]; done)), H', ⟨by have := HK1.out; omega⟩, ⟨rw_ HO_3.out⟩, ⟨bw HB.out⟩⟩
       ·rw [if_neg c8] at H
        exact absurd H (by simp)
      ·rw [if_neg c7] at H
       exact absurd H (by simp)
     ·rw [if_neg c6] at H
      have c6b0 : decide (x4_1 < (l0.length : Int)) = false := decide_eq_false c6
      clear c6
      obtain rfl := Option.some.inj H
      go_wp2
      go_ret
      exact ⟨_, by first | rfl | (simp [errW_none, errW_some] <;> rfl) | (simp [*, errW_none, errW_some] <;> rfl), rw_ HO_3.out, bw HB.out⟩
  ·rw [if_neg c3] at H
   exact absurd H (by simp)
 ·rw [if_neg c2] at H
  exact absurd H (by simp)


/-! ### laws_toRr: function 15 -/
def laws_toRr.f (k : Nat) (l0_0 : List (List Int)) (a0_1 : Int) (a0_2 : Int) (a0_3 : Int) (l0_4 : List (List Int)) (l0_5 : List Int) (l0_6 : List Int) : Option ((List (List Int)) × Int × Int × Int × (List (List Int)) × List Int × List Int) := (laws_toName.f k l0_0).bind fun t104 => ((laws_toName.f k l0_4).bind fun t107 => ((laws_toByteS.f k l0_5).bind fun t110 => ((laws_toIntS.f k l0_6).bind fun t113 => (some (t104, a0_1, a0_2, a0_3, t107, t110, t113)))))
set_option maxHeartbeats 8000000 in
set_option maxRecDepth 100000 in
theorem laws_toRr.calls (k : Nat) (A0_0 : Option Addr) (c0_0 : Nat) (l0_0 : List (List Int)) (a0_1 : Int) (a0_2 : Int) (a0_3 : Int) (A0_4 : Option Addr) (c0_4 : Nat) (l0_4 : List (List Int)) (A0_5 : Option Addr) (c0_5 : Nat) (l0_5 : List Int) (A0_6 : Option Addr) (c0_6 : Nat) (l0_6 : List Int) (r1 : List (List Int)) (r2 : Int) (r3 : Int) (r4 : Int) (r5 : List (List Int)) (r6 : List Int) (r7 : List Int) (w : World) (hr0_0 : Kd.C (Kd.slice 5 (Kd.int .u8)) w A0_0 l0_0.length l0_0) (hc0_0 : l0_0.length ≤ c0_0) (hr0_4 : Kd.C (Kd.slice 5 (Kd.int .u8)) w A0_4 l0_4.length l0_4) (hc0_4 : l0_4.length ≤ c0_4) (hr0_5 : Kd.C (Kd.int .u8) w A0_5 l0_5.length l0_5) (hc0_5 : l0_5.length ≤ c0_5) (hr0_6 : Kd.C (Kd.int .i64) w A0_6 l0_6.length l0_6) (hc0_6 : l0_6.length ≤ c0_6) (h : laws_toRr.f k l0_0 a0_1 a0_2 a0_3 l0_4 l0_5 l0_6 = some (r1, r2, r3, r4, r5, r6, r7)) :
  Calls Try.prog 15 #[.agg #[.slice A0_0 l0_0.length c0_0, .int .i64 a0_1, .int .i64 a0_2, .int .i64 a0_3, .slice A0_4 l0_4.length c0_4, .slice A0_5 l0_5.length c0_5, .slice A0_6 l0_6.length c0_6]] w fun e w' => ∃ v0_ v4_ v5_ v6_ : Value, e = .returned (.agg #[v0_, .int .i64 r2, .int .i64 r3, .int .i64 r4, v4_, v5_, v6_]) ∧ Kd.S (Kd.slice 5 (Kd.int .u8)) 25 w' w.heap.size (fun k_ => some k_ ≠ (v4_ : Value).ownBlock ∧ some k_ ≠ (v5_ : Value).ownBlock) v0_ r1 ∧ Kd.S (Kd.slice 5 (Kd.int .u8)) 25 w' w.heap.size (fun k_ => some k_ ≠ (v0_ : Value).ownBlock ∧ some k_ ≠ (v5_ : Value).ownBlock) v4_ r5 ∧ Kd.R (Kd.int .u8) 5 w' w.heap.size (fun _ => True) v5_ r6 ∧ Kd.R (Kd.int .i64) 3 w' w.heap.size (fun _ => True) v6_ r7 ∧ Below w.heap.size w w' := by
 have hu28 := Try.underlying28
 have hu33 := Try.underlying33
 have hu24 := Try.underlying24
 have hu31 := Try.underlying31
 have HR0_0 := Aside0.mk hr0_0
 have HC0_0 := Aside0.mk hc0_0
 clear hr0_0 hc0_0
 have HR0_4 := Aside0.mk hr0_4
 have HC0_4 := Aside0.mk hc0_4
 clear hr0_4 hc0_4
 have HR0_5 := Aside0.mk hr0_5
 have HC0_5 := Aside0.mk hc0_5
 clear hr0_5 hc0_5
 have HR0_6 := Aside0.mk hr0_6
 have HC0_6 := Aside0.mk hc0_6
 clear hr0_6 hc0_6
 have HB := Aside0.mk (Below.refl w.heap.size w)
 have H : ((laws_toName.f k l0_0).bind fun t104 => ((laws_toName.f k l0_4).bind fun t107 => ((laws_toByteS.f k l0_5).bind fun t110 => ((laws_toIntS.f k l0_6).bind fun t113 => (some (t104, a0_1, a0_2, a0_3, t107, t110, t113)))))) = some (r1, r2, r3, r4, r5, r6, r7) := h
 clear h
 replace H := Option.bind_eq_some_iff.mp H
 obtain ⟨t104, A20, H⟩ := H
 replace H : ((laws_toName.f k l0_4).bind fun t107 => ((laws_toByteS.f k l0_5).bind fun t110 => ((laws_toIntS.f k l0_6).bind fun t113 => (some (t104, a0_1, a0_2, a0_3, t107, t110, t113))))) = some (r1, r2, r3, r4, r5, r6, r7) := H
 have A2 := Aside0.mk A20
 clear A20
 replace H := Option.bind_eq_some_iff.mp H
 obtain ⟨t107, A30, H⟩ := H
 replace H : ((laws_toByteS.f k l0_5).bind fun t110 => ((laws_toIntS.f k l0_6).bind fun t113 => (some (t104, a0_1, a0_2, a0_3, t107, t110, t113)))) = some (r1, r2, r3, r4, r5, r6, r7) := H
 have A3 := Aside0.mk A30
 clear A30
 replace H := Option.bind_eq_some_iff.mp H
 obtain ⟨t110, A40, H⟩ := H
 replace H : ((laws_toIntS.f k l0_6).bind fun t113 => (some (t104, a0_1, a0_2, a0_3, t107, t110, t113))) = some (r1, r2, r3, r4, r5, r6, r7) := H
 have A4 := Aside0.mk A40
 clear A40
 replace H := Option.bind_eq_some_iff.mp H
 obtain ⟨t113, A50, H⟩ := H
 replace H : (some (t104, a0_1, a0_2, a0_3, t107, t110, t113)) = some (r1, r2, r3, r4, r5, r6, r7) := H
 have A5 := Aside0.mk A50
 clear A50
 simp only [Option.some.injEq, Prod.mk.injEq] at H
 obtain ⟨rfl, rfl, rfl, rfl, rfl, rfl, rfl⟩ := H
 go_enter Try.func15, Try.ntmps15
 go_wp2_with (first | ((with_reducible refine gate_dst (N := 1) rfl ?_); refine boxed (N := 1) rfl rfl (cs := #[.slice A0_0 l0_0.length c0_0, .int .i64 a0_1, .int .i64 a0_2, .int .i64 a0_3, .slice A0_4 l0_4.length c0_4, .slice A0_5 l0_5.length c0_5, .slice A0_6 l0_6.length c0_6]) (t := 28) HB.out (by first | (go_simp; done) | (go_simp; rfl)) ?_; clear HB; intro gb101 w6 hg HB BK101 GE101 hb; have GW101 := GE101; clear hb hg) | ((with_reducible refine gate_dst (N := 2) rfl ?_); refine box_event ?hg (N := 2) ?hd (cs := #[.slice none 0 0, .int .i64 0, .int .i64 0, .int .i64 0, .slice none 0 0, .slice none 0 0, .slice none 0 0]) (t := 33) ?hr ?_; (case hd => rfl); (case hg => rfl); (case hr => first | (go_simp; done) | (go_simp; rfl)); intro gb102 hg w7 hbox hb; have BK102 := Aside0.mk (hbox); have GW102 := Aside0.mk ((by rw [hg]; exact (below_size (by repeat (first | exact bw HB.out | refine below_set ?_ GE101.out))) : w.heap.size ≤ gb102)); have GE102 := Aside0.mk ((by rw [hg]; exact (below_size (by repeat (first | exact bw HB.out | refine below_set ?_ GE101.out))) : w.heap.size ≤ gb102)); replace HB := Aside0.mk (below_step (by repeat (first | exact bw HB.out | refine below_set ?_ GE101.out)) hb); have NB101_102 := Aside0.mk ((by rw [hg]; exact Nat.ne_of_lt (blk_lt (bk BK101.out)) : gb101 ≠ gb102)); have NB102_101 := Aside0.mk ((by rw [hg]; exact Nat.ne_of_gt (blk_lt (bk BK101.out)) : gb102 ≠ gb101)); replace BK101 := Aside0.mk (blk_below (bk BK101.out) hb); clear hb hbox hg) | ((with_reducible refine gate_dst (N := 3) rfl ?_); refine box_event ?hg (N := 3) ?hd (cs := #[.slice none 0 0, .int .i64 0, .int .i64 0, .int .i64 0, .slice none 0 0, .slice none 0 0, .slice none 0 0]) (t := 33) ?hr ?_; (case hd => rfl); (case hg => rfl); (case hr => first | (go_simp; done) | (go_simp; rfl)); intro gb103 hg w8 hbox hb; have BK103 := Aside0.mk (hbox); have GW103 := Aside0.mk ((by rw [hg]; exact (below_size (by repeat (first | exact bw HB.out | refine below_set ?_ GE101.out | refine below_set ?_ GE102.out))) : w.heap.size ≤ gb103)); have GE103 := Aside0.mk ((by rw [hg]; exact (below_size (by repeat (first | exact bw HB.out | refine below_set ?_ GE101.out | refine below_set ?_ GE102.out))) : w.heap.size ≤ gb103)); replace HB := Aside0.mk (below_step (by repeat (first | exact bw HB.out | refine below_set ?_ GE101.out | refine below_set ?_ GE102.out)) hb); have NB101_103 := Aside0.mk ((by rw [hg]; exact Nat.ne_of_lt (blk_lt (bk BK101.out)) : gb101 ≠ gb103)); have NB103_101 := Aside0.mk ((by rw [hg]; exact Nat.ne_of_gt (blk_lt (bk BK101.out)) : gb103 ≠ gb101)); replace BK101 := Aside0.mk (blk_below (bk BK101.out) hb); have NB102_103 := Aside0.mk ((by rw [hg]; exact Nat.ne_of_lt (blk_lt (bk BK102.out)) : gb102 ≠ gb103)); have NB103_102 := Aside0.mk ((by rw [hg]; exact Nat.ne_of_gt (blk_lt (bk BK102.out)) : gb103 ≠ gb102)); replace BK102 := Aside0.mk (blk_below (bk BK102.out) hb); clear hb hbox hg; have hnb9 := NB101_102.out; have hnc9 := NB102_101.out; have hnb10 := NB101_103.out; have hnc10 := NB103_101.out; obtain ⟨hcz11_0, hcz11_1, hcz11_2, hcz11_3, hcz11_4, hcz11_5, hcz11_6, hfz11_0, hfz11_1, hfz11_2, hfz11_3, hfz11_4, hfz11_5, hfz11_6⟩ := cells7 BK101.out) | ((with_reducible refine gate_callee (f := 41) rfl ?_); refine goesL_ (some 6) rfl rfl Try.func41 (by kernel_rfl) rfl #[.agg #[.slice A0_0 l0_0.length c0_0]] rfl (by (try simp only [List.map_toArray, List.map_cons, List.map_nil]); first | done | rfl | (simp only [List.length_drop, List.length_take]; rfl)) ?_; (with_reducible refine (laws_toName.calls k _ _ l0_0 t104 _ ?side1 ?side2 A2.out).mono ?_); (case side1 => exact cw HR0_0.out HB.out); (case side2 => exact HC0_0.out); rintro e w12 ⟨v105, rfl, ho0, hb⟩; refine ⟨_, rfl, ?_⟩; have HO106 := Aside0.mk (Kd.S_lower ho0 (below_size (by repeat (first | exact bw HB.out | refine below_set ?_ GE101.out | refine below_set ?_ GE102.out | refine below_set ?_ GE103.out)))); replace BK101 := Aside0.mk (blk_below (bk BK101.out) hb); replace BK102 := Aside0.mk (blk_below (bk BK102.out) hb); replace BK103 := Aside0.mk (blk_below (bk BK103.out) hb); replace HB := Aside0.mk (below_step (by repeat (first | exact bw HB.out | refine below_set ?_ GE101.out | refine below_set ?_ GE102.out | refine below_set ?_ GE103.out)) hb); (try clear hb); (try clear ho0); obtain ⟨Ao13, co13, eo13⟩ := Kd.S_slice HO106.out; subst eo13; have hnb14 := NB103_102.out; have hnc14 := NB102_103.out; obtain ⟨hcz15_0, hcz15_1, hcz15_2, hcz15_3, hcz15_4, hcz15_5, hcz15_6, hfz15_0, hfz15_1, hfz15_2, hfz15_3, hfz15_4, hfz15_5, hfz15_6⟩ := cells7 BK103.out; obtain ⟨hcz16_0, hcz16_1, hcz16_2, hcz16_3, hcz16_4, hcz16_5, hcz16_6, hfz16_0, hfz16_1, hfz16_2, hfz16_3, hfz16_4, hfz16_5, hfz16_6⟩ := cells7 BK101.out) | ((with_reducible refine gate_callee (f := 41) rfl ?_); refine goesL_ (some 19) rfl rfl Try.func41 (by kernel_rfl) rfl #[.agg #[.slice A0_4 l0_4.length c0_4]] rfl (by (try simp only [List.map_toArray, List.map_cons, List.map_nil]); first | done | rfl | (simp only [List.length_drop, List.length_take]; rfl)) ?_; (with_reducible refine (laws_toName.calls k _ _ l0_4 t107 _ ?side1 ?side2 A3.out).mono ?_); (case side1 => exact Kd.C_below HR0_4.out (by repeat (first | exact bw HB.out | refine below_set ?_ GE101.out | refine below_set ?_ GE102.out | refine below_set ?_ GE103.out))); (case side2 => exact HC0_4.out); rintro e w17 ⟨v108, rfl, ho0, hb⟩; refine ⟨_, rfl, ?_⟩; have HO109 := Aside0.mk (Kd.S_lower (Kd.S_new' ho0 (Kd.S_lt (by (with_reducible repeat (first | apply Kd.S_alloc | apply Kd.S_drewN | apply Kd.S_drew)); exact (Kd.S_mono (Kd.S_far (p := ⟨gb103, 3, none⟩) (Kd.S_far (p := ⟨gb103, 2, none⟩) (Kd.S_far (p := ⟨gb103, 1, none⟩) (Kd.S_far (p := ⟨gb103, 0, none⟩) (Kd.S_types HO106.out BK103.out (by decide)) (fun _ hk => hk.2) (.slice Ao13 t104.length co13)) (fun _ hk => hk.2) (.int .i64 a0_1)) (fun _ hk => hk.2) (.int .i64 a0_2)) (fun _ hk => hk.2) (.int .i64 a0_3)) (fun _ h_ => h_.1))))) (below_size (by repeat (first | exact bw HB.out | refine below_set ?_ GE101.out | refine below_set ?_ GE102.out | refine below_set ?_ GE103.out)))); replace HO106 := Aside0.mk (Kd.S_elder' (by (with_reducible repeat (first | apply Kd.S_alloc | apply Kd.S_drewN | apply Kd.S_drew)); exact (Kd.S_mono (Kd.S_far (p := ⟨gb103, 3, none⟩) (Kd.S_far (p := ⟨gb103, 2, none⟩) (Kd.S_far (p := ⟨gb103, 1, none⟩) (Kd.S_far (p := ⟨gb103, 0, none⟩) (Kd.S_types HO106.out BK103.out (by decide)) (fun _ hk => hk.2) (.slice Ao13 t104.length co13)) (fun _ hk => hk.2) (.int .i64 a0_1)) (fun _ hk => hk.2) (.int .i64 a0_2)) (fun _ hk => hk.2) (.int .i64 a0_3)) (fun _ h_ => h_.1))) (Kd.S_base ho0) hb); replace BK101 := Aside0.mk (blk_below (g := gb101) (o := .cells #[.slice A0_0 l0_0.length c0_0, .int .i64 a0_1, .int .i64 a0_2, .int .i64 a0_3, .slice A0_4 l0_4.length c0_4, .slice A0_5 l0_5.length c0_5, .slice A0_6 l0_6.length c0_6] 28 (0, 0)) (by (with_reducible repeat (first | refine blk_drewN ?_ _ | refine blk_drew ?_ | refine blk_alloc ?_ _)); refine blk_far ?_ NB101_103.out _; (with_reducible repeat (first | refine blk_drewN ?_ _ | refine blk_drew ?_ | refine blk_alloc ?_ _)); refine blk_far ?_ NB101_103.out _; (with_reducible repeat (first | refine blk_drewN ?_ _ | refine blk_drew ?_ | refine blk_alloc ?_ _)); refine blk_far ?_ NB101_103.out _; (with_reducible repeat (first | refine blk_drewN ?_ _ | refine blk_drew ?_ | refine blk_alloc ?_ _)); refine blk_far ?_ NB101_103.out _; (with_reducible repeat (first | refine blk_drewN ?_ _ | refine blk_drew ?_ | refine blk_alloc ?_ _)); exact BK101.out) hb); replace BK102 := Aside0.mk (blk_below (g := gb102) (o := .cells #[.slice none 0 0, .int .i64 0, .int .i64 0, .int .i64 0, .slice none 0 0, .slice none 0 0, .slice none 0 0] 33 (0, 0)) (by (with_reducible repeat (first | refine blk_drewN ?_ _ | refine blk_drew ?_ | refine blk_alloc ?_ _)); refine blk_far ?_ NB102_103.out _; (with_reducible repeat (first | refine blk_drewN ?_ _ | refine blk_drew ?_ | refine blk_alloc ?_ _)); refine blk_far ?_ NB102_103.out _; (with_reducible repeat (first | refine blk_drewN ?_ _ | refine blk_drew ?_ | refine blk_alloc ?_ _)); refine blk_far ?_ NB102_103.out _; (with_reducible repeat (first | refine blk_drewN ?_ _ | refine blk_drew ?_ | refine blk_alloc ?_ _)); refine blk_far ?_ NB102_103.out _; (with_reducible repeat (first | refine blk_drewN ?_ _ | refine blk_drew ?_ | refine blk_alloc ?_ _)); exact BK102.out) hb); replace BK103 := Aside0.mk (blk_below (g := gb103) (o := .cells #[.slice Ao13 t104.length co13, .int .i64 a0_1, .int .i64 a0_2, .int .i64 a0_3, .slice none 0 0, .slice none 0 0, .slice none 0 0] 33 (0, 0)) (by (with_reducible repeat (first | refine blk_drewN ?_ _ | refine blk_drew ?_ | refine blk_alloc ?_ _)); refine blk_put (cs := #[.slice Ao13 t104.length co13, .int .i64 a0_1, .int .i64 a0_2, .int .i64 0, .slice none 0 0, .slice none 0 0, .slice none 0 0]) ?_ 3 _ rfl; (with_reducible repeat (first | refine blk_drewN ?_ _ | refine blk_drew ?_ | refine blk_alloc ?_ _)); refine blk_put (cs := #[.slice Ao13 t104.length co13, .int .i64 a0_1, .int .i64 0, .int .i64 0, .slice none 0 0, .slice none 0 0, .slice none 0 0]) ?_ 2 _ rfl; (with_reducible repeat (first | refine blk_drewN ?_ _ | refine blk_drew ?_ | refine blk_alloc ?_ _)); refine blk_put (cs := #[.slice Ao13 t104.length co13, .int .i64 0, .int .i64 0, .int .i64 0, .slice none 0 0, .slice none 0 0, .slice none 0 0]) ?_ 1 _ rfl; (with_reducible repeat (first | refine blk_drewN ?_ _ | refine blk_drew ?_ | refine blk_alloc ?_ _)); refine blk_put (cs := #[.slice none 0 0, .int .i64 0, .int .i64 0, .int .i64 0, .slice none 0 0, .slice none 0 0, .slice none 0 0]) ?_ 0 _ rfl; (with_reducible repeat (first | refine blk_drewN ?_ _ | refine blk_drew ?_ | refine blk_alloc ?_ _)); exact BK103.out) hb); replace HB := Aside0.mk (below_step (by repeat (first | exact bw HB.out | refine below_set ?_ GE101.out | refine below_set ?_ GE102.out | refine below_set ?_ GE103.out)) hb); (try clear hb); (try clear ho0); obtain ⟨Ao18, co18, eo18⟩ := Kd.S_slice HO109.out; subst eo18; obtain ⟨hcz19_0, hcz19_1, hcz19_2, hcz19_3, hcz19_4, hcz19_5, hcz19_6, hfz19_0, hfz19_1, hfz19_2, hfz19_3, hfz19_4, hfz19_5, hfz19_6⟩ := cells7 BK103.out; obtain ⟨hcz20_0, hcz20_1, hcz20_2, hcz20_3, hcz20_4, hcz20_5, hcz20_6, hfz20_0, hfz20_1, hfz20_2, hfz20_3, hfz20_4, hfz20_5, hfz20_6⟩ := cells7 BK101.out) | ((with_reducible refine gate_callee (f := 26) rfl ?_); refine goesL_ (some 23) rfl rfl Try.func26 (by kernel_rfl) rfl #[.slice A0_5 l0_5.length c0_5] rfl (by (try simp only [List.map_toArray, List.map_cons, List.map_nil]); first | done | rfl | (simp only [List.length_drop, List.length_take]; rfl)) ?_; (with_reducible refine (laws_toByteS.calls k _ _ l0_5 t110 _ ?side1 ?side2 A4.out).mono ?_); (case side1 => exact Kd.C_below HR0_5.out (by repeat (first | exact bw HB.out | refine below_set ?_ GE101.out | refine below_set ?_ GE102.out | refine below_set ?_ GE103.out))); (case side2 => exact HC0_5.out); rintro e w21 ⟨v111, rfl, ho0, hb⟩; refine ⟨_, rfl, ?_⟩; replace HO106 := Aside0.mk (Kd.S_elder' (by (with_reducible repeat (first | apply Kd.S_alloc | apply Kd.S_drewN | apply Kd.S_drew)); exact (Kd.S_mono (Kd.S_far (p := ⟨gb103, 4, none⟩) (Kd.S_types HO106.out BK103.out (by decide)) (fun _ hk => hk.2) (.slice Ao18 t107.length co18)) (fun _ h_ => h_.1))) (Kd.R_base ho0) hb); replace HO109 := Aside0.mk (Kd.S_elder' (by (with_reducible repeat (first | apply Kd.S_alloc | apply Kd.S_drewN | apply Kd.S_drew)); exact (Kd.S_mono (Kd.S_far (p := ⟨gb103, 4, none⟩) (Kd.S_types HO109.out BK103.out (by decide)) (fun _ hk => hk.2) (.slice Ao18 t107.length co18)) (fun _ h_ => h_.1))) (Kd.R_base ho0) hb); have HO112 := Aside0.mk (Kd.R_lower ho0 (below_size (by repeat (first | exact bw HB.out | refine below_set ?_ GE101.out | refine below_set ?_ GE102.out | refine below_set ?_ GE103.out)))); replace BK101 := Aside0.mk (blk_below (g := gb101) (o := .cells #[.slice A0_0 l0_0.length c0_0, .int .i64 a0_1, .int .i64 a0_2, .int .i64 a0_3, .slice A0_4 l0_4.length c0_4, .slice A0_5 l0_5.length c0_5, .slice A0_6 l0_6.length c0_6] 28 (0, 0)) (by (with_reducible repeat (first | refine blk_drewN ?_ _ | refine blk_drew ?_ | refine blk_alloc ?_ _)); refine blk_far ?_ NB101_103.out _; (with_reducible repeat (first | refine blk_drewN ?_ _ | refine blk_drew ?_ | refine blk_alloc ?_ _)); exact BK101.out) hb); replace BK102 := Aside0.mk (blk_below (g := gb102) (o := .cells #[.slice none 0 0, .int .i64 0, .int .i64 0, .int .i64 0, .slice none 0 0, .slice none 0 0, .slice none 0 0] 33 (0, 0)) (by (with_reducible repeat (first | refine blk_drewN ?_ _ | refine blk_drew ?_ | refine blk_alloc ?_ _)); refine blk_far ?_ NB102_103.out _; (with_reducible repeat (first | refine blk_drewN ?_ _ | refine blk_drew ?_ | refine blk_alloc ?_ _)); exact BK102.out) hb); replace BK103 := Aside0.mk (blk_below (g := gb103) (o := .cells #[.slice Ao13 t104.length co13, .int .i64 a0_1, .int .i64 a0_2, .int .i64 a0_3, .slice Ao18 t107.length co18, .slice none 0 0, .slice none 0 0] 33 (0, 0)) (by (with_reducible repeat (first | refine blk_drewN ?_ _ | refine blk_drew ?_ | refine blk_alloc ?_ _)); refine blk_put (cs := #[.slice Ao13 t104.length co13, .int .i64 a0_1, .int .i64 a0_2, .int .i64 a0_3, .slice none 0 0, .slice none 0 0, .slice none 0 0]) ?_ 4 _ rfl; (with_reducible repeat (first | refine blk_drewN ?_ _ | refine blk_drew ?_ | refine blk_alloc ?_ _)); exact BK103.out) hb); replace HB := Aside0.mk (below_step (by repeat (first | exact bw HB.out | refine below_set ?_ GE101.out | refine below_set ?_ GE102.out | refine below_set ?_ GE103.out)) hb); (try clear hb); (try clear ho0); obtain ⟨Ao22, co22, eo22⟩ := Kd.R_slice HO112.out; subst eo22; obtain ⟨hcz23_0, hcz23_1, hcz23_2, hcz23_3, hcz23_4, hcz23_5, hcz23_6, hfz23_0, hfz23_1, hfz23_2, hfz23_3, hfz23_4, hfz23_5, hfz23_6⟩ := cells7 BK103.out; obtain ⟨hcz24_0, hcz24_1, hcz24_2, hcz24_3, hcz24_4, hcz24_5, hcz24_6, hfz24_0, hfz24_1, hfz24_2, hfz24_3, hfz24_4, hfz24_5, hfz24_6⟩ := cells7 BK101.out) | ((with_reducible refine gate_callee (f := 62) rfl ?_); refine goesL_ (some 27) rfl rfl Try.func62 (by kernel_rfl) rfl #[.slice A0_6 l0_6.length c0_6] rfl (by (try simp only [List.map_toArray, List.map_cons, List.map_nil]); first | done | rfl | (simp only [List.length_drop, List.length_take]; rfl)) ?_; (with_reducible refine (laws_toIntS.calls k _ _ l0_6 t113 _ ?side1 ?side2 A5.out).mono ?_); (case side1 => exact Kd.C_below HR0_6.out (by repeat (first | exact bw HB.out | refine below_set ?_ GE101.out | refine below_set ?_ GE102.out | refine below_set ?_ GE103.out))); (case side2 => exact HC0_6.out); rintro e w25 ⟨v114, rfl, ho0, hb⟩; refine ⟨_, rfl, ?_⟩; replace HO106 := Aside0.mk (Kd.S_below (by (with_reducible repeat (first | apply Kd.S_alloc | apply Kd.S_drewN | apply Kd.S_drew)); exact (Kd.S_mono (Kd.S_far (p := ⟨gb103, 5, none⟩) (Kd.S_types HO106.out BK103.out (by decide)) (fun _ hk => hk.2) (.slice Ao22 t110.length co22)) (fun _ h_ => h_.1))) hb); replace HO109 := Aside0.mk (Kd.S_below (by (with_reducible repeat (first | apply Kd.S_alloc | apply Kd.S_drewN | apply Kd.S_drew)); exact (Kd.S_mono (Kd.S_far (p := ⟨gb103, 5, none⟩) (Kd.S_types HO109.out BK103.out (by decide)) (fun _ hk => hk.2) (.slice Ao22 t110.length co22)) (fun _ h_ => h_.1))) hb); replace HO112 := Aside0.mk (Kd.R_below (by (with_reducible repeat (first | apply Kd.R_alloc | apply Kd.R_drewN | apply Kd.R_drew)); exact (Kd.R_mono (Kd.R_far (p := ⟨gb103, 5, none⟩) (Kd.R_types HO112.out BK103.out (by decide)) (fun _ hk => hk.2) (.slice Ao22 t110.length co22)) (fun _ h_ => h_.1))) hb); have HO115 := Aside0.mk (Kd.R_lower ho0 (below_size (by repeat (first | exact bw HB.out | refine below_set ?_ GE101.out | refine below_set ?_ GE102.out | refine below_set ?_ GE103.out)))); replace BK101 := Aside0.mk (blk_below (g := gb101) (o := .cells #[.slice A0_0 l0_0.length c0_0, .int .i64 a0_1, .int .i64 a0_2, .int .i64 a0_3, .slice A0_4 l0_4.length c0_4, .slice A0_5 l0_5.length c0_5, .slice A0_6 l0_6.length c0_6] 28 (0, 0)) (by (with_reducible repeat (first | refine blk_drewN ?_ _ | refine blk_drew ?_ | refine blk_alloc ?_ _)); refine blk_far ?_ NB101_103.out _; (with_reducible repeat (first | refine blk_drewN ?_ _ | refine blk_drew ?_ | refine blk_alloc ?_ _)); exact BK101.out) hb); replace BK102 := Aside0.mk (blk_below (g := gb102) (o := .cells #[.slice none 0 0, .int .i64 0, .int .i64 0, .int .i64 0, .slice none 0 0, .slice none 0 0, .slice none 0 0] 33 (0, 0)) (by (with_reducible repeat (first | refine blk_drewN ?_ _ | refine blk_drew ?_ | refine blk_alloc ?_ _)); refine blk_far ?_ NB102_103.out _; (with_reducible repeat (first | refine blk_drewN ?_ _ | refine blk_drew ?_ | refine blk_alloc ?_ _)); exact BK102.out) hb); replace BK103 := Aside0.mk (blk_below (g := gb103) (o := .cells #[.slice Ao13 t104.length co13, .int .i64 a0_1, .int .i64 a0_2, .int .i64 a0_3, .slice Ao18 t107.length co18, .slice Ao22 t110.length co22, .slice none 0 0] 33 (0, 0)) (by (with_reducible repeat (first | refine blk_drewN ?_ _ | refine blk_drew ?_ | refine blk_alloc ?_ _)); refine blk_put (cs := #[.slice Ao13 t104.length co13, .int .i64 a0_1, .int .i64 a0_2, .int .i64 a0_3, .slice Ao18 t107.length co18, .slice none 0 0, .slice none 0 0]) ?_ 5 _ rfl; (with_reducible repeat (first | refine blk_drewN ?_ _ | refine blk_drew ?_ | refine blk_alloc ?_ _)); exact BK103.out) hb); replace HB := Aside0.mk (below_step (by repeat (first | exact bw HB.out | refine below_set ?_ GE101.out | refine below_set ?_ GE102.out | refine below_set ?_ GE103.out)) hb); (try clear hb); (try clear ho0); obtain ⟨Ao26, co26, eo26⟩ := Kd.R_slice HO115.out; subst eo26; obtain ⟨hcz27_0, hcz27_1, hcz27_2, hcz27_3, hcz27_4, hcz27_5, hcz27_6, hfz27_0, hfz27_1, hfz27_2, hfz27_3, hfz27_4, hfz27_5, hfz27_6⟩ := cells7 BK103.out; obtain ⟨hcz28_0, hcz28_1, hcz28_2, hcz28_3, hcz28_4, hcz28_5, hcz28_6, hfz28_0, hfz28_1, hfz28_2, hfz28_3, hfz28_4, hfz28_5, hfz28_6⟩ := cells7 BK102.out))
 refine bodyPost_ret (results_cell_row rfl _ _ gb102 33 #[.slice Ao13 t104.length co13, .int .i64 a0_1, .int .i64 a0_2, .int .i64 a0_3, .slice Ao18 t107.length co18, .slice Ao22 t110.length co22, .slice Ao26 t113.length co26] (0, 0) _ rfl (by (with_reducible repeat (first | refine blk_drewN ?_ _ | refine blk_drew ?_ | refine blk_alloc ?_ _)); refine blk_put (cs := #[.slice Ao13 t104.length co13, .int .i64 a0_1, .int .i64 a0_2, .int .i64 a0_3, .slice Ao18 t107.length co18, .slice Ao22 t110.length co22, .slice none 0 0]) ?_ 6 _ rfl; (with_reducible repeat (first | refine blk_drewN ?_ _ | refine blk_drew ?_ | refine blk_alloc ?_ _)); refine blk_put (cs := #[.slice Ao13 t104.length co13, .int .i64 a0_1, .int .i64 a0_2, .int .i64 a0_3, .slice Ao18 t107.length co18, .slice none 0 0, .slice none 0 0]) ?_ 5 _ rfl; (with_reducible repeat (first | refine blk_drewN ?_ _ | refine blk_drew ?_ | refine blk_alloc ?_ _)); refine blk_put (cs := #[.slice Ao13 t104.length co13, .int .i64 a0_1, .int .i64 a0_2, .int .i64 a0_3, .slice none 0 0, .slice none 0 0, .slice none 0 0]) ?_ 4 _ rfl; (with_reducible repeat (first | refine blk_drewN ?_ _ | refine blk_drew ?_ | refine blk_alloc ?_ _)); refine blk_put (cs := #[.slice Ao13 t104.length co13, .int .i64 a0_1, .int .i64 a0_2, .int .i64 0, .slice none 0 0, .slice none 0 0, .slice none 0 0]) ?_ 3 _ rfl; (with_reducible repeat (first | refine blk_drewN ?_ _ | refine blk_drew ?_ | refine blk_alloc ?_ _)); refine blk_put (cs := #[.slice Ao13 t104.length co13, .int .i64 a0_1, .int .i64 0, .int .i64 0, .slice none 0 0, .slice none 0 0, .slice none 0 0]) ?_ 2 _ rfl; (with_reducible repeat (first | refine blk_drewN ?_ _ | refine blk_drew ?_ | refine blk_alloc ?_ _)); refine blk_put (cs := #[.slice Ao13 t104.length co13, .int .i64 0, .int .i64 0, .int .i64 0, .slice none 0 0, .slice none 0 0, .slice none 0 0]) ?_ 1 _ rfl; (with_reducible repeat (first | refine blk_drewN ?_ _ | refine blk_drew ?_ | refine blk_alloc ?_ _)); refine blk_put (cs := #[.slice none 0 0, .int .i64 0, .int .i64 0, .int .i64 0, .slice none 0 0, .slice none 0 0, .slice none 0 0]) ?_ 0 _ rfl; (with_reducible repeat (first | refine blk_drewN ?_ _ | refine blk_drew ?_ | refine blk_alloc ?_ _)); refine blk_far ?_ NB102_103.out _; (with_reducible repeat (first | refine blk_drewN ?_ _ | refine blk_drew ?_ | refine blk_alloc ?_ _)); exact BK102.out) Try.underlying33 rfl (by kernel_rfl)) rfl ?_
 exact ⟨_, _, _, _, by first | rfl | (simp [errW_none, errW_some] <;> rfl) | (simp [*, errW_none, errW_some] <;> rfl), by (with_reducible repeat (first | apply Kd.S_alloc | apply Kd.S_drewN | apply Kd.S_drew)); exact Kd.S_mono (Kd.S_far (p := ⟨gb102, 6, none⟩) (Kd.S_far (p := ⟨gb102, 5, none⟩) (Kd.S_far (p := ⟨gb102, 4, none⟩) (Kd.S_far (p := ⟨gb102, 3, none⟩) (Kd.S_far (p := ⟨gb102, 2, none⟩) (Kd.S_far (p := ⟨gb102, 1, none⟩) (Kd.S_far (p := ⟨gb102, 0, none⟩) (Kd.S_far (p := ⟨gb103, 6, none⟩) (Kd.S_types (Kd.S_types HO106.out BK103.out (by decide)) BK102.out (by decide)) (fun _ hk => hk.1.2) (.slice Ao26 t113.length co26)) (fun _ hk => hk.2) (.slice Ao13 t104.length co13)) (fun _ hk => hk.2) (.int .i64 a0_1)) (fun _ hk => hk.2) (.int .i64 a0_2)) (fun _ hk => hk.2) (.int .i64 a0_3)) (fun _ hk => hk.2) (.slice Ao18 t107.length co18)) (fun _ hk => hk.2) (.slice Ao22 t110.length co22)) (fun _ hk => hk.2) (.slice Ao26 t113.length co26)) (fun _ hk => ⟨hk.1.1.1.2, hk.1.1.2⟩), by (with_reducible repeat (first | apply Kd.S_alloc | apply Kd.S_drewN | apply Kd.S_drew)); exact Kd.S_mono (Kd.S_far (p := ⟨gb102, 6, none⟩) (Kd.S_far (p := ⟨gb102, 5, none⟩) (Kd.S_far (p := ⟨gb102, 4, none⟩) (Kd.S_far (p := ⟨gb102, 3, none⟩) (Kd.S_far (p := ⟨gb102, 2, none⟩) (Kd.S_far (p := ⟨gb102, 1, none⟩) (Kd.S_far (p := ⟨gb102, 0, none⟩) (Kd.S_far (p := ⟨gb103, 6, none⟩) (Kd.S_types (Kd.S_types HO109.out BK103.out (by decide)) BK102.out (by decide)) (fun _ hk => hk.1.2) (.slice Ao26 t113.length co26)) (fun _ hk => hk.2) (.slice Ao13 t104.length co13)) (fun _ hk => hk.2) (.int .i64 a0_1)) (fun _ hk => hk.2) (.int .i64 a0_2)) (fun _ hk => hk.2) (.int .i64 a0_3)) (fun _ hk => hk.2) (.slice Ao18 t107.length co18)) (fun _ hk => hk.2) (.slice Ao22 t110.length co22)) (fun _ hk => hk.2) (.slice Ao26 t113.length co26)) (fun _ hk => ⟨hk.1.1.1.2, hk.1.1.2⟩), by (with_reducible repeat (first | apply Kd.R_alloc | apply Kd.R_drewN | apply Kd.R_drew)); exact Kd.R_mono (Kd.R_far (p := ⟨gb102, 6, none⟩) (Kd.R_far (p := ⟨gb102, 5, none⟩) (Kd.R_far (p := ⟨gb102, 4, none⟩) (Kd.R_far (p := ⟨gb102, 3, none⟩) (Kd.R_far (p := ⟨gb102, 2, none⟩) (Kd.R_far (p := ⟨gb102, 1, none⟩) (Kd.R_far (p := ⟨gb102, 0, none⟩) (Kd.R_far (p := ⟨gb103, 6, none⟩) (Kd.R_types (Kd.R_types HO112.out BK103.out (by decide)) BK102.out (by decide)) (fun _ hk => hk.1.2) (.slice Ao26 t113.length co26)) (fun _ hk => hk.2) (.slice Ao13 t104.length co13)) (fun _ hk => hk.2) (.int .i64 a0_1)) (fun _ hk => hk.2) (.int .i64 a0_2)) (fun _ hk => hk.2) (.int .i64 a0_3)) (fun _ hk => hk.2) (.slice Ao18 t107.length co18)) (fun _ hk => hk.2) (.slice Ao22 t110.length co22)) (fun _ hk => hk.2) (.slice Ao26 t113.length co26)) (fun _ hk => trivial), by (with_reducible repeat (first | apply Kd.R_alloc | apply Kd.R_drewN | apply Kd.R_drew)); exact Kd.R_mono (Kd.R_far (p := ⟨gb102, 6, none⟩) (Kd.R_far (p := ⟨gb102, 5, none⟩) (Kd.R_far (p := ⟨gb102, 4, none⟩) (Kd.R_far (p := ⟨gb102, 3, none⟩) (Kd.R_far (p := ⟨gb102, 2, none⟩) (Kd.R_far (p := ⟨gb102, 1, none⟩) (Kd.R_far (p := ⟨gb102, 0, none⟩) (Kd.R_far (p := ⟨gb103, 6, none⟩) (Kd.R_types (Kd.R_types HO115.out BK103.out (by decide)) BK102.out (by decide)) (fun _ hk => hk.1.2) (.slice Ao26 t113.length co26)) (fun _ hk => hk.2) (.slice Ao13 t104.length co13)) (fun _ hk => hk.2) (.int .i64 a0_1)) (fun _ hk => hk.2) (.int .i64 a0_2)) (fun _ hk => hk.2) (.int .i64 a0_3)) (fun _ hk => hk.2) (.slice Ao18 t107.length co18)) (fun _ hk => hk.2) (.slice Ao22 t110.length co22)) (fun _ hk => hk.2) (.slice Ao26 t113.length co26)) (fun _ hk => trivial), by repeat (first | exact bw HB.out | refine below_set ?_ GE101.out | refine below_set ?_ GE102.out | refine below_set ?_ GE103.out)⟩


end Go.Proofs.Ytagedmajlppohaa.Q
