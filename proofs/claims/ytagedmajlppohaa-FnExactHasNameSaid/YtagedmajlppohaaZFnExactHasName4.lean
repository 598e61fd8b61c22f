/- Printed by a program of this session (wip/myprint.py), which drives the kit's printer: functions and what their calls do. -/
import Derived.Test.YtagedmajlppohaaZFnExactHasName0
import Derived.Test.YtagedmajlppohaaZFnExactHasName1
import Derived.Test.YtagedmajlppohaaZFnExactHasName2
import Derived.Test.YtagedmajlppohaaZFnExactHasName3
namespace Go.Proofs.Ytagedmajlppohaa.Q
open Go.RowKit Go Go.Proofs.YtagedmajlppohaaW.PrintWords Go.Proofs.YtagedmajlppohaaW.PrintLast Go.Proofs.YtagedmajlppohaaW.PrintMore
attribute [local go_sem] max2_int min2_int max_two min_two max_three min_three max_four min_four
set_option linter.unusedVariables false
set_option linter.unusedSimpArgs false

/-! ### impl_ZoneOk: function 37 -/
mutual
def impl_ZoneOk.j0 : Nat → Bool → List (List Int) → List (S33) → Option (Bool)
 | 0, _, _, _ => none
 | k + 1, x21, x102000, x102001 => if x21 = true then (some false) else (impl_ZoneOk.l0 k 0 x102001 (x102001.length : Int) 0 x102000 x102001)
def impl_ZoneOk.l0 : Nat → Int → List (S33) → Int → Int → List (List Int) → List (S33) → Option (Bool)
 | 0, _, _, _, _, _, _ => none
 | k + 1, x3, x23, x24, x25, x102000, x102001 => if x25 < x24 then (if 0 ≤ x25 then (if x25 < (x23.length : Int) then (if x25 > 0 then (if 0 ≤ (wrap64 (x25 - 1)) then (if (wrap64 (x25 - 1)) < (x102001.length : Int) then ((impl_Rr_compare.f k ((rd_T33 x102001 (wrap64 (x25 - 1))).f0.f0) ((rd_T33 x102001 (wrap64 (x25 - 1))).f1) ((rd_T33 x102001 (wrap64 (x25 - 1))).f2) ((rd_T33 x102001 (wrap64 (x25 - 1))).f3) ((rd_T33 x102001 (wrap64 (x25 - 1))).f4.f0) ((rd_T33 x102001 (wrap64 (x25 - 1))).f5) ((rd_T33 x102001 (wrap64 (x25 - 1))).f6) ((rd_T33 x23 x25).f0.f0) ((rd_T33 x23 x25).f1) ((rd_T33 x23 x25).f2) ((rd_T33 x23 x25).f3) ((rd_T33 x23 x25).f4.f0) ((rd_T33 x23 x25).f5) ((rd_T33 x23 x25).f6)).bind fun t107 => (if t107 ≥ 0 then (impl_ZoneOk.j2 k x3 x23 x24 x25 true x102000 x102001 ((rd_T33 x23 x25).f0.f0) ((rd_T33 x23 x25).f1) ((rd_T33 x23 x25).f2) ((rd_T33 x23 x25).f3) ((rd_T33 x23 x25).f4.f0) ((rd_T33 x23 x25).f5) ((rd_T33 x23 x25).f6)) else ((impl_Name_under.f ((rd_T33 x23 x25).f0.f0) x102000).bind fun t108 => (impl_ZoneOk.j2 k x3 x23 x24 x25 (!t108) x102000 x102001 ((rd_T33 x23 x25).f0.f0) ((rd_T33 x23 x25).f1) ((rd_T33 x23 x25).f2) ((rd_T33 x23 x25).f3) ((rd_T33 x23 x25).f4.f0) ((rd_T33 x23 x25).f5) ((rd_T33 x23 x25).f6))))) else (none)) else (none)) else ((impl_Name_under.f ((rd_T33 x23 x25).f0.f0) x102000).bind fun t109 => (impl_ZoneOk.j2 k x3 x23 x24 x25 (!t109) x102000 x102001 ((rd_T33 x23 x25).f0.f0) ((rd_T33 x23 x25).f1) ((rd_T33 x23 x25).f2) ((rd_T33 x23 x25).f3) ((rd_T33 x23 x25).f4.f0) ((rd_T33 x23 x25).f5) ((rd_T33 x23 x25).f6)))) else (none)) else (none)) else (some (x3 == 1))
def impl_ZoneOk.j2 : Nat → Int → List (S33) → Int → Int → Bool → List (List Int) → List (S33) → List (List Int) → Int → Int → Int → List (List Int) → List Int → List Int → Option (Bool)
 | 0, _, _, _, _, _, _, _, _, _, _, _, _, _, _ => none
 | k + 1, x3, x23, x24, x25, x50, x102000, x102001, x106000, x106001, x106002, x106003, x106004, x106005, x106006 => if x50 = true then (some false) else (if x106001 = 6 then ((impl_Name_is.f k x106000 x102000).bind fun t110 => (if t110 = true then (if x106001 = 5 then ((impl_Zone_set.f k x102000 x102001 x106000 255).bind fun t111 => (if (t111.length : Int) > 1 then (some false) else (impl_ZoneOk.l0 k (wrap64 (x3 + 1)) x23 x24 (wrap64 (x25 + 1)) x102000 x102001))) else (impl_ZoneOk.l0 k (wrap64 (x3 + 1)) x23 x24 (wrap64 (x25 + 1)) x102000 x102001)) else (some false))) else (if x106001 = 5 then ((impl_Zone_set.f k x102000 x102001 x106000 255).bind fun t114 => (if (t114.length : Int) > 1 then (some false) else (impl_ZoneOk.l0 k x3 x23 x24 (wrap64 (x25 + 1)) x102000 x102001))) else (impl_ZoneOk.l0 k x3 x23 x24 (wrap64 (x25 + 1)) x102000 x102001)))
end
def impl_ZoneOk.f (k : Nat) (l0_0 : List (List Int)) (l0_1 : List (S33)) : Option (Bool) := (impl_NameOk.f l0_0).bind fun t102 => (if t102 = true then (if (l0_1.length : Int) > 60 then (impl_ZoneOk.j0 k true l0_0 l0_1) else ((impl_Rr_100.f k l0_1).bind fun t103 => (impl_ZoneOk.j0 k (!t103) l0_0 l0_1))) else (impl_ZoneOk.j0 k true l0_0 l0_1))
def impl_ZoneOk.T7 : Bool × List (List Nat × List Nat) := (true, [([], []), ([0], [0]), ([1], [1]), ([2], [2]), ([3, 2], [2, 3]), ([2], [2]), ([5, 2], [2, 5]), ([4, 6, 2], [2, 4, 6]), ([7, 2], [2, 7]), ([2], [2]), ([8, 9, 2, 2], [2, 8, 9]), ([10, 2], [2, 10]), ([2, 11], [2, 11]), ([12, 10], [12]), ([13], [13]), ([14, 13], [13, 14]), ([13], [13]), ([16, 13], [13, 16]), ([15, 17, 13, 13], [13, 15, 17]), ([18, 13], [13, 18]), ([13, 19], [13, 19])])
def impl_ZoneOk.B7 : List Nat := [0, 1, 3, 7, 15, 7, 39, 127, 255, 7, 1023, 2047, 4095, 8191, 16383, 32767, 16383, 81919, 262143, 524287, 1048575]
theorem impl_ZoneOk.tab7 : rtab .any (opsOf Try.f37 7) = impl_ZoneOk.T7 := by kernel_rfl
theorem impl_ZoneOk.bits7 : waitsOk impl_ZoneOk.T7.2 impl_ZoneOk.B7 = true := by kernel_rfl
set_option maxHeartbeats 8000000 in
set_option maxRecDepth 100000 in
theorem impl_ZoneOk.calls (k : Nat) (A0_0 : Option Addr) (c0_0 : Nat) (l0_0 : List (List Int)) (A0_1 : Option Addr) (c0_1 : Nat) (l0_1 : List (S33)) (r : Bool) (w : World) (hr0_0 : Kd.C (Kd.slice 5 (Kd.int .u8)) w A0_0 l0_0.length l0_0) (hc0_0 : l0_0.length ≤ c0_0) (hr0_1 : Kd.C k33 w A0_1 l0_1.length l0_1) (hc0_1 : l0_1.length ≤ c0_1) (h : impl_ZoneOk.f k l0_0 l0_1 = some r) :
  Calls Try.prog 37 #[.agg #[.slice A0_0 l0_0.length c0_0, .slice A0_1 l0_1.length c0_1]] w fun e w' => e = .returned (.bool r) ∧ Below w.heap.size w w' := by
 have hu59 := Try.underlying59
 have hu31 := Try.underlying31
 have hu33 := Try.underlying33
 have HR0_0 := ak hr0_0
 have HC0_0 := ak hc0_0
 clear hr0_0 hc0_0
 have HR0_1 := ak hr0_1
 have HC0_1 := ak hc0_1
 clear hr0_1 hc0_1
 have HB := ak (Below.refl w.heap.size w)
 have H : ((impl_NameOk.f l0_0).bind fun t102 => (if t102 = true then (if (l0_1.length : Int) > 60 then (impl_ZoneOk.j0 k true l0_0 l0_1) else ((impl_Rr_100.f k l0_1).bind fun t103 => (impl_ZoneOk.j0 k (!t103) l0_0 l0_1))) else (impl_ZoneOk.j0 k true l0_0 l0_1))) = some r := h
 clear h
 have HC2 := ak H
 clear H
 go_enter Try.func37, Try.ntmps37
 go_upto_region 1 with (first | ((with_reducible refine gate_dst (N := 1) rfl ?_); (try (refine gate_guard (by rfl) ?_; dsimp only)); refine boxed (N := 1) rfl rfl (cs := #[.slice A0_0 l0_0.length c0_0, .slice A0_1 l0_1.length c0_1]) (t := 59) HB.out (by first | (go_simp; done) | (go_simp; rfl)) ?_; clear HB; intro gb101 w3 hg HB BK101 GE101 hb; have GW101 := GE101; clear hb hg))
 (try simp only [Act.put, List.setIfInBounds_toArray, List.set_cons_zero, List.set_cons_succ])
 go_cut [21] (fun v21 wc => ∃ (kq : Nat) (x21_1 : Bool), v21 = .bool x21_1 ∧ Aside0 (impl_ZoneOk.j0 kq x21_1 l0_0 l0_1 = some r) ∧ Aside0 (kq ≤ k) ∧ Aside0 (wc.heap[gb101]? = some (.cells #[(.slice A0_0 l0_0.length c0_0), (.slice A0_1 l0_1.length c0_1)] 59 (0, 0))) ∧ Aside0 (Below w.heap.size w wc))
 case first =>
  have H := HC2.out
  clear HC2
  replace H := Option.bind_eq_some_iff.mp H
  obtain ⟨t102, A40, H⟩ := H
  replace H : (if t102 = true then (if (l0_1.length : Int) > 60 then (impl_ZoneOk.j0 k true l0_0 l0_1) else ((impl_Rr_100.f k l0_1).bind fun t103 => (impl_ZoneOk.j0 k (!t103) l0_0 l0_1))) else (impl_ZoneOk.j0 k true l0_0 l0_1)) = some r := H
  have A4 := ak A40
  clear A40
  by_cases c5 : t102 = true
  ·subst c5
   have H1 : (if (l0_1.length : Int) > 60 then (impl_ZoneOk.j0 k true l0_0 l0_1) else ((impl_Rr_100.f k l0_1).bind fun t103 => (impl_ZoneOk.j0 k (!t103) l0_0 l0_1))) = some r := by rw [if_pos rfl] at H; exact H
   clear H
   have H := H1
   clear H1
   by_cases c6 : (l0_1.length : Int) > 60
   ·rw [if_pos c6] at H
    have c6b0 : decide (60 < (l0_1.length : Int)) = true := decide_eq_true c6
    have c6b1 : decide (60 < l0_1.length) = true := decide_eq_true (by omega)
    clear c6
    (first | rw [c6b0] | (simp only [i64_w, i32_w]; rw [c6b0]) | skip)
    have H' := ak H
    clear H
    obtain ⟨hcz7_0, hcz7_1, hfz7_0, hfz7_1⟩ := cells2 BK101.out
    go_wp2_with (first | ((with_reducible refine gate_callee (f := 74) rfl ?_); refine goesL_ (some 8) rfl rfl Try.func74 (by kernel_rfl) rfl #[.agg #[.slice A0_0 l0_0.length c0_0]] rfl (by first | rfl | (simp only [List.map_toArray, List.map_cons, List.map_nil]; first | done | rfl)) ?_; (with_reducible refine (impl_NameOk.calls _ _ l0_0 true _ ?side1 ?side2 A4.out).mono ?_); (case side1 => exact cw HR0_0.out HB.out); (case side2 => exact HC0_0.out); rintro e w8 ⟨rfl, hb⟩; refine ⟨_, rfl, ?_⟩; replace BK101 := ak (blk_below (bk BK101.out) hb); replace HB := ak (below_step (by repeat (first | exact bw HB.out | refine below_set ?_ GE101.out)) hb); (try clear hb); obtain ⟨hcz9_0, hcz9_1, hfz9_0, hfz9_1⟩ := cells2 BK101.out))
    go_meet
    case rel => exact ⟨_, (true), (by first | rfl | (simp; done) | (simp [*]; done)), H', ⟨by first | omega | exact Nat.le_refl _⟩, ⟨bk BK101.out⟩, ⟨by repeat (first | exact bw HB.out | refine below_set ?_ GE101.out)⟩⟩
   ·rw [if_neg c6] at H
    have c6b0 : decide (60 < (l0_1.length : Int)) = false := decide_eq_false c6
    have c6b1 : decide (60 < l0_1.length) = false := decide_eq_false (by omega)
    clear c6
    (first | rw [c6b0] | (simp only [i64_w, i32_w]; rw [c6b0]) | skip)
    replace H := Option.bind_eq_some_iff.mp H
    obtain ⟨t103, A100, H⟩ := H
    replace H : (impl_ZoneOk.j0 k (!t103) l0_0 l0_1) = some r := H
    have A10 := ak A100
    clear A100
    have H' := ak H
    clear H
    obtain ⟨hcz11_0, hcz11_1, hfz11_0, hfz11_1⟩ := cells2 BK101.out
    go_wp2_with (first | ((with_reducible refine gate_callee (f := 74) rfl ?_); refine goesL_ (some 8) rfl rfl Try.func74 (by kernel_rfl) rfl #[.agg #[.slice A0_0 l0_0.length c0_0]] rfl (by first | rfl | (simp only [List.map_toArray, List.map_cons, List.map_nil]; first | done | rfl)) ?_; (with_reducible refine (impl_NameOk.calls _ _ l0_0 true _ ?side1 ?side2 A4.out).mono ?_); (case side1 => exact cw HR0_0.out HB.out); (case side2 => exact HC0_0.out); rintro e w12 ⟨rfl, hb⟩; refine ⟨_, rfl, ?_⟩; replace BK101 := ak (blk_below (bk BK101.out) hb); replace HB := ak (below_step (by repeat (first | exact bw HB.out | refine below_set ?_ GE101.out)) hb); (try clear hb); obtain ⟨hcz13_0, hcz13_1, hfz13_0, hfz13_1⟩ := cells2 BK101.out) | (go_at_call 100; (with_reducible refine (impl_Rr_100.calls k _ _ l0_1 t103 _ ?side1 ?side2 A10.out).mono ?_); (case side1 => exact cw HR0_1.out HB.out); (case side2 => exact HC0_1.out); rintro e w14 ⟨rfl, hb⟩; replace BK101 := ak (blk_below (bk BK101.out) hb); replace HB := ak (below_step (by repeat (first | exact bw HB.out | refine below_set ?_ GE101.out)) hb); (try clear hb)))
    go_meet
    case rel => exact ⟨_, (!t103), (by first | rfl | (simp; done) | (simp [*]; done)), H', ⟨by first | omega | exact Nat.le_refl _⟩, ⟨bk BK101.out⟩, ⟨by repeat (first | exact bw HB.out | refine below_set ?_ GE101.out)⟩⟩
  ·replace c5 := Bool.eq_false_iff.mpr c5
   subst c5
   have H1 : (impl_ZoneOk.j0 k true l0_0 l0_1) = some r := by rw [if_neg (show ¬ (false = true) by decide)] at H; exact H
   clear H
   have H := H1
   clear H1
   have H' := ak H
   clear H
   obtain ⟨hcz15_0, hcz15_1, hfz15_0, hfz15_1⟩ := cells2 BK101.out
   go_wp2_with (first | ((with_reducible refine gate_callee (f := 74) rfl ?_); refine goesL_ (some 8) rfl rfl Try.func74 (by kernel_rfl) rfl #[.agg #[.slice A0_0 l0_0.length c0_0]] rfl (by first | rfl | (simp only [List.map_toArray, List.map_cons, List.map_nil]; first | done | rfl)) ?_; (with_reducible refine (impl_NameOk.calls _ _ l0_0 false _ ?side1 ?side2 A4.out).mono ?_); (case side1 => exact cw HR0_0.out HB.out); (case side2 => exact HC0_0.out); rintro e w16 ⟨rfl, hb⟩; refine ⟨_, rfl, ?_⟩; replace BK101 := ak (blk_below (bk BK101.out) hb); replace HB := ak (below_step (by repeat (first | exact bw HB.out | refine below_set ?_ GE101.out)) hb); (try clear hb)))
   go_meet
   case rel => exact ⟨_, (true), (by first | rfl | (simp; done) | (simp [*]; done)), H', ⟨by first | omega | exact Nat.le_refl _⟩, ⟨bk BK101.out⟩, ⟨by repeat (first | exact bw HB.out | refine below_set ?_ GE101.out)⟩⟩
 case rest =>
  clear HC2
  try clear p2
  try clear c3
  try clear c5
  try clear c6
  try clear c6b0
  try clear c6b1
  try clear c7
  try clear hcz11_0
  try clear hcz11_1
  try clear hcz13_0
  try clear hcz13_1
  try clear hcz15_0
  try clear hcz15_1
  try clear hcz7_0
  try clear hcz7_1
  try clear hcz9_0
  try clear hcz9_1
  try clear hfz11_0
  try clear hfz11_1
  try clear hfz13_0
  try clear hfz13_1
  try clear hfz15_0
  try clear hfz15_1
  try clear hfz7_0
  try clear hfz7_1
  try clear hfz9_0
  try clear hfz9_1
  obtain ⟨kq, x21_1, rfl, HA, HJ1, BK101, HB⟩ := hcut
  cases kq with
  | zero => exact absurd HA.out (by simp [impl_ZoneOk.j0])
  | succ kj1 =>
   have H := HA.out
   clear HA
   simp only [impl_ZoneOk.j0] at H
   by_cases c17 : x21_1 = true
   ·subst c17
    have H1 : (some false) = some r := by rw [if_pos rfl] at H; exact H
    clear H
    have H := H1
    clear H1
    obtain rfl := Option.some.inj H
    go_wp2
    go_ret
    exact ⟨by first | rfl | (simp [errW_none, errW_some] <;> rfl) | (simp [*, errW_none, errW_some] <;> rfl), by repeat (first | exact bw HB.out | refine below_set ?_ GE101.out)⟩
   ·replace c17 := Bool.eq_false_iff.mpr c17
    subst c17
    have H1 : (impl_ZoneOk.l0 kj1 0 l0_1 (l0_1.length : Int) 0 l0_0 l0_1) = some r := by rw [if_neg (show ¬ (false = true) by decide)] at H; exact H
    clear H
    have H := H1
    clear H1
    have H' := ak H
    clear H
    obtain ⟨hcz18_0, hcz18_1, hfz18_0, hfz18_1⟩ := cells2 BK101.out
    go_wp2
    go_loopg [3, 25] kj1 (fun kq v3 v25 w' => ∃ (x3_2 : Int) (x25_2 : Int), v3 = .int .i64 x3_2 ∧ v25 = .int .i64 x25_2 ∧ Aside0 (impl_ZoneOk.l0 kq x3_2 l0_1 (l0_1.length : Int) x25_2 l0_0 l0_1 = some r) ∧ Aside0 (kq ≤ kj1) ∧ Aside0 (w'.heap[gb101]? = some (.cells #[(.slice A0_0 l0_0.length c0_0), (.slice A0_1 l0_1.length c0_1)] 59 (0, 0))) ∧ Aside0 (Below w.heap.size w w'))
    case atStart => exact ⟨(0), (0), (by first | rfl | (simp; done) | (simp [*]; done)), (by first | rfl | (simp; done) | (simp [*]; done)), H', ⟨Nat.le_refl _⟩, ⟨bk BK101.out⟩, ⟨by repeat (first | exact bw HB.out | refine below_set ?_ GE101.out)⟩⟩
    case round =>
     clear H'
     try clear c1
     try clear p2
     try clear c3
     try clear c5
     try clear c6
     try clear c6b0
     try clear c6b1
     try clear c7
     try clear c17
     try clear hcz11_0
     try clear hcz11_1
     try clear hcz13_0
     try clear hcz13_1
     try clear hcz15_0
     try clear hcz15_1
     try clear hcz18_0
     try clear hcz18_1
     try clear hcz7_0
     try clear hcz7_1
     try clear hcz9_0
     try clear hcz9_1
     try clear hfz11_0
     try clear hfz11_1
     try clear hfz13_0
     try clear hfz13_1
     try clear hfz15_0
     try clear hfz15_1
     try clear hfz18_0
     try clear hfz18_1
     try clear hfz7_0
     try clear hfz7_1
     try clear hfz9_0
     try clear hfz9_1
     try clear p2
     obtain ⟨x3_2, x25_2, rfl, rfl, HA, HK2, BK101, HB⟩ := hrel
     cases gk with
     | zero => exact absurd HA.out (by simp [impl_ZoneOk.l0])
     | succ k2 =>
      have H := HA.out
      clear HA
      simp only [impl_ZoneOk.l0] at H
      by_cases c19 : x25_2 < (l0_1.length : Int)
      ·rw [if_pos c19] at H
       have c19b0 : decide (x25_2 < (l0_1.length : Int)) = true := decide_eq_true c19
       clear c19
       by_cases c20 : 0 ≤ x25_2
       ·rw [if_pos c20] at H
        have c20b0 : decide (0 ≤ x25_2) = true := decide_eq_true c20
        clear c20
        by_cases c21 : x25_2 < (l0_1.length : Int)
        ·rw [if_pos c21] at H
         have c21b0 : decide (x25_2 < (l0_1.length : Int)) = true := decide_eq_true c21
         clear c21
         have HC22 := ak H
         clear H
         have p104 : 0 ≤ (x25_2 : Int) := of_decide_eq_true (by first | (with_reducible assumption) | assumption)
         have q104 : x25_2 < (l0_1.length : Int) := of_decide_eq_true (by first | (with_reducible assumption) | assumption)
         obtain ⟨ad104, A104_0, c104_0, A104_4, c104_4, A104_5, c104_5, A104_6, c104_6, e104, hx104_0, hx104_1, hx104_2, hx104_3, hx104_4, hx104_5, hx104_6, hl104_0, hi104_0, hl104_4, hi104_4, hl104_5, hi104_5, hl104_6, hi104_6⟩ := at_T33 HR0_1.out x25_2 p104 q104
         cases e104
         replace hx104_0 := hc_ HB.out hx104_0
         replace hx104_1 := hc_ HB.out hx104_1
         replace hx104_2 := hc_ HB.out hx104_2
         replace hx104_3 := hc_ HB.out hx104_3
         replace hx104_4 := hc_ HB.out hx104_4
         replace hx104_5 := hc_ HB.out hx104_5
         replace hx104_6 := hc_ HB.out hx104_6
         have HR104_0 := ak hi104_0
         have HC104_0 := ak hl104_0
         clear hi104_0 hl104_0
         have HR104_4 := ak hi104_4
         have HC104_4 := ak hl104_4
         clear hi104_4 hl104_4
         have HR104_5 := ak hi104_5
         have HC104_5 := ak hl104_5
         clear hi104_5 hl104_5
         have HR104_6 := ak hi104_6
         have HC104_6 := ak hl104_6
         clear hi104_6 hl104_6
         replace p104 := eq_true p104
         replace q104 := eq_true q104
         go_upto_region 7 with (first | ((with_reducible refine gate_dst (N := 5) rfl ?_); (try (refine gate_guard (by rfl) ?_; dsimp only)); refine box_event ?hg (N := 5) ?hd (cs := #[.slice none 0 0, .int .i64 0, .int .i64 0, .int .i64 0, .slice none 0 0, .slice none 0 0, .slice none 0 0]) (t := 33) ?hr ?_; (case hd => rfl); (case hg => rfl); (case hr => first | (go_simp; done) | (go_simp; rfl)); intro gb105 hg w23 hbox hb; have BK105 := ak (hbox); have GW105 := ak ((by rw [hg]; exact (below_size (by repeat (first | exact bw HB.out | refine below_set ?_ GE101.out))) : w.heap.size ≤ gb105)); have GE105 := ak ((by rw [hg]; exact (below_size (by repeat (first | exact bw HB.out | refine below_set ?_ GE101.out))) : w.heap.size ≤ gb105)); replace HB := ak (below_step (by repeat (first | exact bw HB.out | refine below_set ?_ GE101.out)) hb); have NB101_105 := ak ((by rw [hg]; exact Nat.ne_of_lt (blk_lt (bk BK101.out)) : gb101 ≠ gb105)); have NB105_101 := ak ((by rw [hg]; exact Nat.ne_of_gt (blk_lt (bk BK101.out)) : gb105 ≠ gb101)); replace BK101 := ak (blk_below (bk BK101.out) hb); clear hb hbox hg; have hnb24 := NB105_101.out; have hnc24 := NB101_105.out; obtain ⟨hcz25_0, hcz25_1, hcz25_2, hcz25_3, hcz25_4, hcz25_5, hcz25_6, hfz25_0, hfz25_1, hfz25_2, hfz25_3, hfz25_4, hfz25_5, hfz25_6⟩ := cells7 BK105.out))
         (try simp only [Act.put, List.setIfInBounds_toArray, List.set_cons_zero, List.set_cons_succ])
         go_cut [50] (fun v50 wc => ∃ (kq : Nat) (x50_21 : Bool), v50 = .bool x50_21 ∧ Aside0 (impl_ZoneOk.j2 kq x3_2 l0_1 (l0_1.length : Int) x25_2 x50_21 l0_0 l0_1 ((rd_T33 l0_1 x25_2).f0.f0) ((rd_T33 l0_1 x25_2).f1) ((rd_T33 l0_1 x25_2).f2) ((rd_T33 l0_1 x25_2).f3) ((rd_T33 l0_1 x25_2).f4.f0) ((rd_T33 l0_1 x25_2).f5) ((rd_T33 l0_1 x25_2).f6) = some r) ∧ Aside0 (kq ≤ k2) ∧ Aside0 (wc.heap[gb101]? = some (.cells #[(.slice A0_0 l0_0.length c0_0), (.slice (some ad104) l0_1.length c0_1)] 59 (0, 0))) ∧ Aside0 (wc.heap[gb105]? = some (.cells #[(.slice A104_0 ((rd_T33 l0_1 x25_2).f0.f0).length c104_0), .int .i64 ((rd_T33 l0_1 x25_2).f1), .int .i64 ((rd_T33 l0_1 x25_2).f2), .int .i64 ((rd_T33 l0_1 x25_2).f3), (.slice A104_4 ((rd_T33 l0_1 x25_2).f4.f0).length c104_4), (.slice A104_5 ((rd_T33 l0_1 x25_2).f5).length c104_5), (.slice A104_6 ((rd_T33 l0_1 x25_2).f6).length c104_6)] 33 (0, 0))) ∧ Aside0 (Below w.heap.size w wc))
         case first =>
          have H := HC22.out
          clear HC22
          by_cases c26 : x25_2 > 0
          ·rw [if_pos c26] at H
           have c26b0 : decide (0 < x25_2) = true := decide_eq_true c26
           clear c26
           (first | rw [c26b0] | (simp only [i64_w, i32_w]; rw [c26b0]) | skip)
           obtain ⟨ji27, hji27⟩ : ∃ j_ : Int, (wrap64 (x25_2 - 1)) = j_ := ⟨_, rfl⟩
           replace H : (if 0 ≤ (ji27) then (if (ji27) < (l0_1.length : Int) then ((impl_Rr_compare.f k2 ((rd_T33 l0_1 (ji27)).f0.f0) ((rd_T33 l0_1 (ji27)).f1) ((rd_T33 l0_1 (ji27)).f2) ((rd_T33 l0_1 (ji27)).f3) ((rd_T33 l0_1 (ji27)).f4.f0) ((rd_T33 l0_1 (ji27)).f5) ((rd_T33 l0_1 (ji27)).f6) ((rd_T33 l0_1 x25_2).f0.f0) ((rd_T33 l0_1 x25_2).f1) ((rd_T33 l0_1 x25_2).f2) ((rd_T33 l0_1 x25_2).f3) ((rd_T33 l0_1 x25_2).f4.f0) ((rd_T33 l0_1 x25_2).f5) ((rd_T33 l0_1 x25_2).f6)).bind fun t107 => (if t107 ≥ 0 then (impl_ZoneOk.j2 k2 x3_2 l0_1 (l0_1.length : Int) x25_2 true l0_0 l0_1 ((rd_T33 l0_1 x25_2).f0.f0) ((rd_T33 l0_1 x25_2).f1) ((rd_T33 l0_1 x25_2).f2) ((rd_T33 l0_1 x25_2).f3) ((rd_T33 l0_1 x25_2).f4.f0) ((rd_T33 l0_1 x25_2).f5) ((rd_T33 l0_1 x25_2).f6)) else ((impl_Name_under.f ((rd_T33 l0_1 x25_2).f0.f0) l0_0).bind fun t108 => (impl_ZoneOk.j2 k2 x3_2 l0_1 (l0_1.length : Int) x25_2 (!t108) l0_0 l0_1 ((rd_T33 l0_1 x25_2).f0.f0) ((rd_T33 l0_1 x25_2).f1) ((rd_T33 l0_1 x25_2).f2) ((rd_T33 l0_1 x25_2).f3) ((rd_T33 l0_1 x25_2).f4.f0) ((rd_T33 l0_1 x25_2).f5) ((rd_T33 l0_1 x25_2).f6))))) else (none)) else (none)) = some r := by first | (rw [hji27] at H; exact H) | (simp only [hji27] at H ⊢; exact H)
           have hji27w : (IntKind.i64.wrap (x25_2 - 1)) = ji27 := (i64_w _).trans hji27
           by_cases c28 : 0 ≤ (ji27)
           ·rw [if_pos c28] at H
            have c28b0 : decide (0 ≤ (ji27)) = true := decide_eq_true c28
            clear c28
            by_cases c29 : (ji27) < (l0_1.length : Int)
            ·rw [if_pos c29] at H
             have c29b0 : decide ((ji27) < (l0_1.length : Int)) = true := decide_eq_true c29
             clear c29
             replace H := Option.bind_eq_some_iff.mp H
             obtain ⟨t107, A300, H⟩ := H
             replace H : (if t107 ≥ 0 then (impl_ZoneOk.j2 k2 x3_2 l0_1 (l0_1.length : Int) x25_2 true l0_0 l0_1 ((rd_T33 l0_1 x25_2).f0.f0) ((rd_T33 l0_1 x25_2).f1) ((rd_T33 l0_1 x25_2).f2) ((rd_T33 l0_1 x25_2).f3) ((rd_T33 l0_1 x25_2).f4.f0) ((rd_T33 l0_1 x25_2).f5) ((rd_T33 l0_1 x25_2).f6)) else ((impl_Name_under.f ((rd_T33 l0_1 x25_2).f0.f0) l0_0).bind fun t108 => (impl_ZoneOk.j2 k2 x3_2 l0_1 (l0_1.length : Int) x25_2 (!t108) l0_0 l0_1 ((rd_T33 l0_1 x25_2).f0.f0) ((rd_T33 l0_1 x25_2).f1) ((rd_T33 l0_1 x25_2).f2) ((rd_T33 l0_1 x25_2).f3) ((rd_T33 l0_1 x25_2).f4.f0) ((rd_T33 l0_1 x25_2).f5) ((rd_T33 l0_1 x25_2).f6)))) = some r := H
             have A30 := ak A300
             clear A300
             by_cases c31 : t107 ≥ 0
             ·rw [if_pos c31] at H
              have c31b0 : decide (0 ≤ t107) = true := decide_eq_true c31
              clear c31
              have H' := ak H
              clear H
              try go_wp2
              have n0_ : Aside0 ((((((((w23.setCell ⟨gb105, 0, none⟩ (.slice A104_0 ((rd_T33 l0_1 x25_2).f0.f0).length c104_0)).setCell ⟨gb105, 1, none⟩ (.int .i64 ((rd_T33 l0_1 x25_2).f1))).setCell ⟨gb105, 2, none⟩ (.int .i64 ((rd_T33 l0_1 x25_2).f2))).setCell ⟨gb105, 3, none⟩ (.int .i64 ((rd_T33 l0_1 x25_2).f3))).setCell ⟨gb105, 4, none⟩ (.slice A104_4 ((rd_T33 l0_1 x25_2).f4.f0).length c104_4)).setCell ⟨gb105, 5, none⟩ (.slice A104_5 ((rd_T33 l0_1 x25_2).f5).length c104_5)).setCell ⟨gb105, 6, none⟩ (.slice A104_6 ((rd_T33 l0_1 x25_2).f6).length c104_6)).heap[gb101]? = some (.cells #[.slice A0_0 l0_0.length c0_0, .slice (some ad104) l0_1.length c0_1] 59 (0, 0))) := ⟨bfar7 NB101_105.out BK101.out⟩
              have n1_ : Aside0 ((((((((w23.setCell ⟨gb105, 0, none⟩ (.slice A104_0 ((rd_T33 l0_1 x25_2).f0.f0).length c104_0)).setCell ⟨gb105, 1, none⟩ (.int .i64 ((rd_T33 l0_1 x25_2).f1))).setCell ⟨gb105, 2, none⟩ (.int .i64 ((rd_T33 l0_1 x25_2).f2))).setCell ⟨gb105, 3, none⟩ (.int .i64 ((rd_T33 l0_1 x25_2).f3))).setCell ⟨gb105, 4, none⟩ (.slice A104_4 ((rd_T33 l0_1 x25_2).f4.f0).length c104_4)).setCell ⟨gb105, 5, none⟩ (.slice A104_5 ((rd_T33 l0_1 x25_2).f5).length c104_5)).setCell ⟨gb105, 6, none⟩ (.slice A104_6 ((rd_T33 l0_1 x25_2).f6).length c104_6)).heap[gb105]? = some (.cells #[.slice A104_0 ((rd_T33 l0_1 x25_2).f0.f0).length c104_0, .int .i64 ((rd_T33 l0_1 x25_2).f1), .int .i64 ((rd_T33 l0_1 x25_2).f2), .int .i64 ((rd_T33 l0_1 x25_2).f3), .slice A104_4 ((rd_T33 l0_1 x25_2).f4.f0).length c104_4, .slice A104_5 ((rd_T33 l0_1 x25_2).f5).length c104_5, .slice A104_6 ((rd_T33 l0_1 x25_2).f6).length c104_6] 33 (0, 0))) := ⟨bput7 BK105.out⟩
              have n2_ : Aside0 (Below w.heap.size w (((((((w23.setCell ⟨gb105, 0, none⟩ (.slice A104_0 ((rd_T33 l0_1 x25_2).f0.f0).length c104_0)).setCell ⟨gb105, 1, none⟩ (.int .i64 ((rd_T33 l0_1 x25_2).f1))).setCell ⟨gb105, 2, none⟩ (.int .i64 ((rd_T33 l0_1 x25_2).f2))).setCell ⟨gb105, 3, none⟩ (.int .i64 ((rd_T33 l0_1 x25_2).f3))).setCell ⟨gb105, 4, none⟩ (.slice A104_4 ((rd_T33 l0_1 x25_2).f4.f0).length c104_4)).setCell ⟨gb105, 5, none⟩ (.slice A104_5 ((rd_T33 l0_1 x25_2).f5).length c104_5)).setCell ⟨gb105, 6, none⟩ (.slice A104_6 ((rd_T33 l0_1 x25_2).f6).length c104_6))) := ⟨by repeat (first | exact bw HB.out | refine below_set ?_ GE101.out | refine below_set ?_ GE105.out)⟩
              (try clear BK101)
              (try clear BK105)
              (try clear HB)
              generalize (((((((w23.setCell ⟨gb105, 0, none⟩ (.slice A104_0 ((rd_T33 l0_1 x25_2).f0.f0).length c104_0)).setCell ⟨gb105, 1, none⟩ (.int .i64 ((rd_T33 l0_1 x25_2).f1))).setCell ⟨gb105, 2, none⟩ (.int .i64 ((rd_T33 l0_1 x25_2).f2))).setCell ⟨gb105, 3, none⟩ (.int .i64 ((rd_T33 l0_1 x25_2).f3))).setCell ⟨gb105, 4, none⟩ (.slice A104_4 ((rd_T33 l0_1 x25_2).f4.f0).length c104_4)).setCell ⟨gb105, 5, none⟩ (.slice A104_5 ((rd_T33 l0_1 x25_2).f5).length c104_5)).setCell ⟨gb105, 6, none⟩ (.slice A104_6 ((rd_T33 l0_1 x25_2).f6).length c104_6)) = w32 at n0_ n1_ n2_ ⊢
              have BK101 := n0_
              have BK105 := n1_
              have HB := n2_
              clear n0_ n1_ n2_
              have n0_ := ak (blk_drew BK101.out)
              have n1_ := ak (blk_drew BK105.out)
              have n2_ := ak (below_drew1 HB.out)
              clear BK101
              clear BK105
              clear HB
              have BK101 := n0_
              have BK105 := n1_
              have HB := n2_
              clear n0_ n1_ n2_
              have p106 : 0 ≤ ((ji27) : Int) := of_decide_eq_true (by first | (with_reducible assumption) | assumption)
              have q106 : (ji27) < (l0_1.length : Int) := of_decide_eq_true (by first | (with_reducible assumption) | assumption)
              obtain ⟨ad106, A106_0, c106_0, A106_4, c106_4, A106_5, c106_5, A106_6, c106_6, e106, hx106_0, hx106_1, hx106_2, hx106_3, hx106_4, hx106_5, hx106_6, hl106_0, hi106_0, hl106_4, hi106_4, hl106_5, hi106_5, hl106_6, hi106_6⟩ := at_T33 HR0_1.out (ji27) p106 q106
              have hw106_6 := hx106_6
              have hw106_5 := hx106_5
              have hw106_4 := hx106_4
              have hw106_3 := hx106_3
              have hw106_2 := hx106_2
              have hw106_1 := hx106_1
              have hw106_0 := hx106_0
              obtain rfl : ad104 = ad106 := (by injection e106)
              replace hx106_0 := hc_ HB.out hx106_0
              replace hx106_1 := hc_ HB.out hx106_1
              replace hx106_2 := hc_ HB.out hx106_2
              replace hx106_3 := hc_ HB.out hx106_3
              replace hx106_4 := hc_ HB.out hx106_4
              replace hx106_5 := hc_ HB.out hx106_5
              replace hx106_6 := hc_ HB.out hx106_6
              have HR106_0 := ak hi106_0
              have HC106_0 := ak hl106_0
              clear hi106_0 hl106_0
              have HR106_4 := ak hi106_4
              have HC106_4 := ak hl106_4
              clear hi106_4 hl106_4
              have HR106_5 := ak hi106_5
              have HC106_5 := ak hl106_5
              clear hi106_5 hl106_5
              have HR106_6 := ak hi106_6
              have HC106_6 := ak hl106_6
              clear hi106_6 hl106_6
              replace p106 := eq_true p106
              replace q106 := eq_true q106
              refine start_ (n := 21) (S := fun w' => w'.cell? ⟨gb101, 0, none⟩ = some (.slice A0_0 l0_0.length c0_0) ∧ w'.cell? ⟨gb101, 1, none⟩ = some (.slice (some ad104) l0_1.length c0_1) ∧ w'.cell? ⟨gb105, 0, none⟩ = some (.slice A104_0 ((rd_T33 l0_1 x25_2).f0.f0).length c104_0) ∧ w'.cell? ⟨gb105, 1, none⟩ = some (.int .i64 ((rd_T33 l0_1 x25_2).f1)) ∧ w'.cell? ⟨gb105, 2, none⟩ = some (.int .i64 ((rd_T33 l0_1 x25_2).f2)) ∧ w'.cell? ⟨gb105, 3, none⟩ = some (.int .i64 ((rd_T33 l0_1 x25_2).f3)) ∧ w'.cell? ⟨gb105, 4, none⟩ = some (.slice A104_4 ((rd_T33 l0_1 x25_2).f4.f0).length c104_4) ∧ w'.cell? ⟨gb105, 5, none⟩ = some (.slice A104_5 ((rd_T33 l0_1 x25_2).f5).length c104_5) ∧ w'.cell? ⟨gb105, 6, none⟩ = some (.slice A104_6 ((rd_T33 l0_1 x25_2).f6).length c104_6) ∧ w'.cell? (ad104.add (((ji27)).toNat * 7)) = some (.slice A106_0 ((rd_T33 l0_1 (ji27)).f0.f0).length c106_0) ∧ w'.cell? ⟨(ad104.add (((ji27)).toNat * 7)).block, (ad104.add (((ji27)).toNat * 7)).off + 1, none⟩ = some (.int .i64 ((rd_T33 l0_1 (ji27)).f1)) ∧ w'.cell? ⟨(ad104.add (((ji27)).toNat * 7)).block, (ad104.add (((ji27)).toNat * 7)).off + 2, none⟩ = some (.int .i64 ((rd_T33 l0_1 (ji27)).f2)) ∧ w'.cell? ⟨(ad104.add (((ji27)).toNat * 7)).block, (ad104.add (((ji27)).toNat * 7)).off + 3, none⟩ = some (.int .i64 ((rd_T33 l0_1 (ji27)).f3)) ∧ w'.cell? ⟨(ad104.add (((ji27)).toNat * 7)).block, (ad104.add (((ji27)).toNat * 7)).off + 4, none⟩ = some (.slice A106_4 ((rd_T33 l0_1 (ji27)).f4.f0).length c106_4) ∧ w'.cell? ⟨(ad104.add (((ji27)).toNat * 7)).block, (ad104.add (((ji27)).toNat * 7)).off + 5, none⟩ = some (.slice A106_5 ((rd_T33 l0_1 (ji27)).f5).length c106_5) ∧ w'.cell? ⟨(ad104.add (((ji27)).toNat * 7)).block, (ad104.add (((ji27)).toNat * 7)).off + 6, none⟩ = some (.slice A106_6 ((rd_T33 l0_1 (ji27)).f6).length c106_6)) (ds := []) (bA 21 0) (by kernel_rfl) rfl rfl ⟨(blk_cell BK101.out 0).trans rfl, (blk_cell BK101.out 1).trans rfl, (blk_cell BK105.out 0).trans rfl, (blk_cell BK105.out 1).trans rfl, (blk_cell BK105.out 2).trans rfl, (blk_cell BK105.out 3).trans rfl, (blk_cell BK105.out 4).trans rfl, (blk_cell BK105.out 5).trans rfl, (blk_cell BK105.out 6).trans rfl, (hc_ HB.out hw106_0), (hc_ HB.out hw106_1), (hc_ HB.out hw106_2), (hc_ HB.out hw106_3), (hc_ HB.out hw106_4), (hc_ HB.out hw106_5), (hc_ HB.out hw106_6)⟩ (fun hHeld => ?_); refine with_tabW impl_ZoneOk.tab7 impl_ZoneOk.bits7 (fun HT_ HW_ => ?_)
              generalize w32.drew = w33 at BK101 BK105 HB HR106_0 HR106_4 HR106_5 HR106_6 hx106_0 hx106_1 hx106_2 hx106_3 hx106_4 hx106_5 hx106_6 hHeld ⊢
              refine pu_ HT_ 0 30 (bA 21 1) (v := ?_) (a' := ?_) rfl rfl (by kernel_rfl) (fun _ _ _ h => h) (by rfl) ?_ ?_ ?_; rotate_left; intro w'; go_simp; with_reducible rfl; rotate_left; go_simp; rfl
              refine pu_ HT_ 1 31 (bA 21 3) (v := ?_) (a' := ?_) rfl rfl (by kernel_rfl) (fun _ _ _ h => h) (by rfl) ?_ ?_ ?_; rotate_left; intro w'; go_simp; with_reducible rfl; rotate_left; go_simp; rfl
              refine pu_ HT_ 2 32 (bA 21 7) (v := ?_) (a' := ?_) rfl rfl (by kernel_rfl) (fun _ _ _ h => h) (by rfl) ?_ ?_ ?_; rotate_left; intro w'; go_simp; with_reducible rfl; rotate_left; go_simp; rfl
              refine pu_ HT_ 3 33 (bA 21 15) (v := ?_) (a' := ?_) rfl rfl (by kernel_rfl) (fun _ _ _ h => h) (by rfl) ?_ ?_ ?_; rotate_left; intro w'; go_simp; with_reducible rfl; rotate_left; go_simp; rfl
              refine pu_ HT_ 5 35 (bA 21 47) (v := ?_) (a' := ?_) rfl rfl (by kernel_rfl) (fun _ _ _ h => h) (by rfl) ?_ ?_ ?_; rotate_left; intro w'; go_simp; with_reducible rfl; rotate_left; go_simp; rfl
              refine pu_ HT_ 6 36 (bA 21 111) (v := ?_) (a' := ?_) rfl rfl (by kernel_rfl) (fun _ _ _ h => h) (by rfl) ?_ ?_ ?_; rotate_left; intro w'; go_simp; with_reducible rfl; rotate_left; go_simp; rfl
              refine take_ (i := 4) (N := some 34) (v := ?_) (a' := ?_) (bA 21 127) rfl rfl (take_ofW HT_.out HW_.out (by kernel_rfl)) (fun _ _ _ h => h) (Or.inl ⟨by rfl, ?_⟩) hHeld ?_ ?_
              rotate_left; rintro w' ⟨s0, s1, s2, s3, s4, s5, s6, s7, s8, s9, s10, s11, s12, s13, s14, s15⟩; go_simp; with_reducible rfl; rotate_left; go_simp; rfl
              refine pu_ HT_ 7 37 (bA 21 255) (v := ?_) (a' := ?_) rfl rfl (by kernel_rfl) (fun _ _ _ h => h) (by rfl) ?_ ?_ ?_; rotate_left; intro w'; go_simp; with_reducible rfl; rotate_left; go_simp; rfl
              refine take_ (i := 8) (N := some 38) (v := ?_) (a' := ?_) (bA 21 511) rfl rfl (take_ofW HT_.out HW_.out (by kernel_rfl)) (fun _ _ _ h => h) (Or.inl ⟨by rfl, ?_⟩) hHeld ?_ ?_
              rotate_left; rintro w' ⟨s0, s1, s2, s3, s4, s5, s6, s7, s8, s9, s10, s11, s12, s13, s14, s15⟩; go_simp; with_reducible rfl; rotate_left; go_simp; rfl
              refine take_ (i := 9) (N := some 39) (v := ?_) (a' := ?_) (bA 21 1023) rfl rfl (take_ofW HT_.out HW_.out (by kernel_rfl)) (fun _ _ _ h => h) (Or.inl ⟨by rfl, ?_⟩) hHeld ?_ ?_
              rotate_left; rintro w' ⟨s0, s1, s2, s3, s4, s5, s6, s7, s8, s9, s10, s11, s12, s13, s14, s15⟩; go_simp; with_reducible rfl; rotate_left; go_simp; rfl
              refine one_ (i := 10) (N := some 40) (bA 21 2047) rfl rfl (one_of HT_.out (by kernel_rfl)) (by decide) (fun K hK => ?_)
              refine goes_ Try.func64 (by kernel_rfl) rfl #[.agg #[.slice A106_0 ((rd_T33 l0_1 (ji27)).f0.f0).length c106_0, .int .i64 ((rd_T33 l0_1 (ji27)).f1), .int .i64 ((rd_T33 l0_1 (ji27)).f2), .int .i64 ((rd_T33 l0_1 (ji27)).f3), .slice A106_4 ((rd_T33 l0_1 (ji27)).f4.f0).length c106_4, .slice A106_5 ((rd_T33 l0_1 (ji27)).f5).length c106_5, .slice A106_6 ((rd_T33 l0_1 (ji27)).f6).length c106_6], .agg #[.slice A104_0 ((rd_T33 l0_1 x25_2).f0.f0).length c104_0, .int .i64 ((rd_T33 l0_1 x25_2).f1), .int .i64 ((rd_T33 l0_1 x25_2).f2), .int .i64 ((rd_T33 l0_1 x25_2).f3), .slice A104_4 ((rd_T33 l0_1 x25_2).f4.f0).length c104_4, .slice A104_5 ((rd_T33 l0_1 x25_2).f5).length c104_5, .slice A104_6 ((rd_T33 l0_1 x25_2).f6).length c104_6]] (by rfl) rfl rfl (by (try simp only [List.map_toArray, List.map_cons, List.map_nil]); first | done | (simp only [hji27]; rfl) | rfl | (simp only [List.length_drop, List.length_take]; rfl)) ?_
              with_reducible refine (impl_Rr_compare.calls k2 _ _ ((rd_T33 l0_1 (ji27)).f0.f0) ((rd_T33 l0_1 (ji27)).f1) ((rd_T33 l0_1 (ji27)).f2) ((rd_T33 l0_1 (ji27)).f3) _ _ ((rd_T33 l0_1 (ji27)).f4.f0) _ _ ((rd_T33 l0_1 (ji27)).f5) _ _ ((rd_T33 l0_1 (ji27)).f6) _ _ ((rd_T33 l0_1 x25_2).f0.f0) ((rd_T33 l0_1 x25_2).f1) ((rd_T33 l0_1 x25_2).f2) ((rd_T33 l0_1 x25_2).f3) _ _ ((rd_T33 l0_1 x25_2).f4.f0) _ _ ((rd_T33 l0_1 x25_2).f5) _ _ ((rd_T33 l0_1 x25_2).f6) t107 _ ?side1 ?side2 ?side3 ?side4 ?side5 ?side6 ?side7 ?side8 ?side9 ?side10 ?side11 ?side12 ?side13 ?side14 ?side15 ?side16 A30.out).mono ?_
              (case side1 => exact cw HR106_0.out HB.out)
              (case side2 => exact HC106_0.out)
              (case side3 => exact cw HR106_4.out HB.out)
              (case side4 => exact HC106_4.out)
              (case side5 => exact cw HR106_5.out HB.out)
              (case side6 => exact HC106_5.out)
              (case side7 => exact cw HR106_6.out HB.out)
              (case side8 => exact HC106_6.out)
              (case side9 => exact cw HR104_0.out HB.out)
              (case side10 => exact HC104_0.out)
              (case side11 => exact cw HR104_4.out HB.out)
              (case side12 => exact HC104_4.out)
              (case side13 => exact cw HR104_5.out HB.out)
              (case side14 => exact HC104_5.out)
              (case side15 => exact cw HR104_6.out HB.out)
              (case side16 => exact HC104_6.out)
              rintro e w34 ⟨rfl, hb⟩
              refine ⟨_, rfl, ?_⟩
              have n0_ := ak (blk_below (bk BK101.out) hb)
              have n1_ := ak (blk_below (bk BK105.out) hb)
              have n2_ := ak (below_step (by repeat (first | exact bw HB.out | refine below_set ?_ GE101.out | refine below_set ?_ GE105.out)) hb)
              clear BK101
              clear BK105
              clear HB
              have BK101 := n0_
              have BK105 := n1_
              have HB := n2_
              clear n0_ n1_ n2_
              (try clear hb)
              (try clear hb2)
              (try clear hk)
              (try clear hi)
              refine hK.out _ _ ⟨(blk_cell BK101.out 0).trans rfl, (blk_cell BK101.out 1).trans rfl, (blk_cell BK105.out 0).trans rfl, (blk_cell BK105.out 1).trans rfl, (blk_cell BK105.out 2).trans rfl, (blk_cell BK105.out 3).trans rfl, (blk_cell BK105.out 4).trans rfl, (blk_cell BK105.out 5).trans rfl, (blk_cell BK105.out 6).trans rfl, (hc_ HB.out hw106_0), (hc_ HB.out hw106_1), (hc_ HB.out hw106_2), (hc_ HB.out hw106_3), (hc_ HB.out hw106_4), (hc_ HB.out hw106_5), (hc_ HB.out hw106_6)⟩ (fun hHeld => ?_)
              clear hK K
              refine norm_ (a' := ?_) ?_ ?_; rotate_left; go_simp; rfl
              refine pu_ HT_ 11 41 (bA 21 4095) (v := ?_) (a' := ?_) rfl rfl (by kernel_rfl) (fun _ _ _ h => h) (by rfl) ?_ ?_ ?_; rotate_left; intro w'; go_simp; with_reducible rfl; rotate_left; go_simp; rfl
              refine pu_ HT_ 12 42 (bA 21 8191) (v := ?_) (a' := ?_) rfl rfl (by kernel_rfl) (fun _ _ _ h => h) (by rfl) ?_ ?_ ?_; rotate_left; intro w'; go_simp; with_reducible rfl; rotate_left; go_simp; rfl
              refine pu_ HT_ 13 43 (bA 21 16383) (v := ?_) (a' := ?_) rfl rfl (by kernel_rfl) (fun _ _ _ h => h) (by rfl) ?_ ?_ ?_; rotate_left; intro w'; go_simp; with_reducible rfl; rotate_left; go_simp; rfl
              refine sk_ HT_ 14 44 (bA 21 32767) (a' := ?_) rfl rfl (by kernel_rfl) (fun _ _ _ h => h) (by rfl) ?_ ?_; rotate_left; go_simp; rfl
              refine sk_ HT_ 15 45 (bA 21 65535) (a' := ?_) rfl rfl (by kernel_rfl) (fun _ _ _ h => h) (by rfl) ?_ ?_; rotate_left; go_simp; rfl
              refine sk_ HT_ 16 46 (bA 21 131071) (a' := ?_) rfl rfl (by kernel_rfl) (fun _ _ _ h => h) (by rfl) ?_ ?_; rotate_left; go_simp; rfl
              refine sk_ HT_ 17 47 (bA 21 262143) (a' := ?_) rfl rfl (by kernel_rfl) (fun _ _ _ h => h) (by rfl) ?_ ?_; rotate_left; go_simp; rfl
              refine sk_ HT_ 18 48 (bA 21 524287) (a' := ?_) rfl rfl (by kernel_rfl) (fun _ _ _ h => h) (by rfl) ?_ ?_; rotate_left; go_simp; rfl
              refine sk_ HT_ 19 49 (bA 21 1048575) (a' := ?_) rfl rfl (by kernel_rfl) (fun _ _ _ h => h) (by rfl) ?_ ?_; rotate_left; go_simp; rfl
              refine pu_ HT_ 20 50 (bA 21 2097151) (v := ?_) (a' := ?_) rfl rfl (by kernel_rfl) (fun _ _ _ h => h) (by rfl) ?_ ?_ ?_; rotate_left; intro w'; go_simp; with_reducible rfl; rotate_left; go_simp; rfl
              refine done_ (done_of HT_.out (by kernel_rfl)) ?_
              try go_wp2
              go_meet
              case rel => exact ⟨_, (true), (by first | rfl | (simp; done) | (simp [*]; done)), H', ⟨by have := HJ1.out; have := HK2.out; first | omega | exact Nat.le_refl _⟩, ⟨bk BK101.out⟩, ⟨bk BK105.out⟩, ⟨by repeat (first | exact bw HB.out | refine below_set ?_ GE101.out | refine below_set ?_ GE105.out)⟩⟩
             ·rw [if_neg c31] at H
              have c31b0 : decide (0 ≤ t107) = false := decide_eq_false c31
              clear c31
              replace H := Option.bind_eq_some_iff.mp H
              obtain ⟨t108, A350, H⟩ := H
              replace H : (impl_ZoneOk.j2 k2 x3_2 l0_1 (l0_1.length : Int) x25_2 (!t108) l0_0 l0_1 ((rd_T33 l0_1 x25_2).f0.f0) ((rd_T33 l0_1 x25_2).f1) ((rd_T33 l0_1 x25_2).f2) ((rd_T33 l0_1 x25_2).f3) ((rd_T33 l0_1 x25_2).f4.f0) ((rd_T33 l0_1 x25_2).f5) ((rd_T33 l0_1 x25_2).f6)) = some r := H
              have A35 := ak A350
              clear A350
              have H' := ak H
              clear H
              try go_wp2
              have n0_ : Aside0 ((((((((w23.setCell ⟨gb105, 0, none⟩ (.slice A104_0 ((rd_T33 l0_1 x25_2).f0.f0).length c104_0)).setCell ⟨gb105, 1, none⟩ (.int .i64 ((rd_T33 l0_1 x25_2).f1))).setCell ⟨gb105, 2, none⟩ (.int .i64 ((rd_T33 l0_1 x25_2).f2))).setCell ⟨gb105, 3, none⟩ (.int .i64 ((rd_T33 l0_1 x25_2).f3))).setCell ⟨gb105, 4, none⟩ (.slice A104_4 ((rd_T33 l0_1 x25_2).f4.f0).length c104_4)).setCell ⟨gb105, 5, none⟩ (.slice A104_5 ((rd_T33 l0_1 x25_2).f5).length c104_5)).setCell ⟨gb105, 6, none⟩ (.slice A104_6 ((rd_T33 l0_1 x25_2).f6).length c104_6)).heap[gb101]? = some (.cells #[.slice A0_0 l0_0.length c0_0, .slice (some ad104) l0_1.length c0_1] 59 (0, 0))) := ⟨bfar7 NB101_105.out BK101.out⟩
              have n1_ : Aside0 ((((((((w23.setCell ⟨gb105, 0, none⟩ (.slice A104_0 ((rd_T33 l0_1 x25_2).f0.f0).length c104_0)).setCell ⟨gb105, 1, none⟩ (.int .i64 ((rd_T33 l0_1 x25_2).f1))).setCell ⟨gb105, 2, none⟩ (.int .i64 ((rd_T33 l0_1 x25_2).f2))).setCell ⟨gb105, 3, none⟩ (.int .i64 ((rd_T33 l0_1 x25_2).f3))).setCell ⟨gb105, 4, none⟩ (.slice A104_4 ((rd_T33 l0_1 x25_2).f4.f0).length c104_4)).setCell ⟨gb105, 5, none⟩ (.slice A104_5 ((rd_T33 l0_1 x25_2).f5).length c104_5)).setCell ⟨gb105, 6, none⟩ (.slice A104_6 ((rd_T33 l0_1 x25_2).f6).length c104_6)).heap[gb105]? = some (.cells #[.slice A104_0 ((rd_T33 l0_1 x25_2).f0.f0).length c104_0, .int .i64 ((rd_T33 l0_1 x25_2).f1), .int .i64 ((rd_T33 l0_1 x25_2).f2), .int .i64 ((rd_T33 l0_1 x25_2).f3), .slice A104_4 ((rd_T33 l0_1 x25_2).f4.f0).length c104_4, .slice A104_5 ((rd_T33 l0_1 x25_2).f5).length c104_5, .slice A104_6 ((rd_T33 l0_1 x25_2).f6).length c104_6] 33 (0, 0))) := ⟨bput7 BK105.out⟩
              have n2_ : Aside0 (Below w.heap.size w (((((((w23.setCell ⟨gb105, 0, none⟩ (.slice A104_0 ((rd_T33 l0_1 x25_2).f0.f0).length c104_0)).setCell ⟨gb105, 1, none⟩ (.int .i64 ((rd_T33 l0_1 x25_2).f1))).setCell ⟨gb105, 2, none⟩ (.int .i64 ((rd_T33 l0_1 x25_2).f2))).setCell ⟨gb105, 3, none⟩ (.int .i64 ((rd_T33 l0_1 x25_2).f3))).setCell ⟨gb105, 4, none⟩ (.slice A104_4 ((rd_T33 l0_1 x25_2).f4.f0).length c104_4)).setCell ⟨gb105, 5, none⟩ (.slice A104_5 ((rd_T33 l0_1 x25_2).f5).length c104_5)).setCell ⟨gb105, 6, none⟩ (.slice A104_6 ((rd_T33 l0_1 x25_2).f6).length c104_6))) := ⟨by repeat (first | exact bw HB.out | refine below_set ?_ GE101.out | refine below_set ?_ GE105.out)⟩
              (try clear BK101)
              (try clear BK105)
              (try clear HB)
              generalize (((((((w23.setCell ⟨gb105, 0, none⟩ (.slice A104_0 ((rd_T33 l0_1 x25_2).f0.f0).length c104_0)).setCell ⟨gb105, 1, none⟩ (.int .i64 ((rd_T33 l0_1 x25_2).f1))).setCell ⟨gb105, 2, none⟩ (.int .i64 ((rd_T33 l0_1 x25_2).f2))).setCell ⟨gb105, 3, none⟩ (.int .i64 ((rd_T33 l0_1 x25_2).f3))).setCell ⟨gb105, 4, none⟩ (.slice A104_4 ((rd_T33 l0_1 x25_2).f4.f0).length c104_4)).setCell ⟨gb105, 5, none⟩ (.slice A104_5 ((rd_T33 l0_1 x25_2).f5).length c104_5)).setCell ⟨gb105, 6, none⟩ (.slice A104_6 ((rd_T33 l0_1 x25_2).f6).length c104_6)) = w36 at n0_ n1_ n2_ ⊢
              have BK101 := n0_
              have BK105 := n1_
              have HB := n2_
              clear n0_ n1_ n2_
              have n0_ := ak (blk_drew BK101.out)
              have n1_ := ak (blk_drew BK105.out)
              have n2_ := ak (below_drew1 HB.out)
              clear BK101
              clear BK105
              clear HB
              have BK101 := n0_
              have BK105 := n1_
              have HB := n2_
              clear n0_ n1_ n2_
              have p106 : 0 ≤ ((ji27) : Int) := of_decide_eq_true (by first | (with_reducible assumption) | assumption)
              have q106 : (ji27) < (l0_1.length : Int) := of_decide_eq_true (by first | (with_reducible assumption) | assumption)
              obtain ⟨ad106, A106_0, c106_0, A106_4, c106_4, A106_5, c106_5, A106_6, c106_6, e106, hx106_0, hx106_1, hx106_2, hx106_3, hx106_4, hx106_5, hx106_6, hl106_0, hi106_0, hl106_4, hi106_4, hl106_5, hi106_5, hl106_6, hi106_6⟩ := at_T33 HR0_1.out (ji27) p106 q106
              have hw106_6 := hx106_6
              have hw106_5 := hx106_5
              have hw106_4 := hx106_4
              have hw106_3 := hx106_3
              have hw106_2 := hx106_2
              have hw106_1 := hx106_1
              have hw106_0 := hx106_0
              obtain rfl : ad104 = ad106 := (by injection e106)
              replace hx106_0 := hc_ HB.out hx106_0
              replace hx106_1 := hc_ HB.out hx106_1
              replace hx106_2 := hc_ HB.out hx106_2
              replace hx106_3 := hc_ HB.out hx106_3
              replace hx106_4 := hc_ HB.out hx106_4
              replace hx106_5 := hc_ HB.out hx106_5
              replace hx106_6 := hc_ HB.out hx106_6
              have HR106_0 := ak hi106_0
              have HC106_0 := ak hl106_0
              clear hi106_0 hl106_0
              have HR106_4 := ak hi106_4
              have HC106_4 := ak hl106_4
              clear hi106_4 hl106_4
              have HR106_5 := ak hi106_5
              have HC106_5 := ak hl106_5
              clear hi106_5 hl106_5
              have HR106_6 := ak hi106_6
              have HC106_6 := ak hl106_6
              clear hi106_6 hl106_6
              replace p106 := eq_true p106
              replace q106 := eq_true q106
              refine start_ (n := 21) (S := fun w' => w'.cell? ⟨gb101, 0, none⟩ = some (.slice A0_0 l0_0.length c0_0) ∧ w'.cell? ⟨gb101, 1, none⟩ = some (.slice (some ad104) l0_1.length c0_1) ∧ w'.cell? ⟨gb105, 0, none⟩ = some (.slice A104_0 ((rd_T33 l0_1 x25_2).f0.f0).length c104_0) ∧ w'.cell? ⟨gb105, 1, none⟩ = some (.int .i64 ((rd_T33 l0_1 x25_2).f1)) ∧ w'.cell? ⟨gb105, 2, none⟩ = some (.int .i64 ((rd_T33 l0_1 x25_2).f2)) ∧ w'.cell? ⟨gb105, 3, none⟩ = some (.int .i64 ((rd_T33 l0_1 x25_2).f3)) ∧ w'.cell? ⟨gb105, 4, none⟩ = some (.slice A104_4 ((rd_T33 l0_1 x25_2).f4.f0).length c104_4) ∧ w'.cell? ⟨gb105, 5, none⟩ = some (.slice A104_5 ((rd_T33 l0_1 x25_2).f5).length c104_5) ∧ w'.cell? ⟨gb105, 6, none⟩ = some (.slice A104_6 ((rd_T33 l0_1 x25_2).f6).length c104_6) ∧ w'.cell? (ad104.add (((ji27)).toNat * 7)) = some (.slice A106_0 ((rd_T33 l0_1 (ji27)).f0.f0).length c106_0) ∧ w'.cell? ⟨(ad104.add (((ji27)).toNat * 7)).block, (ad104.add (((ji27)).toNat * 7)).off + 1, none⟩ = some (.int .i64 ((rd_T33 l0_1 (ji27)).f1)) ∧ w'.cell? ⟨(ad104.add (((ji27)).toNat * 7)).block, (ad104.add (((ji27)).toNat * 7)).off + 2, none⟩ = some (.int .i64 ((rd_T33 l0_1 (ji27)).f2)) ∧ w'.cell? ⟨(ad104.add (((ji27)).toNat * 7)).block, (ad104.add (((ji27)).toNat * 7)).off + 3, none⟩ = some (.int .i64 ((rd_T33 l0_1 (ji27)).f3)) ∧ w'.cell? ⟨(ad104.add (((ji27)).toNat * 7)).block, (ad104.add (((ji27)).toNat * 7)).off + 4, none⟩ = some (.slice A106_4 ((rd_T33 l0_1 (ji27)).f4.f0).length c106_4) ∧ w'.cell? ⟨(ad104.add (((ji27)).toNat * 7)).block, (ad104.add (((ji27)).toNat * 7)).off + 5, none⟩ = some (.slice A106_5 ((rd_T33 l0_1 (ji27)).f5).length c106_5) ∧ w'.cell? ⟨(ad104.add (((ji27)).toNat * 7)).block, (ad104.add (((ji27)).toNat * 7)).off + 6, none⟩ = some (.slice A106_6 ((rd_T33 l0_1 (ji27)).f6).length c106_6)) (ds := []) (bA 21 0) (by kernel_rfl) rfl rfl ⟨(blk_cell BK101.out 0).trans rfl, (blk_cell BK101.out 1).trans rfl, (blk_cell BK105.out 0).trans rfl, (blk_cell BK105.out 1).trans rfl, (blk_cell BK105.out 2).trans rfl, (blk_cell BK105.out 3).trans rfl, (blk_cell BK105.out 4).trans rfl, (blk_cell BK105.out 5).trans rfl, (blk_cell BK105.out 6).trans rfl, (hc_ HB.out hw106_0), (hc_ HB.out hw106_1), (hc_ HB.out hw106_2), (hc_ HB.out hw106_3), (hc_ HB.out hw106_4), (hc_ HB.out hw106_5), (hc_ HB.out hw106_6)⟩ (fun hHeld => ?_); refine with_tabW impl_ZoneOk.tab7 impl_ZoneOk.bits7 (fun HT_ HW_ => ?_)
              generalize w36.drew = w37 at BK101 BK105 HB HR106_0 HR106_4 HR106_5 HR106_6 hx106_0 hx106_1 hx106_2 hx106_3 hx106_4 hx106_5 hx106_6 hHeld ⊢
              refine pu_ HT_ 0 30 (bA 21 1) (v := ?_) (a' := ?_) rfl rfl (by kernel_rfl) (fun _ _ _ h => h) (by rfl) ?_ ?_ ?_; rotate_left; intro w'; go_simp; with_reducible rfl; rotate_left; go_simp; rfl
              refine pu_ HT_ 1 31 (bA 21 3) (v := ?_) (a' := ?_) rfl rfl (by kernel_rfl) (fun _ _ _ h => h) (by rfl) ?_ ?_ ?_; rotate_left; intro w'; go_simp; with_reducible rfl; rotate_left; go_simp; rfl
              refine pu_ HT_ 2 32 (bA 21 7) (v := ?_) (a' := ?_) rfl rfl (by kernel_rfl) (fun _ _ _ h => h) (by rfl) ?_ ?_ ?_; rotate_left; intro w'; go_simp; with_reducible rfl; rotate_left; go_simp; rfl
              refine pu_ HT_ 3 33 (bA 21 15) (v := ?_) (a' := ?_) rfl rfl (by kernel_rfl) (fun _ _ _ h => h) (by rfl) ?_ ?_ ?_; rotate_left; intro w'; go_simp; with_reducible rfl; rotate_left; go_simp; rfl
              refine pu_ HT_ 5 35 (bA 21 47) (v := ?_) (a' := ?_) rfl rfl (by kernel_rfl) (fun _ _ _ h => h) (by rfl) ?_ ?_ ?_; rotate_left; intro w'; go_simp; with_reducible rfl; rotate_left; go_simp; rfl
              refine pu_ HT_ 6 36 (bA 21 111) (v := ?_) (a' := ?_) rfl rfl (by kernel_rfl) (fun _ _ _ h => h) (by rfl) ?_ ?_ ?_; rotate_left; intro w'; go_simp; with_reducible rfl; rotate_left; go_simp; rfl
              refine take_ (i := 4) (N := some 34) (v := ?_) (a' := ?_) (bA 21 127) rfl rfl (take_ofW HT_.out HW_.out (by kernel_rfl)) (fun _ _ _ h => h) (Or.inl ⟨by rfl, ?_⟩) hHeld ?_ ?_
              rotate_left; rintro w' ⟨s0, s1, s2, s3, s4, s5, s6, s7, s8, s9, s10, s11, s12, s13, s14, s15⟩; go_simp; with_reducible rfl; rotate_left; go_simp; rfl
              refine pu_ HT_ 7 37 (bA 21 255) (v := ?_) (a' := ?_) rfl rfl (by kernel_rfl) (fun _ _ _ h => h) (by rfl) ?_ ?_ ?_; rotate_left; intro w'; go_simp; with_reducible rfl; rotate_left; go_simp; rfl
              refine take_ (i := 8) (N := some 38) (v := ?_) (a' := ?_) (bA 21 511) rfl rfl (take_ofW HT_.out HW_.out (by kernel_rfl)) (fun _ _ _ h => h) (Or.inl ⟨by rfl, ?_⟩) hHeld ?_ ?_
              rotate_left; rintro w' ⟨s0, s1, s2, s3, s4, s5, s6, s7, s8, s9, s10, s11, s12, s13, s14, s15⟩; go_simp; with_reducible rfl; rotate_left; go_simp; rfl
              refine take_ (i := 9) (N := some 39) (v := ?_) (a' := ?_) (bA 21 1023) rfl rfl (take_ofW HT_.out HW_.out (by kernel_rfl)) (fun _ _ _ h => h) (Or.inl ⟨by rfl, ?_⟩) hHeld ?_ ?_
              rotate_left; rintro w' ⟨s0, s1, s2, s3, s4, s5, s6, s7, s8, s9, s10, s11, s12, s13, s14, s15⟩; go_simp; with_reducible rfl; rotate_left; go_simp; rfl
              refine one_ (i := 10) (N := some 40) (bA 21 2047) rfl rfl (one_of HT_.out (by kernel_rfl)) (by decide) (fun K hK => ?_)
              refine goes_ Try.func64 (by kernel_rfl) rfl #[.agg #[.slice A106_0 ((rd_T33 l0_1 (ji27)).f0.f0).length c106_0, .int .i64 ((rd_T33 l0_1 (ji27)).f1), .int .i64 ((rd_T33 l0_1 (ji27)).f2), .int .i64 ((rd_T33 l0_1 (ji27)).f3), .slice A106_4 ((rd_T33 l0_1 (ji27)).f4.f0).length c106_4, .slice A106_5 ((rd_T33 l0_1 (ji27)).f5).length c106_5, .slice A106_6 ((rd_T33 l0_1 (ji27)).f6).length c106_6], .agg #[.slice A104_0 ((rd_T33 l0_1 x25_2).f0.f0).length c104_0, .int .i64 ((rd_T33 l0_1 x25_2).f1), .int .i64 ((rd_T33 l0_1 x25_2).f2), .int .i64 ((rd_T33 l0_1 x25_2).f3), .slice A104_4 ((rd_T33 l0_1 x25_2).f4.f0).length c104_4, .slice A104_5 ((rd_T33 l0_1 x25_2).f5).length c104_5, .slice A104_6 ((rd_T33 l0_1 x25_2).f6).length c104_6]] (by rfl) rfl rfl (by (try simp only [List.map_toArray, List.map_cons, List.map_nil]); first | done | (simp only [hji27]; rfl) | rfl | (simp only [List.length_drop, List.length_take]; rfl)) ?_
              with_reducible refine (impl_Rr_compare.calls k2 _ _ ((rd_T33 l0_1 (ji27)).f0.f0) ((rd_T33 l0_1 (ji27)).f1) ((rd_T33 l0_1 (ji27)).f2) ((rd_T33 l0_1 (ji27)).f3) _ _ ((rd_T33 l0_1 (ji27)).f4.f0) _ _ ((rd_T33 l0_1 (ji27)).f5) _ _ ((rd_T33 l0_1 (ji27)).f6) _ _ ((rd_T33 l0_1 x25_2).f0.f0) ((rd_T33 l0_1 x25_2).f1) ((rd_T33 l0_1 x25_2).f2) ((rd_T33 l0_1 x25_2).f3) _ _ ((rd_T33 l0_1 x25_2).f4.f0) _ _ ((rd_T33 l0_1 x25_2).f5) _ _ ((rd_T33 l0_1 x25_2).f6) t107 _ ?side1 ?side2 ?side3 ?side4 ?side5 ?side6 ?side7 ?side8 ?side9 ?side10 ?side11 ?side12 ?side13 ?side14 ?side15 ?side16 A30.out).mono ?_
              (case side1 => exact cw HR106_0.out HB.out)
              (case side2 => exact HC106_0.out)
              (case side3 => exact cw HR106_4.out HB.out)
              (case side4 => exact HC106_4.out)
              (case side5 => exact cw HR106_5.out HB.out)
              (case side6 => exact HC106_5.out)
              (case side7 => exact cw HR106_6.out HB.out)
              (case side8 => exact HC106_6.out)
              (case side9 => exact cw HR104_0.out HB.out)
              (case side10 => exact HC104_0.out)
              (case side11 => exact cw HR104_4.out HB.out)
              (case side12 => exact HC104_4.out)
              (case side13 => exact cw HR104_5.out HB.out)
              (case side14 => exact HC104_5.out)
              (case side15 => exact cw HR104_6.out HB.out)
              (case side16 => exact HC104_6.out)
              rintro e w38 ⟨rfl, hb⟩
              refine ⟨_, rfl, ?_⟩
              have n0_ := ak (blk_below (bk BK101.out) hb)
              have n1_ := ak (blk_below (bk BK105.out) hb)
              have n2_ := ak (below_step (by repeat (first | exact bw HB.out | refine below_set ?_ GE101.out | refine below_set ?_ GE105.out)) hb)
              clear BK101
              clear BK105
              clear HB
              have BK101 := n0_
              have BK105 := n1_
              have HB := n2_
              clear n0_ n1_ n2_
              (try clear hb)
              (try clear hb2)
              (try clear hk)
              (try clear hi)
              refine hK.out _ _ ⟨(blk_cell BK101.out 0).trans rfl, (blk_cell BK101.out 1).trans rfl, (blk_cell BK105.out 0).trans rfl, (blk_cell BK105.out 1).trans rfl, (blk_cell BK105.out 2).trans rfl, (blk_cell BK105.out 3).trans rfl, (blk_cell BK105.out 4).trans rfl, (blk_cell BK105.out 5).trans rfl, (blk_cell BK105.out 6).trans rfl, (hc_ HB.out hw106_0), (hc_ HB.out hw106_1), (hc_ HB.out hw106_2), (hc_ HB.out hw106_3), (hc_ HB.out hw106_4), (hc_ HB.out hw106_5), (hc_ HB.out hw106_6)⟩ (fun hHeld => ?_)
              clear hK K
              refine norm_ (a' := ?_) ?_ ?_; rotate_left; go_simp; rfl
              refine pu_ HT_ 11 41 (bA 21 4095) (v := ?_) (a' := ?_) rfl rfl (by kernel_rfl) (fun _ _ _ h => h) (by rfl) ?_ ?_ ?_; rotate_left; intro w'; go_simp; with_reducible rfl; rotate_left; go_simp; rfl
              refine pu_ HT_ 12 42 (bA 21 8191) (v := ?_) (a' := ?_) rfl rfl (by kernel_rfl) (fun _ _ _ h => h) (by rfl) ?_ ?_ ?_; rotate_left; intro w'; go_simp; with_reducible rfl; rotate_left; go_simp; rfl
              refine pu_ HT_ 13 43 (bA 21 16383) (v := ?_) (a' := ?_) rfl rfl (by kernel_rfl) (fun _ _ _ h => h) (by rfl) ?_ ?_ ?_; rotate_left; intro w'; go_simp; with_reducible rfl; rotate_left; go_simp; rfl
              refine pu_ HT_ 14 44 (bA 21 32767) (v := ?_) (a' := ?_) rfl rfl (by kernel_rfl) (fun _ _ _ h => h) (by rfl) ?_ ?_ ?_; rotate_left; intro w'; go_simp; with_reducible rfl; rotate_left; go_simp; rfl
              refine pu_ HT_ 16 46 (bA 21 98303) (v := ?_) (a' := ?_) rfl rfl (by kernel_rfl) (fun _ _ _ h => h) (by rfl) ?_ ?_ ?_; rotate_left; intro w'; go_simp; with_reducible rfl; rotate_left; go_simp; rfl
              refine take_ (i := 15) (N := some 45) (v := ?_) (a' := ?_) (bA 21 131071) rfl rfl (take_ofW HT_.out HW_.out (by kernel_rfl)) (fun _ _ _ h => h) (Or.inl ⟨by rfl, ?_⟩) hHeld ?_ ?_
              rotate_left; rintro w' ⟨s0, s1, s2, s3, s4, s5, s6, s7, s8, s9, s10, s11, s12, s13, s14, s15⟩; go_simp; with_reducible rfl; rotate_left; go_simp; rfl
              refine take_ (i := 17) (N := some 47) (v := ?_) (a' := ?_) (bA 21 262143) rfl rfl (take_ofW HT_.out HW_.out (by kernel_rfl)) (fun _ _ _ h => h) (Or.inl ⟨by rfl, ?_⟩) hHeld ?_ ?_
              rotate_left; rintro w' ⟨s0, s1, s2, s3, s4, s5, s6, s7, s8, s9, s10, s11, s12, s13, s14, s15⟩; go_simp; with_reducible rfl; rotate_left; go_simp; rfl
              refine one_ (i := 18) (N := some 48) (bA 21 524287) rfl rfl (one_of HT_.out (by kernel_rfl)) (by decide) (fun K hK => ?_)
              refine goes_ Try.func101 (by kernel_rfl) rfl #[.agg #[.slice A104_0 ((rd_T33 l0_1 x25_2).f0.f0).length c104_0], .agg #[.slice A0_0 l0_0.length c0_0]] (by rfl) rfl rfl (by first | rfl | (simp only [List.map_toArray, List.map_cons, List.map_nil]; first | done | rfl)) ?_
              with_reducible refine (impl_Name_under.calls _ _ ((rd_T33 l0_1 x25_2).f0.f0) _ _ l0_0 t108 _ ?side1 ?side2 ?side3 ?side4 A35.out).mono ?_
              (case side1 => exact cw HR104_0.out HB.out)
              (case side2 => exact HC104_0.out)
              (case side3 => exact cw HR0_0.out HB.out)
              (case side4 => exact HC0_0.out)
              rintro e w39 ⟨rfl, hb⟩
              refine ⟨_, rfl, ?_⟩
              have n0_ := ak (blk_below (bk BK101.out) hb)
              have n1_ := ak (blk_below (bk BK105.out) hb)
              have n2_ := ak (below_step (by repeat (first | exact bw HB.out | refine below_set ?_ GE101.out | refine below_set ?_ GE105.out)) hb)
              clear BK101
              clear BK105
              clear HB
              have BK101 := n0_
              have BK105 := n1_
              have HB := n2_
              clear n0_ n1_ n2_
              (try clear hb)
              (try clear hb2)
              (try clear hk)
              (try clear hi)
              refine hK.out _ _ ⟨(blk_cell BK101.out 0).trans rfl, (blk_cell BK101.out 1).trans rfl, (blk_cell BK105.out 0).trans rfl, (blk_cell BK105.out 1).trans rfl, (blk_cell BK105.out 2).trans rfl, (blk_cell BK105.out 3).trans rfl, (blk_cell BK105.out 4).trans rfl, (blk_cell BK105.out 5).trans rfl, (blk_cell BK105.out 6).trans rfl, (hc_ HB.out hw106_0), (hc_ HB.out hw106_1), (hc_ HB.out hw106_2), (hc_ HB.out hw106_3), (hc_ HB.out hw106_4), (hc_ HB.out hw106_5), (hc_ HB.out hw106_6)⟩ (fun hHeld => ?_)
              clear hK K
              refine norm_ (a' := ?_) ?_ ?_; rotate_left; go_simp; rfl
              refine pu_ HT_ 19 49 (bA 21 1048575) (v := ?_) (a' := ?_) rfl rfl (by kernel_rfl) (fun _ _ _ h => h) (by rfl) ?_ ?_ ?_; rotate_left; intro w'; go_simp; with_reducible rfl; rotate_left; go_simp; rfl
              refine pu_ HT_ 20 50 (bA 21 2097151) (v := ?_) (a' := ?_) rfl rfl (by kernel_rfl) (fun _ _ _ h => h) (by rfl) ?_ ?_ ?_; rotate_left; intro w'; go_simp; with_reducible rfl; rotate_left; go_simp; rfl
              refine done_ (done_of HT_.out (by kernel_rfl)) ?_
              try go_wp2
              go_meet
              case rel => exact ⟨_, (!t108), (by first | rfl | (simp; done) | (simp [*]; done)), H', ⟨by have := HJ1.out; have := HK2.out; first | omega | exact Nat.le_refl _⟩, ⟨bk BK101.out⟩, ⟨bk BK105.out⟩, ⟨by repeat (first | exact bw HB.out | refine below_set ?_ GE101.out | refine below_set ?_ GE105.out)⟩⟩
            ·rw [if_neg c29] at H
             exact absurd H (by simp)
           ·rw [if_neg c28] at H
            exact absurd H (by simp)
          ·rw [if_neg c26] at H
           have c26b0 : decide (0 < x25_2) = false := decide_eq_false c26
           clear c26
           (first | rw [c26b0] | (simp only [i64_w, i32_w]; rw [c26b0]) | skip)
           replace H := Option.bind_eq_some_iff.mp H
           obtain ⟨t109, A400, H⟩ := H
           replace H : (impl_ZoneOk.j2 k2 x3_2 l0_1 (l0_1.length : Int) x25_2 (!t109) l0_0 l0_1 ((rd_T33 l0_1 x25_2).f0.f0) ((rd_T33 l0_1 x25_2).f1) ((rd_T33 l0_1 x25_2).f2) ((rd_T33 l0_1 x25_2).f3) ((rd_T33 l0_1 x25_2).f4.f0) ((rd_T33 l0_1 x25_2).f5) ((rd_T33 l0_1 x25_2).f6)) = some r := H
           have A40 := ak A400
           clear A400
           have H' := ak H
           clear H
           try go_wp2
           have n0_ : Aside0 ((((((((w23.setCell ⟨gb105, 0, none⟩ (.slice A104_0 ((rd_T33 l0_1 x25_2).f0.f0).length c104_0)).setCell ⟨gb105, 1, none⟩ (.int .i64 ((rd_T33 l0_1 x25_2).f1))).setCell ⟨gb105, 2, none⟩ (.int .i64 ((rd_T33 l0_1 x25_2).f2))).setCell ⟨gb105, 3, none⟩ (.int .i64 ((rd_T33 l0_1 x25_2).f3))).setCell ⟨gb105, 4, none⟩ (.slice A104_4 ((rd_T33 l0_1 x25_2).f4.f0).length c104_4)).setCell ⟨gb105, 5, none⟩ (.slice A104_5 ((rd_T33 l0_1 x25_2).f5).length c104_5)).setCell ⟨gb105, 6, none⟩ (.slice A104_6 ((rd_T33 l0_1 x25_2).f6).length c104_6)).heap[gb101]? = some (.cells #[.slice A0_0 l0_0.length c0_0, .slice (some ad104) l0_1.length c0_1] 59 (0, 0))) := ⟨bfar7 NB101_105.out BK101.out⟩
           have n1_ : Aside0 ((((((((w23.setCell ⟨gb105, 0, none⟩ (.slice A104_0 ((rd_T33 l0_1 x25_2).f0.f0).length c104_0)).setCell ⟨gb105, 1, none⟩ (.int .i64 ((rd_T33 l0_1 x25_2).f1))).setCell ⟨gb105, 2, none⟩ (.int .i64 ((rd_T33 l0_1 x25_2).f2))).setCell ⟨gb105, 3, none⟩ (.int .i64 ((rd_T33 l0_1 x25_2).f3))).setCell ⟨gb105, 4, none⟩ (.slice A104_4 ((rd_T33 l0_1 x25_2).f4.f0).length c104_4)).setCell ⟨gb105, 5, none⟩ (.slice A104_5 ((rd_T33 l0_1 x25_2).f5).length c104_5)).setCell ⟨gb105, 6, none⟩ (.slice A104_6 ((rd_T33 l0_1 x25_2).f6).length c104_6)).heap[gb105]? = some (.cells #[.slice A104_0 ((rd_T33 l0_1 x25_2).f0.f0).length c104_0, .int .i64 ((rd_T33 l0_1 x25_2).f1), .int .i64 ((rd_T33 l0_1 x25_2).f2), .int .i64 ((rd_T33 l0_1 x25_2).f3), .slice A104_4 ((rd_T33 l0_1 x25_2).f4.f0).length c104_4, .slice A104_5 ((rd_T33 l0_1 x25_2).f5).length c104_5, .slice A104_6 ((rd_T33 l0_1 x25_2).f6).length c104_6] 33 (0, 0))) := ⟨bput7 BK105.out⟩
           have n2_ : Aside0 (Below w.heap.size w (((((((w23.setCell ⟨gb105, 0, none⟩ (.slice A104_0 ((rd_T33 l0_1 x25_2).f0.f0).length c104_0)).setCell ⟨gb105, 1, none⟩ (.int .i64 ((rd_T33 l0_1 x25_2).f1))).setCell ⟨gb105, 2, none⟩ (.int .i64 ((rd_T33 l0_1 x25_2).f2))).setCell ⟨gb105, 3, none⟩ (.int .i64 ((rd_T33 l0_1 x25_2).f3))).setCell ⟨gb105, 4, none⟩ (.slice A104_4 ((rd_T33 l0_1 x25_2).f4.f0).length c104_4)).setCell ⟨gb105, 5, none⟩ (.slice A104_5 ((rd_T33 l0_1 x25_2).f5).length c104_5)).setCell ⟨gb105, 6, none⟩ (.slice A104_6 ((rd_T33 l0_1 x25_2).f6).length c104_6))) := ⟨by repeat (first | exact bw HB.out | refine below_set ?_ GE101.out | refine below_set ?_ GE105.out)⟩
           (try clear BK101)
           (try clear BK105)
           (try clear HB)
           generalize (((((((w23.setCell ⟨gb105, 0, none⟩ (.slice A104_0 ((rd_T33 l0_1 x25_2).f0.f0).length c104_0)).setCell ⟨gb105, 1, none⟩ (.int .i64 ((rd_T33 l0_1 x25_2).f1))).setCell ⟨gb105, 2, none⟩ (.int .i64 ((rd_T33 l0_1 x25_2).f2))).setCell ⟨gb105, 3, none⟩ (.int .i64 ((rd_T33 l0_1 x25_2).f3))).setCell ⟨gb105, 4, none⟩ (.slice A104_4 ((rd_T33 l0_1 x25_2).f4.f0).length c104_4)).setCell ⟨gb105, 5, none⟩ (.slice A104_5 ((rd_T33 l0_1 x25_2).f5).length c104_5)).setCell ⟨gb105, 6, none⟩ (.slice A104_6 ((rd_T33 l0_1 x25_2).f6).length c104_6)) = w41 at n0_ n1_ n2_ ⊢
           have BK101 := n0_
           have BK105 := n1_
           have HB := n2_
           clear n0_ n1_ n2_
           have n0_ := ak (blk_drew BK101.out)
           have n1_ := ak (blk_drew BK105.out)
           have n2_ := ak (below_drew1 HB.out)
           clear BK101
           clear BK105
           clear HB
           have BK101 := n0_
           have BK105 := n1_
           have HB := n2_
           clear n0_ n1_ n2_
           refine start_ (n := 21) (S := fun w' => w'.cell? ⟨gb105, 0, none⟩ = some (.slice A104_0 ((rd_T33 l0_1 x25_2).f0.f0).length c104_0) ∧ w'.cell? ⟨gb105, 1, none⟩ = some (.int .i64 ((rd_T33 l0_1 x25_2).f1)) ∧ w'.cell? ⟨gb105, 2, none⟩ = some (.int .i64 ((rd_T33 l0_1 x25_2).f2)) ∧ w'.cell? ⟨gb105, 3, none⟩ = some (.int .i64 ((rd_T33 l0_1 x25_2).f3)) ∧ w'.cell? ⟨gb105, 4, none⟩ = some (.slice A104_4 ((rd_T33 l0_1 x25_2).f4.f0).length c104_4) ∧ w'.cell? ⟨gb105, 5, none⟩ = some (.slice A104_5 ((rd_T33 l0_1 x25_2).f5).length c104_5) ∧ w'.cell? ⟨gb105, 6, none⟩ = some (.slice A104_6 ((rd_T33 l0_1 x25_2).f6).length c104_6) ∧ w'.cell? ⟨gb101, 0, none⟩ = some (.slice A0_0 l0_0.length c0_0) ∧ w'.cell? ⟨gb101, 1, none⟩ = some (.slice (some ad104) l0_1.length c0_1)) (ds := []) (bA 21 0) (by kernel_rfl) rfl rfl ⟨(blk_cell BK105.out 0).trans rfl, (blk_cell BK105.out 1).trans rfl, (blk_cell BK105.out 2).trans rfl, (blk_cell BK105.out 3).trans rfl, (blk_cell BK105.out 4).trans rfl, (blk_cell BK105.out 5).trans rfl, (blk_cell BK105.out 6).trans rfl, (blk_cell BK101.out 0).trans rfl, (blk_cell BK101.out 1).trans rfl⟩ (fun hHeld => ?_); refine with_tabW impl_ZoneOk.tab7 impl_ZoneOk.bits7 (fun HT_ HW_ => ?_)
           generalize w41.drew = w42 at BK101 BK105 HB hHeld ⊢
           refine pu_ HT_ 0 30 (bA 21 1) (v := ?_) (a' := ?_) rfl rfl (by kernel_rfl) (fun _ _ _ h => h) (by rfl) ?_ ?_ ?_; rotate_left; intro w'; go_simp; with_reducible rfl; rotate_left; go_simp; rfl
           refine pu_ HT_ 1 31 (bA 21 3) (v := ?_) (a' := ?_) rfl rfl (by kernel_rfl) (fun _ _ _ h => h) (by rfl) ?_ ?_ ?_; rotate_left; intro w'; go_simp; with_reducible rfl; rotate_left; go_simp; rfl
           refine pu_ HT_ 2 32 (bA 21 7) (v := ?_) (a' := ?_) rfl rfl (by kernel_rfl) (fun _ _ _ h => h) (by rfl) ?_ ?_ ?_; rotate_left; intro w'; go_simp; with_reducible rfl; rotate_left; go_simp; rfl
           refine sk_ HT_ 3 33 (bA 21 15) (a' := ?_) rfl rfl (by kernel_rfl) (fun _ _ _ h => h) (by rfl) ?_ ?_; rotate_left; go_simp; rfl
           refine sk_ HT_ 4 34 (bA 21 31) (a' := ?_) rfl rfl (by kernel_rfl) (fun _ _ _ h => h) (by rfl) ?_ ?_; rotate_left; go_simp; rfl
           refine sk_ HT_ 5 35 (bA 21 63) (a' := ?_) rfl rfl (by kernel_rfl) (fun _ _ _ h => h) (by rfl) ?_ ?_; rotate_left; go_simp; rfl
           refine sk_ HT_ 6 36 (bA 21 127) (a' := ?_) rfl rfl (by kernel_rfl) (fun _ _ _ h => h) (by rfl) ?_ ?_; rotate_left; go_simp; rfl
           refine sk_ HT_ 7 37 (bA 21 255) (a' := ?_) rfl rfl (by kernel_rfl) (fun _ _ _ h => h) (by rfl) ?_ ?_; rotate_left; go_simp; rfl
           refine sk_ HT_ 8 38 (bA 21 511) (a' := ?_) rfl rfl (by kernel_rfl) (fun _ _ _ h => h) (by rfl) ?_ ?_; rotate_left; go_simp; rfl
           refine sk_ HT_ 9 39 (bA 21 1023) (a' := ?_) rfl rfl (by kernel_rfl) (fun _ _ _ h => h) (by rfl) ?_ ?_; rotate_left; go_simp; rfl
           refine sk_ HT_ 10 40 (bA 21 2047) (a' := ?_) rfl rfl (by kernel_rfl) (fun _ _ _ h => h) (by rfl) ?_ ?_; rotate_left; go_simp; rfl
           refine sk_ HT_ 11 41 (bA 21 4095) (a' := ?_) rfl rfl (by kernel_rfl) (fun _ _ _ h => h) (by rfl) ?_ ?_; rotate_left; go_simp; rfl
           refine pu_ HT_ 12 42 (bA 21 8191) (v := ?_) (a' := ?_) rfl rfl (by kernel_rfl) (fun _ _ _ h => h) (by rfl) ?_ ?_ ?_; rotate_left; intro w'; go_simp; with_reducible rfl; rotate_left; go_simp; rfl
           refine pu_ HT_ 13 43 (bA 21 16383) (v := ?_) (a' := ?_) rfl rfl (by kernel_rfl) (fun _ _ _ h => h) (by rfl) ?_ ?_ ?_; rotate_left; intro w'; go_simp; with_reducible rfl; rotate_left; go_simp; rfl
           refine pu_ HT_ 14 44 (bA 21 32767) (v := ?_) (a' := ?_) rfl rfl (by kernel_rfl) (fun _ _ _ h => h) (by rfl) ?_ ?_ ?_; rotate_left; intro w'; go_simp; with_reducible rfl; rotate_left; go_simp; rfl
           refine pu_ HT_ 16 46 (bA 21 98303) (v := ?_) (a' := ?_) rfl rfl (by kernel_rfl) (fun _ _ _ h => h) (by rfl) ?_ ?_ ?_; rotate_left; intro w'; go_simp; with_reducible rfl; rotate_left; go_simp; rfl
           refine take_ (i := 15) (N := some 45) (v := ?_) (a' := ?_) (bA 21 131071) rfl rfl (take_ofW HT_.out HW_.out (by kernel_rfl)) (fun _ _ _ h => h) (Or.inl ⟨by rfl, ?_⟩) hHeld ?_ ?_
           rotate_left; rintro w' ⟨s0, s1, s2, s3, s4, s5, s6, s7, s8⟩; go_simp; with_reducible rfl; rotate_left; go_simp; rfl
           refine take_ (i := 17) (N := some 47) (v := ?_) (a' := ?_) (bA 21 262143) rfl rfl (take_ofW HT_.out HW_.out (by kernel_rfl)) (fun _ _ _ h => h) (Or.inl ⟨by rfl, ?_⟩) hHeld ?_ ?_
           rotate_left; rintro w' ⟨s0, s1, s2, s3, s4, s5, s6, s7, s8⟩; go_simp; with_reducible rfl; rotate_left; go_simp; rfl
           refine one_ (i := 18) (N := some 48) (bA 21 524287) rfl rfl (one_of HT_.out (by kernel_rfl)) (by decide) (fun K hK => ?_)
           refine goes_ Try.func101 (by kernel_rfl) rfl #[.agg #[.slice A104_0 ((rd_T33 l0_1 x25_2).f0.f0).length c104_0], .agg #[.slice A0_0 l0_0.length c0_0]] (by rfl) rfl rfl (by first | rfl | (simp only [List.map_toArray, List.map_cons, List.map_nil]; first | done | rfl)) ?_
           with_reducible refine (impl_Name_under.calls _ _ ((rd_T33 l0_1 x25_2).f0.f0) _ _ l0_0 t109 _ ?side1 ?side2 ?side3 ?side4 A40.out).mono ?_
           (case side1 => exact cw HR104_0.out HB.out)
           (case side2 => exact HC104_0.out)
           (case side3 => exact cw HR0_0.out HB.out)
           (case side4 => exact HC0_0.out)
           rintro e w43 ⟨rfl, hb⟩
           refine ⟨_, rfl, ?_⟩
           have n0_ := ak (blk_below (bk BK101.out) hb)
           have n1_ := ak (blk_below (bk BK105.out) hb)
           have n2_ := ak (below_step (by repeat (first | exact bw HB.out | refine below_set ?_ GE101.out | refine below_set ?_ GE105.out)) hb)
           clear BK101
           clear BK105
           clear HB
           have BK101 := n0_
           have BK105 := n1_
           have HB := n2_
           clear n0_ n1_ n2_
           (try clear hb)
           (try clear hb2)
           (try clear hk)
           (try clear hi)
           refine hK.out _ _ ⟨(blk_cell BK105.out 0).trans rfl, (blk_cell BK105.out 1).trans rfl, (blk_cell BK105.out 2).trans rfl, (blk_cell BK105.out 3).trans rfl, (blk_cell BK105.out 4).trans rfl, (blk_cell BK105.out 5).trans rfl, (blk_cell BK105.out 6).trans rfl, (blk_cell BK101.out 0).trans rfl, (blk_cell BK101.out 1).trans rfl⟩ (fun hHeld => ?_)
           clear hK K
           refine norm_ (a' := ?_) ?_ ?_; rotate_left; go_simp; rfl
           refine pu_ HT_ 19 49 (bA 21 1048575) (v := ?_) (a' := ?_) rfl rfl (by kernel_rfl) (fun _ _ _ h => h) (by rfl) ?_ ?_ ?_; rotate_left; intro w'; go_simp; with_reducible rfl; rotate_left; go_simp; rfl
           refine pu_ HT_ 20 50 (bA 21 2097151) (v := ?_) (a' := ?_) rfl rfl (by kernel_rfl) (fun _ _ _ h => h) (by rfl) ?_ ?_ ?_; rotate_left; intro w'; go_simp; with_reducible rfl; rotate_left; go_simp; rfl
           refine done_ (done_of HT_.out (by kernel_rfl)) ?_
           try go_wp2
           go_meet
           case rel => exact ⟨_, (!t109), (by first | rfl | (simp; done) | (simp [*]; done)), H', ⟨by have := HJ1.out; have := HK2.out; first | omega | exact Nat.le_refl _⟩, ⟨bk BK101.out⟩, ⟨bk BK105.out⟩, ⟨by repeat (first | exact bw HB.out | refine below_set ?_ GE101.out | refine below_set ?_ GE105.out)⟩⟩
         case rest =>
          clear HC22
          try clear c1
          try clear p1
          try clear q1
          try clear hx1
          try clear c2
          try clear p2
          try clear c3
          try clear c6
          try clear c10
          try clear p10
          try clear q10
          try clear hx10
          try clear c26
          try clear c26b0
          try clear c28
          try clear c29
          try clear c31
          try clear c31b0
          try clear hx106_0
          try clear hx106_1
          try clear hx106_2
          try clear hx106_3
          try clear hx106_4
          try clear hx106_5
          try clear hx106_6
          try clear p106
          try clear q106
          obtain ⟨kq, x50_21, rfl, HA, HJ21, BK101, BK105, HB⟩ := hcut
          cases kq with
          | zero => exact absurd HA.out (by simp [impl_ZoneOk.j2])
          | succ kj21 =>
           have H := HA.out
           clear HA
           simp only [impl_ZoneOk.j2] at H
           by_cases c44 : x50_21 = true
           ·subst c44
            have H1 : (some false) = some r := by rw [if_pos rfl] at H; exact H
            clear H
            have H := H1
            clear H1
            obtain rfl := Option.some.inj H
            go_wp2
            go_ret
            exact ⟨by first | rfl | (simp [errW_none, errW_some] <;> rfl) | (simp [*, errW_none, errW_some] <;> rfl), by repeat (first | exact bw HB.out | refine below_set ?_ GE101.out | refine below_set ?_ GE105.out)⟩
           ·replace c44 := Bool.eq_false_iff.mpr c44
            subst c44
            have H1 : (if ((rd_T33 l0_1 x25_2).f1) = 6 then ((impl_Name_is.f kj21 ((rd_T33 l0_1 x25_2).f0.f0) l0_0).bind fun t110 => (if t110 = true then (if ((rd_T33 l0_1 x25_2).f1) = 5 then ((impl_Zone_set.f kj21 l0_0 l0_1 ((rd_T33 l0_1 x25_2).f0.f0) 255).bind fun t111 => (if (t111.length : Int) > 1 then (some false) else (impl_ZoneOk.l0 kj21 (wrap64 (x3_2 + 1)) l0_1 (l0_1.length : Int) (wrap64 (x25_2 + 1)) l0_0 l0_1))) else (impl_ZoneOk.l0 kj21 (wrap64 (x3_2 + 1)) l0_1 (l0_1.length : Int) (wrap64 (x25_2 + 1)) l0_0 l0_1)) else (some false))) else (if ((rd_T33 l0_1 x25_2).f1) = 5 then ((impl_Zone_set.f kj21 l0_0 l0_1 ((rd_T33 l0_1 x25_2).f0.f0) 255).bind fun t114 => (if (t114.length : Int) > 1 then (some false) else (impl_ZoneOk.l0 kj21 x3_2 l0_1 (l0_1.length : Int) (wrap64 (x25_2 + 1)) l0_0 l0_1))) else (impl_ZoneOk.l0 kj21 x3_2 l0_1 (l0_1.length : Int) (wrap64 (x25_2 + 1)) l0_0 l0_1))) = some r := by rw [if_neg (show ¬ (false = true) by decide)] at H; exact H
            clear H
            have H := H1
            clear H1
            by_cases c45 : ((rd_T33 l0_1 x25_2).f1) = 6
            ·rw [if_pos c45] at H
             have c45b0 : (((rd_T33 l0_1 x25_2).f1) == 6) = true := beq_iff_eq.mpr c45
             have c45b1 : (((rd_T33 l0_1 x25_2).f1) != 6) = false := bne_eq_false_iff_eq.mpr c45
             clear c45
             replace H := Option.bind_eq_some_iff.mp H
             obtain ⟨t110, A460, H⟩ := H
             replace H : (if t110 = true then (if ((rd_T33 l0_1 x25_2).f1) = 5 then ((impl_Zone_set.f kj21 l0_0 l0_1 ((rd_T33 l0_1 x25_2).f0.f0) 255).bind fun t111 => (if (t111.length : Int) > 1 then (some false) else (impl_ZoneOk.l0 kj21 (wrap64 (x3_2 + 1)) l0_1 (l0_1.length : Int) (wrap64 (x25_2 + 1)) l0_0 l0_1))) else (impl_ZoneOk.l0 kj21 (wrap64 (x3_2 + 1)) l0_1 (l0_1.length : Int) (wrap64 (x25_2 + 1)) l0_0 l0_1)) else (some false)) = some r := H
             have A46 := ak A460
             clear A460
             by_cases c47 : t110 = true
             ·subst c47
              have H1 : (if ((rd_T33 l0_1 x25_2).f1) = 5 then ((impl_Zone_set.f kj21 l0_0 l0_1 ((rd_T33 l0_1 x25_2).f0.f0) 255).bind fun t111 => (if (t111.length : Int) > 1 then (some false) else (impl_ZoneOk.l0 kj21 (wrap64 (x3_2 + 1)) l0_1 (l0_1.length : Int) (wrap64 (x25_2 + 1)) l0_0 l0_1))) else (impl_ZoneOk.l0 kj21 (wrap64 (x3_2 + 1)) l0_1 (l0_1.length : Int) (wrap64 (x25_2 + 1)) l0_0 l0_1)) = some r := by rw [if_pos rfl] at H; exact H
              clear H
              have H := H1
              clear H1
              by_cases c48 : ((rd_T33 l0_1 x25_2).f1) = 5
              ·rw [if_pos c48] at H
               have c48b0 : (((rd_T33 l0_1 x25_2).f1) == 5) = true := beq_iff_eq.mpr c48
               have c48b1 : (((rd_T33 l0_1 x25_2).f1) != 5) = false := bne_eq_false_iff_eq.mpr c48
               clear c48
               replace H := Option.bind_eq_some_iff.mp H
               obtain ⟨t111, A490, H⟩ := H
               replace H : (if (t111.length : Int) > 1 then (some false) else (impl_ZoneOk.l0 kj21 (wrap64 (x3_2 + 1)) l0_1 (l0_1.length : Int) (wrap64 (x25_2 + 1)) l0_0 l0_1)) = some r := H
               have A49 := ak A490
               clear A490
               by_cases c50 : (t111.length : Int) > 1
               ·rw [if_pos c50] at H
                have c50b0 : decide (1 < (t111.length : Int)) = true := decide_eq_true c50
                have c50b1 : decide (1 < t111.length) = true := decide_eq_true (by omega)
                clear c50
                obtain rfl := Option.some.inj H
                have hnb51 := NB105_101.out
                have hnc51 := NB101_105.out
                obtain ⟨hcz52_0, hcz52_1, hcz52_2, hcz52_3, hcz52_4, hcz52_5, hcz52_6, hfz52_0, hfz52_1, hfz52_2, hfz52_3, hfz52_4, hfz52_5, hfz52_6⟩ := cells7 BK105.out
                obtain ⟨hcz53_0, hcz53_1, hfz53_0, hfz53_1⟩ := cells2 BK101.out
                go_wp2_with (first | ((with_reducible refine gate_callee (f := 102) rfl ?_); refine goesL_ (some 60) rfl rfl Try.func102 (by kernel_rfl) rfl #[.agg #[.slice A104_0 ((rd_T33 l0_1 x25_2).f0.f0).length c104_0], .agg #[.slice A0_0 l0_0.length c0_0]] rfl (by first | rfl | (simp only [List.map_toArray, List.map_cons, List.map_nil]; first | done | rfl)) ?_; (with_reducible refine (impl_Name_is.calls kj21 _ _ ((rd_T33 l0_1 x25_2).f0.f0) _ _ l0_0 true _ ?side1 ?side2 ?side3 ?side4 A46.out).mono ?_); (case side1 => exact cw HR104_0.out HB.out); (case side2 => exact HC104_0.out); (case side3 => exact cw HR0_0.out HB.out); (case side4 => exact HC0_0.out); rintro e w54 ⟨rfl, hb⟩; refine ⟨_, rfl, ?_⟩; replace BK101 := ak (blk_below (bk BK101.out) hb); replace BK105 := ak (blk_below (bk BK105.out) hb); replace HB := ak (below_step (by repeat (first | exact bw HB.out | refine below_set ?_ GE101.out | refine below_set ?_ GE105.out)) hb); (try clear hb); obtain ⟨hcz55_0, hcz55_1, hcz55_2, hcz55_3, hcz55_4, hcz55_5, hcz55_6, hfz55_0, hfz55_1, hfz55_2, hfz55_3, hfz55_4, hfz55_5, hfz55_6⟩ := cells7 BK105.out; obtain ⟨hcz56_0, hcz56_1, hfz56_0, hfz56_1⟩ := cells2 BK101.out) | (go_at_call 103; (with_reducible refine (impl_Zone_set.calls kj21 _ _ l0_0 (fun k_ => k_ < w.heap.size) _ _ l0_1 _ _ ((rd_T33 l0_1 x25_2).f0.f0) 255 t111 _ ?side1 ?side2 ?side3 ?side4 ?side5 A49.out).mono ?_); (case side1 => exact cw HR0_0.out HB.out); (case side2 => exact HC0_0.out); (case side3 => exact Kd.V_mk HC0_1.out (Kd.F_below (Kd.C_F k33_heap HR0_1.out) (by repeat (first | exact bw HB.out | refine below_set ?_ GE101.out | refine below_set ?_ GE105.out)))); (case side4 => exact cw HR104_0.out HB.out); (case side5 => exact HC104_0.out); rintro e w57 ⟨v112, rfl, ho0, hb⟩; have HO113 := ak (Kd.N_lower (Kd.N_mono (ok' := fun k_ => k_ ≠ gb101 ∧ k_ ≠ gb105) ho0 (fun k_ hk_ => ⟨Or.elim hk_ (fun hs_ => fun e_ => Nat.not_le.2 hs_ (by rw [e_]; exact GW101.out)) (fun hn_ => (Kd.freshB (g := gb101) (o := .cells #[.slice A0_0 l0_0.length c0_0, .slice (some ad104) l0_1.length c0_1] 59 (0, 0)) (bk BK101.out) k_ hn_)), Or.elim hk_ (fun hs_ => fun e_ => Nat.not_le.2 hs_ (by rw [e_]; exact GW105.out)) (fun hn_ => (Kd.freshB (g := gb105) (o := .cells #[.slice A104_0 ((rd_T33 l0_1 x25_2).f0.f0).length c104_0, .int .i64 ((rd_T33 l0_1 x25_2).f1), .int .i64 ((rd_T33 l0_1 x25_2).f2), .int .i64 ((rd_T33 l0_1 x25_2).f3), .slice A104_4 ((rd_T33 l0_1 x25_2).f4.f0).length c104_4, .slice A104_5 ((rd_T33 l0_1 x25_2).f5).length c104_5, .slice A104_6 ((rd_T33 l0_1 x25_2).f6).length c104_6] 33 (0, 0)) (bk BK105.out) k_ hn_))⟩)) (below_size (by repeat (first | exact bw HB.out | refine below_set ?_ GE101.out | refine below_set ?_ GE105.out)))); replace BK101 := ak (blk_below (bk BK101.out) hb); replace BK105 := ak (blk_below (bk BK105.out) hb); replace HB := ak (below_step (by repeat (first | exact bw HB.out | refine below_set ?_ GE101.out | refine below_set ?_ GE105.out)) hb); (try clear hb); (try clear ho0); obtain ⟨Ao58, co58, eo58⟩ := Kd.N_slice HO113.out; subst eo58))
                go_ret
                exact ⟨by first | rfl | (simp [errW_none, errW_some] <;> rfl) | (simp [*, errW_none, errW_some] <;> rfl), by repeat (first | exact bw HB.out | refine below_set ?_ GE101.out | refine below_set ?_ GE105.out)⟩
               ·rw [if_neg c50] at H
                have c50b0 : decide (1 < (t111.length : Int)) = false := decide_eq_false c50
                have c50b1 : decide (1 < t111.length) = false := decide_eq_false (by omega)
                clear c50
                have H' := ak H
                clear H
                have hnb59 := NB105_101.out
                have hnc59 := NB101_105.out
                obtain ⟨hcz60_0, hcz60_1, hcz60_2, hcz60_3, hcz60_4, hcz60_5, hcz60_6, hfz60_0, hfz60_1, hfz60_2, hfz60_3, hfz60_4, hfz60_5, hfz60_6⟩ := cells7 BK105.out
                obtain ⟨hcz61_0, hcz61_1, hfz61_0, hfz61_1⟩ := cells2 BK101.out
                go_wp2_with (first | ((with_reducible refine gate_callee (f := 102) rfl ?_); refine goesL_ (some 60) rfl rfl Try.func102 (by kernel_rfl) rfl #[.agg #[.slice A104_0 ((rd_T33 l0_1 x25_2).f0.f0).length c104_0], .agg #[.slice A0_0 l0_0.length c0_0]] rfl (by first | rfl | (simp only [List.map_toArray, List.map_cons, List.map_nil]; first | done | rfl)) ?_; (with_reducible refine (impl_Name_is.calls kj21 _ _ ((rd_T33 l0_1 x25_2).f0.f0) _ _ l0_0 true _ ?side1 ?side2 ?side3 ?side4 A46.out).mono ?_); (case side1 => exact cw HR104_0.out HB.out); (case side2 => exact HC104_0.out); (case side3 => exact cw HR0_0.out HB.out); (case side4 => exact HC0_0.out); rintro e w62 ⟨rfl, hb⟩; refine ⟨_, rfl, ?_⟩; replace BK101 := ak (blk_below (bk BK101.out) hb); replace BK105 := ak (blk_below (bk BK105.out) hb); replace HB := ak (below_step (by repeat (first | exact bw HB.out | refine below_set ?_ GE101.out | refine below_set ?_ GE105.out)) hb); (try clear hb); obtain ⟨hcz63_0, hcz63_1, hcz63_2, hcz63_3, hcz63_4, hcz63_5, hcz63_6, hfz63_0, hfz63_1, hfz63_2, hfz63_3, hfz63_4, hfz63_5, hfz63_6⟩ := cells7 BK105.out; obtain ⟨hcz64_0, hcz64_1, hfz64_0, hfz64_1⟩ := cells2 BK101.out) | (go_at_call 103; (with_reducible refine (impl_Zone_set.calls kj21 _ _ l0_0 (fun k_ => k_ < w.heap.size) _ _ l0_1 _ _ ((rd_T33 l0_1 x25_2).f0.f0) 255 t111 _ ?side1 ?side2 ?side3 ?side4 ?side5 A49.out).mono ?_); (case side1 => exact cw HR0_0.out HB.out); (case side2 => exact HC0_0.out); (case side3 => exact Kd.V_mk HC0_1.out (Kd.F_below (Kd.C_F k33_heap HR0_1.out) (by repeat (first | exact bw HB.out | refine below_set ?_ GE101.out | refine below_set ?_ GE105.out)))); (case side4 => exact cw HR104_0.out HB.out); (case side5 => exact HC104_0.out); rintro e w65 ⟨v112, rfl, ho0, hb⟩; have HO113 := ak (Kd.N_lower (Kd.N_mono (ok' := fun k_ => k_ ≠ gb101 ∧ k_ ≠ gb105) ho0 (fun k_ hk_ => ⟨Or.elim hk_ (fun hs_ => fun e_ => Nat.not_le.2 hs_ (by rw [e_]; exact GW101.out)) (fun hn_ => (Kd.freshB (g := gb101) (o := .cells #[.slice A0_0 l0_0.length c0_0, .slice (some ad104) l0_1.length c0_1] 59 (0, 0)) (bk BK101.out) k_ hn_)), Or.elim hk_ (fun hs_ => fun e_ => Nat.not_le.2 hs_ (by rw [e_]; exact GW105.out)) (fun hn_ => (Kd.freshB (g := gb105) (o := .cells #[.slice A104_0 ((rd_T33 l0_1 x25_2).f0.f0).length c104_0, .int .i64 ((rd_T33 l0_1 x25_2).f1), .int .i64 ((rd_T33 l0_1 x25_2).f2), .int .i64 ((rd_T33 l0_1 x25_2).f3), .slice A104_4 ((rd_T33 l0_1 x25_2).f4.f0).length c104_4, .slice A104_5 ((rd_T33 l0_1 x25_2).f5).length c104_5, .slice A104_6 ((rd_T33 l0_1 x25_2).f6).length c104_6] 33 (0, 0)) (bk BK105.out) k_ hn_))⟩)) (below_size (by repeat (first | exact bw HB.out | refine below_set ?_ GE101.out | refine below_set ?_ GE105.out)))); replace BK101 := ak (blk_below (bk BK101.out) hb); replace BK105 := ak (blk_below (bk BK105.out) hb); replace HB := ak (below_step (by repeat (first | exact bw HB.out | refine below_set ?_ GE101.out | refine below_set ?_ GE105.out)) hb); (try clear hb); (try clear ho0); obtain ⟨Ao66, co66, eo66⟩ := Kd.N_slice HO113.out; subst eo66))
                go_roundg kj21
                case measure => have := HJ1.out; have := HK2.out; have := HJ21.out; omega
                case rel => exact ⟨(wrap64 (x3_2 + 1)), (wrap64 (x25_2 + 1)), (by first | rfl | (simp; done) | (simp [*]; done)), (by first | rfl | (simp; done) | (simp [*]; done)), H', ⟨by have := HJ1.out; have := HK2.out; have := HJ21.out; omega⟩, ⟨bk BK101.out⟩, ⟨by repeat (first | exact bw HB.out | refine below_set ?_ GE101.out | refine below_set ?_ GE105.out)⟩⟩
              ·rw [if_neg c48] at H
               have c48b0 : (((rd_T33 l0_1 x25_2).f1) == 5) = false := beq_eq_false_iff_ne.mpr c48
               have c48b1 : (((rd_T33 l0_1 x25_2).f1) != 5) = true := bne_iff_ne.mpr c48
               have H' := ak H
               clear H
               have hnb67 := NB105_101.out
               have hnc67 := NB101_105.out
               obtain ⟨hcz68_0, hcz68_1, hcz68_2, hcz68_3, hcz68_4, hcz68_5, hcz68_6, hfz68_0, hfz68_1, hfz68_2, hfz68_3, hfz68_4, hfz68_5, hfz68_6⟩ := cells7 BK105.out
               obtain ⟨hcz69_0, hcz69_1, hfz69_0, hfz69_1⟩ := cells2 BK101.out
               go_wp2_with (first | ((with_reducible refine gate_callee (f := 102) rfl ?_); refine goesL_ (some 60) rfl rfl Try.func102 (by kernel_rfl) rfl #[.agg #[.slice A104_0 ((rd_T33 l0_1 x25_2).f0.f0).length c104_0], .agg #[.slice A0_0 l0_0.length c0_0]] rfl (by first | rfl | (simp only [List.map_toArray, List.map_cons, List.map_nil]; first | done | rfl)) ?_; (with_reducible refine (impl_Name_is.calls kj21 _ _ ((rd_T33 l0_1 x25_2).f0.f0) _ _ l0_0 true _ ?side1 ?side2 ?side3 ?side4 A46.out).mono ?_); (case side1 => exact cw HR104_0.out HB.out); (case side2 => exact HC104_0.out); (case side3 => exact cw HR0_0.out HB.out); (case side4 => exact HC0_0.out); rintro e w70 ⟨rfl, hb⟩; refine ⟨_, rfl, ?_⟩; replace BK101 := ak (blk_below (bk BK101.out) hb); replace BK105 := ak (blk_below (bk BK105.out) hb); replace HB := ak (below_step (by repeat (first | exact bw HB.out | refine below_set ?_ GE101.out | refine below_set ?_ GE105.out)) hb); (try clear hb); obtain ⟨hcz71_0, hcz71_1, hcz71_2, hcz71_3, hcz71_4, hcz71_5, hcz71_6, hfz71_0, hfz71_1, hfz71_2, hfz71_3, hfz71_4, hfz71_5, hfz71_6⟩ := cells7 BK105.out))
               go_roundg kj21
               case measure => have := HJ1.out; have := HK2.out; have := HJ21.out; omega
               case rel => exact ⟨(wrap64 (x3_2 + 1)), (wrap64 (x25_2 + 1)), (by first | rfl | (simp; done) | (simp [*]; done)), (by first | rfl | (simp; done) | (simp [*]; done)), H', ⟨by have := HJ1.out; have := HK2.out; have := HJ21.out; omega⟩, ⟨bk BK101.out⟩, ⟨by repeat (first | exact bw HB.out | refine below_set ?_ GE101.out | refine below_set ?_ GE105.out)⟩⟩
             ·replace c47 := Bool.eq_false_iff.mpr c47
              subst c47
              have H1 : (some false) = some r := by rw [if_neg (show ¬ (false = true) by decide)] at H; exact H
              clear H
              have H := H1
              clear H1
              obtain rfl := Option.some.inj H
              have hnb72 := NB105_101.out
              have hnc72 := NB101_105.out
              obtain ⟨hcz73_0, hcz73_1, hcz73_2, hcz73_3, hcz73_4, hcz73_5, hcz73_6, hfz73_0, hfz73_1, hfz73_2, hfz73_3, hfz73_4, hfz73_5, hfz73_6⟩ := cells7 BK105.out
              obtain ⟨hcz74_0, hcz74_1, hfz74_0, hfz74_1⟩ := cells2 BK101.out
              go_wp2_with (first | ((with_reducible refine gate_callee (f := 102) rfl ?_); refine goesL_ (some 60) rfl rfl Try.func102 (by kernel_rfl) rfl #[.agg #[.slice A104_0 ((rd_T33 l0_1 x25_2).f0.f0).length c104_0], .agg #[.slice A0_0 l0_0.length c0_0]] rfl (by first | rfl | (simp only [List.map_toArray, List.map_cons, List.map_nil]; first | done | rfl)) ?_; (with_reducible refine (impl_Name_is.calls kj21 _ _ ((rd_T33 l0_1 x25_2).f0.f0) _ _ l0_0 false _ ?side1 ?side2 ?side3 ?side4 A46.out).mono ?_); (case side1 => exact cw HR104_0.out HB.out); (case side2 => exact HC104_0.out); (case side3 => exact cw HR0_0.out HB.out); (case side4 => exact HC0_0.out); rintro e w75 ⟨rfl, hb⟩; refine ⟨_, rfl, ?_⟩; replace BK101 := ak (blk_below (bk BK101.out) hb); replace BK105 := ak (blk_below (bk BK105.out) hb); replace HB := ak (below_step (by repeat (first | exact bw HB.out | refine below_set ?_ GE101.out | refine below_set ?_ GE105.out)) hb); (try clear hb)))
              go_ret
              exact ⟨by first | rfl | (simp [errW_none, errW_some] <;> rfl) | (simp [*, errW_none, errW_some] <;> rfl), by repeat (first | exact bw HB.out | refine below_set ?_ GE101.out | refine below_set ?_ GE105.out)⟩
            ·rw [if_neg c45] at H
             have c45b0 : (((rd_T33 l0_1 x25_2).f1) == 6) = false := beq_eq_false_iff_ne.mpr c45
             have c45b1 : (((rd_T33 l0_1 x25_2).f1) != 6) = true := bne_iff_ne.mpr c45
             by_cases c76 : ((rd_T33 l0_1 x25_2).f1) = 5
             ·rw [if_pos c76] at H
              have c76b0 : (((rd_T33 l0_1 x25_2).f1) == 5) = true := beq_iff_eq.mpr c76
              have c76b1 : (((rd_T33 l0_1 x25_2).f1) != 5) = false := bne_eq_false_iff_eq.mpr c76
              clear c76
              replace H := Option.bind_eq_some_iff.mp H
              obtain ⟨t114, A770, H⟩ := H
              replace H : (if (t114.length : Int) > 1 then (some false) else (impl_ZoneOk.l0 kj21 x3_2 l0_1 (l0_1.length : Int) (wrap64 (x25_2 + 1)) l0_0 l0_1)) = some r := H
              have A77 := ak A770
              clear A770
              by_cases c78 : (t114.length : Int) > 1
              ·rw [if_pos c78] at H
               have c78b0 : decide (1 < (t114.length : Int)) = true := decide_eq_true c78
               have c78b1 : decide (1 < t114.length) = true := decide_eq_true (by omega)
               clear c78
               obtain rfl := Option.some.inj H
               have hnb79 := NB105_101.out
               have hnc79 := NB101_105.out
               obtain ⟨hcz80_0, hcz80_1, hcz80_2, hcz80_3, hcz80_4, hcz80_5, hcz80_6, hfz80_0, hfz80_1, hfz80_2, hfz80_3, hfz80_4, hfz80_5, hfz80_6⟩ := cells7 BK105.out
               obtain ⟨hcz81_0, hcz81_1, hfz81_0, hfz81_1⟩ := cells2 BK101.out
               go_wp2_with (first | (go_at_call 103; (with_reducible refine (impl_Zone_set.calls kj21 _ _ l0_0 (fun k_ => k_ < w.heap.size) _ _ l0_1 _ _ ((rd_T33 l0_1 x25_2).f0.f0) 255 t114 _ ?side1 ?side2 ?side3 ?side4 ?side5 A77.out).mono ?_); (case side1 => exact cw HR0_0.out HB.out); (case side2 => exact HC0_0.out); (case side3 => exact Kd.V_mk HC0_1.out (Kd.F_below (Kd.C_F k33_heap HR0_1.out) (by repeat (first | exact bw HB.out | refine below_set ?_ GE101.out | refine below_set ?_ GE105.out)))); (case side4 => exact cw HR104_0.out HB.out); (case side5 => exact HC104_0.out); rintro e w82 ⟨v115, rfl, ho0, hb⟩; have HO116 := ak (Kd.N_lower (Kd.N_mono (ok' := fun k_ => k_ ≠ gb101 ∧ k_ ≠ gb105) ho0 (fun k_ hk_ => ⟨Or.elim hk_ (fun hs_ => fun e_ => Nat.not_le.2 hs_ (by rw [e_]; exact GW101.out)) (fun hn_ => (Kd.freshB (g := gb101) (o := .cells #[.slice A0_0 l0_0.length c0_0, .slice (some ad104) l0_1.length c0_1] 59 (0, 0)) (bk BK101.out) k_ hn_)), Or.elim hk_ (fun hs_ => fun e_ => Nat.not_le.2 hs_ (by rw [e_]; exact GW105.out)) (fun hn_ => (Kd.freshB (g := gb105) (o := .cells #[.slice A104_0 ((rd_T33 l0_1 x25_2).f0.f0).length c104_0, .int .i64 ((rd_T33 l0_1 x25_2).f1), .int .i64 ((rd_T33 l0_1 x25_2).f2), .int .i64 ((rd_T33 l0_1 x25_2).f3), .slice A104_4 ((rd_T33 l0_1 x25_2).f4.f0).length c104_4, .slice A104_5 ((rd_T33 l0_1 x25_2).f5).length c104_5, .slice A104_6 ((rd_T33 l0_1 x25_2).f6).length c104_6] 33 (0, 0)) (bk BK105.out) k_ hn_))⟩)) (below_size (by repeat (first | exact bw HB.out | refine below_set ?_ GE101.out | refine below_set ?_ GE105.out)))); replace BK101 := ak (blk_below (bk BK101.out) hb); replace BK105 := ak (blk_below (bk BK105.out) hb); replace HB := ak (below_step (by repeat (first | exact bw HB.out | refine below_set ?_ GE101.out | refine below_set ?_ GE105.out)) hb); (try clear hb); (try clear ho0); obtain ⟨Ao83, co83, eo83⟩ := Kd.N_slice HO116.out; subst eo83))
               go_ret
               exact ⟨by first | rfl | (simp [errW_none, errW_some] <;> rfl) | (simp [*, errW_none, errW_some] <;> rfl), by repeat (first | exact bw HB.out | refine below_set ?_ GE101.out | refine below_set ?_ GE105.out)⟩
              ·rw [if_neg c78] at H
               have c78b0 : decide (1 < (t114.length : Int)) = false := decide_eq_false c78
               have c78b1 : decide (1 < t114.length) = false := decide_eq_false (by omega)
               clear c78
               have H' := ak H
               clear H
               have hnb84 := NB105_101.out
               have hnc84 := NB101_105.out
               obtain ⟨hcz85_0, hcz85_1, hcz85_2, hcz85_3, hcz85_4, hcz85_5, hcz85_6, hfz85_0, hfz85_1, hfz85_2, hfz85_3, hfz85_4, hfz85_5, hfz85_6⟩ := cells7 BK105.out
               obtain ⟨hcz86_0, hcz86_1, hfz86_0, hfz86_1⟩ := cells2 BK101.out
               go_wp2_with (first | (go_at_call 103; (with_reducible refine (impl_Zone_set.calls kj21 _ _ l0_0 (fun k_ => k_ < w.heap.size) _ _ l0_1 _ _ ((rd_T33 l0_1 x25_2).f0.f0) 255 t114 _ ?side1 ?side2 ?side3 ?side4 ?side5 A77.out).mono ?_); (case side1 => exact cw HR0_0.out HB.out); (case side2 => exact HC0_0.out); (case side3 => exact Kd.V_mk HC0_1.out (Kd.F_below (Kd.C_F k33_heap HR0_1.out) (by repeat (first | exact bw HB.out | refine below_set ?_ GE101.out | refine below_set ?_ GE105.out)))); (case side4 => exact cw HR104_0.out HB.out); (case side5 => exact HC104_0.out); rintro e w87 ⟨v115, rfl, ho0, hb⟩; have HO116 := ak (Kd.N_lower (Kd.N_mono (ok' := fun k_ => k_ ≠ gb101 ∧ k_ ≠ gb105) ho0 (fun k_ hk_ => ⟨Or.elim hk_ (fun hs_ => fun e_ => Nat.not_le.2 hs_ (by rw [e_]; exact GW101.out)) (fun hn_ => (Kd.freshB (g := gb101) (o := .cells #[.slice A0_0 l0_0.length c0_0, .slice (some ad104) l0_1.length c0_1] 59 (0, 0)) (bk BK101.out) k_ hn_)), Or.elim hk_ (fun hs_ => fun e_ => Nat.not_le.2 hs_ (by rw [e_]; exact GW105.out)) (fun hn_ => (Kd.freshB (g := gb105) (o := .cells #[.slice A104_0 ((rd_T33 l0_1 x25_2).f0.f0).length c104_0, .int .i64 ((rd_T33 l0_1 x25_2).f1), .int .i64 ((rd_T33 l0_1 x25_2).f2), .int .i64 ((rd_T33 l0_1 x25_2).f3), .slice A104_4 ((rd_T33 l0_1 x25_2).f4.f0).length c104_4, .slice A104_5 ((rd_T33 l0_1 x25_2).f5).length c104_5, .slice A104_6 ((rd_T33 l0_1 x25_2).f6).length c104_6] 33 (0, 0)) (bk BK105.out) k_ hn_))⟩)) (below_size (by repeat (first | exact bw HB.out | refine below_set ?_ GE101.out | refine below_set ?_ GE105.out)))); replace BK101 := ak (blk_below (bk BK101.out) hb); replace BK105 := ak (blk_below (bk BK105.out) hb); replace HB := ak (below_step (by repeat (first | exact bw HB.out | refine below_set ?_ GE101.out | refine below_set ?_ GE105.out)) hb); (try clear hb); (try clear ho0); obtain ⟨Ao88, co88, eo88⟩ := Kd.N_slice HO116.out; subst eo88))
               go_roundg kj21
               case measure => have := HJ1.out; have := HK2.out; have := HJ21.out; omega
               case rel => exact ⟨(x3_2), (wrap64 (x25_2 + 1)), (by first | rfl | (simp; done) | (simp [*]; done)), (by first | rfl | (simp; done) | (simp [*]; done)), H', ⟨by have := HJ1.out; have := HK2.out; have := HJ21.out; omega⟩, ⟨bk BK101.out⟩, ⟨by repeat (first | exact bw HB.out | refine below_set ?_ GE101.out | refine below_set ?_ GE105.out)⟩⟩
             ·rw [if_neg c76] at H
              have c76b0 : (((rd_T33 l0_1 x25_2).f1) == 5) = false := beq_eq_false_iff_ne.mpr c76
              have c76b1 : (((rd_T33 l0_1 x25_2).f1) != 5) = true := bne_iff_ne.mpr c76
              have H' := ak H
              clear H
              have hnb89 := NB105_101.out
              have hnc89 := NB101_105.out
              obtain ⟨hcz90_0, hcz90_1, hcz90_2, hcz90_3, hcz90_4, hcz90_5, hcz90_6, hfz90_0, hfz90_1, hfz90_2, hfz90_3, hfz90_4, hfz90_5, hfz90_6⟩ := cells7 BK105.out
              go_wp2
              go_roundg kj21
              case measure => have := HJ1.out; have := HK2.out; have := HJ21.out; omega
              case rel => exact ⟨(x3_2), (wrap64 (x25_2 + 1)), (by first | rfl | (simp; done) | (simp [*]; done)), (by first | rfl | (simp; done) | (simp [*]; done)), H', ⟨by have := HJ1.out; have := HK2.out; have := HJ21.out; omega⟩, ⟨bk BK101.out⟩, ⟨by repeat (first | exact bw HB.out | refine below_set ?_ GE101.out | refine below_set ?_ GE105.out)⟩⟩
        ·rw [if_neg c21] at H
         exact absurd H (by simp)
       ·rw [if_neg c20] at H
        exact absurd H (by simp)
      ·rw [if_neg c19] at H
       have c19b0 : decide (x25_2 < (l0_1.length : Int)) = false := decide_eq_false c19
       clear c19
       obtain rfl := Option.some.inj H
       go_wp2
       go_ret
       exact ⟨by first | rfl | (simp [errW_none, errW_some] <;> rfl) | (simp [*, errW_none, errW_some] <;> rfl), by repeat (first | exact bw HB.out | refine below_set ?_ GE101.out)⟩


/-! ### impl_Zone_hasName_1: function 176 -/

set_option maxHeartbeats 2000000 in
theorem impl_Zone_hasName_1.calls (x : S33) (cs : List Value) (A1 : Option Addr) (c1 : Nat) (l1 : List (List Int)) (B : Nat) (b : Bool) (w : World) (hK : k33.K w x cs) (hr1 : Kd.C (Kd.slice 5 (Kd.int .u8)) w A1 l1.length l1) (hc1 : l1.length ≤ c1) (hv : w.cell? ⟨B, 0, none⟩ = some (.slice A1 l1.length c1))
  (h : impl_Name_under.f x.f0.f0 l1 = some b) :
  Calls Try.prog 176 #[.agg cs.toArray, .pointer (some ⟨B, 0, none⟩)] w fun e w' => e = .returned (.bool b) ∧ Below w.heap.size w w' := by
 obtain ⟨A0, c0, A4, c4, A5, c5, A6, c6, rfl, l0, g0, l4, g4, l5, g5, l6, g6⟩ := k33_open hK
 have HB := ak (Below.refl w.heap.size w)
 have HV := ak hv
 have H0 := ak g0
 have L0 := ak l0
 have H1 := ak hr1
 have L1 := ak hc1
 have HH := ak h
 clear hK hr1 hc1 hv h g0 l0 l4 g4 l5 g5 l6 g6
 go_enter Try.func176, Try.ntmps176
 go_wp2_with (first | ((with_reducible refine gate_dst (N := 2) rfl ?_); refine boxed (N := 2) rfl rfl (cs := #[.slice A0 x.f0.f0.length c0, .int .i64 x.f1, .int .i64 x.f2, .int .i64 x.f3, .slice A4 x.f4.f0.length c4, .slice A5 x.f5.length c5, .slice A6 x.f6.length c6]) (t := 33) HB.out (by first | (go_simp; done) | (go_simp; rfl)) ?_; clear HB; intro gb w2 hg HB BK GE hb; clear hg hb; obtain ⟨hz0, _, _, _, _, _, _, hf0, _, _, _, _, _, _⟩ := cells7 BK.out; have hz1 := (HB.out.cell (World.block_lt_of_cell? w _ HV.out)).trans HV.out) | (go_at_call 101; refine (impl_Name_under.calls _ _ x.f0.f0 _ _ l1 b _ (cw H0.out HB.out) L0.out (cw H1.out HB.out) L1.out HH.out).mono ?_; rintro e w3 ⟨rfl, hb⟩))
 go_ret
 exact ⟨rfl, below_step HB.out hb⟩


/-! ### impl_Zone_hasName: function 108 -/

def impl_Zone_hasName.f (l0_0 : List (List Int)) (l0_1 : List S33) (l1_0 : List (List Int)) : Option Bool := (impl_Rr_223.idx (fun x => impl_Name_under.f x.f0.f0 l1_0) l0_1 0).map fun r => decide (0 ≤ r)
set_option maxHeartbeats 2000000 in
theorem impl_Zone_hasName.calls (A0_0 : Option Addr) (c0_0 : Nat) (l0_0 : List (List Int)) (A0_1 : Option Addr) (c0_1 : Nat) (l0_1 : List S33) (A1_0 : Option Addr) (c1_0 : Nat) (l1_0 : List (List Int)) (r : Bool) (w : World) (hr0_0 : Kd.C (Kd.slice 5 (Kd.int .u8)) w A0_0 l0_0.length l0_0) (hc0_0 : l0_0.length ≤ c0_0) (hr0_1 : Kd.C k33 w A0_1 l0_1.length l0_1) (hc0_1 : l0_1.length ≤ c0_1) (hr1_0 : Kd.C (Kd.slice 5 (Kd.int .u8)) w A1_0 l1_0.length l1_0) (hc1_0 : l1_0.length ≤ c1_0) (h : impl_Zone_hasName.f l0_0 l0_1 l1_0 = some r) :
  Calls Try.prog 108 #[.agg #[.slice A0_0 l0_0.length c0_0, .slice A0_1 l0_1.length c0_1], .agg #[.slice A1_0 l1_0.length c1_0]] w fun e w' => e = .returned (.bool r) ∧ Below w.heap.size w w' := by
 have eg : ∀ args w, (callFunc 176 args).run Try.prog w = .ok (.enter 176 args) w := enters_of Try.func176 (by kernel_rfl) rfl
 obtain ⟨i, hi, rfl⟩ := Option.map_eq_some_iff.1 h
 have HB := ak (Below.refl w.heap.size w)
 have H1 := ak hr0_1
 have HN := ak hr1_0
 have LN := ak hc1_0
 have HI := ak hi
 clear hr0_0 hc0_0 hr0_1 hc0_1 hr1_0 hc1_0 h hi
 go_enter Try.func108, Try.ntmps108
 go_wp2_with (first | ((with_reducible refine gate_dst (N := 2) rfl ?_); refine boxed (N := 2) rfl rfl (cs := #[.slice A0_0 l0_0.length c0_0, .slice A0_1 l0_1.length c0_1]) (t := 59) HB.out (by first | (go_simp; done) | (go_simp; rfl)) ?_; clear HB; intro gb w2 hg HB BK GE hb; clear hg hb) | ((with_reducible refine gate_dst (N := 3) rfl ?_); refine boxed (N := 3) rfl rfl (cs := #[.slice A1_0 l1_0.length c1_0]) (t := 31) HB.out (by first | (go_simp; done) | (go_simp; rfl)) ?_; clear HB; intro gn w3 hg HB BN GN hb; clear hg; replace BK := ak (blk_below (bk BK.out) hb); clear hb; obtain ⟨_, hz1, _, hf1⟩ := cells2 BK.out) | (go_at_call 172; refine (impl_Rr_172.calls 176 #[.pointer (some ⟨gn, 0, none⟩)] eg (fun x => impl_Name_under.f x.f0.f0 l1_0) _ _ l0_1 i _ (cw H1.out HB.out) (fun W cs x b hW hK hq => impl_Zone_hasName_1.calls x cs A1_0 c1_0 l1_0 gn b W hK (Kd.C_below (cw HN.out HB.out) hW) LN.out ((hW.cell (World.block_lt_of_cell? _ _ ((blk_cell BN.out 0).trans rfl))).trans ((blk_cell BN.out 0).trans rfl)) hq) HI.out).mono ?_; rintro e w4 ⟨rfl, hb⟩))
 go_ret
 exact ⟨rfl, below_step HB.out hb⟩


/-! ### impl_HasName: function 42 -/
def impl_HasName.f (k : Nat) (l0_0 : List (List Int)) (l0_1 : List (S33)) (l1_0 : List (List Int)) : Option (Bool) := (impl_ZoneOk.f k l0_0 l0_1).bind fun t103 => (if t103 = true then ((impl_NameOk.f l1_0).bind fun t104 => (if t104 = true then ((impl_Zone_hasName.f l0_0 l0_1 l1_0).bind fun t105 => (some t105)) else (some false))) else (some false))
set_option maxHeartbeats 8000000 in
set_option maxRecDepth 100000 in
theorem impl_HasName.calls (k : Nat) (A0_0 : Option Addr) (c0_0 : Nat) (l0_0 : List (List Int)) (A0_1 : Option Addr) (c0_1 : Nat) (l0_1 : List (S33)) (A1_0 : Option Addr) (c1_0 : Nat) (l1_0 : List (List Int)) (r : Bool) (w : World) (hr0_0 : Kd.C (Kd.slice 5 (Kd.int .u8)) w A0_0 l0_0.length l0_0) (hc0_0 : l0_0.length ≤ c0_0) (hr0_1 : Kd.C k33 w A0_1 l0_1.length l0_1) (hc0_1 : l0_1.length ≤ c0_1) (hr1_0 : Kd.C (Kd.slice 5 (Kd.int .u8)) w A1_0 l1_0.length l1_0) (hc1_0 : l1_0.length ≤ c1_0) (h : impl_HasName.f k l0_0 l0_1 l1_0 = some r) :
  Calls Try.prog 42 #[.agg #[.slice A0_0 l0_0.length c0_0, .slice A0_1 l0_1.length c0_1], .agg #[.slice A1_0 l1_0.length c1_0]] w fun e w' => e = .returned (.bool r) ∧ Below w.heap.size w w' := by
 have hu59 := Try.underlying59
 have hu31 := Try.underlying31
 have HR0_0 := ak hr0_0
 have HC0_0 := ak hc0_0
 clear hr0_0 hc0_0
 have HR0_1 := ak hr0_1
 have HC0_1 := ak hc0_1
 clear hr0_1 hc0_1
 have HR1_0 := ak hr1_0
 have HC1_0 := ak hc1_0
 clear hr1_0 hc1_0
 have HB := ak (Below.refl w.heap.size w)
 have H : ((impl_ZoneOk.f k l0_0 l0_1).bind fun t103 => (if t103 = true then ((impl_NameOk.f l1_0).bind fun t104 => (if t104 = true then ((impl_Zone_hasName.f l0_0 l0_1 l1_0).bind fun t105 => (some t105)) else (some false))) else (some false))) = some r := h
 clear h
 replace H := Option.bind_eq_some_iff.mp H
 obtain ⟨t103, A30, H⟩ := H
 replace H : (if t103 = true then ((impl_NameOk.f l1_0).bind fun t104 => (if t104 = true then ((impl_Zone_hasName.f l0_0 l0_1 l1_0).bind fun t105 => (some t105)) else (some false))) else (some false)) = some r := H
 have A3 := ak A30
 clear A30
 by_cases c4 : t103 = true
 ·subst c4
  have H1 : ((impl_NameOk.f l1_0).bind fun t104 => (if t104 = true then ((impl_Zone_hasName.f l0_0 l0_1 l1_0).bind fun t105 => (some t105)) else (some false))) = some r := by rw [if_pos rfl] at H; exact H
  clear H
  have H := H1
  clear H1
  replace H := Option.bind_eq_some_iff.mp H
  obtain ⟨t104, A50, H⟩ := H
  replace H : (if t104 = true then ((impl_Zone_hasName.f l0_0 l0_1 l1_0).bind fun t105 => (some t105)) else (some false)) = some r := H
  have A5 := ak A50
  clear A50
  by_cases c6 : t104 = true
  ·subst c6
   have H1 : ((impl_Zone_hasName.f l0_0 l0_1 l1_0).bind fun t105 => (some t105)) = some r := by rw [if_pos rfl] at H; exact H
   clear H
   have H := H1
   clear H1
   replace H := Option.bind_eq_some_iff.mp H
   obtain ⟨t105, A70, H⟩ := H
   replace H : (some t105) = some r := H
   have A7 := ak A70
   clear A70
   obtain rfl := Option.some.inj H
   go_enter Try.func42, Try.ntmps42
   go_wp2_with (first | ((with_reducible refine gate_dst (N := 2) rfl ?_); refine boxed (N := 2) rfl rfl (cs := #[.slice A0_0 l0_0.length c0_0, .slice A0_1 l0_1.length c0_1]) (t := 59) HB.out (by first | (go_simp; done) | (go_simp; rfl)) ?_; clear HB; intro gb101 w8 hg HB BK101 GE101 hb; have GW101 := GE101; clear hb hg) | ((with_reducible refine gate_dst (N := 3) rfl ?_); refine box_event ?hg (N := 3) ?hd (cs := #[.slice A1_0 l1_0.length c1_0]) (t := 31) ?hr ?_; (case hd => rfl); (case hg => rfl); (case hr => first | (go_simp; done) | (go_simp; rfl)); intro gb102 hg w9 hbox hb; have BK102 := ak (hbox); have GW102 := ak ((by rw [hg]; exact (below_size (bw HB.out)) : w.heap.size ≤ gb102)); have GE102 := ak ((by rw [hg]; exact (below_size (bw HB.out)) : w.heap.size ≤ gb102)); replace HB := ak (below_step (bw HB.out) hb); have NB101_102 := ak ((by rw [hg]; exact Nat.ne_of_lt (blk_lt (bk BK101.out)) : gb101 ≠ gb102)); have NB102_101 := ak ((by rw [hg]; exact Nat.ne_of_gt (blk_lt (bk BK101.out)) : gb102 ≠ gb101)); replace BK101 := ak (blk_below (bk BK101.out) hb); clear hb hbox hg; have hnb10 := NB101_102.out; have hnc10 := NB102_101.out; obtain ⟨hcz11_0, hcz11_1, hfz11_0, hfz11_1⟩ := cells2 BK101.out) | ((with_reducible refine gate_callee (f := 37) rfl ?_); refine goesL_ (some 6) rfl rfl Try.func37 (by kernel_rfl) rfl #[.agg #[.slice A0_0 l0_0.length c0_0, .slice A0_1 l0_1.length c0_1]] rfl (by first | rfl | (simp only [List.map_toArray, List.map_cons, List.map_nil]; first | done | rfl)) ?_; (with_reducible refine (impl_ZoneOk.calls k _ _ l0_0 _ _ l0_1 true _ ?side1 ?side2 ?side3 ?side4 A3.out).mono ?_); (case side1 => exact cw HR0_0.out HB.out); (case side2 => exact HC0_0.out); (case side3 => exact cw HR0_1.out HB.out); (case side4 => exact HC0_1.out); rintro e w12 ⟨rfl, hb⟩; refine ⟨_, rfl, ?_⟩; replace BK101 := ak (blk_below (bk BK101.out) hb); replace BK102 := ak (blk_below (bk BK102.out) hb); replace HB := ak (below_step (bw HB.out) hb); (try clear hb); obtain ⟨hcz13_0, hfz13_0⟩ := cells1 BK102.out) | (go_at_call 74; (with_reducible refine (impl_NameOk.calls _ _ l1_0 true _ ?side1 ?side2 A5.out).mono ?_); (case side1 => exact cw HR1_0.out HB.out); (case side2 => exact HC1_0.out); rintro e w14 ⟨rfl, hb⟩; replace BK101 := ak (blk_below (bk BK101.out) hb); replace BK102 := ak (blk_below (bk BK102.out) hb); replace HB := ak (below_step (bw HB.out) hb); (try clear hb); obtain ⟨hcz15_0, hcz15_1, hfz15_0, hfz15_1⟩ := cells2 BK101.out; obtain ⟨hcz16_0, hfz16_0⟩ := cells1 BK102.out) | (go_at_call 108; (with_reducible refine (impl_Zone_hasName.calls _ _ l0_0 _ _ l0_1 _ _ l1_0 t105 _ ?side1 ?side2 ?side3 ?side4 ?side5 ?side6 A7.out).mono ?_); (case side1 => exact cw HR0_0.out HB.out); (case side2 => exact HC0_0.out); (case side3 => exact cw HR0_1.out HB.out); (case side4 => exact HC0_1.out); (case side5 => exact cw HR1_0.out HB.out); (case side6 => exact HC1_0.out); rintro e w17 ⟨rfl, hb⟩; replace BK101 := ak (blk_below (bk BK101.out) hb); replace BK102 := ak (blk_below (bk BK102.out) hb); replace HB := ak (below_step (bw HB.out) hb); (try clear hb)))
   go_ret
   exact ⟨by first | rfl | (simp [errW_none, errW_some] <;> rfl) | (simp [*, errW_none, errW_some] <;> rfl), bw HB.out⟩
  ·replace c6 := Bool.eq_false_iff.mpr c6
   subst c6
   have H1 : (some false) = some r := by rw [if_neg (show ¬ (false = true) by decide)] at H; exact H
   clear H
   have H := H1
   clear H1
   obtain rfl := Option.some.inj H
   go_enter Try.func42, Try.ntmps42
   go_wp2_with (first | ((with_reducible refine gate_dst (N := 2) rfl ?_); refine boxed (N := 2) rfl rfl (cs := #[.slice A0_0 l0_0.length c0_0, .slice A0_1 l0_1.length c0_1]) (t := 59) HB.out (by first | (go_simp; done) | (go_simp; rfl)) ?_; clear HB; intro gb101 w18 hg HB BK101 GE101 hb; have GW101 := GE101; clear hb hg) | ((with_reducible refine gate_dst (N := 3) rfl ?_); refine box_event ?hg (N := 3) ?hd (cs := #[.slice A1_0 l1_0.length c1_0]) (t := 31) ?hr ?_; (case hd => rfl); (case hg => rfl); (case hr => first | (go_simp; done) | (go_simp; rfl)); intro gb102 hg w19 hbox hb; have BK102 := ak (hbox); have GW102 := ak ((by rw [hg]; exact (below_size (bw HB.out)) : w.heap.size ≤ gb102)); have GE102 := ak ((by rw [hg]; exact (below_size (bw HB.out)) : w.heap.size ≤ gb102)); replace HB := ak (below_step (bw HB.out) hb); have NB101_102 := ak ((by rw [hg]; exact Nat.ne_of_lt (blk_lt (bk BK101.out)) : gb101 ≠ gb102)); have NB102_101 := ak ((by rw [hg]; exact Nat.ne_of_gt (blk_lt (bk BK101.out)) : gb102 ≠ gb101)); replace BK101 := ak (blk_below (bk BK101.out) hb); clear hb hbox hg; have hnb20 := NB101_102.out; have hnc20 := NB102_101.out; obtain ⟨hcz21_0, hcz21_1, hfz21_0, hfz21_1⟩ := cells2 BK101.out) | ((with_reducible refine gate_callee (f := 37) rfl ?_); refine goesL_ (some 6) rfl rfl Try.func37 (by kernel_rfl) rfl #[.agg #[.slice A0_0 l0_0.length c0_0, .slice A0_1 l0_1.length c0_1]] rfl (by first | rfl | (simp only [List.map_toArray, List.map_cons, List.map_nil]; first | done | rfl)) ?_; (with_reducible refine (impl_ZoneOk.calls k _ _ l0_0 _ _ l0_1 true _ ?side1 ?side2 ?side3 ?side4 A3.out).mono ?_); (case side1 => exact cw HR0_0.out HB.out); (case side2 => exact HC0_0.out); (case side3 => exact cw HR0_1.out HB.out); (case side4 => exact HC0_1.out); rintro e w22 ⟨rfl, hb⟩; refine ⟨_, rfl, ?_⟩; replace BK101 := ak (blk_below (bk BK101.out) hb); replace BK102 := ak (blk_below (bk BK102.out) hb); replace HB := ak (below_step (bw HB.out) hb); (try clear hb); obtain ⟨hcz23_0, hfz23_0⟩ := cells1 BK102.out) | (go_at_call 74; (with_reducible refine (impl_NameOk.calls _ _ l1_0 false _ ?side1 ?side2 A5.out).mono ?_); (case side1 => exact cw HR1_0.out HB.out); (case side2 => exact HC1_0.out); rintro e w24 ⟨rfl, hb⟩; replace BK101 := ak (blk_below (bk BK101.out) hb); replace BK102 := ak (blk_below (bk BK102.out) hb); replace HB := ak (below_step (bw HB.out) hb); (try clear hb)))
   go_ret
   exact ⟨by first | rfl | (simp [errW_none, errW_some] <;> rfl) | (simp [*, errW_none, errW_some] <;> rfl), bw HB.out⟩
 ·replace c4 := Bool.eq_false_iff.mpr c4
  subst c4
  have H1 : (some false) = some r := by rw [if_neg (show ¬ (false = true) by decide)] at H; exact H
  clear H
  have H := H1
  clear H1
  obtain rfl := Option.some.inj H
  go_enter Try.func42, Try.ntmps42
  go_wp2_with (first | ((with_reducible refine gate_dst (N := 2) rfl ?_); refine boxed (N := 2) rfl rfl (cs := #[.slice A0_0 l0_0.length c0_0, .slice A0_1 l0_1.length c0_1]) (t := 59) HB.out (by first | (go_simp; done) | (go_simp; rfl)) ?_; clear HB; intro gb101 w25 hg HB BK101 GE101 hb; have GW101 := GE101; clear hb hg) | ((with_reducible refine gate_dst (N := 3) rfl ?_); refine box_event ?hg (N := 3) ?hd (cs := #[.slice A1_0 l1_0.length c1_0]) (t := 31) ?hr ?_; (case hd => rfl); (case hg => rfl); (case hr => first | (go_simp; done) | (go_simp; rfl)); intro gb102 hg w26 hbox hb; have BK102 := ak (hbox); have GW102 := ak ((by rw [hg]; exact (below_size (bw HB.out)) : w.heap.size ≤ gb102)); have GE102 := ak ((by rw [hg]; exact (below_size (bw HB.out)) : w.heap.size ≤ gb102)); replace HB := ak (below_step (bw HB.out) hb); have NB101_102 := ak ((by rw [hg]; exact Nat.ne_of_lt (blk_lt (bk BK101.out)) : gb101 ≠ gb102)); have NB102_101 := ak ((by rw [hg]; exact Nat.ne_of_gt (blk_lt (bk BK101.out)) : gb102 ≠ gb101)); replace BK101 := ak (blk_below (bk BK101.out) hb); clear hb hbox hg; have hnb27 := NB101_102.out; have hnc27 := NB102_101.out; obtain ⟨hcz28_0, hcz28_1, hfz28_0, hfz28_1⟩ := cells2 BK101.out) | ((with_reducible refine gate_callee (f := 37) rfl ?_); refine goesL_ (some 6) rfl rfl Try.func37 (by kernel_rfl) rfl #[.agg #[.slice A0_0 l0_0.length c0_0, .slice A0_1 l0_1.length c0_1]] rfl (by first | rfl | (simp only [List.map_toArray, List.map_cons, List.map_nil]; first | done | rfl)) ?_; (with_reducible refine (impl_ZoneOk.calls k _ _ l0_0 _ _ l0_1 false _ ?side1 ?side2 ?side3 ?side4 A3.out).mono ?_); (case side1 => exact cw HR0_0.out HB.out); (case side2 => exact HC0_0.out); (case side3 => exact cw HR0_1.out HB.out); (case side4 => exact HC0_1.out); rintro e w29 ⟨rfl, hb⟩; refine ⟨_, rfl, ?_⟩; replace BK101 := ak (blk_below (bk BK101.out) hb); replace BK102 := ak (blk_below (bk BK102.out) hb); replace HB := ak (below_step (bw HB.out) hb); (try clear hb)))
  go_ret
  exact ⟨by first | rfl | (simp [errW_none, errW_some] <;> rfl) | (simp [*, errW_none, errW_some] <;> rfl), bw HB.out⟩


/-! ### laws_FnExactHasName: function 8 -/
def laws_FnExactHasName.f (k : Nat) (l0_0 : List (List Int)) (l0_1 : List (S28)) (l1_0 : List (List Int)) : Option (Bool) := (laws_szZone.f k l0_0 l0_1 1048576).bind fun t103 => (if t103 < 0 then (some true) else ((laws_szName.f k l1_0 t103).bind fun t104 => (if t104 < 0 then (some true) else ((laws_toZone.f k l0_0 l0_1).bind fun bt105 => ((laws_toName.f k l1_0).bind fun t111 => ((spec_HasName.f k bt105.1 bt105.2 t111).bind fun t114 => ((laws_toZone.f k l0_0 l0_1).bind fun bt115 => ((laws_toName.f k l1_0).bind fun t122 => ((impl_HasName.f k bt115.1 bt115.2 t122).bind fun t126 => (if (t126 != t114) = true then (none) else ((laws_toZone.f k l0_0 l0_1).bind fun bt127 => ((laws_eqZone.f k bt115.1 bt115.2 bt127.1 bt127.2).bind fun t133 => (if t133 = true then ((laws_toName.f k l1_0).bind fun t134 => ((laws_eqName.f k t122 t134).bind fun t137 => (if t137 = true then (some true) else (none)))) else (none))))))))))))))
set_option maxHeartbeats 8000000 in
set_option maxRecDepth 100000 in
theorem laws_FnExactHasName.calls (k : Nat) (A0_0 : Option Addr) (c0_0 : Nat) (l0_0 : List (List Int)) (A0_1 : Option Addr) (c0_1 : Nat) (l0_1 : List (S28)) (A1_0 : Option Addr) (c1_0 : Nat) (l1_0 : List (List Int)) (r : Bool) (w : World) (hr0_0 : Kd.C (Kd.slice 5 (Kd.int .u8)) w A0_0 l0_0.length l0_0) (hc0_0 : l0_0.length ≤ c0_0) (hr0_1 : Kd.C k28 w A0_1 l0_1.length l0_1) (hc0_1 : l0_1.length ≤ c0_1) (hr1_0 : Kd.C (Kd.slice 5 (Kd.int .u8)) w A1_0 l1_0.length l1_0) (hc1_0 : l1_0.length ≤ c1_0) (h : laws_FnExactHasName.f k l0_0 l0_1 l1_0 = some r) :
  Calls Try.prog 8 #[.agg #[.slice A0_0 l0_0.length c0_0, .slice A0_1 l0_1.length c0_1], .agg #[.slice A1_0 l1_0.length c1_0]] w fun e w' => e = .returned (.bool r) ∧ Below w.heap.size w w' := by
 have hu54 := Try.underlying54
 have hu24 := Try.underlying24
 have hu59 := Try.underlying59
 have hu31 := Try.underlying31
 have HR0_0 := ak hr0_0
 have HC0_0 := ak hc0_0
 clear hr0_0 hc0_0
 have HR0_1 := ak hr0_1
 have HC0_1 := ak hc0_1
 clear hr0_1 hc0_1
 have HR1_0 := ak hr1_0
 have HC1_0 := ak hc1_0
 clear hr1_0 hc1_0
 have HB := ak (Below.refl w.heap.size w)
 have H : ((laws_szZone.f k l0_0 l0_1 1048576).bind fun t103 => (if t103 < 0 then (some true) else ((laws_szName.f k l1_0 t103).bind fun t104 => (if t104 < 0 then (some true) else ((laws_toZone.f k l0_0 l0_1).bind fun bt105 => ((laws_toName.f k l1_0).bind fun t111 => ((spec_HasName.f k bt105.1 bt105.2 t111).bind fun t114 => ((laws_toZone.f k l0_0 l0_1).bind fun bt115 => ((laws_toName.f k l1_0).bind fun t122 => ((impl_HasName.f k bt115.1 bt115.2 t122).bind fun t126 => (if (t126 != t114) = true then (none) else ((laws_toZone.f k l0_0 l0_1).bind fun bt127 => ((laws_eqZone.f k bt115.1 bt115.2 bt127.1 bt127.2).bind fun t133 => (if t133 = true then ((laws_toName.f k l1_0).bind fun t134 => ((laws_eqName.f k t122 t134).bind fun t137 => (if t137 = true then (some true) else (none)))) else (none))))))))))))))) = some r := h
 clear h
 replace H := Option.bind_eq_some_iff.mp H
 obtain ⟨t103, A30, H⟩ := H
 replace H : (if t103 < 0 then (some true) else ((laws_szName.f k l1_0 t103).bind fun t104 => (if t104 < 0 then (some true) else ((laws_toZone.f k l0_0 l0_1).bind fun bt105 => ((laws_toName.f k l1_0).bind fun t111 => ((spec_HasName.f k bt105.1 bt105.2 t111).bind fun t114 => ((laws_toZone.f k l0_0 l0_1).bind fun bt115 => ((laws_toName.f k l1_0).bind fun t122 => ((impl_HasName.f k bt115.1 bt115.2 t122).bind fun t126 => (if (t126 != t114) = true then (none) else ((laws_toZone.f k l0_0 l0_1).bind fun bt127 => ((laws_eqZone.f k bt115.1 bt115.2 bt127.1 bt127.2).bind fun t133 => (if t133 = true then ((laws_toName.f k l1_0).bind fun t134 => ((laws_eqName.f k t122 t134).bind fun t137 => (if t137 = true then (some true) else (none)))) else (none)))))))))))))) = some r := H
 have A3 := ak A30
 clear A30
 by_cases c4 : t103 < 0
 ·rw [if_pos c4] at H
  have c4b0 : decide (t103 < 0) = true := decide_eq_true c4
  clear c4
  obtain rfl := Option.some.inj H
  go_enter Try.func8, Try.ntmps8
  go_wp2_with (first | ((with_reducible refine gate_dst (N := 2) rfl ?_); refine boxed (N := 2) rfl rfl (cs := #[.slice A0_0 l0_0.length c0_0, .slice A0_1 l0_1.length c0_1]) (t := 54) HB.out (by first | (go_simp; done) | (go_simp; rfl)) ?_; clear HB; intro gb101 w5 hg HB BK101 GE101 hb; have GW101 := GE101; clear hb hg) | ((with_reducible refine gate_dst (N := 3) rfl ?_); refine box_event ?hg (N := 3) ?hd (cs := #[.slice A1_0 l1_0.length c1_0]) (t := 24) ?hr ?_; (case hd => rfl); (case hg => rfl); (case hr => first | (go_simp; done) | (go_simp; rfl)); intro gb102 hg w6 hbox hb; have BK102 := ak (hbox); have GW102 := ak ((by rw [hg]; exact (below_size (by repeat (first | exact bw HB.out | refine below_set ?_ GE101.out))) : w.heap.size ≤ gb102)); have GE102 := ak ((by rw [hg]; exact (below_size (by repeat (first | exact bw HB.out | refine below_set ?_ GE101.out))) : w.heap.size ≤ gb102)); replace HB := ak (below_step (by repeat (first | exact bw HB.out | refine below_set ?_ GE101.out)) hb); have NB101_102 := ak ((by rw [hg]; exact Nat.ne_of_lt (blk_lt (bk BK101.out)) : gb101 ≠ gb102)); have NB102_101 := ak ((by rw [hg]; exact Nat.ne_of_gt (blk_lt (bk BK101.out)) : gb102 ≠ gb101)); replace BK101 := ak (blk_below (bk BK101.out) hb); clear hb hbox hg; have hnb7 := NB101_102.out; have hnc7 := NB102_101.out; obtain ⟨hcz8_0, hcz8_1, hfz8_0, hfz8_1⟩ := cells2 BK101.out) | ((with_reducible refine gate_callee (f := 34) rfl ?_); refine goesL_ (some 12) rfl rfl Try.func34 (by kernel_rfl) rfl #[.agg #[.slice A0_0 l0_0.length c0_0, .slice A0_1 l0_1.length c0_1], .int .i64 1048576] rfl (by first | rfl | (simp only [List.map_toArray, List.map_cons, List.map_nil]; first | done | rfl)) ?_; (with_reducible refine (laws_szZone.calls k _ _ l0_0 _ _ l0_1 1048576 t103 _ ?side1 ?side2 ?side3 ?side4 A3.out).mono ?_); (case side1 => exact cw HR0_0.out HB.out); (case side2 => exact HC0_0.out); (case side3 => exact cw HR0_1.out HB.out); (case side4 => exact HC0_1.out); rintro e w9 ⟨rfl, hb⟩; refine ⟨_, rfl, ?_⟩; replace BK101 := ak (blk_below (bk BK101.out) hb); replace BK102 := ak (blk_below (bk BK102.out) hb); replace HB := ak (below_step (by repeat (first | exact bw HB.out | refine below_set ?_ GE101.out | refine below_set ?_ GE102.out)) hb); (try clear hb)))
  go_ret
  exact ⟨by first | rfl | (simp [errW_none, errW_some] <;> rfl) | (simp [*, errW_none, errW_some] <;> rfl), by repeat (first | exact bw HB.out | refine below_set ?_ GE101.out | refine below_set ?_ GE102.out)⟩
 ·rw [if_neg c4] at H
  have c4b0 : decide (t103 < 0) = false := decide_eq_false c4
  clear c4
  replace H := Option.bind_eq_some_iff.mp H
  obtain ⟨t104, A100, H⟩ := H
  replace H : (if t104 < 0 then (some true) else ((laws_toZone.f k l0_0 l0_1).bind fun bt105 => ((laws_toName.f k l1_0).bind fun t111 => ((spec_HasName.f k bt105.1 bt105.2 t111).bind fun t114 => ((laws_toZone.f k l0_0 l0_1).bind fun bt115 => ((laws_toName.f k l1_0).bind fun t122 => ((impl_HasName.f k bt115.1 bt115.2 t122).bind fun t126 => (if (t126 != t114) = true then (none) else ((laws_toZone.f k l0_0 l0_1).bind fun bt127 => ((laws_eqZone.f k bt115.1 bt115.2 bt127.1 bt127.2).bind fun t133 => (if t133 = true then ((laws_toName.f k l1_0).bind fun t134 => ((laws_eqName.f k t122 t134).bind fun t137 => (if t137 = true then (some true) else (none)))) else (none)))))))))))) = some r := H
  have A10 := ak A100
  clear A100
  by_cases c11 : t104 < 0
  ·rw [if_pos c11] at H
   have c11b0 : decide (t104 < 0) = true := decide_eq_true c11
   clear c11
   obtain rfl := Option.some.inj H
   go_enter Try.func8, Try.ntmps8
   go_wp2_with (first | ((with_reducible refine gate_dst (N := 2) rfl ?_); refine boxed (N := 2) rfl rfl (cs := #[.slice A0_0 l0_0.length c0_0, .slice A0_1 l0_1.length c0_1]) (t := 54) HB.out (by first | (go_simp; done) | (go_simp; rfl)) ?_; clear HB; intro gb101 w12 hg HB BK101 GE101 hb; have GW101 := GE101; clear hb hg) | ((with_reducible refine gate_dst (N := 3) rfl ?_); refine box_event ?hg (N := 3) ?hd (cs := #[.slice A1_0 l1_0.length c1_0]) (t := 24) ?hr ?_; (case hd => rfl); (case hg => rfl); (case hr => first | (go_simp; done) | (go_simp; rfl)); intro gb102 hg w13 hbox hb; have BK102 := ak (hbox); have GW102 := ak ((by rw [hg]; exact (below_size (by repeat (first | exact bw HB.out | refine below_set ?_ GE101.out))) : w.heap.size ≤ gb102)); have GE102 := ak ((by rw [hg]; exact (below_size (by repeat (first | exact bw HB.out | refine below_set ?_ GE101.out))) : w.heap.size ≤ gb102)); replace HB := ak (below_step (by repeat (first | exact bw HB.out | refine below_set ?_ GE101.out)) hb); have NB101_102 := ak ((by rw [hg]; exact Nat.ne_of_lt (blk_lt (bk BK101.out)) : gb101 ≠ gb102)); have NB102_101 := ak ((by rw [hg]; exact Nat.ne_of_gt (blk_lt (bk BK101.out)) : gb102 ≠ gb101)); replace BK101 := ak (blk_below (bk BK101.out) hb); clear hb hbox hg; have hnb14 := NB101_102.out; have hnc14 := NB102_101.out; obtain ⟨hcz15_0, hcz15_1, hfz15_0, hfz15_1⟩ := cells2 BK101.out) | ((with_reducible refine gate_callee (f := 34) rfl ?_); refine goesL_ (some 12) rfl rfl Try.func34 (by kernel_rfl) rfl #[.agg #[.slice A0_0 l0_0.length c0_0, .slice A0_1 l0_1.length c0_1], .int .i64 1048576] rfl (by first | rfl | (simp only [List.map_toArray, List.map_cons, List.map_nil]; first | done | rfl)) ?_; (with_reducible refine (laws_szZone.calls k _ _ l0_0 _ _ l0_1 1048576 t103 _ ?side1 ?side2 ?side3 ?side4 A3.out).mono ?_); (case side1 => exact cw HR0_0.out HB.out); (case side2 => exact HC0_0.out); (case side3 => exact cw HR0_1.out HB.out); (case side4 => exact HC0_1.out); rintro e w16 ⟨rfl, hb⟩; refine ⟨_, rfl, ?_⟩; replace BK101 := ak (blk_below (bk BK101.out) hb); replace BK102 := ak (blk_below (bk BK102.out) hb); replace HB := ak (below_step (by repeat (first | exact bw HB.out | refine below_set ?_ GE101.out | refine below_set ?_ GE102.out)) hb); (try clear hb); obtain ⟨hcz17_0, hfz17_0⟩ := cells1 BK102.out) | ((with_reducible refine gate_callee (f := 39) rfl ?_); refine goesL_ (some 17) rfl rfl Try.func39 (by kernel_rfl) rfl #[.agg #[.slice A1_0 l1_0.length c1_0], .int .i64 t103] rfl (by first | rfl | (simp only [List.map_toArray, List.map_cons, List.map_nil]; first | done | rfl)) ?_; (with_reducible refine (laws_szName.calls k _ _ l1_0 t103 t104 _ ?side1 ?side2 A10.out).mono ?_); (case side1 => exact cw HR1_0.out HB.out); (case side2 => exact HC1_0.out); rintro e w18 ⟨rfl, hb⟩; refine ⟨_, rfl, ?_⟩; replace BK101 := ak (blk_below (bk BK101.out) hb); replace BK102 := ak (blk_below (bk BK102.out) hb); replace HB := ak (below_step (by repeat (first | exact bw HB.out | refine below_set ?_ GE101.out | refine below_set ?_ GE102.out)) hb); (try clear hb)))
   go_ret
   exact ⟨by first | rfl | (simp [errW_none, errW_some] <;> rfl) | (simp [*, errW_none, errW_some] <;> rfl), by repeat (first | exact bw HB.out | refine below_set ?_ GE101.out | refine below_set ?_ GE102.out)⟩
  ·rw [if_neg c11] at H
   have c11b0 : decide (t104 < 0) = false := decide_eq_false c11
   clear c11
   replace H := Option.bind_eq_some_iff.mp H
   obtain ⟨⟨t105, t108⟩, A190, H⟩ := H
   replace H : ((laws_toName.f k l1_0).bind fun t111 => ((spec_HasName.f k t105 t108 t111).bind fun t114 => ((laws_toZone.f k l0_0 l0_1).bind fun bt115 => ((laws_toName.f k l1_0).bind fun t122 => ((impl_HasName.f k bt115.1 bt115.2 t122).bind fun t126 => (if (t126 != t114) = true then (none) else ((laws_toZone.f k l0_0 l0_1).bind fun bt127 => ((laws_eqZone.f k bt115.1 bt115.2 bt127.1 bt127.2).bind fun t133 => (if t133 = true then ((laws_toName.f k l1_0).bind fun t134 => ((laws_eqName.f k t122 t134).bind fun t137 => (if t137 = true then (some true) else (none)))) else (none)))))))))) = some r := H
   have A19 := ak A190
   clear A190
   replace H := Option.bind_eq_some_iff.mp H
   obtain ⟨t111, A200, H⟩ := H
   replace H : ((spec_HasName.f k t105 t108 t111).bind fun t114 => ((laws_toZone.f k l0_0 l0_1).bind fun bt115 => ((laws_toName.f k l1_0).bind fun t122 => ((impl_HasName.f k bt115.1 bt115.2 t122).bind fun t126 => (if (t126 != t114) = true then (none) else ((laws_toZone.f k l0_0 l0_1).bind fun bt127 => ((laws_eqZone.f k bt115.1 bt115.2 bt127.1 bt127.2).bind fun t133 => (if t133 = true then ((laws_toName.f k l1_0).bind fun t134 => ((laws_eqName.f k t122 t134).bind fun t137 => (if t137 = true then (some true) else (none)))) else (none))))))))) = some r := H
   have A20 := ak A200
   clear A200
   replace H := Option.bind_eq_some_iff.mp H
   obtain ⟨t114, A210, H⟩ := H
   replace H : ((laws_toZone.f k l0_0 l0_1).bind fun bt115 => ((laws_toName.f k l1_0).bind fun t122 => ((impl_HasName.f k bt115.1 bt115.2 t122).bind fun t126 => (if (t126 != t114) = true then (none) else ((laws_toZone.f k l0_0 l0_1).bind fun bt127 => ((laws_eqZone.f k bt115.1 bt115.2 bt127.1 bt127.2).bind fun t133 => (if t133 = true then ((laws_toName.f k l1_0).bind fun t134 => ((laws_eqName.f k t122 t134).bind fun t137 => (if t137 = true then (some true) else (none)))) else (none)))))))) = some r := H
   have A21 := ak A210
   clear A210
   replace H := Option.bind_eq_some_iff.mp H
   obtain ⟨⟨t115, t118⟩, A220, H⟩ := H
   replace H : ((laws_toName.f k l1_0).bind fun t122 => ((impl_HasName.f k t115 t118 t122).bind fun t126 => (if (t126 != t114) = true then (none) else ((laws_toZone.f k l0_0 l0_1).bind fun bt127 => ((laws_eqZone.f k t115 t118 bt127.1 bt127.2).bind fun t133 => (if t133 = true then ((laws_toName.f k l1_0).bind fun t134 => ((laws_eqName.f k t122 t134).bind fun t137 => (if t137 = true then (some true) else (none)))) else (none))))))) = some r := H
   have A22 := ak A220
   clear A220
   replace H := Option.bind_eq_some_iff.mp H
   obtain ⟨t122, A230, H⟩ := H
   replace H : ((impl_HasName.f k t115 t118 t122).bind fun t126 => (if (t126 != t114) = true then (none) else ((laws_toZone.f k l0_0 l0_1).bind fun bt127 => ((laws_eqZone.f k t115 t118 bt127.1 bt127.2).bind fun t133 => (if t133 = true then ((laws_toName.f k l1_0).bind fun t134 => ((laws_eqName.f k t122 t134).bind fun t137 => (if t137 = true then (some true) else (none)))) else (none)))))) = some r := H
   have A23 := ak A230
   clear A230
   replace H := Option.bind_eq_some_iff.mp H
   obtain ⟨t126, A240, H⟩ := H
   replace H : (if (t126 != t114) = true then (none) else ((laws_toZone.f k l0_0 l0_1).bind fun bt127 => ((laws_eqZone.f k t115 t118 bt127.1 bt127.2).bind fun t133 => (if t133 = true then ((laws_toName.f k l1_0).bind fun t134 => ((laws_eqName.f k t122 t134).bind fun t137 => (if t137 = true then (some true) else (none)))) else (none))))) = some r := H
   have A24 := ak A240
   clear A240
   by_cases c25 : (t126 != t114) = true
   ·rw [if_pos c25] at H
    exact absurd H (by simp)
   ·rw [if_neg c25] at H
    have c25b0 : (t126 != t114) = false := by simpa using c25
    (try (have c25b1 : decide (t126 = t114) = true := by simpa using c25))
    (try (have c25b2 : (t126 == t114) = true := by simpa using c25))
    clear c25
    replace H := Option.bind_eq_some_iff.mp H
    obtain ⟨⟨t127, t130⟩, A260, H⟩ := H
    replace H : ((laws_eqZone.f k t115 t118 t127 t130).bind fun t133 => (if t133 = true then ((laws_toName.f k l1_0).bind fun t134 => ((laws_eqName.f k t122 t134).bind fun t137 => (if t137 = true then (some true) else (none)))) else (none))) = some r := H
    have A26 := ak A260
    clear A260
    replace H := Option.bind_eq_some_iff.mp H
    obtain ⟨t133, A270, H⟩ := H
    replace H : (if t133 = true then ((laws_toName.f k l1_0).bind fun t134 => ((laws_eqName.f k t122 t134).bind fun t137 => (if t137 = true then (some true) else (none)))) else (none)) = some r := H
    have A27 := ak A270
    clear A270
    by_cases c28 : t133 = true
    ·subst c28
     have H1 : ((laws_toName.f k l1_0).bind fun t134 => ((laws_eqName.f k t122 t134).bind fun t137 => (if t137 = true then (some true) else (none)))) = some r := by rw [if_pos rfl] at H; exact H
     clear H
     have H := H1
     clear H1
     replace H := Option.bind_eq_some_iff.mp H
     obtain ⟨t134, A290, H⟩ := H
     replace H : ((laws_eqName.f k t122 t134).bind fun t137 => (if t137 = true then (some true) else (none))) = some r := H
     have A29 := ak A290
     clear A290
     replace H := Option.bind_eq_some_iff.mp H
     obtain ⟨t137, A300, H⟩ := H
     replace H : (if t137 = true then (some true) else (none)) = some r := H
     have A30 := ak A300
     clear A300
     by_cases c31 : t137 = true
     ·subst c31
      have H1 : (some true) = some r := by rw [if_pos rfl] at H; exact H
      clear H
      have H := H1
      clear H1
      obtain rfl := Option.some.inj H
      go_enter Try.func8, Try.ntmps8
      try go_wp2_with (first | ((with_reducible refine gate_dst (N := 2) rfl ?_); refine boxed (N := 2) rfl rfl (cs := #[.slice A0_0 l0_0.length c0_0, .slice A0_1 l0_1.length c0_1]) (t := 54) HB.out (by first | (go_simp; done) | (go_simp; rfl)) ?_; clear HB; intro gb101 w32 hg HB BK101 GE101 hb; have GW101 := GE101; clear hb hg) | ((with_reducible refine gate_dst (N := 3) rfl ?_); refine box_event ?hg (N := 3) ?hd (cs := #[.slice A1_0 l1_0.length c1_0]) (t := 24) ?hr ?_; (case hd => rfl); (case hg => rfl); (case hr => first | (go_simp; done) | (go_simp; rfl)); intro gb102 hg w33 hbox hb; have BK102 := ak (hbox); have GW102 := ak ((by rw [hg]; exact (below_size (by repeat (first | exact bw HB.out | refine below_set ?_ GE101.out))) : w.heap.size ≤ gb102)); have GE102 := ak ((by rw [hg]; exact (below_size (by repeat (first | exact bw HB.out | refine below_set ?_ GE101.out))) : w.heap.size ≤ gb102)); replace HB := ak (below_step (by repeat (first | exact bw HB.out | refine below_set ?_ GE101.out)) hb); have NB101_102 := ak ((by rw [hg]; exact Nat.ne_of_lt (blk_lt (bk BK101.out)) : gb101 ≠ gb102)); have NB102_101 := ak ((by rw [hg]; exact Nat.ne_of_gt (blk_lt (bk BK101.out)) : gb102 ≠ gb101)); replace BK101 := ak (blk_below (bk BK101.out) hb); clear hb hbox hg; have hnb34 := NB101_102.out; have hnc34 := NB102_101.out; obtain ⟨hcz35_0, hcz35_1, hfz35_0, hfz35_1⟩ := cells2 BK101.out) | ((with_reducible refine gate_callee (f := 34) rfl ?_); refine goesL_ (some 12) rfl rfl Try.func34 (by kernel_rfl) rfl #[.agg #[.slice A0_0 l0_0.length c0_0, .slice A0_1 l0_1.length c0_1], .int .i64 1048576] rfl (by first | rfl | (simp only [List.map_toArray, List.map_cons, List.map_nil]; first | done | rfl)) ?_; (with_reducible refine (laws_szZone.calls k _ _ l0_0 _ _ l0_1 1048576 t103 _ ?side1 ?side2 ?side3 ?side4 A3.out).mono ?_); (case side1 => exact cw HR0_0.out HB.out); (case side2 => exact HC0_0.out); (case side3 => exact cw HR0_1.out HB.out); (case side4 => exact HC0_1.out); rintro e w36 ⟨rfl, hb⟩; refine ⟨_, rfl, ?_⟩; replace BK101 := ak (blk_below (bk BK101.out) hb); replace BK102 := ak (blk_below (bk BK102.out) hb); replace HB := ak (below_step (by repeat (first | exact bw HB.out | refine below_set ?_ GE101.out | refine below_set ?_ GE102.out)) hb); (try clear hb); obtain ⟨hcz37_0, hfz37_0⟩ := cells1 BK102.out) | ((with_reducible refine gate_callee (f := 39) rfl ?_); refine goesL_ (some 17) rfl rfl Try.func39 (by kernel_rfl) rfl #[.agg #[.slice A1_0 l1_0.length c1_0], .int .i64 t103] rfl (by first | rfl | (simp only [List.map_toArray, List.map_cons, List.map_nil]; first | done | rfl)) ?_; (with_reducible refine (laws_szName.calls k _ _ l1_0 t103 t104 _ ?side1 ?side2 A10.out).mono ?_); (case side1 => exact cw HR1_0.out HB.out); (case side2 => exact HC1_0.out); rintro e w38 ⟨rfl, hb⟩; refine ⟨_, rfl, ?_⟩; replace BK101 := ak (blk_below (bk BK101.out) hb); replace BK102 := ak (blk_below (bk BK102.out) hb); replace HB := ak (below_step (by repeat (first | exact bw HB.out | refine below_set ?_ GE101.out | refine below_set ?_ GE102.out)) hb); (try clear hb)))
      have n0_ := ak (blk_drew BK101.out)
      have n1_ := ak (blk_drew BK102.out)
      have n2_ := ak (below_drew1 HB.out)
      clear BK101
      clear BK102
      clear HB
      have BK101 := n0_
      have BK102 := n1_
      have HB := n2_
      clear n0_ n1_ n2_
      refine start_ (n := 6) (S := fun w' => w'.cell? ⟨gb101, 0, none⟩ = some (.slice A0_0 l0_0.length c0_0) ∧ w'.cell? ⟨gb101, 1, none⟩ = some (.slice A0_1 l0_1.length c0_1) ∧ w'.cell? ⟨gb102, 0, none⟩ = some (.slice A1_0 l1_0.length c1_0)) (ds := []) (bA 6 0) (by kernel_rfl) rfl rfl ⟨(blk_cell BK101.out 0).trans rfl, (blk_cell BK101.out 1).trans rfl, (blk_cell BK102.out 0).trans rfl⟩ (fun hHeld => ?_)
      generalize w38.drew = w39 at BK101 BK102 HB hHeld ⊢
      refine take_ (i := 0) (N := some 20) (v := ?_) (a' := ?_) (bA 6 1) rfl rfl (by kernel_rfl) (fun _ _ _ h => h) (Or.inl ⟨by rfl, ?_⟩) hHeld ?_ ?_
      rotate_left; rintro w' ⟨s0, s1, s2⟩; go_simp; with_reducible rfl; rotate_left; go_simp; rfl
      refine take_ (i := 2) (N := some 22) (v := ?_) (a' := ?_) (bA 6 5) rfl rfl (by kernel_rfl) (fun _ _ _ h => h) (Or.inl ⟨by rfl, ?_⟩) hHeld ?_ ?_
      rotate_left; rintro w' ⟨s0, s1, s2⟩; go_simp; with_reducible rfl; rotate_left; go_simp; rfl
      refine one_ (i := 1) (N := some 21) (bA 6 7) rfl rfl (by kernel_rfl) (by decide) (fun K hK => ?_)
      refine goes_ Try.func36 (by kernel_rfl) rfl #[.agg #[.slice A0_0 l0_0.length c0_0, .slice A0_1 l0_1.length c0_1]] (by rfl) rfl rfl (by first | rfl | (simp only [List.map_toArray, List.map_cons, List.map_nil]; first | done | rfl)) ?_
      with_reducible refine (laws_toZone.calls k _ _ l0_0 _ _ l0_1 t105 t108 _ ?side1 ?side2 ?side3 ?side4 A19.out).mono ?_
      (case side1 => exact cw HR0_0.out HB.out)
      (case side2 => exact HC0_0.out)
      (case side3 => exact cw HR0_1.out HB.out)
      (case side4 => exact HC0_1.out)
      rintro e w40 ⟨v106, v109, rfl, ho0, ho1, hb⟩
      refine ⟨_, rfl, ?_⟩
      have n0_ := ak (Kd.S_lower ho0 (below_size (by repeat (first | exact bw HB.out | refine below_set ?_ GE101.out | refine below_set ?_ GE102.out))))
      have n1_ := ak (Kd.R_lower ho1 (below_size (by repeat (first | exact bw HB.out | refine below_set ?_ GE101.out | refine below_set ?_ GE102.out))))
      have n2_ := ak (blk_below (bk BK101.out) hb)
      have n3_ := ak (blk_below (bk BK102.out) hb)
      have n4_ := ak (below_step (by repeat (first | exact bw HB.out | refine below_set ?_ GE101.out | refine below_set ?_ GE102.out)) hb)
      clear BK101
      clear BK102
      clear HB
      have HO107 := n0_
      have HO110 := n1_
      have BK101 := n2_
      have BK102 := n3_
      have HB := n4_
      clear n0_ n1_ n2_ n3_ n4_
      (try clear hb)
      (try clear hb2)
      (try clear hk)
      (try clear hi)
      (try clear ho0)
      (try clear ho1)
      refine hK.out _ _ ⟨(blk_cell BK101.out 0).trans rfl, (blk_cell BK101.out 1).trans rfl, (blk_cell BK102.out 0).trans rfl⟩ (fun hHeld => ?_)
      clear hK K
      refine norm_ (a' := ?_) ?_ ?_; rotate_left; go_simp; rfl
      refine one_ (i := 3) (N := some 23) (bA 6 15) rfl rfl (by kernel_rfl) (by decide) (fun K hK => ?_)
      refine goes_ Try.func41 (by kernel_rfl) rfl #[.agg #[.slice A1_0 l1_0.length c1_0]] (by rfl) rfl rfl (by first | rfl | (simp only [List.map_toArray, List.map_cons, List.map_nil]; first | done | rfl)) ?_
      with_reducible refine (laws_toName.calls k _ _ l1_0 t111 _ ?side1 ?side2 A20.out).mono ?_
      (case side1 => exact cw HR1_0.out HB.out)
      (case side2 => exact HC1_0.out)
      rintro e w41 ⟨v112, rfl, ho0, hb⟩
      refine ⟨_, rfl, ?_⟩
      have n0_ := ak (Kd.S_elder' (sw HO107.out) (Kd.S_base ho0) hb)
      have n1_ := ak (Kd.R_elder' (rw_ HO110.out) (Kd.S_base ho0) hb)
      have n2_ := ak (Kd.S_lower (Kd.S_new' ho0 (Kd.S_lt (sw HO107.out))) (below_size (by repeat (first | exact bw HB.out | refine below_set ?_ GE101.out | refine below_set ?_ GE102.out))))
      have n3_ := ak (blk_below (bk BK101.out) hb)
      have n4_ := ak (blk_below (bk BK102.out) hb)
      have n5_ := ak (below_step (by repeat (first | exact bw HB.out | refine below_set ?_ GE101.out | refine below_set ?_ GE102.out)) hb)
      clear HO107
      clear HO110
      clear BK101
      clear BK102
      clear HB
      have HO107 := n0_
      have HO110 := n1_
      have HO113 := n2_
      have BK101 := n3_
      have BK102 := n4_
      have HB := n5_
      clear n0_ n1_ n2_ n3_ n4_ n5_
      (try clear hb)
      (try clear hb2)
      (try clear hk)
      (try clear hi)
      (try clear ho0)
      obtain ⟨Ao42, co42, eo42⟩ := Kd.S_slice HO107.out
      (first | subst eo42 | (injection eo42 with f1_ f2_ f3_; have f4_ := f1_.symm; have f5_ := f3_.symm; clear f1_ f2_ f3_; subst f4_; subst f5_))
      obtain ⟨Ao43, co43, eo43⟩ := Kd.R_slice HO110.out
      (first | subst eo43 | (injection eo43 with f1_ f2_ f3_; have f4_ := f1_.symm; have f5_ := f3_.symm; clear f1_ f2_ f3_; subst f4_; subst f5_))
      obtain ⟨Ao44, co44, eo44⟩ := Kd.S_slice HO113.out
      (first | subst eo44 | (injection eo44 with f1_ f2_ f3_; have f4_ := f1_.symm; have f5_ := f3_.symm; clear f1_ f2_ f3_; subst f4_; subst f5_))
      refine hK.out _ _ ⟨(blk_cell BK101.out 0).trans rfl, (blk_cell BK101.out 1).trans rfl, (blk_cell BK102.out 0).trans rfl⟩ (fun hHeld => ?_)
      clear hK K
      refine norm_ (a' := ?_) ?_ ?_; rotate_left; go_simp; rfl
      refine one_ (i := 4) (N := some 24) (bA 6 31) rfl rfl (by kernel_rfl) (by decide) (fun K hK => ?_)
      refine goes_ Try.func40 (by kernel_rfl) rfl #[.agg #[.slice Ao42 t105.length co42, .slice Ao43 t108.length co43], .agg #[.slice Ao44 t111.length co44]] (by rfl) rfl rfl (by first | rfl | (simp only [List.map_toArray, List.map_cons, List.map_nil]; first | done | rfl)) ?_
      with_reducible refine (spec_HasName.calls k _ _ t105 _ _ t108 _ _ t111 t114 _ ?side1 ?side2 ?side3 ?side4 ?side5 ?side6 A21.out).mono ?_
      (case side1 => repeat (first | exact (Kd.S_reads' HO107.out).2.2 | (with_reducible refine Kd.C_alloc ?_ _) | (with_reducible refine Kd.C_drewN ?_ _) | (with_reducible refine Kd.C_drew ?_)))
      (case side2 => exact (Kd.S_reads' HO107.out).2.1)
      (case side3 => repeat (first | exact (Kd.R_reads' HO110.out).2.2 | (with_reducible refine Kd.C_alloc ?_ _) | (with_reducible refine Kd.C_drewN ?_ _) | (with_reducible refine Kd.C_drew ?_)))
      (case side4 => exact (Kd.R_reads' HO110.out).2.1)
      (case side5 => repeat (first | exact (Kd.S_reads' HO113.out).2.2 | (with_reducible refine Kd.C_alloc ?_ _) | (with_reducible refine Kd.C_drewN ?_ _) | (with_reducible refine Kd.C_drew ?_)))
      (case side6 => exact (Kd.S_reads' HO113.out).2.1)
      rintro e w45 ⟨rfl, hb⟩
      refine ⟨_, rfl, ?_⟩
      have n0_ := ak (Kd.S_below (sw HO107.out) hb)
      have n1_ := ak (Kd.R_below (rw_ HO110.out) hb)
      have n2_ := ak (Kd.S_below (sw HO113.out) hb)
      have n3_ := ak (blk_below (bk BK101.out) hb)
      have n4_ := ak (blk_below (bk BK102.out) hb)
      have n5_ := ak (below_step (by repeat (first | exact bw HB.out | refine below_set ?_ GE101.out | refine below_set ?_ GE102.out)) hb)
      clear HO107
      clear HO110
      clear HO113
      clear BK101
      clear BK102
      clear HB
      have HO107 := n0_
      have HO110 := n1_
      have HO113 := n2_
      have BK101 := n3_
      have BK102 := n4_
      have HB := n5_
      clear n0_ n1_ n2_ n3_ n4_ n5_
      (try clear hb)
      (try clear hb2)
      (try clear hk)
      (try clear hi)
      refine hK.out _ _ ⟨(blk_cell BK101.out 0).trans rfl, (blk_cell BK101.out 1).trans rfl, (blk_cell BK102.out 0).trans rfl⟩ (fun hHeld => ?_)
      clear hK K
      refine norm_ (a' := ?_) ?_ ?_; rotate_left; go_simp; rfl
      refine pure_ (i := 5) (N := some 6) (v := ?_) (a' := ?_) (bA 6 63) rfl rfl (by kernel_rfl) (fun _ _ _ h => h) (Or.inl ⟨by rfl, ?_⟩) ?_ ?_
      rotate_left; intro w'; go_simp; with_reducible rfl; rotate_left; go_simp; rfl
      refine done_ (by kernel_rfl) ?_
      obtain ⟨hcz46_0, hcz46_1, hfz46_0, hfz46_1⟩ := cells2 BK101.out
      try go_wp2_with (first | ((with_reducible refine gate_callee (f := 36) rfl ?_); refine goesL_ (some 26) rfl rfl Try.func36 (by kernel_rfl) rfl #[.agg #[.slice A0_0 l0_0.length c0_0, .slice A0_1 l0_1.length c0_1]] rfl (by first | rfl | (simp only [List.map_toArray, List.map_cons, List.map_nil]; first | done | rfl)) ?_; (with_reducible refine (laws_toZone.calls k _ _ l0_0 _ _ l0_1 t115 t118 _ ?side1 ?side2 ?side3 ?side4 A22.out).mono ?_); (case side1 => exact cw HR0_0.out HB.out); (case side2 => exact HC0_0.out); (case side3 => exact cw HR0_1.out HB.out); (case side4 => exact HC0_1.out); rintro e w47 ⟨v116, v119, rfl, ho0, ho1, hb⟩; refine ⟨_, rfl, ?_⟩; have HO117 := ak (Kd.S_lower (Kd.S_new' (Kd.S_new' ho0 (Kd.S_lt (sw HO107.out))) (Kd.S_lt (sw HO113.out))) (below_size (by repeat (first | exact bw HB.out | refine below_set ?_ GE101.out | refine below_set ?_ GE102.out)))); have HO120 := ak (Kd.R_lower (Kd.R_new' (Kd.R_new' (Kd.R_new' ho1 (Kd.S_lt (sw HO107.out))) (Kd.R_lt (rw_ HO110.out))) (Kd.S_lt (sw HO113.out))) (below_size (by repeat (first | exact bw HB.out | refine below_set ?_ GE101.out | refine below_set ?_ GE102.out)))); replace HO107 := ak (Kd.S_elder' (sw HO107.out) (Kd.S_base ho0) hb); replace HO110 := ak (Kd.R_mono (Kd.R_told (Kd.R_told (Kd.R_old (rw_ HO110.out) hb) (Kd.S_base ho0)) (Kd.R_base ho1)) (fun _ h_ => h_.1)); replace HO113 := ak (Kd.S_elder' (sw HO113.out) (Kd.S_base ho0) hb); replace BK101 := ak (blk_below (bk BK101.out) hb); replace BK102 := ak (blk_below (bk BK102.out) hb); replace HB := ak (below_step (by repeat (first | exact bw HB.out | refine below_set ?_ GE101.out | refine below_set ?_ GE102.out)) hb); (try clear hb); (try clear ho0); (try clear ho1)) | ((with_reducible refine gate_dst (N := 7) rfl ?_); refine box_event ?hg (N := 7) ?hd (cs := #[.slice none 0 0, .slice none 0 0]) (t := 59) ?hr ?_; (case hd => rfl); (case hg => rfl); (case hr => first | (go_simp; done) | (go_simp; rfl)); intro gb121 hg w48 hbox hb; replace HO107 := ak (Kd.S_below (sw HO107.out) hb); replace HO110 := ak (Kd.R_below (rw_ HO110.out) hb); replace HO113 := ak (Kd.S_below (sw HO113.out) hb); replace HO117 := ak (Kd.S_below (sw HO117.out) hb); replace HO120 := ak (Kd.R_below (rw_ HO120.out) hb); have BK121 := ak (hbox); have GW121 := ak ((by rw [hg]; exact (below_size (by repeat (first | exact bw HB.out | refine below_set ?_ GE101.out | refine below_set ?_ GE102.out))) : w.heap.size ≤ gb121)); have GE121 := ak ((by rw [hg]; exact (below_size (by repeat (first | exact bw HB.out | refine below_set ?_ GE101.out | refine below_set ?_ GE102.out))) : w.heap.size ≤ gb121)); replace HB := ak (below_step (by repeat (first | exact bw HB.out | refine below_set ?_ GE101.out | refine below_set ?_ GE102.out)) hb); have NB101_121 := ak ((by rw [hg]; exact Nat.ne_of_lt (blk_lt (bk BK101.out)) : gb101 ≠ gb121)); have NB121_101 := ak ((by rw [hg]; exact Nat.ne_of_gt (blk_lt (bk BK101.out)) : gb121 ≠ gb101)); replace BK101 := ak (blk_below (bk BK101.out) hb); have NB102_121 := ak ((by rw [hg]; exact Nat.ne_of_lt (blk_lt (bk BK102.out)) : gb102 ≠ gb121)); have NB121_102 := ak ((by rw [hg]; exact Nat.ne_of_gt (blk_lt (bk BK102.out)) : gb121 ≠ gb102)); replace BK102 := ak (blk_below (bk BK102.out) hb); clear hb hbox hg; obtain ⟨Ao49, co49, eo49⟩ := Kd.S_slice HO117.out; subst eo49; have hnb50 := NB121_101.out; have hnc50 := NB101_121.out; have hnb51 := NB121_102.out; have hnc51 := NB102_121.out; obtain ⟨hcz52_0, hcz52_1, hfz52_0, hfz52_1⟩ := cells2 BK121.out; obtain ⟨Ao53, co53, eo53⟩ := Kd.R_slice HO120.out; subst eo53; obtain ⟨hcz54_0, hfz54_0⟩ := cells1 BK102.out) | ((with_reducible refine gate_callee (f := 41) rfl ?_); refine goesL_ (some 28) rfl rfl Try.func41 (by kernel_rfl) rfl #[.agg #[.slice A1_0 l1_0.length c1_0]] rfl (by first | rfl | (simp only [List.map_toArray, List.map_cons, List.map_nil]; first | done | rfl)) ?_; (with_reducible refine (laws_toName.calls k _ _ l1_0 t122 _ ?side1 ?side2 A23.out).mono ?_); (case side1 => exact Kd.C_below HR1_0.out (by repeat (first | exact bw HB.out | refine below_set ?_ GE101.out | refine below_set ?_ GE102.out | refine below_set ?_ GE121.out))); (case side2 => exact HC1_0.out); rintro e w55 ⟨v123, rfl, ho0, hb⟩; refine ⟨_, rfl, ?_⟩; replace HO110 := ak (Kd.R_elder' (far2R HO110.out BK121.out (by decide)) (Kd.S_base ho0) hb); replace HO120 := ak (Kd.R_elder' (far2R HO120.out BK121.out (by decide)) (Kd.S_base ho0) hb); have HO124 := ak (Kd.S_lower (Kd.S_new' (Kd.S_new' (Kd.S_new' ho0 (Kd.S_lt (far2S HO107.out BK121.out (by decide)))) (Kd.S_lt (far2S HO113.out BK121.out (by decide)))) (Kd.S_lt (far2S HO117.out BK121.out (by decide)))) (below_size (by repeat (first | exact bw HB.out | refine below_set ?_ GE101.out | refine below_set ?_ GE102.out | refine below_set ?_ GE121.out)))); replace HO107 := ak (Kd.S_elder' (far2S HO107.out BK121.out (by decide)) (Kd.S_base ho0) hb); replace HO113 := ak (Kd.S_elder' (far2S HO113.out BK121.out (by decide)) (Kd.S_base ho0) hb); replace HO117 := ak (Kd.S_elder' (far2S HO117.out BK121.out (by decide)) (Kd.S_base ho0) hb); replace BK101 := ak (blk_below (bfar2 NB101_121.out BK101.out) hb); replace BK102 := ak (blk_below (bfar2 NB102_121.out BK102.out) hb); replace BK121 := ak (blk_below (bput2 BK121.out) hb); replace HB := ak (below_step (by repeat (first | exact bw HB.out | refine below_set ?_ GE101.out | refine below_set ?_ GE102.out | refine below_set ?_ GE121.out)) hb); (try clear hb); (try clear ho0)) | ((with_reducible refine gate_dst (N := 8) rfl ?_); refine box_event ?hg (N := 8) ?hd (cs := #[.slice none 0 0]) (t := 31) ?hr ?_; (case hd => rfl); (case hg => rfl); (case hr => first | (go_simp; done) | (go_simp; rfl)); intro gb125 hg w56 hbox hb; replace HO107 := ak (Kd.S_below (sw HO107.out) hb); replace HO110 := ak (Kd.R_below (rw_ HO110.out) hb); replace HO113 := ak (Kd.S_below (sw HO113.out) hb); replace HO117 := ak (Kd.S_below (sw HO117.out) hb); replace HO120 := ak (Kd.R_below (rw_ HO120.out) hb); replace HO124 := ak (Kd.S_below (sw HO124.out) hb); have BK125 := ak (hbox); have GW125 := ak ((by rw [hg]; exact (below_size (by repeat (first | exact bw HB.out | refine below_set ?_ GE101.out | refine below_set ?_ GE102.out | refine below_set ?_ GE121.out))) : w.heap.size ≤ gb125)); have GE125 := ak ((by rw [hg]; exact (below_size (by repeat (first | exact bw HB.out | refine below_set ?_ GE101.out | refine below_set ?_ GE102.out | refine below_set ?_ GE121.out))) : w.heap.size ≤ gb125)); replace HB := ak (below_step (by repeat (first | exact bw HB.out | refine below_set ?_ GE101.out | refine below_set ?_ GE102.out | refine below_set ?_ GE121.out)) hb); have NB101_125 := ak ((by rw [hg]; exact Nat.ne_of_lt (blk_lt (bk BK101.out)) : gb101 ≠ gb125)); have NB125_101 := ak ((by rw [hg]; exact Nat.ne_of_gt (blk_lt (bk BK101.out)) : gb125 ≠ gb101)); replace BK101 := ak (blk_below (bk BK101.out) hb); have NB102_125 := ak ((by rw [hg]; exact Nat.ne_of_lt (blk_lt (bk BK102.out)) : gb102 ≠ gb125)); have NB125_102 := ak ((by rw [hg]; exact Nat.ne_of_gt (blk_lt (bk BK102.out)) : gb125 ≠ gb102)); replace BK102 := ak (blk_below (bk BK102.out) hb); have NB121_125 := ak ((by rw [hg]; exact Nat.ne_of_lt (blk_lt (bk BK121.out)) : gb121 ≠ gb125)); have NB125_121 := ak ((by rw [hg]; exact Nat.ne_of_gt (blk_lt (bk BK121.out)) : gb125 ≠ gb121)); replace BK121 := ak (blk_below (bk BK121.out) hb); clear hb hbox hg; obtain ⟨Ao57, co57, eo57⟩ := Kd.S_slice HO124.out; subst eo57; have hnb58 := NB125_101.out; have hnc58 := NB101_125.out; have hnb59 := NB125_102.out; have hnc59 := NB102_125.out; have hnb60 := NB125_121.out; have hnc60 := NB121_125.out; obtain ⟨hcz61_0, hfz61_0⟩ := cells1 BK125.out; obtain ⟨hcz62_0, hcz62_1, hfz62_0, hfz62_1⟩ := cells2 BK121.out) | ((with_reducible refine gate_callee (f := 42) rfl ?_); refine goesL_ (some 31) rfl rfl Try.func42 (by kernel_rfl) rfl #[.agg #[.slice Ao49 t115.length co49, .slice Ao53 t118.length co53], .agg #[.slice Ao57 t122.length co57]] rfl (by first | rfl | (simp only [List.map_toArray, List.map_cons, List.map_nil]; first | done | rfl)) ?_; (with_reducible refine (impl_HasName.calls k _ _ t115 _ _ t118 _ _ t122 t126 _ ?side1 ?side2 ?side3 ?side4 ?side5 ?side6 A24.out).mono ?_); (case side1 => exact (Kd.S_reads' (far1S HO117.out BK125.out (by decide))).2.2); (case side2 => exact (Kd.S_reads' HO117.out).2.1); (case side3 => exact (Kd.R_reads' (far1R HO120.out BK125.out (by decide))).2.2); (case side4 => exact (Kd.R_reads' HO120.out).2.1); (case side5 => exact (Kd.S_reads' (far1S HO124.out BK125.out (by decide))).2.2); (case side6 => exact (Kd.S_reads' HO124.out).2.1); rintro e w63 ⟨rfl, hb⟩; refine ⟨_, rfl, ?_⟩; replace HO107 := ak (Kd.S_below (far1S HO107.out BK125.out (by decide)) hb); replace HO110 := ak (Kd.R_below (far1R HO110.out BK125.out (by decide)) hb); replace HO113 := ak (Kd.S_below (far1S HO113.out BK125.out (by decide)) hb); replace HO117 := ak (Kd.S_below (far1S HO117.out BK125.out (by decide)) hb); replace HO120 := ak (Kd.R_below (far1R HO120.out BK125.out (by decide)) hb); replace HO124 := ak (Kd.S_below (far1S HO124.out BK125.out (by decide)) hb); replace BK101 := ak (blk_below (bfar1 NB101_125.out BK101.out) hb); replace BK102 := ak (blk_below (bfar1 NB102_125.out BK102.out) hb); replace BK121 := ak (blk_below (bfar1 NB121_125.out BK121.out) hb); replace BK125 := ak (blk_below (bput1 BK125.out) hb); replace HB := ak (below_step (by repeat (first | exact bw HB.out | refine below_set ?_ GE101.out | refine below_set ?_ GE102.out | refine below_set ?_ GE121.out | refine below_set ?_ GE125.out)) hb); (try clear hb)))
      have n0_ := ak (Kd.S_drew HO107.out)
      have n1_ := ak (Kd.R_drew HO110.out)
      have n2_ := ak (Kd.S_drew HO113.out)
      have n3_ := ak (Kd.S_drew HO117.out)
      have n4_ := ak (Kd.R_drew HO120.out)
      have n5_ := ak (Kd.S_drew HO124.out)
      have n6_ := ak (blk_drew BK101.out)
      have n7_ := ak (blk_drew BK102.out)
      have n8_ := ak (blk_drew BK121.out)
      have n9_ := ak (blk_drew BK125.out)
      have n10_ := ak (below_drew1 HB.out)
      clear HO107
      clear HO110
      clear HO113
      clear HO117
      clear HO120
      clear HO124
      clear BK101
      clear BK102
      clear BK121
      clear BK125
      clear HB
      have HO107 := n0_
      have HO110 := n1_
      have HO113 := n2_
      have HO117 := n3_
      have HO120 := n4_
      have HO124 := n5_
      have BK101 := n6_
      have BK102 := n7_
      have BK121 := n8_
      have BK125 := n9_
      have HB := n10_
      clear n0_ n1_ n2_ n3_ n4_ n5_ n6_ n7_ n8_ n9_ n10_
      refine start_ (n := 5) (S := fun w' => w'.cell? ⟨gb121, 0, none⟩ = some (.slice Ao49 t115.length co49) ∧ w'.cell? ⟨gb121, 1, none⟩ = some (.slice Ao53 t118.length co53) ∧ w'.cell? ⟨gb101, 0, none⟩ = some (.slice A0_0 l0_0.length c0_0) ∧ w'.cell? ⟨gb101, 1, none⟩ = some (.slice A0_1 l0_1.length c0_1)) (ds := []) #[false, false, false, false, false] (by kernel_rfl) rfl rfl ⟨(blk_cell BK121.out 0).trans rfl, (blk_cell BK121.out 1).trans rfl, (blk_cell BK101.out 0).trans rfl, (blk_cell BK101.out 1).trans rfl⟩ (fun hHeld => ?_)
      generalize w63.drew = w64 at HO107 HO110 HO113 HO117 HO120 HO124 BK101 BK102 BK121 BK125 HB hHeld ⊢
      refine take_ (i := 0) (N := some 35) (v := ?_) (a' := ?_) #[true, false, false, false, false] rfl rfl (by kernel_rfl) (fun _ _ _ h => h) (Or.inl ⟨by rfl, ?_⟩) hHeld ?_ ?_
      rotate_left; rintro w' ⟨s0, s1, s2, s3⟩; go_simp; with_reducible rfl; rotate_left; go_simp; rfl
      refine take_ (i := 1) (N := some 36) (v := ?_) (a' := ?_) #[true, true, false, false, false] rfl rfl (by kernel_rfl) (fun _ _ _ h => h) (Or.inl ⟨by rfl, ?_⟩) hHeld ?_ ?_
      rotate_left; rintro w' ⟨s0, s1, s2, s3⟩; go_simp; with_reducible rfl; rotate_left; go_simp; rfl
      refine one_ (i := 2) (N := some 37) #[true, true, true, false, false] rfl rfl (by kernel_rfl) (by decide) (fun K hK => ?_)
      refine goes_ Try.func36 (by kernel_rfl) rfl #[.agg #[.slice A0_0 l0_0.length c0_0, .slice A0_1 l0_1.length c0_1]] (by rfl) rfl rfl (by first | rfl | (simp only [List.map_toArray, List.map_cons, List.map_nil]; first | done | rfl)) ?_
      with_reducible refine (laws_toZone.calls k _ _ l0_0 _ _ l0_1 t127 t130 _ ?side1 ?side2 ?side3 ?side4 A26.out).mono ?_
      (case side1 => exact cw HR0_0.out HB.out)
      (case side2 => exact HC0_0.out)
      (case side3 => exact cw HR0_1.out HB.out)
      (case side4 => exact HC0_1.out)
      rintro e w65 ⟨v128, v131, rfl, ho0, ho1, hb⟩
      refine ⟨_, rfl, ?_⟩
      have n0_ := ak (Kd.S_elder' (sw HO107.out) (Kd.S_base ho0) hb)
      have n1_ := ak (Kd.R_mono (Kd.R_told (Kd.R_told (Kd.R_old (rw_ HO110.out) hb) (Kd.S_base ho0)) (Kd.R_base ho1)) (fun _ h_ => h_.1))
      have n2_ := ak (Kd.S_elder' (sw HO113.out) (Kd.S_base ho0) hb)
      have n3_ := ak (Kd.S_elder' (sw HO117.out) (Kd.S_base ho0) hb)
      have n4_ := ak (Kd.R_mono (Kd.R_told (Kd.R_told (Kd.R_old (rw_ HO120.out) hb) (Kd.S_base ho0)) (Kd.R_base ho1)) (fun _ h_ => h_.1))
      have n5_ := ak (Kd.S_elder' (sw HO124.out) (Kd.S_base ho0) hb)
      have n6_ := ak (Kd.S_lower (Kd.S_new' (Kd.S_new' (Kd.S_new' (Kd.S_new' ho0 (Kd.S_lt (sw HO107.out))) (Kd.S_lt (sw HO113.out))) (Kd.S_lt (sw HO117.out))) (Kd.S_lt (sw HO124.out))) (below_size (by repeat (first | exact bw HB.out | refine below_set ?_ GE101.out | refine below_set ?_ GE102.out | refine below_set ?_ GE121.out | refine below_set ?_ GE125.out))))
      have n7_ := ak (Kd.R_lower (Kd.R_new' (Kd.R_new' (Kd.R_new' (Kd.R_new' (Kd.R_new' (Kd.R_new' ho1 (Kd.S_lt (sw HO107.out))) (Kd.R_lt (rw_ HO110.out))) (Kd.S_lt (sw HO113.out))) (Kd.S_lt (sw HO117.out))) (Kd.R_lt (rw_ HO120.out))) (Kd.S_lt (sw HO124.out))) (below_size (by repeat (first | exact bw HB.out | refine below_set ?_ GE101.out | refine below_set ?_ GE102.out | refine below_set ?_ GE121.out | refine below_set ?_ GE125.out))))
      have n8_ := ak (blk_below (bk BK101.out) hb)
      have n9_ := ak (blk_below (bk BK102.out) hb)
      have n10_ := ak (blk_below (bk BK121.out) hb)
      have n11_ := ak (blk_below (bk BK125.out) hb)
      have n12_ := ak (below_step (by repeat (first | exact bw HB.out | refine below_set ?_ GE101.out | refine below_set ?_ GE102.out | refine below_set ?_ GE121.out | refine below_set ?_ GE125.out)) hb)
      clear HO107
      clear HO110
      clear HO113
      clear HO117
      clear HO120
      clear HO124
      clear BK101
      clear BK102
      clear BK121
      clear BK125
      clear HB
      have HO107 := n0_
      have HO110 := n1_
      have HO113 := n2_
      have HO117 := n3_
      have HO120 := n4_
      have HO124 := n5_
      have HO129 := n6_
      have HO132 := n7_
      have BK101 := n8_
      have BK102 := n9_
      have BK121 := n10_
      have BK125 := n11_
      have HB := n12_
      clear n0_ n1_ n2_ n3_ n4_ n5_ n6_ n7_ n8_ n9_ n10_ n11_ n12_
      (try clear hb)
      (try clear hb2)
      (try clear hk)
      (try clear hi)
      (try clear ho0)
      (try clear ho1)
      obtain ⟨Ao66, co66, eo66⟩ := Kd.S_slice HO129.out
      (first | subst eo66 | (injection eo66 with f1_ f2_ f3_; have f4_ := f1_.symm; have f5_ := f3_.symm; clear f1_ f2_ f3_; subst f4_; subst f5_))
      obtain ⟨Ao67, co67, eo67⟩ := Kd.R_slice HO132.out
      (first | subst eo67 | (injection eo67 with f1_ f2_ f3_; have f4_ := f1_.symm; have f5_ := f3_.symm; clear f1_ f2_ f3_; subst f4_; subst f5_))
      refine hK.out _ _ ⟨(blk_cell BK121.out 0).trans rfl, (blk_cell BK121.out 1).trans rfl, (blk_cell BK101.out 0).trans rfl, (blk_cell BK101.out 1).trans rfl⟩ (fun hHeld => ?_)
      clear hK K
      refine norm_ (a' := ?_) ?_ ?_; rotate_left; go_simp; rfl
      refine one_ (i := 3) (N := some 38) #[true, true, true, true, false] rfl rfl (by kernel_rfl) (by decide) (fun K hK => ?_)
      refine goes_ Try.func38 (by kernel_rfl) rfl #[.agg #[.slice Ao49 t115.length co49, .slice Ao53 t118.length co53], .agg #[.slice Ao66 t127.length co66, .slice Ao67 t130.length co67]] (by rfl) rfl rfl (by first | rfl | (simp only [List.map_toArray, List.map_cons, List.map_nil]; first | done | rfl)) ?_
      with_reducible refine (laws_eqZone.calls k _ _ t115 _ _ t118 _ _ t127 _ _ t130 true _ ?side1 ?side2 ?side3 ?side4 ?side5 ?side6 ?side7 ?side8 A27.out).mono ?_
      (case side1 => repeat (first | exact (Kd.S_reads' HO117.out).2.2 | (with_reducible refine Kd.C_alloc ?_ _) | (with_reducible refine Kd.C_drewN ?_ _) | (with_reducible refine Kd.C_drew ?_)))
      (case side2 => exact (Kd.S_reads' HO117.out).2.1)
      (case side3 => repeat (first | exact (Kd.R_reads' HO120.out).2.2 | (with_reducible refine Kd.C_alloc ?_ _) | (with_reducible refine Kd.C_drewN ?_ _) | (with_reducible refine Kd.C_drew ?_)))
      (case side4 => exact (Kd.R_reads' HO120.out).2.1)
      (case side5 => repeat (first | exact (Kd.S_reads' HO129.out).2.2 | (with_reducible refine Kd.C_alloc ?_ _) | (with_reducible refine Kd.C_drewN ?_ _) | (with_reducible refine Kd.C_drew ?_)))
      (case side6 => exact (Kd.S_reads' HO129.out).2.1)
      (case side7 => repeat (first | exact (Kd.R_reads' HO132.out).2.2 | (with_reducible refine Kd.C_alloc ?_ _) | (with_reducible refine Kd.C_drewN ?_ _) | (with_reducible refine Kd.C_drew ?_)))
      (case side8 => exact (Kd.R_reads' HO132.out).2.1)
      rintro e w68 ⟨rfl, hb⟩
      refine ⟨_, rfl, ?_⟩
      have n0_ := ak (Kd.S_below (sw HO107.out) hb)
      have n1_ := ak (Kd.R_below (rw_ HO110.out) hb)
      have n2_ := ak (Kd.S_below (sw HO113.out) hb)
      have n3_ := ak (Kd.S_below (sw HO117.out) hb)
      have n4_ := ak (Kd.R_below (rw_ HO120.out) hb)
      have n5_ := ak (Kd.S_below (sw HO124.out) hb)
      have n6_ := ak (Kd.S_below (sw HO129.out) hb)
      have n7_ := ak (Kd.R_below (rw_ HO132.out) hb)
      have n8_ := ak (blk_below (bk BK101.out) hb)
      have n9_ := ak (blk_below (bk BK102.out) hb)
      have n10_ := ak (blk_below (bk BK121.out) hb)
      have n11_ := ak (blk_below (bk BK125.out) hb)
      have n12_ := ak (below_step (by repeat (first | exact bw HB.out | refine below_set ?_ GE101.out | refine below_set ?_ GE102.out | refine below_set ?_ GE121.out | refine below_set ?_ GE125.out)) hb)
      clear HO107
      clear HO110
      clear HO113
      clear HO117
      clear HO120
      clear HO124
      clear HO129
      clear HO132
      clear BK101
      clear BK102
      clear BK121
      clear BK125
      clear HB
      have HO107 := n0_
      have HO110 := n1_
      have HO113 := n2_
      have HO117 := n3_
      have HO120 := n4_
      have HO124 := n5_
      have HO129 := n6_
      have HO132 := n7_
      have BK101 := n8_
      have BK102 := n9_
      have BK121 := n10_
      have BK125 := n11_
      have HB := n12_
      clear n0_ n1_ n2_ n3_ n4_ n5_ n6_ n7_ n8_ n9_ n10_ n11_ n12_
      (try clear hb)
      (try clear hb2)
      (try clear hk)
      (try clear hi)
      refine hK.out _ _ ⟨(blk_cell BK121.out 0).trans rfl, (blk_cell BK121.out 1).trans rfl, (blk_cell BK101.out 0).trans rfl, (blk_cell BK101.out 1).trans rfl⟩ (fun hHeld => ?_)
      clear hK K
      refine norm_ (a' := ?_) ?_ ?_; rotate_left; go_simp; rfl
      refine pure_ (i := 4) (N := some 39) (v := ?_) (a' := ?_) #[true, true, true, true, true] rfl rfl (by kernel_rfl) (fun _ _ _ h => h) (Or.inl ⟨by rfl, ?_⟩) ?_ ?_
      rotate_left; intro w'; go_simp; with_reducible rfl; rotate_left; go_simp; rfl
      refine done_ (by kernel_rfl) ?_
      try go_wp2
      have n0_ := ak (Kd.S_drew HO107.out)
      have n1_ := ak (Kd.R_drew HO110.out)
      have n2_ := ak (Kd.S_drew HO113.out)
      have n3_ := ak (Kd.S_drew HO117.out)
      have n4_ := ak (Kd.R_drew HO120.out)
      have n5_ := ak (Kd.S_drew HO124.out)
      have n6_ := ak (Kd.S_drew HO129.out)
      have n7_ := ak (Kd.R_drew HO132.out)
      have n8_ := ak (blk_drew BK101.out)
      have n9_ := ak (blk_drew BK102.out)
      have n10_ := ak (blk_drew BK121.out)
      have n11_ := ak (blk_drew BK125.out)
      have n12_ := ak (below_drew1 HB.out)
      clear HO107
      clear HO110
      clear HO113
      clear HO117
      clear HO120
      clear HO124
      clear HO129
      clear HO132
      clear BK101
      clear BK102
      clear BK121
      clear BK125
      clear HB
      have HO107 := n0_
      have HO110 := n1_
      have HO113 := n2_
      have HO117 := n3_
      have HO120 := n4_
      have HO124 := n5_
      have HO129 := n6_
      have HO132 := n7_
      have BK101 := n8_
      have BK102 := n9_
      have BK121 := n10_
      have BK125 := n11_
      have HB := n12_
      clear n0_ n1_ n2_ n3_ n4_ n5_ n6_ n7_ n8_ n9_ n10_ n11_ n12_
      refine start_ (n := 5) (S := fun w' => w'.cell? ⟨gb125, 0, none⟩ = some (.slice Ao57 t122.length co57) ∧ w'.cell? ⟨gb102, 0, none⟩ = some (.slice A1_0 l1_0.length c1_0)) (ds := []) #[false, false, false, false, false] (by kernel_rfl) rfl rfl ⟨(blk_cell BK125.out 0).trans rfl, (blk_cell BK102.out 0).trans rfl⟩ (fun hHeld => ?_)
      generalize w68.drew = w69 at HO107 HO110 HO113 HO117 HO120 HO124 HO129 HO132 BK101 BK102 BK121 BK125 HB hHeld ⊢
      refine take_ (i := 0) (N := some 40) (v := ?_) (a' := ?_) #[true, false, false, false, false] rfl rfl (by kernel_rfl) (fun _ _ _ h => h) (Or.inl ⟨by rfl, ?_⟩) hHeld ?_ ?_
      rotate_left; rintro w' ⟨s0, s1⟩; go_simp; with_reducible rfl; rotate_left; go_simp; rfl
      refine take_ (i := 1) (N := some 41) (v := ?_) (a' := ?_) #[true, true, false, false, false] rfl rfl (by kernel_rfl) (fun _ _ _ h => h) (Or.inl ⟨by rfl, ?_⟩) hHeld ?_ ?_
      rotate_left; rintro w' ⟨s0, s1⟩; go_simp; with_reducible rfl; rotate_left; go_simp; rfl
      refine one_ (i := 2) (N := some 42) #[true, true, true, false, false] rfl rfl (by kernel_rfl) (by decide) (fun K hK => ?_)
      refine goes_ Try.func41 (by kernel_rfl) rfl #[.agg #[.slice A1_0 l1_0.length c1_0]] (by rfl) rfl rfl (by first | rfl | (simp only [List.map_toArray, List.map_cons, List.map_nil]; first | done | rfl)) ?_
      with_reducible refine (laws_toName.calls k _ _ l1_0 t134 _ ?side1 ?side2 A29.out).mono ?_
      (case side1 => exact cw HR1_0.out HB.out)
      (case side2 => exact HC1_0.out)
      rintro e w70 ⟨v135, rfl, ho0, hb⟩
      refine ⟨_, rfl, ?_⟩
      have n0_ := ak (Kd.S_elder' (sw HO107.out) (Kd.S_base ho0) hb)
      have n1_ := ak (Kd.R_elder' (rw_ HO110.out) (Kd.S_base ho0) hb)
      have n2_ := ak (Kd.S_elder' (sw HO113.out) (Kd.S_base ho0) hb)
      have n3_ := ak (Kd.S_elder' (sw HO117.out) (Kd.S_base ho0) hb)
      have n4_ := ak (Kd.R_elder' (rw_ HO120.out) (Kd.S_base ho0) hb)
      have n5_ := ak (Kd.S_elder' (sw HO124.out) (Kd.S_base ho0) hb)
      have n6_ := ak (Kd.S_elder' (sw HO129.out) (Kd.S_base ho0) hb)
      have n7_ := ak (Kd.R_elder' (rw_ HO132.out) (Kd.S_base ho0) hb)
      have n8_ := ak (Kd.S_lower (Kd.S_new' (Kd.S_new' (Kd.S_new' (Kd.S_new' (Kd.S_new' ho0 (Kd.S_lt (sw HO107.out))) (Kd.S_lt (sw HO113.out))) (Kd.S_lt (sw HO117.out))) (Kd.S_lt (sw HO124.out))) (Kd.S_lt (sw HO129.out))) (below_size (by repeat (first | exact bw HB.out | refine below_set ?_ GE101.out | refine below_set ?_ GE102.out | refine below_set ?_ GE121.out | refine below_set ?_ GE125.out))))
      have n9_ := ak (blk_below (bk BK101.out) hb)
      have n10_ := ak (blk_below (bk BK102.out) hb)
      have n11_ := ak (blk_below (bk BK121.out) hb)
      have n12_ := ak (blk_below (bk BK125.out) hb)
      have n13_ := ak (below_step (by repeat (first | exact bw HB.out | refine below_set ?_ GE101.out | refine below_set ?_ GE102.out | refine below_set ?_ GE121.out | refine below_set ?_ GE125.out)) hb)
      clear HO107
      clear HO110
      clear HO113
      clear HO117
      clear HO120
      clear HO124
      clear HO129
      clear HO132
      clear BK101
      clear BK102
      clear BK121
      clear BK125
      clear HB
      have HO107 := n0_
      have HO110 := n1_
      have HO113 := n2_
      have HO117 := n3_
      have HO120 := n4_
      have HO124 := n5_
      have HO129 := n6_
      have HO132 := n7_
      have HO136 := n8_
      have BK101 := n9_
      have BK102 := n10_
      have BK121 := n11_
      have BK125 := n12_
      have HB := n13_
      clear n0_ n1_ n2_ n3_ n4_ n5_ n6_ n7_ n8_ n9_ n10_ n11_ n12_ n13_
      (try clear hb)
      (try clear hb2)
      (try clear hk)
      (try clear hi)
      (try clear ho0)
      obtain ⟨Ao71, co71, eo71⟩ := Kd.S_slice HO136.out
      (first | subst eo71 | (injection eo71 with f1_ f2_ f3_; have f4_ := f1_.symm; have f5_ := f3_.symm; clear f1_ f2_ f3_; subst f4_; subst f5_))
      refine hK.out _ _ ⟨(blk_cell BK125.out 0).trans rfl, (blk_cell BK102.out 0).trans rfl⟩ (fun hHeld => ?_)
      clear hK K
      refine norm_ (a' := ?_) ?_ ?_; rotate_left; go_simp; rfl
      refine one_ (i := 3) (N := some 43) #[true, true, true, true, false] rfl rfl (by kernel_rfl) (by decide) (fun K hK => ?_)
      refine goes_ Try.func43 (by kernel_rfl) rfl #[.agg #[.slice Ao57 t122.length co57], .agg #[.slice Ao71 t134.length co71]] (by rfl) rfl rfl (by first | rfl | (simp only [List.map_toArray, List.map_cons, List.map_nil]; first | done | rfl)) ?_
      with_reducible refine (laws_eqName.calls k _ _ t122 _ _ t134 true _ ?side1 ?side2 ?side3 ?side4 A30.out).mono ?_
      (case side1 => repeat (first | exact (Kd.S_reads' HO124.out).2.2 | (with_reducible refine Kd.C_alloc ?_ _) | (with_reducible refine Kd.C_drewN ?_ _) | (with_reducible refine Kd.C_drew ?_)))
      (case side2 => exact (Kd.S_reads' HO124.out).2.1)
      (case side3 => repeat (first | exact (Kd.S_reads' HO136.out).2.2 | (with_reducible refine Kd.C_alloc ?_ _) | (with_reducible refine Kd.C_drewN ?_ _) | (with_reducible refine Kd.C_drew ?_)))
      (case side4 => exact (Kd.S_reads' HO136.out).2.1)
      rintro e w72 ⟨rfl, hb⟩
      refine ⟨_, rfl, ?_⟩
      have n0_ := ak (Kd.S_below (sw HO107.out) hb)
      have n1_ := ak (Kd.R_below (rw_ HO110.out) hb)
      have n2_ := ak (Kd.S_below (sw HO113.out) hb)
      have n3_ := ak (Kd.S_below (sw HO117.out) hb)
      have n4_ := ak (Kd.R_below (rw_ HO120.out) hb)
      have n5_ := ak (Kd.S_below (sw HO124.out) hb)
      have n6_ := ak (Kd.S_below (sw HO129.out) hb)
      have n7_ := ak (Kd.R_below (rw_ HO132.out) hb)
      have n8_ := ak (Kd.S_below (sw HO136.out) hb)
      have n9_ := ak (blk_below (bk BK101.out) hb)
      have n10_ := ak (blk_below (bk BK102.out) hb)
      have n11_ := ak (blk_below (bk BK121.out) hb)
      have n12_ := ak (blk_below (bk BK125.out) hb)
      have n13_ := ak (below_step (by repeat (first | exact bw HB.out | refine below_set ?_ GE101.out | refine below_set ?_ GE102.out | refine below_set ?_ GE121.out | refine below_set ?_ GE125.out)) hb)
      clear HO107
      clear HO110
      clear HO113
      clear HO117
      clear HO120
      clear HO124
      clear HO129
      clear HO132
      clear HO136
      clear BK101
      clear BK102
      clear BK121
      clear BK125
      clear HB
      have HO107 := n0_
      have HO110 := n1_
      have HO113 := n2_
      have HO117 := n3_
      have HO120 := n4_
      have HO124 := n5_
      have HO129 := n6_
      have HO132 := n7_
      have HO136 := n8_
      have BK101 := n9_
      have BK102 := n10_
      have BK121 := n11_
      have BK125 := n12_
      have HB := n13_
      clear n0_ n1_ n2_ n3_ n4_ n5_ n6_ n7_ n8_ n9_ n10_ n11_ n12_ n13_
      (try clear hb)
      (try clear hb2)
      (try clear hk)
      (try clear hi)
      refine hK.out _ _ ⟨(blk_cell BK125.out 0).trans rfl, (blk_cell BK102.out 0).trans rfl⟩ (fun hHeld => ?_)
      clear hK K
      refine norm_ (a' := ?_) ?_ ?_; rotate_left; go_simp; rfl
      refine pure_ (i := 4) (N := some 44) (v := ?_) (a' := ?_) #[true, true, true, true, true] rfl rfl (by kernel_rfl) (fun _ _ _ h => h) (Or.inl ⟨by rfl, ?_⟩) ?_ ?_
      rotate_left; intro w'; go_simp; with_reducible rfl; rotate_left; go_simp; rfl
      refine done_ (by kernel_rfl) ?_
      try go_wp2
      go_ret
      exact ⟨by first | rfl | (simp [errW_none, errW_some] <;> rfl) | (simp [*, errW_none, errW_some] <;> rfl), by repeat (first | exact bw HB.out | refine below_set ?_ GE101.out | refine below_set ?_ GE102.out | refine below_set ?_ GE121.out | refine below_set ?_ GE125.out)⟩
     ·replace c31 := Bool.eq_false_iff.mpr c31
      subst c31
      have H1 : (none) = some r := by rw [if_neg (show ¬ (false = true) by decide)] at H; exact H
      clear H
      have H := H1
      clear H1
      exact absurd H (by simp)
    ·replace c28 := Bool.eq_false_iff.mpr c28
     subst c28
     have H1 : (none) = some r := by rw [if_neg (show ¬ (false = true) by decide)] at H; exact H
     clear H
     have H := H1
     clear H1
     exact absurd H (by simp)


end Go.Proofs.Ytagedmajlppohaa.Q
