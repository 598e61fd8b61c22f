/- Printed by a program of this session (wip/myprint.py), which drives the kit's printer: functions and what their calls do. -/
import Derived.Test.YtagedmajlppohaaZFnExactHasName0
import Derived.Test.YtagedmajlppohaaZFnExactHasName1
import Derived.Lib.Bytealg
namespace Go.Proofs.Ytagedmajlppohaa.Q
open Go.RowKit Go Go.Proofs.YtagedmajlppohaaW.PrintWords Go.Proofs.YtagedmajlppohaaW.PrintLast Go.Proofs.YtagedmajlppohaaW.PrintMore
attribute [local go_sem] max2_int min2_int max_two min_two max_three min_three max_four min_four
set_option linter.unusedVariables false
set_option linter.unusedSimpArgs false

/-! ### spec_ZoneOk: function 35 -/
mutual
def spec_ZoneOk.j0 : Nat → Bool → List (List Int) → List (S33) → Option (Bool)
 | 0, _, _, _ => none
 | k + 1, x15, x102000, x102001 => if x15 = true then (some false) else (spec_ZoneOk.l0 k 0 0 x102000 x102001)
def spec_ZoneOk.l0 : Nat → Int → Int → List (List Int) → List (S33) → Option (Bool)
 | 0, _, _, _, _ => none
 | k + 1, x3, x4, x102000, x102001 => if x4 < (x102001.length : Int) then (if 0 ≤ x4 then ((spec_RrOk.f k ((rd_T33 x102001 x4).f0.f0) ((rd_T33 x102001 x4).f1) ((rd_T33 x102001 x4).f2) ((rd_T33 x102001 x4).f3) ((rd_T33 x102001 x4).f4.f0) ((rd_T33 x102001 x4).f5) ((rd_T33 x102001 x4).f6)).bind fun t105 => (if t105 = true then ((spec_l2under.f k ((rd_T33 x102001 x4).f0.f0) x102000).bind fun t106 => (if t106 = true then (if x4 > 0 then (if 0 ≤ (wrap64 (x4 - 1)) then (if (wrap64 (x4 - 1)) < (x102001.length : Int) then ((spec_l3cmp.f k ((rd_T33 x102001 (wrap64 (x4 - 1))).f0.f0) ((rd_T33 x102001 (wrap64 (x4 - 1))).f1) ((rd_T33 x102001 (wrap64 (x4 - 1))).f2) ((rd_T33 x102001 (wrap64 (x4 - 1))).f3) ((rd_T33 x102001 (wrap64 (x4 - 1))).f4.f0) ((rd_T33 x102001 (wrap64 (x4 - 1))).f5) ((rd_T33 x102001 (wrap64 (x4 - 1))).f6) ((rd_T33 x102001 x4).f0.f0) ((rd_T33 x102001 x4).f1) ((rd_T33 x102001 x4).f2) ((rd_T33 x102001 x4).f3) ((rd_T33 x102001 x4).f4.f0) ((rd_T33 x102001 x4).f5) ((rd_T33 x102001 x4).f6)).bind fun t108 => (if t108 ≥ 0 then (spec_ZoneOk.j2 k x3 x4 true x102000 x102001 ((rd_T33 x102001 x4).f0.f0) ((rd_T33 x102001 x4).f1) ((rd_T33 x102001 x4).f2) ((rd_T33 x102001 x4).f3) ((rd_T33 x102001 x4).f4.f0) ((rd_T33 x102001 x4).f5) ((rd_T33 x102001 x4).f6)) else ((spec_l5alone.f k x102001 x4).bind fun t109 => (spec_ZoneOk.j2 k x3 x4 (!t109) x102000 x102001 ((rd_T33 x102001 x4).f0.f0) ((rd_T33 x102001 x4).f1) ((rd_T33 x102001 x4).f2) ((rd_T33 x102001 x4).f3) ((rd_T33 x102001 x4).f4.f0) ((rd_T33 x102001 x4).f5) ((rd_T33 x102001 x4).f6))))) else (none)) else (none)) else ((spec_l5alone.f k x102001 x4).bind fun t110 => (spec_ZoneOk.j2 k x3 x4 (!t110) x102000 x102001 ((rd_T33 x102001 x4).f0.f0) ((rd_T33 x102001 x4).f1) ((rd_T33 x102001 x4).f2) ((rd_T33 x102001 x4).f3) ((rd_T33 x102001 x4).f4.f0) ((rd_T33 x102001 x4).f5) ((rd_T33 x102001 x4).f6)))) else (spec_ZoneOk.j2 k x3 x4 true x102000 x102001 ((rd_T33 x102001 x4).f0.f0) ((rd_T33 x102001 x4).f1) ((rd_T33 x102001 x4).f2) ((rd_T33 x102001 x4).f3) ((rd_T33 x102001 x4).f4.f0) ((rd_T33 x102001 x4).f5) ((rd_T33 x102001 x4).f6)))) else (spec_ZoneOk.j2 k x3 x4 true x102000 x102001 ((rd_T33 x102001 x4).f0.f0) ((rd_T33 x102001 x4).f1) ((rd_T33 x102001 x4).f2) ((rd_T33 x102001 x4).f3) ((rd_T33 x102001 x4).f4.f0) ((rd_T33 x102001 x4).f5) ((rd_T33 x102001 x4).f6)))) else (none)) else (some (x3 == 1))
def spec_ZoneOk.j2 : Nat → Int → Int → Bool → List (List Int) → List (S33) → List (List Int) → Int → Int → Int → List (List Int) → List Int → List Int → Option (Bool)
 | 0, _, _, _, _, _, _, _, _, _, _, _, _ => none
 | k + 1, x3, x4, x60, x102000, x102001, x105000, x105001, x105002, x105003, x105004, x105005, x105006 => if x60 = true then (some false) else (if x105001 = 6 then ((spec_l2cmp.f k x105000 x102000).bind fun t111 => (if t111 = 0 then (spec_ZoneOk.l0 k (wrap64 (x3 + 1)) (wrap64 (x4 + 1)) x102000 x102001) else (some false))) else (spec_ZoneOk.l0 k x3 (wrap64 (x4 + 1)) x102000 x102001))
end
def spec_ZoneOk.f (k : Nat) (l0_0 : List (List Int)) (l0_1 : List (S33)) : Option (Bool) := (spec_NameOk.f k l0_0).bind fun t102 => (if t102 = true then (spec_ZoneOk.j0 k (decide ((l0_1.length : Int) > 60)) l0_0 l0_1) else (spec_ZoneOk.j0 k true l0_0 l0_1))
def spec_ZoneOk.T8 : Bool × List (List Nat × List Nat) := (true, [([], []), ([0], [0]), ([1], [1]), ([2, 1], [2]), ([3], [3]), ([4, 3], [3, 4]), ([3], [3]), ([6, 3], [3, 6]), ([5, 7, 3, 3], [3, 5, 7]), ([8, 3], [3, 8]), ([3, 9], [3, 9]), ([10, 8], [10]), ([11], [11]), ([12, 11], [11, 12]), ([13, 11, 11], [11, 13]), ([14], [14]), ([15, 14], [14, 15]), ([14], [14]), ([17, 14], [14, 17]), ([16, 18, 14], [14, 16, 18]), ([19, 14], [14, 19]), ([14], [14]), ([20, 21, 14, 14], [14, 20, 21]), ([22, 14], [14, 22]), ([14, 23, 11], [11, 14, 23]), ([11, 24], [11, 24]), ([25, 22], [25]), ([26], [26]), ([27, 26], [26, 27]), ([26], [26]), ([28, 29, 26, 26], [26, 28, 29]), ([30, 26], [26, 30]), ([26, 31], [26, 31])])
def spec_ZoneOk.B8 : List Nat := [0, 1, 3, 7, 15, 31, 15, 79, 255, 511, 1023, 2047, 4095, 8191, 16383, 32767, 65535, 32767, 163839, 524287, 1048575, 32767, 4194303, 8388607, 16777215, 33554431, 67108863, 134217727, 268435455, 134217727, 1073741823, 2147483647, 4294967295]
theorem spec_ZoneOk.tab8 : rtab .any (opsOf Try.f35 8) = spec_ZoneOk.T8 := by kernel_rfl
theorem spec_ZoneOk.bits8 : waitsOk spec_ZoneOk.T8.2 spec_ZoneOk.B8 = true := by kernel_rfl
set_option maxHeartbeats 8000000 in
set_option maxRecDepth 100000 in
theorem spec_ZoneOk.calls (k : Nat) (A0_0 : Option Addr) (c0_0 : Nat) (l0_0 : List (List Int)) (A0_1 : Option Addr) (c0_1 : Nat) (l0_1 : List (S33)) (r : Bool) (w : World) (hr0_0 : Kd.C (Kd.slice 5 (Kd.int .u8)) w A0_0 l0_0.length l0_0) (hc0_0 : l0_0.length ≤ c0_0) (hr0_1 : Kd.C k33 w A0_1 l0_1.length l0_1) (hc0_1 : l0_1.length ≤ c0_1) (h : spec_ZoneOk.f k l0_0 l0_1 = some r) :
  Calls Try.prog 35 #[.agg #[.slice A0_0 l0_0.length c0_0, .slice A0_1 l0_1.length c0_1]] w fun e w' => e = .returned (.bool r) ∧ Below w.heap.size w w' := by
 have hu59 := Try.underlying59
 have hu31 := Try.underlying31
 have hu33 := Try.underlying33
 have HR0_0 := ak hr0_0
 have HC0_0 := ak hc0_0
 clear hr0_0 hc0_0
 have HR0_1 := ak hr0_1
 have HC0_1 := ak hc0_1
 clear hr0_1 hc0_1
 have HB := ak (Below.refl w.heap.size w)
 have H : ((spec_NameOk.f k l0_0).bind fun t102 => (if t102 = true then (spec_ZoneOk.j0 k (decide ((l0_1.length : Int) > 60)) l0_0 l0_1) else (spec_ZoneOk.j0 k true l0_0 l0_1))) = some r := h
 clear h
 have HC2 := ak H
 clear H
 go_enter Try.func35, Try.ntmps35
 go_upto_region 1 with (first | ((with_reducible refine gate_dst (N := 1) rfl ?_); (try (refine gate_guard (by rfl) ?_; dsimp only)); refine boxed (N := 1) rfl rfl (cs := #[.slice A0_0 l0_0.length c0_0, .slice A0_1 l0_1.length c0_1]) (t := 59) HB.out (by first | (go_simp; done) | (go_simp; rfl)) ?_; clear HB; intro gb101 w3 hg HB BK101 GE101 hb; have GW101 := GE101; clear hb hg))
 (try simp only [Act.put, List.setIfInBounds_toArray, List.set_cons_zero, List.set_cons_succ])
 go_cut [15] (fun v15 wc => ∃ (kq : Nat) (x15_1 : Bool), v15 = .bool x15_1 ∧ Aside0 (spec_ZoneOk.j0 kq x15_1 l0_0 l0_1 = some r) ∧ Aside0 (kq ≤ k) ∧ Aside0 (wc.heap[gb101]? = some (.cells #[(.slice A0_0 l0_0.length c0_0), (.slice A0_1 l0_1.length c0_1)] 59 (0, 0))) ∧ Aside0 (Below w.heap.size w wc))
 case first =>
  have H := HC2.out
  clear HC2
  replace H := Option.bind_eq_some_iff.mp H
  obtain ⟨t102, A40, H⟩ := H
  replace H : (if t102 = true then (spec_ZoneOk.j0 k (decide ((l0_1.length : Int) > 60)) l0_0 l0_1) else (spec_ZoneOk.j0 k true l0_0 l0_1)) = some r := H
  have A4 := ak A40
  clear A40
  by_cases c5 : t102 = true
  ·subst c5
   have H1 : (spec_ZoneOk.j0 k (decide ((l0_1.length : Int) > 60)) l0_0 l0_1) = some r := by rw [if_pos rfl] at H; exact H
   clear H
   have H := H1
   clear H1
   have H' := ak H
   clear H
   obtain ⟨hcz6_0, hcz6_1, hfz6_0, hfz6_1⟩ := cells2 BK101.out
   go_wp2_with (first | ((with_reducible refine gate_callee (f := 76) rfl ?_); refine goesL_ (some 8) rfl rfl Try.func76 (by kernel_rfl) rfl #[.agg #[.slice A0_0 l0_0.length c0_0]] rfl (by first | rfl | (simp only [List.map_toArray, List.map_cons, List.map_nil]; first | done | rfl)) ?_; (with_reducible refine (spec_NameOk.calls k _ _ l0_0 true _ ?side1 ?side2 A4.out).mono ?_); (case side1 => exact cw HR0_0.out HB.out); (case side2 => exact HC0_0.out); rintro e w7 ⟨rfl, hb⟩; refine ⟨_, rfl, ?_⟩; replace BK101 := ak (blk_below (bk BK101.out) hb); replace HB := ak (below_step (by repeat (first | exact bw HB.out | refine below_set ?_ GE101.out)) hb); (try clear hb); obtain ⟨hcz8_0, hcz8_1, hfz8_0, hfz8_1⟩ := cells2 BK101.out))
   go_meet
   case rel => exact ⟨_, (decide ((l0_1.length : Int) > 60)), (by first | rfl | (simp; done) | (simp [*]; done)), H', ⟨by first | omega | exact Nat.le_refl _⟩, ⟨bk BK101.out⟩, ⟨by repeat (first | exact bw HB.out | refine below_set ?_ GE101.out)⟩⟩
  ·replace c5 := Bool.eq_false_iff.mpr c5
   subst c5
   have H1 : (spec_ZoneOk.j0 k true l0_0 l0_1) = some r := by rw [if_neg (show ¬ (false = true) by decide)] at H; exact H
   clear H
   have H := H1
   clear H1
   have H' := ak H
   clear H
   obtain ⟨hcz9_0, hcz9_1, hfz9_0, hfz9_1⟩ := cells2 BK101.out
   go_wp2_with (first | ((with_reducible refine gate_callee (f := 76) rfl ?_); refine goesL_ (some 8) rfl rfl Try.func76 (by kernel_rfl) rfl #[.agg #[.slice A0_0 l0_0.length c0_0]] rfl (by first | rfl | (simp only [List.map_toArray, List.map_cons, List.map_nil]; first | done | rfl)) ?_; (with_reducible refine (spec_NameOk.calls k _ _ l0_0 false _ ?side1 ?side2 A4.out).mono ?_); (case side1 => exact cw HR0_0.out HB.out); (case side2 => exact HC0_0.out); rintro e w10 ⟨rfl, hb⟩; refine ⟨_, rfl, ?_⟩; replace BK101 := ak (blk_below (bk BK101.out) hb); replace HB := ak (below_step (by repeat (first | exact bw HB.out | refine below_set ?_ GE101.out)) hb); (try clear hb)))
   go_meet
   case rel => exact ⟨_, (true), (by first | rfl | (simp; done) | (simp [*]; done)), H', ⟨by first | omega | exact Nat.le_refl _⟩, ⟨bk BK101.out⟩, ⟨by repeat (first | exact bw HB.out | refine below_set ?_ GE101.out)⟩⟩
 case rest =>
  clear HC2
  try clear p2
  try clear c3
  try clear c5
  try clear c7
  try clear hcz6_0
  try clear hcz6_1
  try clear hcz8_0
  try clear hcz8_1
  try clear hcz9_0
  try clear hcz9_1
  try clear hfz6_0
  try clear hfz6_1
  try clear hfz8_0
  try clear hfz8_1
  try clear hfz9_0
  try clear hfz9_1
  obtain ⟨kq, x15_1, rfl, HA, HJ1, BK101, HB⟩ := hcut
  cases kq with
  | zero => exact absurd HA.out (by simp [spec_ZoneOk.j0])
  | succ kj1 =>
   have H := HA.out
   clear HA
   simp only [spec_ZoneOk.j0] at H
   by_cases c11 : x15_1 = true
   ·subst c11
    have H1 : (some false) = some r := by rw [if_pos rfl] at H; exact H
    clear H
    have H := H1
    clear H1
    obtain rfl := Option.some.inj H
    go_wp2
    go_ret
    exact ⟨by first | rfl | (simp [errW_none, errW_some] <;> rfl) | (simp [*, errW_none, errW_some] <;> rfl), by repeat (first | exact bw HB.out | refine below_set ?_ GE101.out)⟩
   ·replace c11 := Bool.eq_false_iff.mpr c11
    subst c11
    have H1 : (spec_ZoneOk.l0 kj1 0 0 l0_0 l0_1) = some r := by rw [if_neg (show ¬ (false = true) by decide)] at H; exact H
    clear H
    have H := H1
    clear H1
    have H' := ak H
    clear H
    go_wp2
    go_loopg [3, 4] kj1 (fun kq v3 v4 w' => ∃ (x3_2 : Int) (x4_2 : Int), v3 = .int .i64 x3_2 ∧ v4 = .int .i64 x4_2 ∧ Aside0 (spec_ZoneOk.l0 kq x3_2 x4_2 l0_0 l0_1 = some r) ∧ Aside0 (kq ≤ kj1) ∧ Aside0 (w'.heap[gb101]? = some (.cells #[(.slice A0_0 l0_0.length c0_0), (.slice A0_1 l0_1.length c0_1)] 59 (0, 0))) ∧ Aside0 (Below w.heap.size w w'))
    case atStart => exact ⟨(0), (0), (by first | rfl | (simp; done) | (simp [*]; done)), (by first | rfl | (simp; done) | (simp [*]; done)), H', ⟨Nat.le_refl _⟩, ⟨bk BK101.out⟩, ⟨by repeat (first | exact bw HB.out | refine below_set ?_ GE101.out)⟩⟩
    case round =>
     clear H'
     try clear c1
     try clear p2
     try clear c3
     try clear c5
     try clear c7
     try clear c11
     try clear hcz6_0
     try clear hcz6_1
     try clear hcz8_0
     try clear hcz8_1
     try clear hcz9_0
     try clear hcz9_1
     try clear hfz6_0
     try clear hfz6_1
     try clear hfz8_0
     try clear hfz8_1
     try clear hfz9_0
     try clear hfz9_1
     try clear p2
     obtain ⟨x3_2, x4_2, rfl, rfl, HA, HK2, BK101, HB⟩ := hrel
     cases gk with
     | zero => exact absurd HA.out (by simp [spec_ZoneOk.l0])
     | succ k2 =>
      have H := HA.out
      clear HA
      simp only [spec_ZoneOk.l0] at H
      by_cases c12 : x4_2 < (l0_1.length : Int)
      ·rw [if_pos c12] at H
       have c12b0 : decide (x4_2 < (l0_1.length : Int)) = true := decide_eq_true c12
       clear c12
       by_cases c13 : 0 ≤ x4_2
       ·rw [if_pos c13] at H
        have c13b0 : decide (0 ≤ x4_2) = true := decide_eq_true c13
        clear c13
        have HC14 := ak H
        clear H
        obtain ⟨hcz15_0, hcz15_1, hfz15_0, hfz15_1⟩ := cells2 BK101.out
        have p103 : 0 ≤ (x4_2 : Int) := of_decide_eq_true (by first | (with_reducible assumption) | assumption)
        have q103 : x4_2 < (l0_1.length : Int) := of_decide_eq_true (by first | (with_reducible assumption) | assumption)
        obtain ⟨ad103, A103_0, c103_0, A103_4, c103_4, A103_5, c103_5, A103_6, c103_6, e103, hx103_0, hx103_1, hx103_2, hx103_3, hx103_4, hx103_5, hx103_6, hl103_0, hi103_0, hl103_4, hi103_4, hl103_5, hi103_5, hl103_6, hi103_6⟩ := at_T33 HR0_1.out x4_2 p103 q103
        cases e103
        replace hx103_0 := hc_ HB.out hx103_0
        replace hx103_1 := hc_ HB.out hx103_1
        replace hx103_2 := hc_ HB.out hx103_2
        replace hx103_3 := hc_ HB.out hx103_3
        replace hx103_4 := hc_ HB.out hx103_4
        replace hx103_5 := hc_ HB.out hx103_5
        replace hx103_6 := hc_ HB.out hx103_6
        have HR103_0 := ak hi103_0
        have HC103_0 := ak hl103_0
        clear hi103_0 hl103_0
        have HR103_4 := ak hi103_4
        have HC103_4 := ak hl103_4
        clear hi103_4 hl103_4
        have HR103_5 := ak hi103_5
        have HC103_5 := ak hl103_5
        clear hi103_5 hl103_5
        have HR103_6 := ak hi103_6
        have HC103_6 := ak hl103_6
        clear hi103_6 hl103_6
        replace p103 := eq_true p103
        replace q103 := eq_true q103
        go_upto_region 8 with (first | ((with_reducible refine gate_dst (N := 5) rfl ?_); (try (refine gate_guard (by rfl) ?_; dsimp only)); refine box_event ?hg (N := 5) ?hd (cs := #[.slice none 0 0, .int .i64 0, .int .i64 0, .int .i64 0, .slice none 0 0, .slice none 0 0, .slice none 0 0]) (t := 33) ?hr ?_; (case hd => rfl); (case hg => rfl); (case hr => first | (go_simp; done) | (go_simp; rfl)); intro gb104 hg w16 hbox hb; have BK104 := ak (hbox); have GW104 := ak ((by rw [hg]; exact (below_size (by repeat (first | exact bw HB.out | refine below_set ?_ GE101.out))) : w.heap.size ≤ gb104)); have GE104 := ak ((by rw [hg]; exact (below_size (by repeat (first | exact bw HB.out | refine below_set ?_ GE101.out))) : w.heap.size ≤ gb104)); replace HB := ak (below_step (by repeat (first | exact bw HB.out | refine below_set ?_ GE101.out)) hb); have NB101_104 := ak ((by rw [hg]; exact Nat.ne_of_lt (blk_lt (bk BK101.out)) : gb101 ≠ gb104)); have NB104_101 := ak ((by rw [hg]; exact Nat.ne_of_gt (blk_lt (bk BK101.out)) : gb104 ≠ gb101)); replace BK101 := ak (blk_below (bk BK101.out) hb); clear hb hbox hg; have hnb17 := NB104_101.out; have hnc17 := NB101_104.out; obtain ⟨hcz18_0, hcz18_1, hcz18_2, hcz18_3, hcz18_4, hcz18_5, hcz18_6, hfz18_0, hfz18_1, hfz18_2, hfz18_3, hfz18_4, hfz18_5, hfz18_6⟩ := cells7 BK104.out))
        (try simp only [Act.put, List.setIfInBounds_toArray, List.set_cons_zero, List.set_cons_succ])
        go_cut [60] (fun v60 wc => ∃ (kq : Nat) (x60_13 : Bool), v60 = .bool x60_13 ∧ Aside0 (spec_ZoneOk.j2 kq x3_2 x4_2 x60_13 l0_0 l0_1 ((rd_T33 l0_1 x4_2).f0.f0) ((rd_T33 l0_1 x4_2).f1) ((rd_T33 l0_1 x4_2).f2) ((rd_T33 l0_1 x4_2).f3) ((rd_T33 l0_1 x4_2).f4.f0) ((rd_T33 l0_1 x4_2).f5) ((rd_T33 l0_1 x4_2).f6) = some r) ∧ Aside0 (kq ≤ k2) ∧ Aside0 (wc.heap[gb101]? = some (.cells #[(.slice A0_0 l0_0.length c0_0), (.slice (some ad103) l0_1.length c0_1)] 59 (0, 0))) ∧ Aside0 (wc.heap[gb104]? = some (.cells #[(.slice A103_0 ((rd_T33 l0_1 x4_2).f0.f0).length c103_0), .int .i64 ((rd_T33 l0_1 x4_2).f1), .int .i64 ((rd_T33 l0_1 x4_2).f2), .int .i64 ((rd_T33 l0_1 x4_2).f3), (.slice A103_4 ((rd_T33 l0_1 x4_2).f4.f0).length c103_4), (.slice A103_5 ((rd_T33 l0_1 x4_2).f5).length c103_5), (.slice A103_6 ((rd_T33 l0_1 x4_2).f6).length c103_6)] 33 (0, 0))) ∧ Aside0 (Below w.heap.size w wc))
        case first =>
         have H := HC14.out
         clear HC14
         replace H := Option.bind_eq_some_iff.mp H
         obtain ⟨t105, A190, H⟩ := H
         replace H : (if t105 = true then ((spec_l2under.f k2 ((rd_T33 l0_1 x4_2).f0.f0) l0_0).bind fun t106 => (if t106 = true then (if x4_2 > 0 then (if 0 ≤ (wrap64 (x4_2 - 1)) then (if (wrap64 (x4_2 - 1)) < (l0_1.length : Int) then ((spec_l3cmp.f k2 ((rd_T33 l0_1 (wrap64 (x4_2 - 1))).f0.f0) ((rd_T33 l0_1 (wrap64 (x4_2 - 1))).f1) ((rd_T33 l0_1 (wrap64 (x4_2 - 1))).f2) ((rd_T33 l0_1 (wrap64 (x4_2 - 1))).f3) ((rd_T33 l0_1 (wrap64 (x4_2 - 1))).f4.f0) ((rd_T33 l0_1 (wrap64 (x4_2 - 1))).f5) ((rd_T33 l0_1 (wrap64 (x4_2 - 1))).f6) ((rd_T33 l0_1 x4_2).f0.f0) ((rd_T33 l0_1 x4_2).f1) ((rd_T33 l0_1 x4_2).f2) ((rd_T33 l0_1 x4_2).f3) ((rd_T33 l0_1 x4_2).f4.f0) ((rd_T33 l0_1 x4_2).f5) ((rd_T33 l0_1 x4_2).f6)).bind fun t108 => (if t108 ≥ 0 then (spec_ZoneOk.j2 k2 x3_2 x4_2 true l0_0 l0_1 ((rd_T33 l0_1 x4_2).f0.f0) ((rd_T33 l0_1 x4_2).f1) ((rd_T33 l0_1 x4_2).f2) ((rd_T33 l0_1 x4_2).f3) ((rd_T33 l0_1 x4_2).f4.f0) ((rd_T33 l0_1 x4_2).f5) ((rd_T33 l0_1 x4_2).f6)) else ((spec_l5alone.f k2 l0_1 x4_2).bind fun t109 => (spec_ZoneOk.j2 k2 x3_2 x4_2 (!t109) l0_0 l0_1 ((rd_T33 l0_1 x4_2).f0.f0) ((rd_T33 l0_1 x4_2).f1) ((rd_T33 l0_1 x4_2).f2) ((rd_T33 l0_1 x4_2).f3) ((rd_T33 l0_1 x4_2).f4.f0) ((rd_T33 l0_1 x4_2).f5) ((rd_T33 l0_1 x4_2).f6))))) else (none)) else (none)) else ((spec_l5alone.f k2 l0_1 x4_2).bind fun t110 => (spec_ZoneOk.j2 k2 x3_2 x4_2 (!t110) l0_0 l0_1 ((rd_T33 l0_1 x4_2).f0.f0) ((rd_T33 l0_1 x4_2).f1) ((rd_T33 l0_1 x4_2).f2) ((rd_T33 l0_1 x4_2).f3) ((rd_T33 l0_1 x4_2).f4.f0) ((rd_T33 l0_1 x4_2).f5) ((rd_T33 l0_1 x4_2).f6)))) else (spec_ZoneOk.j2 k2 x3_2 x4_2 true l0_0 l0_1 ((rd_T33 l0_1 x4_2).f0.f0) ((rd_T33 l0_1 x4_2).f1) ((rd_T33 l0_1 x4_2).f2) ((rd_T33 l0_1 x4_2).f3) ((rd_T33 l0_1 x4_2).f4.f0) ((rd_T33 l0_1 x4_2).f5) ((rd_T33 l0_1 x4_2).f6)))) else (spec_ZoneOk.j2 k2 x3_2 x4_2 true l0_0 l0_1 ((rd_T33 l0_1 x4_2).f0.f0) ((rd_T33 l0_1 x4_2).f1) ((rd_T33 l0_1 x4_2).f2) ((rd_T33 l0_1 x4_2).f3) ((rd_T33 l0_1 x4_2).f4.f0) ((rd_T33 l0_1 x4_2).f5) ((rd_T33 l0_1 x4_2).f6))) = some r := H
         have A19 := ak A190
         clear A190
         by_cases c20 : t105 = true
         ·subst c20
          have H1 : ((spec_l2under.f k2 ((rd_T33 l0_1 x4_2).f0.f0) l0_0).bind fun t106 => (if t106 = true then (if x4_2 > 0 then (if 0 ≤ (wrap64 (x4_2 - 1)) then (if (wrap64 (x4_2 - 1)) < (l0_1.length : Int) then ((spec_l3cmp.f k2 ((rd_T33 l0_1 (wrap64 (x4_2 - 1))).f0.f0) ((rd_T33 l0_1 (wrap64 (x4_2 - 1))).f1) ((rd_T33 l0_1 (wrap64 (x4_2 - 1))).f2) ((rd_T33 l0_1 (wrap64 (x4_2 - 1))).f3) ((rd_T33 l0_1 (wrap64 (x4_2 - 1))).f4.f0) ((rd_T33 l0_1 (wrap64 (x4_2 - 1))).f5) ((rd_T33 l0_1 (wrap64 (x4_2 - 1))).f6) ((rd_T33 l0_1 x4_2).f0.f0) ((rd_T33 l0_1 x4_2).f1) ((rd_T33 l0_1 x4_2).f2) ((rd_T33 l0_1 x4_2).f3) ((rd_T33 l0_1 x4_2).f4.f0) ((rd_T33 l0_1 x4_2).f5) ((rd_T33 l0_1 x4_2).f6)).bind fun t108 => (if t108 ≥ 0 then (spec_ZoneOk.j2 k2 x3_2 x4_2 true l0_0 l0_1 ((rd_T33 l0_1 x4_2).f0.f0) ((rd_T33 l0_1 x4_2).f1) ((rd_T33 l0_1 x4_2).f2) ((rd_T33 l0_1 x4_2).f3) ((rd_T33 l0_1 x4_2).f4.f0) ((rd_T33 l0_1 x4_2).f5) ((rd_T33 l0_1 x4_2).f6)) else ((spec_l5alone.f k2 l0_1 x4_2).bind fun t109 => (spec_ZoneOk.j2 k2 x3_2 x4_2 (!t109) l0_0 l0_1 ((rd_T33 l0_1 x4_2).f0.f0) ((rd_T33 l0_1 x4_2).f1) ((rd_T33 l0_1 x4_2).f2) ((rd_T33 l0_1 x4_2).f3) ((rd_T33 l0_1 x4_2).f4.f0) ((rd_T33 l0_1 x4_2).f5) ((rd_T33 l0_1 x4_2).f6))))) else (none)) else (none)) else ((spec_l5alone.f k2 l0_1 x4_2).bind fun t110 => (spec_ZoneOk.j2 k2 x3_2 x4_2 (!t110) l0_0 l0_1 ((rd_T33 l0_1 x4_2).f0.f0) ((rd_T33 l0_1 x4_2).f1) ((rd_T33 l0_1 x4_2).f2) ((rd_T33 l0_1 x4_2).f3) ((rd_T33 l0_1 x4_2).f4.f0) ((rd_T33 l0_1 x4_2).f5) ((rd_T33 l0_1 x4_2).f6)))) else (spec_ZoneOk.j2 k2 x3_2 x4_2 true l0_0 l0_1 ((rd_T33 l0_1 x4_2).f0.f0) ((rd_T33 l0_1 x4_2).f1) ((rd_T33 l0_1 x4_2).f2) ((rd_T33 l0_1 x4_2).f3) ((rd_T33 l0_1 x4_2).f4.f0) ((rd_T33 l0_1 x4_2).f5) ((rd_T33 l0_1 x4_2).f6)))) = some r := by rw [if_pos rfl] at H; exact H
          clear H
          have H := H1
          clear H1
          replace H := Option.bind_eq_some_iff.mp H
          obtain ⟨t106, A210, H⟩ := H
          replace H : (if t106 = true then (if x4_2 > 0 then (if 0 ≤ (wrap64 (x4_2 - 1)) then (if (wrap64 (x4_2 - 1)) < (l0_1.length : Int) then ((spec_l3cmp.f k2 ((rd_T33 l0_1 (wrap64 (x4_2 - 1))).f0.f0) ((rd_T33 l0_1 (wrap64 (x4_2 - 1))).f1) ((rd_T33 l0_1 (wrap64 (x4_2 - 1))).f2) ((rd_T33 l0_1 (wrap64 (x4_2 - 1))).f3) ((rd_T33 l0_1 (wrap64 (x4_2 - 1))).f4.f0) ((rd_T33 l0_1 (wrap64 (x4_2 - 1))).f5) ((rd_T33 l0_1 (wrap64 (x4_2 - 1))).f6) ((rd_T33 l0_1 x4_2).f0.f0) ((rd_T33 l0_1 x4_2).f1) ((rd_T33 l0_1 x4_2).f2) ((rd_T33 l0_1 x4_2).f3) ((rd_T33 l0_1 x4_2).f4.f0) ((rd_T33 l0_1 x4_2).f5) ((rd_T33 l0_1 x4_2).f6)).bind fun t108 => (if t108 ≥ 0 then (spec_ZoneOk.j2 k2 x3_2 x4_2 true l0_0 l0_1 ((rd_T33 l0_1 x4_2).f0.f0) ((rd_T33 l0_1 x4_2).f1) ((rd_T33 l0_1 x4_2).f2) ((rd_T33 l0_1 x4_2).f3) ((rd_T33 l0_1 x4_2).f4.f0) ((rd_T33 l0_1 x4_2).f5) ((rd_T33 l0_1 x4_2).f6)) else ((spec_l5alone.f k2 l0_1 x4_2).bind fun t109 => (spec_ZoneOk.j2 k2 x3_2 x4_2 (!t109) l0_0 l0_1 ((rd_T33 l0_1 x4_2).f0.f0) ((rd_T33 l0_1 x4_2).f1) ((rd_T33 l0_1 x4_2).f2) ((rd_T33 l0_1 x4_2).f3) ((rd_T33 l0_1 x4_2).f4.f0) ((rd_T33 l0_1 x4_2).f5) ((rd_T33 l0_1 x4_2).f6))))) else (none)) else (none)) else ((spec_l5alone.f k2 l0_1 x4_2).bind fun t110 => (spec_ZoneOk.j2 k2 x3_2 x4_2 (!t110) l0_0 l0_1 ((rd_T33 l0_1 x4_2).f0.f0) ((rd_T33 l0_1 x4_2).f1) ((rd_T33 l0_1 x4_2).f2) ((rd_T33 l0_1 x4_2).f3) ((rd_T33 l0_1 x4_2).f4.f0) ((rd_T33 l0_1 x4_2).f5) ((rd_T33 l0_1 x4_2).f6)))) else (spec_ZoneOk.j2 k2 x3_2 x4_2 true l0_0 l0_1 ((rd_T33 l0_1 x4_2).f0.f0) ((rd_T33 l0_1 x4_2).f1) ((rd_T33 l0_1 x4_2).f2) ((rd_T33 l0_1 x4_2).f3) ((rd_T33 l0_1 x4_2).f4.f0) ((rd_T33 l0_1 x4_2).f5) ((rd_T33 l0_1 x4_2).f6))) = some r := H
          have A21 := ak A210
          clear A210
          by_cases c22 : t106 = true
          ·subst c22
           have H1 : (if x4_2 > 0 then (if 0 ≤ (wrap64 (x4_2 - 1)) then (if (wrap64 (x4_2 - 1)) < (l0_1.length : Int) then ((spec_l3cmp.f k2 ((rd_T33 l0_1 (wrap64 (x4_2 - 1))).f0.f0) ((rd_T33 l0_1 (wrap64 (x4_2 - 1))).f1) ((rd_T33 l0_1 (wrap64 (x4_2 - 1))).f2) ((rd_T33 l0_1 (wrap64 (x4_2 - 1))).f3) ((rd_T33 l0_1 (wrap64 (x4_2 - 1))).f4.f0) ((rd_T33 l0_1 (wrap64 (x4_2 - 1))).f5) ((rd_T33 l0_1 (wrap64 (x4_2 - 1))).f6) ((rd_T33 l0_1 x4_2).f0.f0) ((rd_T33 l0_1 x4_2).f1) ((rd_T33 l0_1 x4_2).f2) ((rd_T33 l0_1 x4_2).f3) ((rd_T33 l0_1 x4_2).f4.f0) ((rd_T33 l0_1 x4_2).f5) ((rd_T33 l0_1 x4_2).f6)).bind fun t108 => (if t108 ≥ 0 then (spec_ZoneOk.j2 k2 x3_2 x4_2 true l0_0 l0_1 ((rd_T33 l0_1 x4_2).f0.f0) ((rd_T33 l0_1 x4_2).f1) ((rd_T33 l0_1 x4_2).f2) ((rd_T33 l0_1 x4_2).f3) ((rd_T33 l0_1 x4_2).f4.f0) ((rd_T33 l0_1 x4_2).f5) ((rd_T33 l0_1 x4_2).f6)) else ((spec_l5alone.f k2 l0_1 x4_2).bind fun t109 => (spec_ZoneOk.j2 k2 x3_2 x4_2 (!t109) l0_0 l0_1 ((rd_T33 l0_1 x4_2).f0.f0) ((rd_T33 l0_1 x4_2).f1) ((rd_T33 l0_1 x4_2).f2) ((rd_T33 l0_1 x4_2).f3) ((rd_T33 l0_1 x4_2).f4.f0) ((rd_T33 l0_1 x4_2).f5) ((rd_T33 l0_1 x4_2).f6))))) else (none)) else (none)) else ((spec_l5alone.f k2 l0_1 x4_2).bind fun t110 => (spec_ZoneOk.j2 k2 x3_2 x4_2 (!t110) l0_0 l0_1 ((rd_T33 l0_1 x4_2).f0.f0) ((rd_T33 l0_1 x4_2).f1) ((rd_T33 l0_1 x4_2).f2) ((rd_T33 l0_1 x4_2).f3) ((rd_T33 l0_1 x4_2).f4.f0) ((rd_T33 l0_1 x4_2).f5) ((rd_T33 l0_1 x4_2).f6)))) = some r := by rw [if_pos rfl] at H; exact H
           clear H
           have H := H1
           clear H1
           by_cases c23 : x4_2 > 0
           ·rw [if_pos c23] at H
            have c23b0 : decide (0 < x4_2) = true := decide_eq_true c23
            clear c23
            (first | rw [c23b0] | (simp only [i64_w, i32_w]; rw [c23b0]) | skip)
            obtain ⟨ji24, hji24⟩ : ∃ j_ : Int, (wrap64 (x4_2 - 1)) = j_ := ⟨_, rfl⟩
            replace H : (if 0 ≤ (ji24) then (if (ji24) < (l0_1.length : Int) then ((spec_l3cmp.f k2 ((rd_T33 l0_1 (ji24)).f0.f0) ((rd_T33 l0_1 (ji24)).f1) ((rd_T33 l0_1 (ji24)).f2) ((rd_T33 l0_1 (ji24)).f3) ((rd_T33 l0_1 (ji24)).f4.f0) ((rd_T33 l0_1 (ji24)).f5) ((rd_T33 l0_1 (ji24)).f6) ((rd_T33 l0_1 x4_2).f0.f0) ((rd_T33 l0_1 x4_2).f1) ((rd_T33 l0_1 x4_2).f2) ((rd_T33 l0_1 x4_2).f3) ((rd_T33 l0_1 x4_2).f4.f0) ((rd_T33 l0_1 x4_2).f5) ((rd_T33 l0_1 x4_2).f6)).bind fun t108 => (if t108 ≥ 0 then (spec_ZoneOk.j2 k2 x3_2 x4_2 true l0_0 l0_1 ((rd_T33 l0_1 x4_2).f0.f0) ((rd_T33 l0_1 x4_2).f1) ((rd_T33 l0_1 x4_2).f2) ((rd_T33 l0_1 x4_2).f3) ((rd_T33 l0_1 x4_2).f4.f0) ((rd_T33 l0_1 x4_2).f5) ((rd_T33 l0_1 x4_2).f6)) else ((spec_l5alone.f k2 l0_1 x4_2).bind fun t109 => (spec_ZoneOk.j2 k2 x3_2 x4_2 (!t109) l0_0 l0_1 ((rd_T33 l0_1 x4_2).f0.f0) ((rd_T33 l0_1 x4_2).f1) ((rd_T33 l0_1 x4_2).f2) ((rd_T33 l0_1 x4_2).f3) ((rd_T33 l0_1 x4_2).f4.f0) ((rd_T33 l0_1 x4_2).f5) ((rd_T33 l0_1 x4_2).f6))))) else (none)) else (none)) = some r := by first | (rw [hji24] at H; exact H) | (simp only [hji24] at H ⊢; exact H)
            (try rw [hji24] at A19)
            (try rw [hji24] at A21)
            have hji24w : (IntKind.i64.wrap (x4_2 - 1)) = ji24 := (i64_w _).trans hji24
            by_cases c25 : 0 ≤ (ji24)
            ·rw [if_pos c25] at H
             have c25b0 : decide (0 ≤ (ji24)) = true := decide_eq_true c25
             clear c25
             by_cases c26 : (ji24) < (l0_1.length : Int)
             ·rw [if_pos c26] at H
              have c26b0 : decide ((ji24) < (l0_1.length : Int)) = true := decide_eq_true c26
              clear c26
              replace H := Option.bind_eq_some_iff.mp H
              obtain ⟨t108, A270, H⟩ := H
              replace H : (if t108 ≥ 0 then (spec_ZoneOk.j2 k2 x3_2 x4_2 true l0_0 l0_1 ((rd_T33 l0_1 x4_2).f0.f0) ((rd_T33 l0_1 x4_2).f1) ((rd_T33 l0_1 x4_2).f2) ((rd_T33 l0_1 x4_2).f3) ((rd_T33 l0_1 x4_2).f4.f0) ((rd_T33 l0_1 x4_2).f5) ((rd_T33 l0_1 x4_2).f6)) else ((spec_l5alone.f k2 l0_1 x4_2).bind fun t109 => (spec_ZoneOk.j2 k2 x3_2 x4_2 (!t109) l0_0 l0_1 ((rd_T33 l0_1 x4_2).f0.f0) ((rd_T33 l0_1 x4_2).f1) ((rd_T33 l0_1 x4_2).f2) ((rd_T33 l0_1 x4_2).f3) ((rd_T33 l0_1 x4_2).f4.f0) ((rd_T33 l0_1 x4_2).f5) ((rd_T33 l0_1 x4_2).f6)))) = some r := H
              have A27 := ak A270
              clear A270
              by_cases c28 : t108 ≥ 0
              ·rw [if_pos c28] at H
               have c28b0 : decide (0 ≤ t108) = true := decide_eq_true c28
               clear c28
               have H' := ak H
               clear H
               try go_wp2
               have n0_ : Aside0 ((((((((w16.setCell ⟨gb104, 0, none⟩ (.slice A103_0 ((rd_T33 l0_1 x4_2).f0.f0).length c103_0)).setCell ⟨gb104, 1, none⟩ (.int .i64 ((rd_T33 l0_1 x4_2).f1))).setCell ⟨gb104, 2, none⟩ (.int .i64 ((rd_T33 l0_1 x4_2).f2))).setCell ⟨gb104, 3, none⟩ (.int .i64 ((rd_T33 l0_1 x4_2).f3))).setCell ⟨gb104, 4, none⟩ (.slice A103_4 ((rd_T33 l0_1 x4_2).f4.f0).length c103_4)).setCell ⟨gb104, 5, none⟩ (.slice A103_5 ((rd_T33 l0_1 x4_2).f5).length c103_5)).setCell ⟨gb104, 6, none⟩ (.slice A103_6 ((rd_T33 l0_1 x4_2).f6).length c103_6)).heap[gb101]? = some (.cells #[.slice A0_0 l0_0.length c0_0, .slice (some ad103) l0_1.length c0_1] 59 (0, 0))) := ⟨bfar7 NB101_104.out BK101.out⟩
               have n1_ : Aside0 ((((((((w16.setCell ⟨gb104, 0, none⟩ (.slice A103_0 ((rd_T33 l0_1 x4_2).f0.f0).length c103_0)).setCell ⟨gb104, 1, none⟩ (.int .i64 ((rd_T33 l0_1 x4_2).f1))).setCell ⟨gb104, 2, none⟩ (.int .i64 ((rd_T33 l0_1 x4_2).f2))).setCell ⟨gb104, 3, none⟩ (.int .i64 ((rd_T33 l0_1 x4_2).f3))).setCell ⟨gb104, 4, none⟩ (.slice A103_4 ((rd_T33 l0_1 x4_2).f4.f0).length c103_4)).setCell ⟨gb104, 5, none⟩ (.slice A103_5 ((rd_T33 l0_1 x4_2).f5).length c103_5)).setCell ⟨gb104, 6, none⟩ (.slice A103_6 ((rd_T33 l0_1 x4_2).f6).length c103_6)).heap[gb104]? = some (.cells #[.slice A103_0 ((rd_T33 l0_1 x4_2).f0.f0).length c103_0, .int .i64 ((rd_T33 l0_1 x4_2).f1), .int .i64 ((rd_T33 l0_1 x4_2).f2), .int .i64 ((rd_T33 l0_1 x4_2).f3), .slice A103_4 ((rd_T33 l0_1 x4_2).f4.f0).length c103_4, .slice A103_5 ((rd_T33 l0_1 x4_2).f5).length c103_5, .slice A103_6 ((rd_T33 l0_1 x4_2).f6).length c103_6] 33 (0, 0))) := ⟨bput7 BK104.out⟩
               have n2_ : Aside0 (Below w.heap.size w (((((((w16.setCell ⟨gb104, 0, none⟩ (.slice A103_0 ((rd_T33 l0_1 x4_2).f0.f0).length c103_0)).setCell ⟨gb104, 1, none⟩ (.int .i64 ((rd_T33 l0_1 x4_2).f1))).setCell ⟨gb104, 2, none⟩ (.int .i64 ((rd_T33 l0_1 x4_2).f2))).setCell ⟨gb104, 3, none⟩ (.int .i64 ((rd_T33 l0_1 x4_2).f3))).setCell ⟨gb104, 4, none⟩ (.slice A103_4 ((rd_T33 l0_1 x4_2).f4.f0).length c103_4)).setCell ⟨gb104, 5, none⟩ (.slice A103_5 ((rd_T33 l0_1 x4_2).f5).length c103_5)).setCell ⟨gb104, 6, none⟩ (.slice A103_6 ((rd_T33 l0_1 x4_2).f6).length c103_6))) := ⟨by repeat (first | exact bw HB.out | refine below_set ?_ GE101.out | refine below_set ?_ GE104.out)⟩
               (try clear BK101)
               (try clear BK104)
               (try clear HB)
               generalize (((((((w16.setCell ⟨gb104, 0, none⟩ (.slice A103_0 ((rd_T33 l0_1 x4_2).f0.f0).length c103_0)).setCell ⟨gb104, 1, none⟩ (.int .i64 ((rd_T33 l0_1 x4_2).f1))).setCell ⟨gb104, 2, none⟩ (.int .i64 ((rd_T33 l0_1 x4_2).f2))).setCell ⟨gb104, 3, none⟩ (.int .i64 ((rd_T33 l0_1 x4_2).f3))).setCell ⟨gb104, 4, none⟩ (.slice A103_4 ((rd_T33 l0_1 x4_2).f4.f0).length c103_4)).setCell ⟨gb104, 5, none⟩ (.slice A103_5 ((rd_T33 l0_1 x4_2).f5).length c103_5)).setCell ⟨gb104, 6, none⟩ (.slice A103_6 ((rd_T33 l0_1 x4_2).f6).length c103_6)) = w29 at n0_ n1_ n2_ ⊢
               have BK101 := n0_
               have BK104 := n1_
               have HB := n2_
               clear n0_ n1_ n2_
               have n0_ := ak (blk_drew BK101.out)
               have n1_ := ak (blk_drew BK104.out)
               have n2_ := ak (below_drew1 HB.out)
               clear BK101
               clear BK104
               clear HB
               have BK101 := n0_
               have BK104 := n1_
               have HB := n2_
               clear n0_ n1_ n2_
               have p107 : 0 ≤ ((ji24) : Int) := of_decide_eq_true (by first | (with_reducible assumption) | assumption)
               have q107 : (ji24) < (l0_1.length : Int) := of_decide_eq_true (by first | (with_reducible assumption) | assumption)
               obtain ⟨ad107, A107_0, c107_0, A107_4, c107_4, A107_5, c107_5, A107_6, c107_6, e107, hx107_0, hx107_1, hx107_2, hx107_3, hx107_4, hx107_5, hx107_6, hl107_0, hi107_0, hl107_4, hi107_4, hl107_5, hi107_5, hl107_6, hi107_6⟩ := at_T33 HR0_1.out (ji24) p107 q107
               have hw107_6 := hx107_6
               have hw107_5 := hx107_5
               have hw107_4 := hx107_4
               have hw107_3 := hx107_3
               have hw107_2 := hx107_2
               have hw107_1 := hx107_1
               have hw107_0 := hx107_0
               obtain rfl : ad103 = ad107 := (by injection e107)
               replace hx107_0 := hc_ HB.out hx107_0
               replace hx107_1 := hc_ HB.out hx107_1
               replace hx107_2 := hc_ HB.out hx107_2
               replace hx107_3 := hc_ HB.out hx107_3
               replace hx107_4 := hc_ HB.out hx107_4
               replace hx107_5 := hc_ HB.out hx107_5
               replace hx107_6 := hc_ HB.out hx107_6
               have HR107_0 := ak hi107_0
               have HC107_0 := ak hl107_0
               clear hi107_0 hl107_0
               have HR107_4 := ak hi107_4
               have HC107_4 := ak hl107_4
               clear hi107_4 hl107_4
               have HR107_5 := ak hi107_5
               have HC107_5 := ak hl107_5
               clear hi107_5 hl107_5
               have HR107_6 := ak hi107_6
               have HC107_6 := ak hl107_6
               clear hi107_6 hl107_6
               replace p107 := eq_true p107
               replace q107 := eq_true q107
               refine start_ (n := 33) (S := fun w' => w'.cell? ⟨gb104, 0, none⟩ = some (.slice A103_0 ((rd_T33 l0_1 x4_2).f0.f0).length c103_0) ∧ w'.cell? ⟨gb104, 1, none⟩ = some (.int .i64 ((rd_T33 l0_1 x4_2).f1)) ∧ w'.cell? ⟨gb104, 2, none⟩ = some (.int .i64 ((rd_T33 l0_1 x4_2).f2)) ∧ w'.cell? ⟨gb104, 3, none⟩ = some (.int .i64 ((rd_T33 l0_1 x4_2).f3)) ∧ w'.cell? ⟨gb104, 4, none⟩ = some (.slice A103_4 ((rd_T33 l0_1 x4_2).f4.f0).length c103_4) ∧ w'.cell? ⟨gb104, 5, none⟩ = some (.slice A103_5 ((rd_T33 l0_1 x4_2).f5).length c103_5) ∧ w'.cell? ⟨gb104, 6, none⟩ = some (.slice A103_6 ((rd_T33 l0_1 x4_2).f6).length c103_6) ∧ w'.cell? ⟨gb101, 0, none⟩ = some (.slice A0_0 l0_0.length c0_0) ∧ w'.cell? ⟨gb101, 1, none⟩ = some (.slice (some ad103) l0_1.length c0_1) ∧ w'.cell? (ad103.add (((ji24)).toNat * 7)) = some (.slice A107_0 ((rd_T33 l0_1 (ji24)).f0.f0).length c107_0) ∧ w'.cell? ⟨(ad103.add (((ji24)).toNat * 7)).block, (ad103.add (((ji24)).toNat * 7)).off + 1, none⟩ = some (.int .i64 ((rd_T33 l0_1 (ji24)).f1)) ∧ w'.cell? ⟨(ad103.add (((ji24)).toNat * 7)).block, (ad103.add (((ji24)).toNat * 7)).off + 2, none⟩ = some (.int .i64 ((rd_T33 l0_1 (ji24)).f2)) ∧ w'.cell? ⟨(ad103.add (((ji24)).toNat * 7)).block, (ad103.add (((ji24)).toNat * 7)).off + 3, none⟩ = some (.int .i64 ((rd_T33 l0_1 (ji24)).f3)) ∧ w'.cell? ⟨(ad103.add (((ji24)).toNat * 7)).block, (ad103.add (((ji24)).toNat * 7)).off + 4, none⟩ = some (.slice A107_4 ((rd_T33 l0_1 (ji24)).f4.f0).length c107_4) ∧ w'.cell? ⟨(ad103.add (((ji24)).toNat * 7)).block, (ad103.add (((ji24)).toNat * 7)).off + 5, none⟩ = some (.slice A107_5 ((rd_T33 l0_1 (ji24)).f5).length c107_5) ∧ w'.cell? ⟨(ad103.add (((ji24)).toNat * 7)).block, (ad103.add (((ji24)).toNat * 7)).off + 6, none⟩ = some (.slice A107_6 ((rd_T33 l0_1 (ji24)).f6).length c107_6)) (ds := []) (bA 33 0) (by kernel_rfl) rfl rfl ⟨(blk_cell BK104.out 0).trans rfl, (blk_cell BK104.out 1).trans rfl, (blk_cell BK104.out 2).trans rfl, (blk_cell BK104.out 3).trans rfl, (blk_cell BK104.out 4).trans rfl, (blk_cell BK104.out 5).trans rfl, (blk_cell BK104.out 6).trans rfl, (blk_cell BK101.out 0).trans rfl, (blk_cell BK101.out 1).trans rfl, (hc_ HB.out hw107_0), (hc_ HB.out hw107_1), (hc_ HB.out hw107_2), (hc_ HB.out hw107_3), (hc_ HB.out hw107_4), (hc_ HB.out hw107_5), (hc_ HB.out hw107_6)⟩ (fun hHeld => ?_); refine with_tabW spec_ZoneOk.tab8 spec_ZoneOk.bits8 (fun HT_ HW_ => ?_)
               generalize w29.drew = w30 at BK101 BK104 HB HR107_0 HR107_4 HR107_5 HR107_6 hx107_0 hx107_1 hx107_2 hx107_3 hx107_4 hx107_5 hx107_6 hHeld ⊢
               refine take_ (i := 0) (N := some 28) (v := ?_) (a' := ?_) (bA 33 1) rfl rfl (take_ofW HT_.out HW_.out (by kernel_rfl)) (fun _ _ _ h => h) (Or.inl ⟨by rfl, ?_⟩) hHeld ?_ ?_
               rotate_left; rintro w' ⟨s0, s1, s2, s3, s4, s5, s6, s7, s8, s9, s10, s11, s12, s13, s14, s15⟩; go_simp; with_reducible rfl; rotate_left; go_simp; rfl
               refine one_ (i := 1) (N := some 29) (bA 33 3) rfl rfl (one_of HT_.out (by kernel_rfl)) (by decide) (fun K hK => ?_)
               refine goes_ Try.func60 (by kernel_rfl) rfl #[.agg #[.slice A103_0 ((rd_T33 l0_1 x4_2).f0.f0).length c103_0, .int .i64 ((rd_T33 l0_1 x4_2).f1), .int .i64 ((rd_T33 l0_1 x4_2).f2), .int .i64 ((rd_T33 l0_1 x4_2).f3), .slice A103_4 ((rd_T33 l0_1 x4_2).f4.f0).length c103_4, .slice A103_5 ((rd_T33 l0_1 x4_2).f5).length c103_5, .slice A103_6 ((rd_T33 l0_1 x4_2).f6).length c103_6]] (by rfl) rfl rfl (by first | rfl | (simp only [List.map_toArray, List.map_cons, List.map_nil]; first | done | rfl)) ?_
               with_reducible refine (spec_RrOk.calls k2 _ _ ((rd_T33 l0_1 x4_2).f0.f0) ((rd_T33 l0_1 x4_2).f1) ((rd_T33 l0_1 x4_2).f2) ((rd_T33 l0_1 x4_2).f3) _ _ ((rd_T33 l0_1 x4_2).f4.f0) _ _ ((rd_T33 l0_1 x4_2).f5) _ _ ((rd_T33 l0_1 x4_2).f6) true _ ?side1 ?side2 ?side3 ?side4 ?side5 ?side6 ?side7 ?side8 A19.out).mono ?_
               (case side1 => exact cw HR103_0.out HB.out)
               (case side2 => exact HC103_0.out)
               (case side3 => exact cw HR103_4.out HB.out)
               (case side4 => exact HC103_4.out)
               (case side5 => exact cw HR103_5.out HB.out)
               (case side6 => exact HC103_5.out)
               (case side7 => exact cw HR103_6.out HB.out)
               (case side8 => exact HC103_6.out)
               rintro e w31 ⟨rfl, hb⟩
               refine ⟨_, rfl, ?_⟩
               have n0_ := ak (blk_below (bk BK101.out) hb)
               have n1_ := ak (blk_below (bk BK104.out) hb)
               have n2_ := ak (below_step (by repeat (first | exact bw HB.out | refine below_set ?_ GE101.out | refine below_set ?_ GE104.out)) hb)
               clear BK101
               clear BK104
               clear HB
               have BK101 := n0_
               have BK104 := n1_
               have HB := n2_
               clear n0_ n1_ n2_
               (try clear hb)
               (try clear hb2)
               (try clear hk)
               (try clear hi)
               refine hK.out _ _ ⟨(blk_cell BK104.out 0).trans rfl, (blk_cell BK104.out 1).trans rfl, (blk_cell BK104.out 2).trans rfl, (blk_cell BK104.out 3).trans rfl, (blk_cell BK104.out 4).trans rfl, (blk_cell BK104.out 5).trans rfl, (blk_cell BK104.out 6).trans rfl, (blk_cell BK101.out 0).trans rfl, (blk_cell BK101.out 1).trans rfl, (hc_ HB.out hw107_0), (hc_ HB.out hw107_1), (hc_ HB.out hw107_2), (hc_ HB.out hw107_3), (hc_ HB.out hw107_4), (hc_ HB.out hw107_5), (hc_ HB.out hw107_6)⟩ (fun hHeld => ?_)
               clear hK K
               refine norm_ (a' := ?_) ?_ ?_; rotate_left; go_simp; rfl
               refine pu_ HT_ 2 30 (bA 33 7) (v := ?_) (a' := ?_) rfl rfl (by kernel_rfl) (fun _ _ _ h => h) (by rfl) ?_ ?_ ?_; rotate_left; intro w'; go_simp; with_reducible rfl; rotate_left; go_simp; rfl
               refine pu_ HT_ 3 31 (bA 33 15) (v := ?_) (a' := ?_) rfl rfl (by kernel_rfl) (fun _ _ _ h => h) (by rfl) ?_ ?_ ?_; rotate_left; intro w'; go_simp; with_reducible rfl; rotate_left; go_simp; rfl
               refine pu_ HT_ 4 32 (bA 33 31) (v := ?_) (a' := ?_) rfl rfl (by kernel_rfl) (fun _ _ _ h => h) (by rfl) ?_ ?_ ?_; rotate_left; intro w'; go_simp; with_reducible rfl; rotate_left; go_simp; rfl
               refine pu_ HT_ 6 34 (bA 33 95) (v := ?_) (a' := ?_) rfl rfl (by kernel_rfl) (fun _ _ _ h => h) (by rfl) ?_ ?_ ?_; rotate_left; intro w'; go_simp; with_reducible rfl; rotate_left; go_simp; rfl
               refine take_ (i := 5) (N := some 33) (v := ?_) (a' := ?_) (bA 33 127) rfl rfl (take_ofW HT_.out HW_.out (by kernel_rfl)) (fun _ _ _ h => h) (Or.inl ⟨by rfl, ?_⟩) hHeld ?_ ?_
               rotate_left; rintro w' ⟨s0, s1, s2, s3, s4, s5, s6, s7, s8, s9, s10, s11, s12, s13, s14, s15⟩; go_simp; with_reducible rfl; rotate_left; go_simp; rfl
               refine take_ (i := 7) (N := some 35) (v := ?_) (a' := ?_) (bA 33 255) rfl rfl (take_ofW HT_.out HW_.out (by kernel_rfl)) (fun _ _ _ h => h) (Or.inl ⟨by rfl, ?_⟩) hHeld ?_ ?_
               rotate_left; rintro w' ⟨s0, s1, s2, s3, s4, s5, s6, s7, s8, s9, s10, s11, s12, s13, s14, s15⟩; go_simp; with_reducible rfl; rotate_left; go_simp; rfl
               refine one_ (i := 8) (N := some 36) (bA 33 511) rfl rfl (one_of HT_.out (by kernel_rfl)) (by decide) (fun K hK => ?_)
               refine goes_ Try.func96 (by kernel_rfl) rfl #[.agg #[.slice A103_0 ((rd_T33 l0_1 x4_2).f0.f0).length c103_0], .agg #[.slice A0_0 l0_0.length c0_0]] (by rfl) rfl rfl (by first | rfl | (simp only [List.map_toArray, List.map_cons, List.map_nil]; first | done | rfl)) ?_
               with_reducible refine (spec_l2under.calls k2 _ _ ((rd_T33 l0_1 x4_2).f0.f0) _ _ l0_0 true _ ?side1 ?side2 ?side3 ?side4 A21.out).mono ?_
               (case side1 => exact cw HR103_0.out HB.out)
               (case side2 => exact HC103_0.out)
               (case side3 => exact cw HR0_0.out HB.out)
               (case side4 => exact HC0_0.out)
               rintro e w32 ⟨rfl, hb⟩
               refine ⟨_, rfl, ?_⟩
               have n0_ := ak (blk_below (bk BK101.out) hb)
               have n1_ := ak (blk_below (bk BK104.out) hb)
               have n2_ := ak (below_step (by repeat (first | exact bw HB.out | refine below_set ?_ GE101.out | refine below_set ?_ GE104.out)) hb)
               clear BK101
               clear BK104
               clear HB
               have BK101 := n0_
               have BK104 := n1_
               have HB := n2_
               clear n0_ n1_ n2_
               (try clear hb)
               (try clear hb2)
               (try clear hk)
               (try clear hi)
               refine hK.out _ _ ⟨(blk_cell BK104.out 0).trans rfl, (blk_cell BK104.out 1).trans rfl, (blk_cell BK104.out 2).trans rfl, (blk_cell BK104.out 3).trans rfl, (blk_cell BK104.out 4).trans rfl, (blk_cell BK104.out 5).trans rfl, (blk_cell BK104.out 6).trans rfl, (blk_cell BK101.out 0).trans rfl, (blk_cell BK101.out 1).trans rfl, (hc_ HB.out hw107_0), (hc_ HB.out hw107_1), (hc_ HB.out hw107_2), (hc_ HB.out hw107_3), (hc_ HB.out hw107_4), (hc_ HB.out hw107_5), (hc_ HB.out hw107_6)⟩ (fun hHeld => ?_)
               clear hK K
               refine norm_ (a' := ?_) ?_ ?_; rotate_left; go_simp; rfl
               refine pu_ HT_ 9 37 (bA 33 1023) (v := ?_) (a' := ?_) rfl rfl (by kernel_rfl) (fun _ _ _ h => h) (by rfl) ?_ ?_ ?_; rotate_left; intro w'; go_simp; with_reducible rfl; rotate_left; go_simp; rfl
               refine pu_ HT_ 10 38 (bA 33 2047) (v := ?_) (a' := ?_) rfl rfl (by kernel_rfl) (fun _ _ _ h => h) (by rfl) ?_ ?_ ?_; rotate_left; intro w'; go_simp; with_reducible rfl; rotate_left; go_simp; rfl
               refine pu_ HT_ 11 39 (bA 33 4095) (v := ?_) (a' := ?_) rfl rfl (by kernel_rfl) (fun _ _ _ h => h) (by rfl) ?_ ?_ ?_; rotate_left; intro w'; go_simp; with_reducible rfl; rotate_left; go_simp; rfl
               refine pu_ HT_ 12 40 (bA 33 8191) (v := ?_) (a' := ?_) rfl rfl (by kernel_rfl) (fun _ _ _ h => h) (by rfl) ?_ ?_ ?_; rotate_left; intro w'; go_simp; with_reducible rfl; rotate_left; go_simp; rfl
               refine pu_ HT_ 13 41 (bA 33 16383) (v := ?_) (a' := ?_) rfl rfl (by kernel_rfl) (fun _ _ _ h => h) (by rfl) ?_ ?_ ?_; rotate_left; intro w'; go_simp; with_reducible rfl; rotate_left; go_simp; rfl
               refine pu_ HT_ 14 42 (bA 33 32767) (v := ?_) (a' := ?_) rfl rfl (by kernel_rfl) (fun _ _ _ h => h) (by rfl) ?_ ?_ ?_; rotate_left; intro w'; go_simp; with_reducible rfl; rotate_left; go_simp; rfl
               refine pu_ HT_ 15 43 (bA 33 65535) (v := ?_) (a' := ?_) rfl rfl (by kernel_rfl) (fun _ _ _ h => h) (by rfl) ?_ ?_ ?_; rotate_left; intro w'; go_simp; with_reducible rfl; rotate_left; go_simp; rfl
               refine pu_ HT_ 17 45 (bA 33 196607) (v := ?_) (a' := ?_) rfl rfl (by kernel_rfl) (fun _ _ _ h => h) (by rfl) ?_ ?_ ?_; rotate_left; intro w'; go_simp; with_reducible rfl; rotate_left; go_simp; rfl
               refine pu_ HT_ 18 46 (bA 33 458751) (v := ?_) (a' := ?_) rfl rfl (by kernel_rfl) (fun _ _ _ h => h) (by rfl) ?_ ?_ ?_; rotate_left; intro w'; go_simp; with_reducible rfl; rotate_left; go_simp; rfl
               refine take_ (i := 16) (N := some 44) (v := ?_) (a' := ?_) (bA 33 524287) rfl rfl (take_ofW HT_.out HW_.out (by kernel_rfl)) (fun _ _ _ h => h) (Or.inl ⟨by rfl, ?_⟩) hHeld ?_ ?_
               rotate_left; rintro w' ⟨s0, s1, s2, s3, s4, s5, s6, s7, s8, s9, s10, s11, s12, s13, s14, s15⟩; go_simp; with_reducible rfl; rotate_left; go_simp; rfl
               refine pu_ HT_ 19 47 (bA 33 1048575) (v := ?_) (a' := ?_) rfl rfl (by kernel_rfl) (fun _ _ _ h => h) (by rfl) ?_ ?_ ?_; rotate_left; intro w'; go_simp; with_reducible rfl; rotate_left; go_simp; rfl
               refine take_ (i := 20) (N := some 48) (v := ?_) (a' := ?_) (bA 33 2097151) rfl rfl (take_ofW HT_.out HW_.out (by kernel_rfl)) (fun _ _ _ h => h) (Or.inl ⟨by rfl, ?_⟩) hHeld ?_ ?_
               rotate_left; rintro w' ⟨s0, s1, s2, s3, s4, s5, s6, s7, s8, s9, s10, s11, s12, s13, s14, s15⟩; go_simp; with_reducible rfl; rotate_left; go_simp; rfl
               refine take_ (i := 21) (N := some 49) (v := ?_) (a' := ?_) (bA 33 4194303) rfl rfl (take_ofW HT_.out HW_.out (by kernel_rfl)) (fun _ _ _ h => h) (Or.inl ⟨by rfl, ?_⟩) hHeld ?_ ?_
               rotate_left; rintro w' ⟨s0, s1, s2, s3, s4, s5, s6, s7, s8, s9, s10, s11, s12, s13, s14, s15⟩; go_simp; with_reducible rfl; rotate_left; go_simp; rfl
               refine one_ (i := 22) (N := some 50) (bA 33 8388607) rfl rfl (one_of HT_.out (by kernel_rfl)) (by decide) (fun K hK => ?_)
               refine goes_ Try.func61 (by kernel_rfl) rfl #[.agg #[.slice A107_0 ((rd_T33 l0_1 (ji24)).f0.f0).length c107_0, .int .i64 ((rd_T33 l0_1 (ji24)).f1), .int .i64 ((rd_T33 l0_1 (ji24)).f2), .int .i64 ((rd_T33 l0_1 (ji24)).f3), .slice A107_4 ((rd_T33 l0_1 (ji24)).f4.f0).length c107_4, .slice A107_5 ((rd_T33 l0_1 (ji24)).f5).length c107_5, .slice A107_6 ((rd_T33 l0_1 (ji24)).f6).length c107_6], .agg #[.slice A103_0 ((rd_T33 l0_1 x4_2).f0.f0).length c103_0, .int .i64 ((rd_T33 l0_1 x4_2).f1), .int .i64 ((rd_T33 l0_1 x4_2).f2), .int .i64 ((rd_T33 l0_1 x4_2).f3), .slice A103_4 ((rd_T33 l0_1 x4_2).f4.f0).length c103_4, .slice A103_5 ((rd_T33 l0_1 x4_2).f5).length c103_5, .slice A103_6 ((rd_T33 l0_1 x4_2).f6).length c103_6]] (by rfl) rfl rfl (by (try simp only [List.map_toArray, List.map_cons, List.map_nil]); first | done | (simp only [hji24]; rfl) | rfl | (simp only [List.length_drop, List.length_take]; rfl)) ?_
               with_reducible refine (spec_l3cmp.calls k2 _ _ ((rd_T33 l0_1 (ji24)).f0.f0) ((rd_T33 l0_1 (ji24)).f1) ((rd_T33 l0_1 (ji24)).f2) ((rd_T33 l0_1 (ji24)).f3) _ _ ((rd_T33 l0_1 (ji24)).f4.f0) _ _ ((rd_T33 l0_1 (ji24)).f5) _ _ ((rd_T33 l0_1 (ji24)).f6) _ _ ((rd_T33 l0_1 x4_2).f0.f0) ((rd_T33 l0_1 x4_2).f1) ((rd_T33 l0_1 x4_2).f2) ((rd_T33 l0_1 x4_2).f3) _ _ ((rd_T33 l0_1 x4_2).f4.f0) _ _ ((rd_T33 l0_1 x4_2).f5) _ _ ((rd_T33 l0_1 x4_2).f6) t108 _ ?side1 ?side2 ?side3 ?side4 ?side5 ?side6 ?side7 ?side8 ?side9 ?side10 ?side11 ?side12 ?side13 ?side14 ?side15 ?side16 A27.out).mono ?_
               (case side1 => exact cw HR107_0.out HB.out)
               (case side2 => exact HC107_0.out)
               (case side3 => exact cw HR107_4.out HB.out)
               (case side4 => exact HC107_4.out)
               (case side5 => exact cw HR107_5.out HB.out)
               (case side6 => exact HC107_5.out)
               (case side7 => exact cw HR107_6.out HB.out)
               (case side8 => exact HC107_6.out)
               (case side9 => exact cw HR103_0.out HB.out)
               (case side10 => exact HC103_0.out)
               (case side11 => exact cw HR103_4.out HB.out)
               (case side12 => exact HC103_4.out)
               (case side13 => exact cw HR103_5.out HB.out)
               (case side14 => exact HC103_5.out)
               (case side15 => exact cw HR103_6.out HB.out)
               (case side16 => exact HC103_6.out)
               rintro e w33 ⟨rfl, hb⟩
               refine ⟨_, rfl, ?_⟩
               have n0_ := ak (blk_below (bk BK101.out) hb)
               have n1_ := ak (blk_below (bk BK104.out) hb)
               have n2_ := ak (below_step (by repeat (first | exact bw HB.out | refine below_set ?_ GE101.out | refine below_set ?_ GE104.out)) hb)
               clear BK101
               clear BK104
               clear HB
               have BK101 := n0_
               have BK104 := n1_
               have HB := n2_
               clear n0_ n1_ n2_
               (try clear hb)
               (try clear hb2)
               (try clear hk)
               (try clear hi)
               refine hK.out _ _ ⟨(blk_cell BK104.out 0).trans rfl, (blk_cell BK104.out 1).trans rfl, (blk_cell BK104.out 2).trans rfl, (blk_cell BK104.out 3).trans rfl, (blk_cell BK104.out 4).trans rfl, (blk_cell BK104.out 5).trans rfl, (blk_cell BK104.out 6).trans rfl, (blk_cell BK101.out 0).trans rfl, (blk_cell BK101.out 1).trans rfl, (hc_ HB.out hw107_0), (hc_ HB.out hw107_1), (hc_ HB.out hw107_2), (hc_ HB.out hw107_3), (hc_ HB.out hw107_4), (hc_ HB.out hw107_5), (hc_ HB.out hw107_6)⟩ (fun hHeld => ?_)
               clear hK K
               refine norm_ (a' := ?_) ?_ ?_; rotate_left; go_simp; rfl
               refine pu_ HT_ 23 51 (bA 33 16777215) (v := ?_) (a' := ?_) rfl rfl (by kernel_rfl) (fun _ _ _ h => h) (by rfl) ?_ ?_ ?_; rotate_left; intro w'; go_simp; with_reducible rfl; rotate_left; go_simp; rfl
               refine pu_ HT_ 24 52 (bA 33 33554431) (v := ?_) (a' := ?_) rfl rfl (by kernel_rfl) (fun _ _ _ h => h) (by rfl) ?_ ?_ ?_; rotate_left; intro w'; go_simp; with_reducible rfl; rotate_left; go_simp; rfl
               refine pu_ HT_ 25 53 (bA 33 67108863) (v := ?_) (a' := ?_) rfl rfl (by kernel_rfl) (fun _ _ _ h => h) (by rfl) ?_ ?_ ?_; rotate_left; intro w'; go_simp; with_reducible rfl; rotate_left; go_simp; rfl
               refine pu_ HT_ 26 54 (bA 33 134217727) (v := ?_) (a' := ?_) rfl rfl (by kernel_rfl) (fun _ _ _ h => h) (by rfl) ?_ ?_ ?_; rotate_left; intro w'; go_simp; with_reducible rfl; rotate_left; go_simp; rfl
               refine sk_ HT_ 27 55 (bA 33 268435455) (a' := ?_) rfl rfl (by kernel_rfl) (fun _ _ _ h => h) (by rfl) ?_ ?_; rotate_left; go_simp; rfl
               refine sk_ HT_ 28 56 (bA 33 536870911) (a' := ?_) rfl rfl (by kernel_rfl) (fun _ _ _ h => h) (by rfl) ?_ ?_; rotate_left; go_simp; rfl
               refine sk_ HT_ 29 57 (bA 33 1073741823) (a' := ?_) rfl rfl (by kernel_rfl) (fun _ _ _ h => h) (by rfl) ?_ ?_; rotate_left; go_simp; rfl
               refine sk_ HT_ 30 58 (bA 33 2147483647) (a' := ?_) rfl rfl (by kernel_rfl) (fun _ _ _ h => h) (by rfl) ?_ ?_; rotate_left; go_simp; rfl
               refine sk_ HT_ 31 59 (bA 33 4294967295) (a' := ?_) rfl rfl (by kernel_rfl) (fun _ _ _ h => h) (by rfl) ?_ ?_; rotate_left; go_simp; rfl
               refine pu_ HT_ 32 60 (bA 33 8589934591) (v := ?_) (a' := ?_) rfl rfl (by kernel_rfl) (fun _ _ _ h => h) (by rfl) ?_ ?_ ?_; rotate_left; intro w'; go_simp; with_reducible rfl; rotate_left; go_simp; rfl
               refine done_ (done_of HT_.out (by kernel_rfl)) ?_
               try go_wp2
               go_meet
               case rel => exact ⟨_, (true), (by first | rfl | (simp; done) | (simp [*]; done)), H', ⟨by have := HJ1.out; have := HK2.out; first | omega | exact Nat.le_refl _⟩, ⟨bk BK101.out⟩, ⟨bk BK104.out⟩, ⟨by repeat (first | exact bw HB.out | refine below_set ?_ GE101.out | refine below_set ?_ GE104.out)⟩⟩
              ·rw [if_neg c28] at H
               have c28b0 : decide (0 ≤ t108) = false := decide_eq_false c28
               clear c28
               replace H := Option.bind_eq_some_iff.mp H
               obtain ⟨t109, A340, H⟩ := H
               replace H : (spec_ZoneOk.j2 k2 x3_2 x4_2 (!t109) l0_0 l0_1 ((rd_T33 l0_1 x4_2).f0.f0) ((rd_T33 l0_1 x4_2).f1) ((rd_T33 l0_1 x4_2).f2) ((rd_T33 l0_1 x4_2).f3) ((rd_T33 l0_1 x4_2).f4.f0) ((rd_T33 l0_1 x4_2).f5) ((rd_T33 l0_1 x4_2).f6)) = some r := H
               have A34 := ak A340
               clear A340
               have H' := ak H
               clear H
               try go_wp2
               have n0_ : Aside0 ((((((((w16.setCell ⟨gb104, 0, none⟩ (.slice A103_0 ((rd_T33 l0_1 x4_2).f0.f0).length c103_0)).setCell ⟨gb104, 1, none⟩ (.int .i64 ((rd_T33 l0_1 x4_2).f1))).setCell ⟨gb104, 2, none⟩ (.int .i64 ((rd_T33 l0_1 x4_2).f2))).setCell ⟨gb104, 3, none⟩ (.int .i64 ((rd_T33 l0_1 x4_2).f3))).setCell ⟨gb104, 4, none⟩ (.slice A103_4 ((rd_T33 l0_1 x4_2).f4.f0).length c103_4)).setCell ⟨gb104, 5, none⟩ (.slice A103_5 ((rd_T33 l0_1 x4_2).f5).length c103_5)).setCell ⟨gb104, 6, none⟩ (.slice A103_6 ((rd_T33 l0_1 x4_2).f6).length c103_6)).heap[gb101]? = some (.cells #[.slice A0_0 l0_0.length c0_0, .slice (some ad103) l0_1.length c0_1] 59 (0, 0))) := ⟨bfar7 NB101_104.out BK101.out⟩
               have n1_ : Aside0 ((((((((w16.setCell ⟨gb104, 0, none⟩ (.slice A103_0 ((rd_T33 l0_1 x4_2).f0.f0).length c103_0)).setCell ⟨gb104, 1, none⟩ (.int .i64 ((rd_T33 l0_1 x4_2).f1))).setCell ⟨gb104, 2, none⟩ (.int .i64 ((rd_T33 l0_1 x4_2).f2))).setCell ⟨gb104, 3, none⟩ (.int .i64 ((rd_T33 l0_1 x4_2).f3))).setCell ⟨gb104, 4, none⟩ (.slice A103_4 ((rd_T33 l0_1 x4_2).f4.f0).length c103_4)).setCell ⟨gb104, 5, none⟩ (.slice A103_5 ((rd_T33 l0_1 x4_2).f5).length c103_5)).setCell ⟨gb104, 6, none⟩ (.slice A103_6 ((rd_T33 l0_1 x4_2).f6).length c103_6)).heap[gb104]? = some (.cells #[.slice A103_0 ((rd_T33 l0_1 x4_2).f0.f0).length c103_0, .int .i64 ((rd_T33 l0_1 x4_2).f1), .int .i64 ((rd_T33 l0_1 x4_2).f2), .int .i64 ((rd_T33 l0_1 x4_2).f3), .slice A103_4 ((rd_T33 l0_1 x4_2).f4.f0).length c103_4, .slice A103_5 ((rd_T33 l0_1 x4_2).f5).length c103_5, .slice A103_6 ((rd_T33 l0_1 x4_2).f6).length c103_6] 33 (0, 0))) := ⟨bput7 BK104.out⟩
               have n2_ : Aside0 (Below w.heap.size w (((((((w16.setCell ⟨gb104, 0, none⟩ (.slice A103_0 ((rd_T33 l0_1 x4_2).f0.f0).length c103_0)).setCell ⟨gb104, 1, none⟩ (.int .i64 ((rd_T33 l0_1 x4_2).f1))).setCell ⟨gb104, 2, none⟩ (.int .i64 ((rd_T33 l0_1 x4_2).f2))).setCell ⟨gb104, 3, none⟩ (.int .i64 ((rd_T33 l0_1 x4_2).f3))).setCell ⟨gb104, 4, none⟩ (.slice A103_4 ((rd_T33 l0_1 x4_2).f4.f0).length c103_4)).setCell ⟨gb104, 5, none⟩ (.slice A103_5 ((rd_T33 l0_1 x4_2).f5).length c103_5)).setCell ⟨gb104, 6, none⟩ (.slice A103_6 ((rd_T33 l0_1 x4_2).f6).length c103_6))) := ⟨by repeat (first | exact bw HB.out | refine below_set ?_ GE101.out | refine below_set ?_ GE104.out)⟩
               (try clear BK101)
               (try clear BK104)
               (try clear HB)
               generalize (((((((w16.setCell ⟨gb104, 0, none⟩ (.slice A103_0 ((rd_T33 l0_1 x4_2).f0.f0).length c103_0)).setCell ⟨gb104, 1, none⟩ (.int .i64 ((rd_T33 l0_1 x4_2).f1))).setCell ⟨gb104, 2, none⟩ (.int .i64 ((rd_T33 l0_1 x4_2).f2))).setCell ⟨gb104, 3, none⟩ (.int .i64 ((rd_T33 l0_1 x4_2).f3))).setCell ⟨gb104, 4, none⟩ (.slice A103_4 ((rd_T33 l0_1 x4_2).f4.f0).length c103_4)).setCell ⟨gb104, 5, none⟩ (.slice A103_5 ((rd_T33 l0_1 x4_2).f5).length c103_5)).setCell ⟨gb104, 6, none⟩ (.slice A103_6 ((rd_T33 l0_1 x4_2).f6).length c103_6)) = w35 at n0_ n1_ n2_ ⊢
               have BK101 := n0_
               have BK104 := n1_
               have HB := n2_
               clear n0_ n1_ n2_
               have n0_ := ak (blk_drew BK101.out)
               have n1_ := ak (blk_drew BK104.out)
               have n2_ := ak (below_drew1 HB.out)
               clear BK101
               clear BK104
               clear HB
               have BK101 := n0_
               have BK104 := n1_
               have HB := n2_
               clear n0_ n1_ n2_
               have p107 : 0 ≤ ((ji24) : Int) := of_decide_eq_true (by first | (with_reducible assumption) | assumption)
               have q107 : (ji24) < (l0_1.length : Int) := of_decide_eq_true (by first | (with_reducible assumption) | assumption)
               obtain ⟨ad107, A107_0, c107_0, A107_4, c107_4, A107_5, c107_5, A107_6, c107_6, e107, hx107_0, hx107_1, hx107_2, hx107_3, hx107_4, hx107_5, hx107_6, hl107_0, hi107_0, hl107_4, hi107_4, hl107_5, hi107_5, hl107_6, hi107_6⟩ := at_T33 HR0_1.out (ji24) p107 q107
               have hw107_6 := hx107_6
               have hw107_5 := hx107_5
               have hw107_4 := hx107_4
               have hw107_3 := hx107_3
               have hw107_2 := hx107_2
               have hw107_1 := hx107_1
               have hw107_0 := hx107_0
               obtain rfl : ad103 = ad107 := (by injection e107)
               replace hx107_0 := hc_ HB.out hx107_0
               replace hx107_1 := hc_ HB.out hx107_1
               replace hx107_2 := hc_ HB.out hx107_2
               replace hx107_3 := hc_ HB.out hx107_3
               replace hx107_4 := hc_ HB.out hx107_4
               replace hx107_5 := hc_ HB.out hx107_5
               replace hx107_6 := hc_ HB.out hx107_6
               have HR107_0 := ak hi107_0
               have HC107_0 := ak hl107_0
               clear hi107_0 hl107_0
               have HR107_4 := ak hi107_4
               have HC107_4 := ak hl107_4
               clear hi107_4 hl107_4
               have HR107_5 := ak hi107_5
               have HC107_5 := ak hl107_5
               clear hi107_5 hl107_5
               have HR107_6 := ak hi107_6
               have HC107_6 := ak hl107_6
               clear hi107_6 hl107_6
               replace p107 := eq_true p107
               replace q107 := eq_true q107
               refine start_ (n := 33) (S := fun w' => w'.cell? ⟨gb104, 0, none⟩ = some (.slice A103_0 ((rd_T33 l0_1 x4_2).f0.f0).length c103_0) ∧ w'.cell? ⟨gb104, 1, none⟩ = some (.int .i64 ((rd_T33 l0_1 x4_2).f1)) ∧ w'.cell? ⟨gb104, 2, none⟩ = some (.int .i64 ((rd_T33 l0_1 x4_2).f2)) ∧ w'.cell? ⟨gb104, 3, none⟩ = some (.int .i64 ((rd_T33 l0_1 x4_2).f3)) ∧ w'.cell? ⟨gb104, 4, none⟩ = some (.slice A103_4 ((rd_T33 l0_1 x4_2).f4.f0).length c103_4) ∧ w'.cell? ⟨gb104, 5, none⟩ = some (.slice A103_5 ((rd_T33 l0_1 x4_2).f5).length c103_5) ∧ w'.cell? ⟨gb104, 6, none⟩ = some (.slice A103_6 ((rd_T33 l0_1 x4_2).f6).length c103_6) ∧ w'.cell? ⟨gb101, 0, none⟩ = some (.slice A0_0 l0_0.length c0_0) ∧ w'.cell? ⟨gb101, 1, none⟩ = some (.slice (some ad103) l0_1.length c0_1) ∧ w'.cell? (ad103.add (((ji24)).toNat * 7)) = some (.slice A107_0 ((rd_T33 l0_1 (ji24)).f0.f0).length c107_0) ∧ w'.cell? ⟨(ad103.add (((ji24)).toNat * 7)).block, (ad103.add (((ji24)).toNat * 7)).off + 1, none⟩ = some (.int .i64 ((rd_T33 l0_1 (ji24)).f1)) ∧ w'.cell? ⟨(ad103.add (((ji24)).toNat * 7)).block, (ad103.add (((ji24)).toNat * 7)).off + 2, none⟩ = some (.int .i64 ((rd_T33 l0_1 (ji24)).f2)) ∧ w'.cell? ⟨(ad103.add (((ji24)).toNat * 7)).block, (ad103.add (((ji24)).toNat * 7)).off + 3, none⟩ = some (.int .i64 ((rd_T33 l0_1 (ji24)).f3)) ∧ w'.cell? ⟨(ad103.add (((ji24)).toNat * 7)).block, (ad103.add (((ji24)).toNat * 7)).off + 4, none⟩ = some (.slice A107_4 ((rd_T33 l0_1 (ji24)).f4.f0).length c107_4) ∧ w'.cell? ⟨(ad103.add (((ji24)).toNat * 7)).block, (ad103.add (((ji24)).toNat * 7)).off + 5, none⟩ = some (.slice A107_5 ((rd_T33 l0_1 (ji24)).f5).length c107_5) ∧ w'.cell? ⟨(ad103.add (((ji24)).toNat * 7)).block, (ad103.add (((ji24)).toNat * 7)).off + 6, none⟩ = some (.slice A107_6 ((rd_T33 l0_1 (ji24)).f6).length c107_6)) (ds := []) (bA 33 0) (by kernel_rfl) rfl rfl ⟨(blk_cell BK104.out 0).trans rfl, (blk_cell BK104.out 1).trans rfl, (blk_cell BK104.out 2).trans rfl, (blk_cell BK104.out 3).trans rfl, (blk_cell BK104.out 4).trans rfl, (blk_cell BK104.out 5).trans rfl, (blk_cell BK104.out 6).trans rfl, (blk_cell BK101.out 0).trans rfl, (blk_cell BK101.out 1).trans rfl, (hc_ HB.out hw107_0), (hc_ HB.out hw107_1), (hc_ HB.out hw107_2), (hc_ HB.out hw107_3), (hc_ HB.out hw107_4), (hc_ HB.out hw107_5), (hc_ HB.out hw107_6)⟩ (fun hHeld => ?_); refine with_tabW spec_ZoneOk.tab8 spec_ZoneOk.bits8 (fun HT_ HW_ => ?_)
               generalize w35.drew = w36 at BK101 BK104 HB HR107_0 HR107_4 HR107_5 HR107_6 hx107_0 hx107_1 hx107_2 hx107_3 hx107_4 hx107_5 hx107_6 hHeld ⊢
               refine take_ (i := 0) (N := some 28) (v := ?_) (a' := ?_) (bA 33 1) rfl rfl (take_ofW HT_.out HW_.out (by kernel_rfl)) (fun _ _ _ h => h) (Or.inl ⟨by rfl, ?_⟩) hHeld ?_ ?_
               rotate_left; rintro w' ⟨s0, s1, s2, s3, s4, s5, s6, s7, s8, s9, s10, s11, s12, s13, s14, s15⟩; go_simp; with_reducible rfl; rotate_left; go_simp; rfl
               refine one_ (i := 1) (N := some 29) (bA 33 3) rfl rfl (one_of HT_.out (by kernel_rfl)) (by decide) (fun K hK => ?_)
               refine goes_ Try.func60 (by kernel_rfl) rfl #[.agg #[.slice A103_0 ((rd_T33 l0_1 x4_2).f0.f0).length c103_0, .int .i64 ((rd_T33 l0_1 x4_2).f1), .int .i64 ((rd_T33 l0_1 x4_2).f2), .int .i64 ((rd_T33 l0_1 x4_2).f3), .slice A103_4 ((rd_T33 l0_1 x4_2).f4.f0).length c103_4, .slice A103_5 ((rd_T33 l0_1 x4_2).f5).length c103_5, .slice A103_6 ((rd_T33 l0_1 x4_2).f6).length c103_6]] (by rfl) rfl rfl (by first | rfl | (simp only [List.map_toArray, List.map_cons, List.map_nil]; first | done | rfl)) ?_
               with_reducible refine (spec_RrOk.calls k2 _ _ ((rd_T33 l0_1 x4_2).f0.f0) ((rd_T33 l0_1 x4_2).f1) ((rd_T33 l0_1 x4_2).f2) ((rd_T33 l0_1 x4_2).f3) _ _ ((rd_T33 l0_1 x4_2).f4.f0) _ _ ((rd_T33 l0_1 x4_2).f5) _ _ ((rd_T33 l0_1 x4_2).f6) true _ ?side1 ?side2 ?side3 ?side4 ?side5 ?side6 ?side7 ?side8 A19.out).mono ?_
               (case side1 => exact cw HR103_0.out HB.out)
               (case side2 => exact HC103_0.out)
               (case side3 => exact cw HR103_4.out HB.out)
               (case side4 => exact HC103_4.out)
               (case side5 => exact cw HR103_5.out HB.out)
               (case side6 => exact HC103_5.out)
               (case side7 => exact cw HR103_6.out HB.out)
               (case side8 => exact HC103_6.out)
               rintro e w37 ⟨rfl, hb⟩
               refine ⟨_, rfl, ?_⟩
               have n0_ := ak (blk_below (bk BK101.out) hb)
               have n1_ := ak (blk_below (bk BK104.out) hb)
               have n2_ := ak (below_step (by repeat (first | exact bw HB.out | refine below_set ?_ GE101.out | refine below_set ?_ GE104.out)) hb)
               clear BK101
               clear BK104
               clear HB
               have BK101 := n0_
               have BK104 := n1_
               have HB := n2_
               clear n0_ n1_ n2_
               (try clear hb)
               (try clear hb2)
               (try clear hk)
               (try clear hi)
               refine hK.out _ _ ⟨(blk_cell BK104.out 0).trans rfl, (blk_cell BK104.out 1).trans rfl, (blk_cell BK104.out 2).trans rfl, (blk_cell BK104.out 3).trans rfl, (blk_cell BK104.out 4).trans rfl, (blk_cell BK104.out 5).trans rfl, (blk_cell BK104.out 6).trans rfl, (blk_cell BK101.out 0).trans rfl, (blk_cell BK101.out 1).trans rfl, (hc_ HB.out hw107_0), (hc_ HB.out hw107_1), (hc_ HB.out hw107_2), (hc_ HB.out hw107_3), (hc_ HB.out hw107_4), (hc_ HB.out hw107_5), (hc_ HB.out hw107_6)⟩ (fun hHeld => ?_)
               clear hK K
               refine norm_ (a' := ?_) ?_ ?_; rotate_left; go_simp; rfl
               refine pu_ HT_ 2 30 (bA 33 7) (v := ?_) (a' := ?_) rfl rfl (by kernel_rfl) (fun _ _ _ h => h) (by rfl) ?_ ?_ ?_; rotate_left; intro w'; go_simp; with_reducible rfl; rotate_left; go_simp; rfl
               refine pu_ HT_ 3 31 (bA 33 15) (v := ?_) (a' := ?_) rfl rfl (by kernel_rfl) (fun _ _ _ h => h) (by rfl) ?_ ?_ ?_; rotate_left; intro w'; go_simp; with_reducible rfl; rotate_left; go_simp; rfl
               refine pu_ HT_ 4 32 (bA 33 31) (v := ?_) (a' := ?_) rfl rfl (by kernel_rfl) (fun _ _ _ h => h) (by rfl) ?_ ?_ ?_; rotate_left; intro w'; go_simp; with_reducible rfl; rotate_left; go_simp; rfl
               refine pu_ HT_ 6 34 (bA 33 95) (v := ?_) (a' := ?_) rfl rfl (by kernel_rfl) (fun _ _ _ h => h) (by rfl) ?_ ?_ ?_; rotate_left; intro w'; go_simp; with_reducible rfl; rotate_left; go_simp; rfl
               refine take_ (i := 5) (N := some 33) (v := ?_) (a' := ?_) (bA 33 127) rfl rfl (take_ofW HT_.out HW_.out (by kernel_rfl)) (fun _ _ _ h => h) (Or.inl ⟨by rfl, ?_⟩) hHeld ?_ ?_
               rotate_left; rintro w' ⟨s0, s1, s2, s3, s4, s5, s6, s7, s8, s9, s10, s11, s12, s13, s14, s15⟩; go_simp; with_reducible rfl; rotate_left; go_simp; rfl
               refine take_ (i := 7) (N := some 35) (v := ?_) (a' := ?_) (bA 33 255) rfl rfl (take_ofW HT_.out HW_.out (by kernel_rfl)) (fun _ _ _ h => h) (Or.inl ⟨by rfl, ?_⟩) hHeld ?_ ?_
               rotate_left; rintro w' ⟨s0, s1, s2, s3, s4, s5, s6, s7, s8, s9, s10, s11, s12, s13, s14, s15⟩; go_simp; with_reducible rfl; rotate_left; go_simp; rfl
               refine one_ (i := 8) (N := some 36) (bA 33 511) rfl rfl (one_of HT_.out (by kernel_rfl)) (by decide) (fun K hK => ?_)
               refine goes_ Try.func96 (by kernel_rfl) rfl #[.agg #[.slice A103_0 ((rd_T33 l0_1 x4_2).f0.f0).length c103_0], .agg #[.slice A0_0 l0_0.length c0_0]] (by rfl) rfl rfl (by first | rfl | (simp only [List.map_toArray, List.map_cons, List.map_nil]; first | done | rfl)) ?_
               with_reducible refine (spec_l2under.calls k2 _ _ ((rd_T33 l0_1 x4_2).f0.f0) _ _ l0_0 true _ ?side1 ?side2 ?side3 ?side4 A21.out).mono ?_
               (case side1 => exact cw HR103_0.out HB.out)
               (case side2 => exact HC103_0.out)
               (case side3 => exact cw HR0_0.out HB.out)
               (case side4 => exact HC0_0.out)
               rintro e w38 ⟨rfl, hb⟩
               refine ⟨_, rfl, ?_⟩
               have n0_ := ak (blk_below (bk BK101.out) hb)
               have n1_ := ak (blk_below (bk BK104.out) hb)
               have n2_ := ak (below_step (by repeat (first | exact bw HB.out | refine below_set ?_ GE101.out | refine below_set ?_ GE104.out)) hb)
               clear BK101
               clear BK104
               clear HB
               have BK101 := n0_
               have BK104 := n1_
               have HB := n2_
               clear n0_ n1_ n2_
               (try clear hb)
               (try clear hb2)
               (try clear hk)
               (try clear hi)
               refine hK.out _ _ ⟨(blk_cell BK104.out 0).trans rfl, (blk_cell BK104.out 1).trans rfl, (blk_cell BK104.out 2).trans rfl, (blk_cell BK104.out 3).trans rfl, (blk_cell BK104.out 4).trans rfl, (blk_cell BK104.out 5).trans rfl, (blk_cell BK104.out 6).trans rfl, (blk_cell BK101.out 0).trans rfl, (blk_cell BK101.out 1).trans rfl, (hc_ HB.out hw107_0), (hc_ HB.out hw107_1), (hc_ HB.out hw107_2), (hc_ HB.out hw107_3), (hc_ HB.out hw107_4), (hc_ HB.out hw107_5), (hc_ HB.out hw107_6)⟩ (fun hHeld => ?_)
               clear hK K
               refine norm_ (a' := ?_) ?_ ?_; rotate_left; go_simp; rfl
               refine pu_ HT_ 9 37 (bA 33 1023) (v := ?_) (a' := ?_) rfl rfl (by kernel_rfl) (fun _ _ _ h => h) (by rfl) ?_ ?_ ?_; rotate_left; intro w'; go_simp; with_reducible rfl; rotate_left; go_simp; rfl
               refine pu_ HT_ 10 38 (bA 33 2047) (v := ?_) (a' := ?_) rfl rfl (by kernel_rfl) (fun _ _ _ h => h) (by rfl) ?_ ?_ ?_; rotate_left; intro w'; go_simp; with_reducible rfl; rotate_left; go_simp; rfl
               refine pu_ HT_ 11 39 (bA 33 4095) (v := ?_) (a' := ?_) rfl rfl (by kernel_rfl) (fun _ _ _ h => h) (by rfl) ?_ ?_ ?_; rotate_left; intro w'; go_simp; with_reducible rfl; rotate_left; go_simp; rfl
               refine pu_ HT_ 12 40 (bA 33 8191) (v := ?_) (a' := ?_) rfl rfl (by kernel_rfl) (fun _ _ _ h => h) (by rfl) ?_ ?_ ?_; rotate_left; intro w'; go_simp; with_reducible rfl; rotate_left; go_simp; rfl
               refine pu_ HT_ 13 41 (bA 33 16383) (v := ?_) (a' := ?_) rfl rfl (by kernel_rfl) (fun _ _ _ h => h) (by rfl) ?_ ?_ ?_; rotate_left; intro w'; go_simp; with_reducible rfl; rotate_left; go_simp; rfl
               refine pu_ HT_ 14 42 (bA 33 32767) (v := ?_) (a' := ?_) rfl rfl (by kernel_rfl) (fun _ _ _ h => h) (by rfl) ?_ ?_ ?_; rotate_left; intro w'; go_simp; with_reducible rfl; rotate_left; go_simp; rfl
               refine pu_ HT_ 15 43 (bA 33 65535) (v := ?_) (a' := ?_) rfl rfl (by kernel_rfl) (fun _ _ _ h => h) (by rfl) ?_ ?_ ?_; rotate_left; intro w'; go_simp; with_reducible rfl; rotate_left; go_simp; rfl
               refine pu_ HT_ 17 45 (bA 33 196607) (v := ?_) (a' := ?_) rfl rfl (by kernel_rfl) (fun _ _ _ h => h) (by rfl) ?_ ?_ ?_; rotate_left; intro w'; go_simp; with_reducible rfl; rotate_left; go_simp; rfl
               refine pu_ HT_ 18 46 (bA 33 458751) (v := ?_) (a' := ?_) rfl rfl (by kernel_rfl) (fun _ _ _ h => h) (by rfl) ?_ ?_ ?_; rotate_left; intro w'; go_simp; with_reducible rfl; rotate_left; go_simp; rfl
               refine take_ (i := 16) (N := some 44) (v := ?_) (a' := ?_) (bA 33 524287) rfl rfl (take_ofW HT_.out HW_.out (by kernel_rfl)) (fun _ _ _ h => h) (Or.inl ⟨by rfl, ?_⟩) hHeld ?_ ?_
               rotate_left; rintro w' ⟨s0, s1, s2, s3, s4, s5, s6, s7, s8, s9, s10, s11, s12, s13, s14, s15⟩; go_simp; with_reducible rfl; rotate_left; go_simp; rfl
               refine pu_ HT_ 19 47 (bA 33 1048575) (v := ?_) (a' := ?_) rfl rfl (by kernel_rfl) (fun _ _ _ h => h) (by rfl) ?_ ?_ ?_; rotate_left; intro w'; go_simp; with_reducible rfl; rotate_left; go_simp; rfl
               refine take_ (i := 20) (N := some 48) (v := ?_) (a' := ?_) (bA 33 2097151) rfl rfl (take_ofW HT_.out HW_.out (by kernel_rfl)) (fun _ _ _ h => h) (Or.inl ⟨by rfl, ?_⟩) hHeld ?_ ?_
               rotate_left; rintro w' ⟨s0, s1, s2, s3, s4, s5, s6, s7, s8, s9, s10, s11, s12, s13, s14, s15⟩; go_simp; with_reducible rfl; rotate_left; go_simp; rfl
               refine take_ (i := 21) (N := some 49) (v := ?_) (a' := ?_) (bA 33 4194303) rfl rfl (take_ofW HT_.out HW_.out (by kernel_rfl)) (fun _ _ _ h => h) (Or.inl ⟨by rfl, ?_⟩) hHeld ?_ ?_
               rotate_left; rintro w' ⟨s0, s1, s2, s3, s4, s5, s6, s7, s8, s9, s10, s11, s12, s13, s14, s15⟩; go_simp; with_reducible rfl; rotate_left; go_simp; rfl
               refine one_ (i := 22) (N := some 50) (bA 33 8388607) rfl rfl (one_of HT_.out (by kernel_rfl)) (by decide) (fun K hK => ?_)
               refine goes_ Try.func61 (by kernel_rfl) rfl #[.agg #[.slice A107_0 ((rd_T33 l0_1 (ji24)).f0.f0).length c107_0, .int .i64 ((rd_T33 l0_1 (ji24)).f1), .int .i64 ((rd_T33 l0_1 (ji24)).f2), .int .i64 ((rd_T33 l0_1 (ji24)).f3), .slice A107_4 ((rd_T33 l0_1 (ji24)).f4.f0).length c107_4, .slice A107_5 ((rd_T33 l0_1 (ji24)).f5).length c107_5, .slice A107_6 ((rd_T33 l0_1 (ji24)).f6).length c107_6], .agg #[.slice A103_0 ((rd_T33 l0_1 x4_2).f0.f0).length c103_0, .int .i64 ((rd_T33 l0_1 x4_2).f1), .int .i64 ((rd_T33 l0_1 x4_2).f2), .int .i64 ((rd_T33 l0_1 x4_2).f3), .slice A103_4 ((rd_T33 l0_1 x4_2).f4.f0).length c103_4, .slice A103_5 ((rd_T33 l0_1 x4_2).f5).length c103_5, .slice A103_6 ((rd_T33 l0_1 x4_2).f6).length c103_6]] (by rfl) rfl rfl (by (try simp only [List.map_toArray, List.map_cons, List.map_nil]); first | done | (simp only [hji24]; rfl) | rfl | (simp only [List.length_drop, List.length_take]; rfl)) ?_
               with_reducible refine (spec_l3cmp.calls k2 _ _ ((rd_T33 l0_1 (ji24)).f0.f0) ((rd_T33 l0_1 (ji24)).f1) ((rd_T33 l0_1 (ji24)).f2) ((rd_T33 l0_1 (ji24)).f3) _ _ ((rd_T33 l0_1 (ji24)).f4.f0) _ _ ((rd_T33 l0_1 (ji24)).f5) _ _ ((rd_T33 l0_1 (ji24)).f6) _ _ ((rd_T33 l0_1 x4_2).f0.f0) ((rd_T33 l0_1 x4_2).f1) ((rd_T33 l0_1 x4_2).f2) ((rd_T33 l0_1 x4_2).f3) _ _ ((rd_T33 l0_1 x4_2).f4.f0) _ _ ((rd_T33 l0_1 x4_2).f5) _ _ ((rd_T33 l0_1 x4_2).f6) t108 _ ?side1 ?side2 ?side3 ?side4 ?side5 ?side6 ?side7 ?side8 ?side9 ?side10 ?side11 ?side12 ?side13 ?side14 ?side15 ?side16 A27.out).mono ?_
               (case side1 => exact cw HR107_0.out HB.out)
               (case side2 => exact HC107_0.out)
               (case side3 => exact cw HR107_4.out HB.out)
               (case side4 => exact HC107_4.out)
               (case side5 => exact cw HR107_5.out HB.out)
               (case side6 => exact HC107_5.out)
               (case side7 => exact cw HR107_6.out HB.out)
               (case side8 => exact HC107_6.out)
               (case side9 => exact cw HR103_0.out HB.out)
               (case side10 => exact HC103_0.out)
               (case side11 => exact cw HR103_4.out HB.out)
               (case side12 => exact HC103_4.out)
               (case side13 => exact cw HR103_5.out HB.out)
               (case side14 => exact HC103_5.out)
               (case side15 => exact cw HR103_6.out HB.out)
               (case side16 => exact HC103_6.out)
               rintro e w39 ⟨rfl, hb⟩
               refine ⟨_, rfl, ?_⟩
               have n0_ := ak (blk_below (bk BK101.out) hb)
               have n1_ := ak (blk_below (bk BK104.out) hb)
               have n2_ := ak (below_step (by repeat (first | exact bw HB.out | refine below_set ?_ GE101.out | refine below_set ?_ GE104.out)) hb)
               clear BK101
               clear BK104
               clear HB
               have BK101 := n0_
               have BK104 := n1_
               have HB := n2_
               clear n0_ n1_ n2_
               (try clear hb)
               (try clear hb2)
               (try clear hk)
               (try clear hi)
               refine hK.out _ _ ⟨(blk_cell BK104.out 0).trans rfl, (blk_cell BK104.out 1).trans rfl, (blk_cell BK104.out 2).trans rfl, (blk_cell BK104.out 3).trans rfl, (blk_cell BK104.out 4).trans rfl, (blk_cell BK104.out 5).trans rfl, (blk_cell BK104.out 6).trans rfl, (blk_cell BK101.out 0).trans rfl, (blk_cell BK101.out 1).trans rfl, (hc_ HB.out hw107_0), (hc_ HB.out hw107_1), (hc_ HB.out hw107_2), (hc_ HB.out hw107_3), (hc_ HB.out hw107_4), (hc_ HB.out hw107_5), (hc_ HB.out hw107_6)⟩ (fun hHeld => ?_)
               clear hK K
               refine norm_ (a' := ?_) ?_ ?_; rotate_left; go_simp; rfl
               refine pu_ HT_ 23 51 (bA 33 16777215) (v := ?_) (a' := ?_) rfl rfl (by kernel_rfl) (fun _ _ _ h => h) (by rfl) ?_ ?_ ?_; rotate_left; intro w'; go_simp; with_reducible rfl; rotate_left; go_simp; rfl
               refine pu_ HT_ 24 52 (bA 33 33554431) (v := ?_) (a' := ?_) rfl rfl (by kernel_rfl) (fun _ _ _ h => h) (by rfl) ?_ ?_ ?_; rotate_left; intro w'; go_simp; with_reducible rfl; rotate_left; go_simp; rfl
               refine pu_ HT_ 25 53 (bA 33 67108863) (v := ?_) (a' := ?_) rfl rfl (by kernel_rfl) (fun _ _ _ h => h) (by rfl) ?_ ?_ ?_; rotate_left; intro w'; go_simp; with_reducible rfl; rotate_left; go_simp; rfl
               refine pu_ HT_ 26 54 (bA 33 134217727) (v := ?_) (a' := ?_) rfl rfl (by kernel_rfl) (fun _ _ _ h => h) (by rfl) ?_ ?_ ?_; rotate_left; intro w'; go_simp; with_reducible rfl; rotate_left; go_simp; rfl
               refine pu_ HT_ 27 55 (bA 33 268435455) (v := ?_) (a' := ?_) rfl rfl (by kernel_rfl) (fun _ _ _ h => h) (by rfl) ?_ ?_ ?_; rotate_left; intro w'; go_simp; with_reducible rfl; rotate_left; go_simp; rfl
               refine pu_ HT_ 29 57 (bA 33 805306367) (v := ?_) (a' := ?_) rfl rfl (by kernel_rfl) (fun _ _ _ h => h) (by rfl) ?_ ?_ ?_; rotate_left; intro w'; go_simp; with_reducible rfl; rotate_left; go_simp; rfl
               refine take_ (i := 28) (N := some 56) (v := ?_) (a' := ?_) (bA 33 1073741823) rfl rfl (take_ofW HT_.out HW_.out (by kernel_rfl)) (fun _ _ _ h => h) (Or.inl ⟨by rfl, ?_⟩) hHeld ?_ ?_
               rotate_left; rintro w' ⟨s0, s1, s2, s3, s4, s5, s6, s7, s8, s9, s10, s11, s12, s13, s14, s15⟩; go_simp; with_reducible rfl; rotate_left; go_simp; rfl
               refine one_ (i := 30) (N := some 58) (bA 33 2147483647) rfl rfl (one_of HT_.out (by kernel_rfl)) (by decide) (fun K hK => ?_)
               refine goes_ Try.func97 (by kernel_rfl) rfl #[.slice (some ad103) l0_1.length c0_1, .int .i64 x4_2] (by rfl) rfl rfl (by first | rfl | (simp only [List.map_toArray, List.map_cons, List.map_nil]; first | done | rfl)) ?_
               with_reducible refine (spec_l5alone.calls k2 _ _ l0_1 x4_2 t109 _ ?side1 ?side2 A34.out).mono ?_
               (case side1 => exact cw HR0_1.out HB.out)
               (case side2 => exact HC0_1.out)
               rintro e w40 ⟨rfl, hb⟩
               refine ⟨_, rfl, ?_⟩
               have n0_ := ak (blk_below (bk BK101.out) hb)
               have n1_ := ak (blk_below (bk BK104.out) hb)
               have n2_ := ak (below_step (by repeat (first | exact bw HB.out | refine below_set ?_ GE101.out | refine below_set ?_ GE104.out)) hb)
               clear BK101
               clear BK104
               clear HB
               have BK101 := n0_
               have BK104 := n1_
               have HB := n2_
               clear n0_ n1_ n2_
               (try clear hb)
               (try clear hb2)
               (try clear hk)
               (try clear hi)
               refine hK.out _ _ ⟨(blk_cell BK104.out 0).trans rfl, (blk_cell BK104.out 1).trans rfl, (blk_cell BK104.out 2).trans rfl, (blk_cell BK104.out 3).trans rfl, (blk_cell BK104.out 4).trans rfl, (blk_cell BK104.out 5).trans rfl, (blk_cell BK104.out 6).trans rfl, (blk_cell BK101.out 0).trans rfl, (blk_cell BK101.out 1).trans rfl, (hc_ HB.out hw107_0), (hc_ HB.out hw107_1), (hc_ HB.out hw107_2), (hc_ HB.out hw107_3), (hc_ HB.out hw107_4), (hc_ HB.out hw107_5), (hc_ HB.out hw107_6)⟩ (fun hHeld => ?_)
               clear hK K
               refine norm_ (a' := ?_) ?_ ?_; rotate_left; go_simp; rfl
               refine pu_ HT_ 31 59 (bA 33 4294967295) (v := ?_) (a' := ?_) rfl rfl (by kernel_rfl) (fun _ _ _ h => h) (by rfl) ?_ ?_ ?_; rotate_left; intro w'; go_simp; with_reducible rfl; rotate_left; go_simp; rfl
               refine pu_ HT_ 32 60 (bA 33 8589934591) (v := ?_) (a' := ?_) rfl rfl (by kernel_rfl) (fun _ _ _ h => h) (by rfl) ?_ ?_ ?_; rotate_left; intro w'; go_simp; with_reducible rfl; rotate_left; go_simp; rfl
               refine done_ (done_of HT_.out (by kernel_rfl)) ?_
               try go_wp2
               go_meet
               case rel => exact ⟨_, (!t109), (by first | rfl | (simp; done) | (simp [*]; done)), H', ⟨by have := HJ1.out; have := HK2.out; first | omega | exact Nat.le_refl _⟩, ⟨bk BK101.out⟩, ⟨bk BK104.out⟩, ⟨by repeat (first | exact bw HB.out | refine below_set ?_ GE101.out | refine below_set ?_ GE104.out)⟩⟩
             ·rw [if_neg c26] at H
              exact absurd H (by simp)
            ·rw [if_neg c25] at H
             exact absurd H (by simp)
           ·rw [if_neg c23] at H
            have c23b0 : decide (0 < x4_2) = false := decide_eq_false c23
            clear c23
            (first | rw [c23b0] | (simp only [i64_w, i32_w]; rw [c23b0]) | skip)
            replace H := Option.bind_eq_some_iff.mp H
            obtain ⟨t110, A410, H⟩ := H
            replace H : (spec_ZoneOk.j2 k2 x3_2 x4_2 (!t110) l0_0 l0_1 ((rd_T33 l0_1 x4_2).f0.f0) ((rd_T33 l0_1 x4_2).f1) ((rd_T33 l0_1 x4_2).f2) ((rd_T33 l0_1 x4_2).f3) ((rd_T33 l0_1 x4_2).f4.f0) ((rd_T33 l0_1 x4_2).f5) ((rd_T33 l0_1 x4_2).f6)) = some r := H
            have A41 := ak A410
            clear A410
            have H' := ak H
            clear H
            try go_wp2
            have n0_ : Aside0 ((((((((w16.setCell ⟨gb104, 0, none⟩ (.slice A103_0 ((rd_T33 l0_1 x4_2).f0.f0).length c103_0)).setCell ⟨gb104, 1, none⟩ (.int .i64 ((rd_T33 l0_1 x4_2).f1))).setCell ⟨gb104, 2, none⟩ (.int .i64 ((rd_T33 l0_1 x4_2).f2))).setCell ⟨gb104, 3, none⟩ (.int .i64 ((rd_T33 l0_1 x4_2).f3))).setCell ⟨gb104, 4, none⟩ (.slice A103_4 ((rd_T33 l0_1 x4_2).f4.f0).length c103_4)).setCell ⟨gb104, 5, none⟩ (.slice A103_5 ((rd_T33 l0_1 x4_2).f5).length c103_5)).setCell ⟨gb104, 6, none⟩ (.slice A103_6 ((rd_T33 l0_1 x4_2).f6).length c103_6)).heap[gb101]? = some (.cells #[.slice A0_0 l0_0.length c0_0, .slice (some ad103) l0_1.length c0_1] 59 (0, 0))) := ⟨bfar7 NB101_104.out BK101.out⟩
            have n1_ : Aside0 ((((((((w16.setCell ⟨gb104, 0, none⟩ (.slice A103_0 ((rd_T33 l0_1 x4_2).f0.f0).length c103_0)).setCell ⟨gb104, 1, none⟩ (.int .i64 ((rd_T33 l0_1 x4_2).f1))).setCell ⟨gb104, 2, none⟩ (.int .i64 ((rd_T33 l0_1 x4_2).f2))).setCell ⟨gb104, 3, none⟩ (.int .i64 ((rd_T33 l0_1 x4_2).f3))).setCell ⟨gb104, 4, none⟩ (.slice A103_4 ((rd_T33 l0_1 x4_2).f4.f0).length c103_4)).setCell ⟨gb104, 5, none⟩ (.slice A103_5 ((rd_T33 l0_1 x4_2).f5).length c103_5)).setCell ⟨gb104, 6, none⟩ (.slice A103_6 ((rd_T33 l0_1 x4_2).f6).length c103_6)).heap[gb104]? = some (.cells #[.slice A103_0 ((rd_T33 l0_1 x4_2).f0.f0).length c103_0, .int .i64 ((rd_T33 l0_1 x4_2).f1), .int .i64 ((rd_T33 l0_1 x4_2).f2), .int .i64 ((rd_T33 l0_1 x4_2).f3), .slice A103_4 ((rd_T33 l0_1 x4_2).f4.f0).length c103_4, .slice A103_5 ((rd_T33 l0_1 x4_2).f5).length c103_5, .slice A103_6 ((rd_T33 l0_1 x4_2).f6).length c103_6] 33 (0, 0))) := ⟨bput7 BK104.out⟩
            have n2_ : Aside0 (Below w.heap.size w (((((((w16.setCell ⟨gb104, 0, none⟩ (.slice A103_0 ((rd_T33 l0_1 x4_2).f0.f0).length c103_0)).setCell ⟨gb104, 1, none⟩ (.int .i64 ((rd_T33 l0_1 x4_2).f1))).setCell ⟨gb104, 2, none⟩ (.int .i64 ((rd_T33 l0_1 x4_2).f2))).setCell ⟨gb104, 3, none⟩ (.int .i64 ((rd_T33 l0_1 x4_2).f3))).setCell ⟨gb104, 4, none⟩ (.slice A103_4 ((rd_T33 l0_1 x4_2).f4.f0).length c103_4)).setCell ⟨gb104, 5, none⟩ (.slice A103_5 ((rd_T33 l0_1 x4_2).f5).length c103_5)).setCell ⟨gb104, 6, none⟩ (.slice A103_6 ((rd_T33 l0_1 x4_2).f6).length c103_6))) := ⟨by repeat (first | exact bw HB.out | refine below_set ?_ GE101.out | refine below_set ?_ GE104.out)⟩
            (try clear BK101)
            (try clear BK104)
            (try clear HB)
            generalize (((((((w16.setCell ⟨gb104, 0, none⟩ (.slice A103_0 ((rd_T33 l0_1 x4_2).f0.f0).length c103_0)).setCell ⟨gb104, 1, none⟩ (.int .i64 ((rd_T33 l0_1 x4_2).f1))).setCell ⟨gb104, 2, none⟩ (.int .i64 ((rd_T33 l0_1 x4_2).f2))).setCell ⟨gb104, 3, none⟩ (.int .i64 ((rd_T33 l0_1 x4_2).f3))).setCell ⟨gb104, 4, none⟩ (.slice A103_4 ((rd_T33 l0_1 x4_2).f4.f0).length c103_4)).setCell ⟨gb104, 5, none⟩ (.slice A103_5 ((rd_T33 l0_1 x4_2).f5).length c103_5)).setCell ⟨gb104, 6, none⟩ (.slice A103_6 ((rd_T33 l0_1 x4_2).f6).length c103_6)) = w42 at n0_ n1_ n2_ ⊢
            have BK101 := n0_
            have BK104 := n1_
            have HB := n2_
            clear n0_ n1_ n2_
            have n0_ := ak (blk_drew BK101.out)
            have n1_ := ak (blk_drew BK104.out)
            have n2_ := ak (below_drew1 HB.out)
            clear BK101
            clear BK104
            clear HB
            have BK101 := n0_
            have BK104 := n1_
            have HB := n2_
            clear n0_ n1_ n2_
            refine start_ (n := 33) (S := fun w' => w'.cell? ⟨gb104, 0, none⟩ = some (.slice A103_0 ((rd_T33 l0_1 x4_2).f0.f0).length c103_0) ∧ w'.cell? ⟨gb104, 1, none⟩ = some (.int .i64 ((rd_T33 l0_1 x4_2).f1)) ∧ w'.cell? ⟨gb104, 2, none⟩ = some (.int .i64 ((rd_T33 l0_1 x4_2).f2)) ∧ w'.cell? ⟨gb104, 3, none⟩ = some (.int .i64 ((rd_T33 l0_1 x4_2).f3)) ∧ w'.cell? ⟨gb104, 4, none⟩ = some (.slice A103_4 ((rd_T33 l0_1 x4_2).f4.f0).length c103_4) ∧ w'.cell? ⟨gb104, 5, none⟩ = some (.slice A103_5 ((rd_T33 l0_1 x4_2).f5).length c103_5) ∧ w'.cell? ⟨gb104, 6, none⟩ = some (.slice A103_6 ((rd_T33 l0_1 x4_2).f6).length c103_6) ∧ w'.cell? ⟨gb101, 0, none⟩ = some (.slice A0_0 l0_0.length c0_0) ∧ w'.cell? ⟨gb101, 1, none⟩ = some (.slice (some ad103) l0_1.length c0_1)) (ds := []) (bA 33 0) (by kernel_rfl) rfl rfl ⟨(blk_cell BK104.out 0).trans rfl, (blk_cell BK104.out 1).trans rfl, (blk_cell BK104.out 2).trans rfl, (blk_cell BK104.out 3).trans rfl, (blk_cell BK104.out 4).trans rfl, (blk_cell BK104.out 5).trans rfl, (blk_cell BK104.out 6).trans rfl, (blk_cell BK101.out 0).trans rfl, (blk_cell BK101.out 1).trans rfl⟩ (fun hHeld => ?_); refine with_tabW spec_ZoneOk.tab8 spec_ZoneOk.bits8 (fun HT_ HW_ => ?_)
            generalize w42.drew = w43 at BK101 BK104 HB hHeld ⊢
            refine take_ (i := 0) (N := some 28) (v := ?_) (a' := ?_) (bA 33 1) rfl rfl (take_ofW HT_.out HW_.out (by kernel_rfl)) (fun _ _ _ h => h) (Or.inl ⟨by rfl, ?_⟩) hHeld ?_ ?_
            rotate_left; rintro w' ⟨s0, s1, s2, s3, s4, s5, s6, s7, s8⟩; go_simp; with_reducible rfl; rotate_left; go_simp; rfl
            refine one_ (i := 1) (N := some 29) (bA 33 3) rfl rfl (one_of HT_.out (by kernel_rfl)) (by decide) (fun K hK => ?_)
            refine goes_ Try.func60 (by kernel_rfl) rfl #[.agg #[.slice A103_0 ((rd_T33 l0_1 x4_2).f0.f0).length c103_0, .int .i64 ((rd_T33 l0_1 x4_2).f1), .int .i64 ((rd_T33 l0_1 x4_2).f2), .int .i64 ((rd_T33 l0_1 x4_2).f3), .slice A103_4 ((rd_T33 l0_1 x4_2).f4.f0).length c103_4, .slice A103_5 ((rd_T33 l0_1 x4_2).f5).length c103_5, .slice A103_6 ((rd_T33 l0_1 x4_2).f6).length c103_6]] (by rfl) rfl rfl (by first | rfl | (simp only [List.map_toArray, List.map_cons, List.map_nil]; first | done | rfl)) ?_
            with_reducible refine (spec_RrOk.calls k2 _ _ ((rd_T33 l0_1 x4_2).f0.f0) ((rd_T33 l0_1 x4_2).f1) ((rd_T33 l0_1 x4_2).f2) ((rd_T33 l0_1 x4_2).f3) _ _ ((rd_T33 l0_1 x4_2).f4.f0) _ _ ((rd_T33 l0_1 x4_2).f5) _ _ ((rd_T33 l0_1 x4_2).f6) true _ ?side1 ?side2 ?side3 ?side4 ?side5 ?side6 ?side7 ?side8 A19.out).mono ?_
            (case side1 => exact cw HR103_0.out HB.out)
            (case side2 => exact HC103_0.out)
            (case side3 => exact cw HR103_4.out HB.out)
            (case side4 => exact HC103_4.out)
            (case side5 => exact cw HR103_5.out HB.out)
            (case side6 => exact HC103_5.out)
            (case side7 => exact cw HR103_6.out HB.out)
            (case side8 => exact HC103_6.out)
            rintro e w44 ⟨rfl, hb⟩
            refine ⟨_, rfl, ?_⟩
            have n0_ := ak (blk_below (bk BK101.out) hb)
            have n1_ := ak (blk_below (bk BK104.out) hb)
            have n2_ := ak (below_step (by repeat (first | exact bw HB.out | refine below_set ?_ GE101.out | refine below_set ?_ GE104.out)) hb)
            clear BK101
            clear BK104
            clear HB
            have BK101 := n0_
            have BK104 := n1_
            have HB := n2_
            clear n0_ n1_ n2_
            (try clear hb)
            (try clear hb2)
            (try clear hk)
            (try clear hi)
            refine hK.out _ _ ⟨(blk_cell BK104.out 0).trans rfl, (blk_cell BK104.out 1).trans rfl, (blk_cell BK104.out 2).trans rfl, (blk_cell BK104.out 3).trans rfl, (blk_cell BK104.out 4).trans rfl, (blk_cell BK104.out 5).trans rfl, (blk_cell BK104.out 6).trans rfl, (blk_cell BK101.out 0).trans rfl, (blk_cell BK101.out 1).trans rfl⟩ (fun hHeld => ?_)
            clear hK K
            refine norm_ (a' := ?_) ?_ ?_; rotate_left; go_simp; rfl
            refine pu_ HT_ 2 30 (bA 33 7) (v := ?_) (a' := ?_) rfl rfl (by kernel_rfl) (fun _ _ _ h => h) (by rfl) ?_ ?_ ?_; rotate_left; intro w'; go_simp; with_reducible rfl; rotate_left; go_simp; rfl
            refine pu_ HT_ 3 31 (bA 33 15) (v := ?_) (a' := ?_) rfl rfl (by kernel_rfl) (fun _ _ _ h => h) (by rfl) ?_ ?_ ?_; rotate_left; intro w'; go_simp; with_reducible rfl; rotate_left; go_simp; rfl
            refine pu_ HT_ 4 32 (bA 33 31) (v := ?_) (a' := ?_) rfl rfl (by kernel_rfl) (fun _ _ _ h => h) (by rfl) ?_ ?_ ?_; rotate_left; intro w'; go_simp; with_reducible rfl; rotate_left; go_simp; rfl
            refine pu_ HT_ 6 34 (bA 33 95) (v := ?_) (a' := ?_) rfl rfl (by kernel_rfl) (fun _ _ _ h => h) (by rfl) ?_ ?_ ?_; rotate_left; intro w'; go_simp; with_reducible rfl; rotate_left; go_simp; rfl
            refine take_ (i := 5) (N := some 33) (v := ?_) (a' := ?_) (bA 33 127) rfl rfl (take_ofW HT_.out HW_.out (by kernel_rfl)) (fun _ _ _ h => h) (Or.inl ⟨by rfl, ?_⟩) hHeld ?_ ?_
            rotate_left; rintro w' ⟨s0, s1, s2, s3, s4, s5, s6, s7, s8⟩; go_simp; with_reducible rfl; rotate_left; go_simp; rfl
            refine take_ (i := 7) (N := some 35) (v := ?_) (a' := ?_) (bA 33 255) rfl rfl (take_ofW HT_.out HW_.out (by kernel_rfl)) (fun _ _ _ h => h) (Or.inl ⟨by rfl, ?_⟩) hHeld ?_ ?_
            rotate_left; rintro w' ⟨s0, s1, s2, s3, s4, s5, s6, s7, s8⟩; go_simp; with_reducible rfl; rotate_left; go_simp; rfl
            refine one_ (i := 8) (N := some 36) (bA 33 511) rfl rfl (one_of HT_.out (by kernel_rfl)) (by decide) (fun K hK => ?_)
            refine goes_ Try.func96 (by kernel_rfl) rfl #[.agg #[.slice A103_0 ((rd_T33 l0_1 x4_2).f0.f0).length c103_0], .agg #[.slice A0_0 l0_0.length c0_0]] (by rfl) rfl rfl (by first | rfl | (simp only [List.map_toArray, List.map_cons, List.map_nil]; first | done | rfl)) ?_
            with_reducible refine (spec_l2under.calls k2 _ _ ((rd_T33 l0_1 x4_2).f0.f0) _ _ l0_0 true _ ?side1 ?side2 ?side3 ?side4 A21.out).mono ?_
            (case side1 => exact cw HR103_0.out HB.out)
            (case side2 => exact HC103_0.out)
            (case side3 => exact cw HR0_0.out HB.out)
            (case side4 => exact HC0_0.out)
            rintro e w45 ⟨rfl, hb⟩
            refine ⟨_, rfl, ?_⟩
            have n0_ := ak (blk_below (bk BK101.out) hb)
            have n1_ := ak (blk_below (bk BK104.out) hb)
            have n2_ := ak (below_step (by repeat (first | exact bw HB.out | refine below_set ?_ GE101.out | refine below_set ?_ GE104.out)) hb)
            clear BK101
            clear BK104
            clear HB
            have BK101 := n0_
            have BK104 := n1_
            have HB := n2_
            clear n0_ n1_ n2_
            (try clear hb)
            (try clear hb2)
            (try clear hk)
            (try clear hi)
            refine hK.out _ _ ⟨(blk_cell BK104.out 0).trans rfl, (blk_cell BK104.out 1).trans rfl, (blk_cell BK104.out 2).trans rfl, (blk_cell BK104.out 3).trans rfl, (blk_cell BK104.out 4).trans rfl, (blk_cell BK104.out 5).trans rfl, (blk_cell BK104.out 6).trans rfl, (blk_cell BK101.out 0).trans rfl, (blk_cell BK101.out 1).trans rfl⟩ (fun hHeld => ?_)
            clear hK K
            refine norm_ (a' := ?_) ?_ ?_; rotate_left; go_simp; rfl
            refine pu_ HT_ 9 37 (bA 33 1023) (v := ?_) (a' := ?_) rfl rfl (by kernel_rfl) (fun _ _ _ h => h) (by rfl) ?_ ?_ ?_; rotate_left; intro w'; go_simp; with_reducible rfl; rotate_left; go_simp; rfl
            refine pu_ HT_ 10 38 (bA 33 2047) (v := ?_) (a' := ?_) rfl rfl (by kernel_rfl) (fun _ _ _ h => h) (by rfl) ?_ ?_ ?_; rotate_left; intro w'; go_simp; with_reducible rfl; rotate_left; go_simp; rfl
            refine pu_ HT_ 11 39 (bA 33 4095) (v := ?_) (a' := ?_) rfl rfl (by kernel_rfl) (fun _ _ _ h => h) (by rfl) ?_ ?_ ?_; rotate_left; intro w'; go_simp; with_reducible rfl; rotate_left; go_simp; rfl
            refine pu_ HT_ 12 40 (bA 33 8191) (v := ?_) (a' := ?_) rfl rfl (by kernel_rfl) (fun _ _ _ h => h) (by rfl) ?_ ?_ ?_; rotate_left; intro w'; go_simp; with_reducible rfl; rotate_left; go_simp; rfl
            refine pu_ HT_ 13 41 (bA 33 16383) (v := ?_) (a' := ?_) rfl rfl (by kernel_rfl) (fun _ _ _ h => h) (by rfl) ?_ ?_ ?_; rotate_left; intro w'; go_simp; with_reducible rfl; rotate_left; go_simp; rfl
            refine pu_ HT_ 14 42 (bA 33 32767) (v := ?_) (a' := ?_) rfl rfl (by kernel_rfl) (fun _ _ _ h => h) (by rfl) ?_ ?_ ?_; rotate_left; intro w'; go_simp; with_reducible rfl; rotate_left; go_simp; rfl
            refine sk_ HT_ 15 43 (bA 33 65535) (a' := ?_) rfl rfl (by kernel_rfl) (fun _ _ _ h => h) (by rfl) ?_ ?_; rotate_left; go_simp; rfl
            refine sk_ HT_ 16 44 (bA 33 131071) (a' := ?_) rfl rfl (by kernel_rfl) (fun _ _ _ h => h) (by rfl) ?_ ?_; rotate_left; go_simp; rfl
            refine sk_ HT_ 17 45 (bA 33 262143) (a' := ?_) rfl rfl (by kernel_rfl) (fun _ _ _ h => h) (by rfl) ?_ ?_; rotate_left; go_simp; rfl
            refine sk_ HT_ 18 46 (bA 33 524287) (a' := ?_) rfl rfl (by kernel_rfl) (fun _ _ _ h => h) (by rfl) ?_ ?_; rotate_left; go_simp; rfl
            refine sk_ HT_ 19 47 (bA 33 1048575) (a' := ?_) rfl rfl (by kernel_rfl) (fun _ _ _ h => h) (by rfl) ?_ ?_; rotate_left; go_simp; rfl
            refine sk_ HT_ 20 48 (bA 33 2097151) (a' := ?_) rfl rfl (by kernel_rfl) (fun _ _ _ h => h) (by rfl) ?_ ?_; rotate_left; go_simp; rfl
            refine sk_ HT_ 21 49 (bA 33 4194303) (a' := ?_) rfl rfl (by kernel_rfl) (fun _ _ _ h => h) (by rfl) ?_ ?_; rotate_left; go_simp; rfl
            refine sk_ HT_ 22 50 (bA 33 8388607) (a' := ?_) rfl rfl (by kernel_rfl) (fun _ _ _ h => h) (by rfl) ?_ ?_; rotate_left; go_simp; rfl
            refine sk_ HT_ 23 51 (bA 33 16777215) (a' := ?_) rfl rfl (by kernel_rfl) (fun _ _ _ h => h) (by rfl) ?_ ?_; rotate_left; go_simp; rfl
            refine pu_ HT_ 24 52 (bA 33 33554431) (v := ?_) (a' := ?_) rfl rfl (by kernel_rfl) (fun _ _ _ h => h) (by rfl) ?_ ?_ ?_; rotate_left; intro w'; go_simp; with_reducible rfl; rotate_left; go_simp; rfl
            refine pu_ HT_ 25 53 (bA 33 67108863) (v := ?_) (a' := ?_) rfl rfl (by kernel_rfl) (fun _ _ _ h => h) (by rfl) ?_ ?_ ?_; rotate_left; intro w'; go_simp; with_reducible rfl; rotate_left; go_simp; rfl
            refine pu_ HT_ 26 54 (bA 33 134217727) (v := ?_) (a' := ?_) rfl rfl (by kernel_rfl) (fun _ _ _ h => h) (by rfl) ?_ ?_ ?_; rotate_left; intro w'; go_simp; with_reducible rfl; rotate_left; go_simp; rfl
            refine pu_ HT_ 27 55 (bA 33 268435455) (v := ?_) (a' := ?_) rfl rfl (by kernel_rfl) (fun _ _ _ h => h) (by rfl) ?_ ?_ ?_; rotate_left; intro w'; go_simp; with_reducible rfl; rotate_left; go_simp; rfl
            refine pu_ HT_ 29 57 (bA 33 805306367) (v := ?_) (a' := ?_) rfl rfl (by kernel_rfl) (fun _ _ _ h => h) (by rfl) ?_ ?_ ?_; rotate_left; intro w'; go_simp; with_reducible rfl; rotate_left; go_simp; rfl
            refine take_ (i := 28) (N := some 56) (v := ?_) (a' := ?_) (bA 33 1073741823) rfl rfl (take_ofW HT_.out HW_.out (by kernel_rfl)) (fun _ _ _ h => h) (Or.inl ⟨by rfl, ?_⟩) hHeld ?_ ?_
            rotate_left; rintro w' ⟨s0, s1, s2, s3, s4, s5, s6, s7, s8⟩; go_simp; with_reducible rfl; rotate_left; go_simp; rfl
            refine one_ (i := 30) (N := some 58) (bA 33 2147483647) rfl rfl (one_of HT_.out (by kernel_rfl)) (by decide) (fun K hK => ?_)
            refine goes_ Try.func97 (by kernel_rfl) rfl #[.slice (some ad103) l0_1.length c0_1, .int .i64 x4_2] (by rfl) rfl rfl (by first | rfl | (simp only [List.map_toArray, List.map_cons, List.map_nil]; first | done | rfl)) ?_
            with_reducible refine (spec_l5alone.calls k2 _ _ l0_1 x4_2 t110 _ ?side1 ?side2 A41.out).mono ?_
            (case side1 => exact cw HR0_1.out HB.out)
            (case side2 => exact HC0_1.out)
            rintro e w46 ⟨rfl, hb⟩
            refine ⟨_, rfl, ?_⟩
            have n0_ := ak (blk_below (bk BK101.out) hb)
            have n1_ := ak (blk_below (bk BK104.out) hb)
            have n2_ := ak (below_step (by repeat (first | exact bw HB.out | refine below_set ?_ GE101.out | refine below_set ?_ GE104.out)) hb)
            clear BK101
            clear BK104
            clear HB
            have BK101 := n0_
            have BK104 := n1_
            have HB := n2_
            clear n0_ n1_ n2_
            (try clear hb)
            (try clear hb2)
            (try clear hk)
            (try clear hi)
            refine hK.out _ _ ⟨(blk_cell BK104.out 0).trans rfl, (blk_cell BK104.out 1).trans rfl, (blk_cell BK104.out 2).trans rfl, (blk_cell BK104.out 3).trans rfl, (blk_cell BK104.out 4).trans rfl, (blk_cell BK104.out 5).trans rfl, (blk_cell BK104.out 6).trans rfl, (blk_cell BK101.out 0).trans rfl, (blk_cell BK101.out 1).trans rfl⟩ (fun hHeld => ?_)
            clear hK K
            refine norm_ (a' := ?_) ?_ ?_; rotate_left; go_simp; rfl
            refine pu_ HT_ 31 59 (bA 33 4294967295) (v := ?_) (a' := ?_) rfl rfl (by kernel_rfl) (fun _ _ _ h => h) (by rfl) ?_ ?_ ?_; rotate_left; intro w'; go_simp; with_reducible rfl; rotate_left; go_simp; rfl
            refine pu_ HT_ 32 60 (bA 33 8589934591) (v := ?_) (a' := ?_) rfl rfl (by kernel_rfl) (fun _ _ _ h => h) (by rfl) ?_ ?_ ?_; rotate_left; intro w'; go_simp; with_reducible rfl; rotate_left; go_simp; rfl
            refine done_ (done_of HT_.out (by kernel_rfl)) ?_
            try go_wp2
            go_meet
            case rel => exact ⟨_, (!t110), (by first | rfl | (simp; done) | (simp [*]; done)), H', ⟨by have := HJ1.out; have := HK2.out; first | omega | exact Nat.le_refl _⟩, ⟨bk BK101.out⟩, ⟨bk BK104.out⟩, ⟨by repeat (first | exact bw HB.out | refine below_set ?_ GE101.out | refine below_set ?_ GE104.out)⟩⟩
          ·replace c22 := Bool.eq_false_iff.mpr c22
           subst c22
           have H1 : (spec_ZoneOk.j2 k2 x3_2 x4_2 true l0_0 l0_1 ((rd_T33 l0_1 x4_2).f0.f0) ((rd_T33 l0_1 x4_2).f1) ((rd_T33 l0_1 x4_2).f2) ((rd_T33 l0_1 x4_2).f3) ((rd_T33 l0_1 x4_2).f4.f0) ((rd_T33 l0_1 x4_2).f5) ((rd_T33 l0_1 x4_2).f6)) = some r := by rw [if_neg (show ¬ (false = true) by decide)] at H; exact H
           clear H
           have H := H1
           clear H1
           have H' := ak H
           clear H
           try go_wp2
           have n0_ : Aside0 ((((((((w16.setCell ⟨gb104, 0, none⟩ (.slice A103_0 ((rd_T33 l0_1 x4_2).f0.f0).length c103_0)).setCell ⟨gb104, 1, none⟩ (.int .i64 ((rd_T33 l0_1 x4_2).f1))).setCell ⟨gb104, 2, none⟩ (.int .i64 ((rd_T33 l0_1 x4_2).f2))).setCell ⟨gb104, 3, none⟩ (.int .i64 ((rd_T33 l0_1 x4_2).f3))).setCell ⟨gb104, 4, none⟩ (.slice A103_4 ((rd_T33 l0_1 x4_2).f4.f0).length c103_4)).setCell ⟨gb104, 5, none⟩ (.slice A103_5 ((rd_T33 l0_1 x4_2).f5).length c103_5)).setCell ⟨gb104, 6, none⟩ (.slice A103_6 ((rd_T33 l0_1 x4_2).f6).length c103_6)).heap[gb101]? = some (.cells #[.slice A0_0 l0_0.length c0_0, .slice (some ad103) l0_1.length c0_1] 59 (0, 0))) := ⟨bfar7 NB101_104.out BK101.out⟩
           have n1_ : Aside0 ((((((((w16.setCell ⟨gb104, 0, none⟩ (.slice A103_0 ((rd_T33 l0_1 x4_2).f0.f0).length c103_0)).setCell ⟨gb104, 1, none⟩ (.int .i64 ((rd_T33 l0_1 x4_2).f1))).setCell ⟨gb104, 2, none⟩ (.int .i64 ((rd_T33 l0_1 x4_2).f2))).setCell ⟨gb104, 3, none⟩ (.int .i64 ((rd_T33 l0_1 x4_2).f3))).setCell ⟨gb104, 4, none⟩ (.slice A103_4 ((rd_T33 l0_1 x4_2).f4.f0).length c103_4)).setCell ⟨gb104, 5, none⟩ (.slice A103_5 ((rd_T33 l0_1 x4_2).f5).length c103_5)).setCell ⟨gb104, 6, none⟩ (.slice A103_6 ((rd_T33 l0_1 x4_2).f6).length c103_6)).heap[gb104]? = some (.cells #[.slice A103_0 ((rd_T33 l0_1 x4_2).f0.f0).length c103_0, .int .i64 ((rd_T33 l0_1 x4_2).f1), .int .i64 ((rd_T33 l0_1 x4_2).f2), .int .i64 ((rd_T33 l0_1 x4_2).f3), .slice A103_4 ((rd_T33 l0_1 x4_2).f4.f0).length c103_4, .slice A103_5 ((rd_T33 l0_1 x4_2).f5).length c103_5, .slice A103_6 ((rd_T33 l0_1 x4_2).f6).length c103_6] 33 (0, 0))) := ⟨bput7 BK104.out⟩
           have n2_ : Aside0 (Below w.heap.size w (((((((w16.setCell ⟨gb104, 0, none⟩ (.slice A103_0 ((rd_T33 l0_1 x4_2).f0.f0).length c103_0)).setCell ⟨gb104, 1, none⟩ (.int .i64 ((rd_T33 l0_1 x4_2).f1))).setCell ⟨gb104, 2, none⟩ (.int .i64 ((rd_T33 l0_1 x4_2).f2))).setCell ⟨gb104, 3, none⟩ (.int .i64 ((rd_T33 l0_1 x4_2).f3))).setCell ⟨gb104, 4, none⟩ (.slice A103_4 ((rd_T33 l0_1 x4_2).f4.f0).length c103_4)).setCell ⟨gb104, 5, none⟩ (.slice A103_5 ((rd_T33 l0_1 x4_2).f5).length c103_5)).setCell ⟨gb104, 6, none⟩ (.slice A103_6 ((rd_T33 l0_1 x4_2).f6).length c103_6))) := ⟨by repeat (first | exact bw HB.out | refine below_set ?_ GE101.out | refine below_set ?_ GE104.out)⟩
           (try clear BK101)
           (try clear BK104)
           (try clear HB)
           generalize (((((((w16.setCell ⟨gb104, 0, none⟩ (.slice A103_0 ((rd_T33 l0_1 x4_2).f0.f0).length c103_0)).setCell ⟨gb104, 1, none⟩ (.int .i64 ((rd_T33 l0_1 x4_2).f1))).setCell ⟨gb104, 2, none⟩ (.int .i64 ((rd_T33 l0_1 x4_2).f2))).setCell ⟨gb104, 3, none⟩ (.int .i64 ((rd_T33 l0_1 x4_2).f3))).setCell ⟨gb104, 4, none⟩ (.slice A103_4 ((rd_T33 l0_1 x4_2).f4.f0).length c103_4)).setCell ⟨gb104, 5, none⟩ (.slice A103_5 ((rd_T33 l0_1 x4_2).f5).length c103_5)).setCell ⟨gb104, 6, none⟩ (.slice A103_6 ((rd_T33 l0_1 x4_2).f6).length c103_6)) = w47 at n0_ n1_ n2_ ⊢
           have BK101 := n0_
           have BK104 := n1_
           have HB := n2_
           clear n0_ n1_ n2_
           have n0_ := ak (blk_drew BK101.out)
           have n1_ := ak (blk_drew BK104.out)
           have n2_ := ak (below_drew1 HB.out)
           clear BK101
           clear BK104
           clear HB
           have BK101 := n0_
           have BK104 := n1_
           have HB := n2_
           clear n0_ n1_ n2_
           refine start_ (n := 33) (S := fun w' => w'.cell? ⟨gb104, 0, none⟩ = some (.slice A103_0 ((rd_T33 l0_1 x4_2).f0.f0).length c103_0) ∧ w'.cell? ⟨gb104, 1, none⟩ = some (.int .i64 ((rd_T33 l0_1 x4_2).f1)) ∧ w'.cell? ⟨gb104, 2, none⟩ = some (.int .i64 ((rd_T33 l0_1 x4_2).f2)) ∧ w'.cell? ⟨gb104, 3, none⟩ = some (.int .i64 ((rd_T33 l0_1 x4_2).f3)) ∧ w'.cell? ⟨gb104, 4, none⟩ = some (.slice A103_4 ((rd_T33 l0_1 x4_2).f4.f0).length c103_4) ∧ w'.cell? ⟨gb104, 5, none⟩ = some (.slice A103_5 ((rd_T33 l0_1 x4_2).f5).length c103_5) ∧ w'.cell? ⟨gb104, 6, none⟩ = some (.slice A103_6 ((rd_T33 l0_1 x4_2).f6).length c103_6) ∧ w'.cell? ⟨gb101, 0, none⟩ = some (.slice A0_0 l0_0.length c0_0) ∧ w'.cell? ⟨gb101, 1, none⟩ = some (.slice (some ad103) l0_1.length c0_1)) (ds := []) (bA 33 0) (by kernel_rfl) rfl rfl ⟨(blk_cell BK104.out 0).trans rfl, (blk_cell BK104.out 1).trans rfl, (blk_cell BK104.out 2).trans rfl, (blk_cell BK104.out 3).trans rfl, (blk_cell BK104.out 4).trans rfl, (blk_cell BK104.out 5).trans rfl, (blk_cell BK104.out 6).trans rfl, (blk_cell BK101.out 0).trans rfl, (blk_cell BK101.out 1).trans rfl⟩ (fun hHeld => ?_); refine with_tabW spec_ZoneOk.tab8 spec_ZoneOk.bits8 (fun HT_ HW_ => ?_)
           generalize w47.drew = w48 at BK101 BK104 HB hHeld ⊢
           refine take_ (i := 0) (N := some 28) (v := ?_) (a' := ?_) (bA 33 1) rfl rfl (take_ofW HT_.out HW_.out (by kernel_rfl)) (fun _ _ _ h => h) (Or.inl ⟨by rfl, ?_⟩) hHeld ?_ ?_
           rotate_left; rintro w' ⟨s0, s1, s2, s3, s4, s5, s6, s7, s8⟩; go_simp; with_reducible rfl; rotate_left; go_simp; rfl
           refine one_ (i := 1) (N := some 29) (bA 33 3) rfl rfl (one_of HT_.out (by kernel_rfl)) (by decide) (fun K hK => ?_)
           refine goes_ Try.func60 (by kernel_rfl) rfl #[.agg #[.slice A103_0 ((rd_T33 l0_1 x4_2).f0.f0).length c103_0, .int .i64 ((rd_T33 l0_1 x4_2).f1), .int .i64 ((rd_T33 l0_1 x4_2).f2), .int .i64 ((rd_T33 l0_1 x4_2).f3), .slice A103_4 ((rd_T33 l0_1 x4_2).f4.f0).length c103_4, .slice A103_5 ((rd_T33 l0_1 x4_2).f5).length c103_5, .slice A103_6 ((rd_T33 l0_1 x4_2).f6).length c103_6]] (by rfl) rfl rfl (by first | rfl | (simp only [List.map_toArray, List.map_cons, List.map_nil]; first | done | rfl)) ?_
           with_reducible refine (spec_RrOk.calls k2 _ _ ((rd_T33 l0_1 x4_2).f0.f0) ((rd_T33 l0_1 x4_2).f1) ((rd_T33 l0_1 x4_2).f2) ((rd_T33 l0_1 x4_2).f3) _ _ ((rd_T33 l0_1 x4_2).f4.f0) _ _ ((rd_T33 l0_1 x4_2).f5) _ _ ((rd_T33 l0_1 x4_2).f6) true _ ?side1 ?side2 ?side3 ?side4 ?side5 ?side6 ?side7 ?side8 A19.out).mono ?_
           (case side1 => exact cw HR103_0.out HB.out)
           (case side2 => exact HC103_0.out)
           (case side3 => exact cw HR103_4.out HB.out)
           (case side4 => exact HC103_4.out)
           (case side5 => exact cw HR103_5.out HB.out)
           (case side6 => exact HC103_5.out)
           (case side7 => exact cw HR103_6.out HB.out)
           (case side8 => exact HC103_6.out)
           rintro e w49 ⟨rfl, hb⟩
           refine ⟨_, rfl, ?_⟩
           have n0_ := ak (blk_below (bk BK101.out) hb)
           have n1_ := ak (blk_below (bk BK104.out) hb)
           have n2_ := ak (below_step (by repeat (first | exact bw HB.out | refine below_set ?_ GE101.out | refine below_set ?_ GE104.out)) hb)
           clear BK101
           clear BK104
           clear HB
           have BK101 := n0_
           have BK104 := n1_
           have HB := n2_
           clear n0_ n1_ n2_
           (try clear hb)
           (try clear hb2)
           (try clear hk)
           (try clear hi)
           refine hK.out _ _ ⟨(blk_cell BK104.out 0).trans rfl, (blk_cell BK104.out 1).trans rfl, (blk_cell BK104.out 2).trans rfl, (blk_cell BK104.out 3).trans rfl, (blk_cell BK104.out 4).trans rfl, (blk_cell BK104.out 5).trans rfl, (blk_cell BK104.out 6).trans rfl, (blk_cell BK101.out 0).trans rfl, (blk_cell BK101.out 1).trans rfl⟩ (fun hHeld => ?_)
           clear hK K
           refine norm_ (a' := ?_) ?_ ?_; rotate_left; go_simp; rfl
           refine pu_ HT_ 2 30 (bA 33 7) (v := ?_) (a' := ?_) rfl rfl (by kernel_rfl) (fun _ _ _ h => h) (by rfl) ?_ ?_ ?_; rotate_left; intro w'; go_simp; with_reducible rfl; rotate_left; go_simp; rfl
           refine pu_ HT_ 3 31 (bA 33 15) (v := ?_) (a' := ?_) rfl rfl (by kernel_rfl) (fun _ _ _ h => h) (by rfl) ?_ ?_ ?_; rotate_left; intro w'; go_simp; with_reducible rfl; rotate_left; go_simp; rfl
           refine pu_ HT_ 4 32 (bA 33 31) (v := ?_) (a' := ?_) rfl rfl (by kernel_rfl) (fun _ _ _ h => h) (by rfl) ?_ ?_ ?_; rotate_left; intro w'; go_simp; with_reducible rfl; rotate_left; go_simp; rfl
           refine pu_ HT_ 6 34 (bA 33 95) (v := ?_) (a' := ?_) rfl rfl (by kernel_rfl) (fun _ _ _ h => h) (by rfl) ?_ ?_ ?_; rotate_left; intro w'; go_simp; with_reducible rfl; rotate_left; go_simp; rfl
           refine take_ (i := 5) (N := some 33) (v := ?_) (a' := ?_) (bA 33 127) rfl rfl (take_ofW HT_.out HW_.out (by kernel_rfl)) (fun _ _ _ h => h) (Or.inl ⟨by rfl, ?_⟩) hHeld ?_ ?_
           rotate_left; rintro w' ⟨s0, s1, s2, s3, s4, s5, s6, s7, s8⟩; go_simp; with_reducible rfl; rotate_left; go_simp; rfl
           refine take_ (i := 7) (N := some 35) (v := ?_) (a' := ?_) (bA 33 255) rfl rfl (take_ofW HT_.out HW_.out (by kernel_rfl)) (fun _ _ _ h => h) (Or.inl ⟨by rfl, ?_⟩) hHeld ?_ ?_
           rotate_left; rintro w' ⟨s0, s1, s2, s3, s4, s5, s6, s7, s8⟩; go_simp; with_reducible rfl; rotate_left; go_simp; rfl
           refine one_ (i := 8) (N := some 36) (bA 33 511) rfl rfl (one_of HT_.out (by kernel_rfl)) (by decide) (fun K hK => ?_)
           refine goes_ Try.func96 (by kernel_rfl) rfl #[.agg #[.slice A103_0 ((rd_T33 l0_1 x4_2).f0.f0).length c103_0], .agg #[.slice A0_0 l0_0.length c0_0]] (by rfl) rfl rfl (by first | rfl | (simp only [List.map_toArray, List.map_cons, List.map_nil]; first | done | rfl)) ?_
           with_reducible refine (spec_l2under.calls k2 _ _ ((rd_T33 l0_1 x4_2).f0.f0) _ _ l0_0 false _ ?side1 ?side2 ?side3 ?side4 A21.out).mono ?_
           (case side1 => exact cw HR103_0.out HB.out)
           (case side2 => exact HC103_0.out)
           (case side3 => exact cw HR0_0.out HB.out)
           (case side4 => exact HC0_0.out)
           rintro e w50 ⟨rfl, hb⟩
           refine ⟨_, rfl, ?_⟩
           have n0_ := ak (blk_below (bk BK101.out) hb)
           have n1_ := ak (blk_below (bk BK104.out) hb)
           have n2_ := ak (below_step (by repeat (first | exact bw HB.out | refine below_set ?_ GE101.out | refine below_set ?_ GE104.out)) hb)
           clear BK101
           clear BK104
           clear HB
           have BK101 := n0_
           have BK104 := n1_
           have HB := n2_
           clear n0_ n1_ n2_
           (try clear hb)
           (try clear hb2)
           (try clear hk)
           (try clear hi)
           refine hK.out _ _ ⟨(blk_cell BK104.out 0).trans rfl, (blk_cell BK104.out 1).trans rfl, (blk_cell BK104.out 2).trans rfl, (blk_cell BK104.out 3).trans rfl, (blk_cell BK104.out 4).trans rfl, (blk_cell BK104.out 5).trans rfl, (blk_cell BK104.out 6).trans rfl, (blk_cell BK101.out 0).trans rfl, (blk_cell BK101.out 1).trans rfl⟩ (fun hHeld => ?_)
           clear hK K
           refine norm_ (a' := ?_) ?_ ?_; rotate_left; go_simp; rfl
           refine pu_ HT_ 9 37 (bA 33 1023) (v := ?_) (a' := ?_) rfl rfl (by kernel_rfl) (fun _ _ _ h => h) (by rfl) ?_ ?_ ?_; rotate_left; intro w'; go_simp; with_reducible rfl; rotate_left; go_simp; rfl
           refine pu_ HT_ 10 38 (bA 33 2047) (v := ?_) (a' := ?_) rfl rfl (by kernel_rfl) (fun _ _ _ h => h) (by rfl) ?_ ?_ ?_; rotate_left; intro w'; go_simp; with_reducible rfl; rotate_left; go_simp; rfl
           refine pu_ HT_ 11 39 (bA 33 4095) (v := ?_) (a' := ?_) rfl rfl (by kernel_rfl) (fun _ _ _ h => h) (by rfl) ?_ ?_ ?_; rotate_left; intro w'; go_simp; with_reducible rfl; rotate_left; go_simp; rfl
           refine sk_ HT_ 12 40 (bA 33 8191) (a' := ?_) rfl rfl (by kernel_rfl) (fun _ _ _ h => h) (by rfl) ?_ ?_; rotate_left; go_simp; rfl
           refine sk_ HT_ 13 41 (bA 33 16383) (a' := ?_) rfl rfl (by kernel_rfl) (fun _ _ _ h => h) (by rfl) ?_ ?_; rotate_left; go_simp; rfl
           refine sk_ HT_ 14 42 (bA 33 32767) (a' := ?_) rfl rfl (by kernel_rfl) (fun _ _ _ h => h) (by rfl) ?_ ?_; rotate_left; go_simp; rfl
           refine sk_ HT_ 15 43 (bA 33 65535) (a' := ?_) rfl rfl (by kernel_rfl) (fun _ _ _ h => h) (by rfl) ?_ ?_; rotate_left; go_simp; rfl
           refine sk_ HT_ 16 44 (bA 33 131071) (a' := ?_) rfl rfl (by kernel_rfl) (fun _ _ _ h => h) (by rfl) ?_ ?_; rotate_left; go_simp; rfl
           refine sk_ HT_ 17 45 (bA 33 262143) (a' := ?_) rfl rfl (by kernel_rfl) (fun _ _ _ h => h) (by rfl) ?_ ?_; rotate_left; go_simp; rfl
           refine sk_ HT_ 18 46 (bA 33 524287) (a' := ?_) rfl rfl (by kernel_rfl) (fun _ _ _ h => h) (by rfl) ?_ ?_; rotate_left; go_simp; rfl
           refine sk_ HT_ 19 47 (bA 33 1048575) (a' := ?_) rfl rfl (by kernel_rfl) (fun _ _ _ h => h) (by rfl) ?_ ?_; rotate_left; go_simp; rfl
           refine sk_ HT_ 20 48 (bA 33 2097151) (a' := ?_) rfl rfl (by kernel_rfl) (fun _ _ _ h => h) (by rfl) ?_ ?_; rotate_left; go_simp; rfl
           refine sk_ HT_ 21 49 (bA 33 4194303) (a' := ?_) rfl rfl (by kernel_rfl) (fun _ _ _ h => h) (by rfl) ?_ ?_; rotate_left; go_simp; rfl
           refine sk_ HT_ 22 50 (bA 33 8388607) (a' := ?_) rfl rfl (by kernel_rfl) (fun _ _ _ h => h) (by rfl) ?_ ?_; rotate_left; go_simp; rfl
           refine sk_ HT_ 23 51 (bA 33 16777215) (a' := ?_) rfl rfl (by kernel_rfl) (fun _ _ _ h => h) (by rfl) ?_ ?_; rotate_left; go_simp; rfl
           refine sk_ HT_ 24 52 (bA 33 33554431) (a' := ?_) rfl rfl (by kernel_rfl) (fun _ _ _ h => h) (by rfl) ?_ ?_; rotate_left; go_simp; rfl
           refine pu_ HT_ 25 53 (bA 33 67108863) (v := ?_) (a' := ?_) rfl rfl (by kernel_rfl) (fun _ _ _ h => h) (by rfl) ?_ ?_ ?_; rotate_left; intro w'; go_simp; with_reducible rfl; rotate_left; go_simp; rfl
           refine pu_ HT_ 26 54 (bA 33 134217727) (v := ?_) (a' := ?_) rfl rfl (by kernel_rfl) (fun _ _ _ h => h) (by rfl) ?_ ?_ ?_; rotate_left; intro w'; go_simp; with_reducible rfl; rotate_left; go_simp; rfl
           refine sk_ HT_ 27 55 (bA 33 268435455) (a' := ?_) rfl rfl (by kernel_rfl) (fun _ _ _ h => h) (by rfl) ?_ ?_; rotate_left; go_simp; rfl
           refine sk_ HT_ 28 56 (bA 33 536870911) (a' := ?_) rfl rfl (by kernel_rfl) (fun _ _ _ h => h) (by rfl) ?_ ?_; rotate_left; go_simp; rfl
           refine sk_ HT_ 29 57 (bA 33 1073741823) (a' := ?_) rfl rfl (by kernel_rfl) (fun _ _ _ h => h) (by rfl) ?_ ?_; rotate_left; go_simp; rfl
           refine sk_ HT_ 30 58 (bA 33 2147483647) (a' := ?_) rfl rfl (by kernel_rfl) (fun _ _ _ h => h) (by rfl) ?_ ?_; rotate_left; go_simp; rfl
           refine sk_ HT_ 31 59 (bA 33 4294967295) (a' := ?_) rfl rfl (by kernel_rfl) (fun _ _ _ h => h) (by rfl) ?_ ?_; rotate_left; go_simp; rfl
           refine pu_ HT_ 32 60 (bA 33 8589934591) (v := ?_) (a' := ?_) rfl rfl (by kernel_rfl) (fun _ _ _ h => h) (by rfl) ?_ ?_ ?_; rotate_left; intro w'; go_simp; with_reducible rfl; rotate_left; go_simp; rfl
           refine done_ (done_of HT_.out (by kernel_rfl)) ?_
           try go_wp2
           go_meet
           case rel => exact ⟨_, (true), (by first | rfl | (simp; done) | (simp [*]; done)), H', ⟨by have := HJ1.out; have := HK2.out; first | omega | exact Nat.le_refl _⟩, ⟨bk BK101.out⟩, ⟨bk BK104.out⟩, ⟨by repeat (first | exact bw HB.out | refine below_set ?_ GE101.out | refine below_set ?_ GE104.out)⟩⟩
         ·replace c20 := Bool.eq_false_iff.mpr c20
          subst c20
          have H1 : (spec_ZoneOk.j2 k2 x3_2 x4_2 true l0_0 l0_1 ((rd_T33 l0_1 x4_2).f0.f0) ((rd_T33 l0_1 x4_2).f1) ((rd_T33 l0_1 x4_2).f2) ((rd_T33 l0_1 x4_2).f3) ((rd_T33 l0_1 x4_2).f4.f0) ((rd_T33 l0_1 x4_2).f5) ((rd_T33 l0_1 x4_2).f6)) = some r := by rw [if_neg (show ¬ (false = true) by decide)] at H; exact H
          clear H
          have H := H1
          clear H1
          have H' := ak H
          clear H
          try go_wp2
          have n0_ : Aside0 ((((((((w16.setCell ⟨gb104, 0, none⟩ (.slice A103_0 ((rd_T33 l0_1 x4_2).f0.f0).length c103_0)).setCell ⟨gb104, 1, none⟩ (.int .i64 ((rd_T33 l0_1 x4_2).f1))).setCell ⟨gb104, 2, none⟩ (.int .i64 ((rd_T33 l0_1 x4_2).f2))).setCell ⟨gb104, 3, none⟩ (.int .i64 ((rd_T33 l0_1 x4_2).f3))).setCell ⟨gb104, 4, none⟩ (.slice A103_4 ((rd_T33 l0_1 x4_2).f4.f0).length c103_4)).setCell ⟨gb104, 5, none⟩ (.slice A103_5 ((rd_T33 l0_1 x4_2).f5).length c103_5)).setCell ⟨gb104, 6, none⟩ (.slice A103_6 ((rd_T33 l0_1 x4_2).f6).length c103_6)).heap[gb101]? = some (.cells #[.slice A0_0 l0_0.length c0_0, .slice (some ad103) l0_1.length c0_1] 59 (0, 0))) := ⟨bfar7 NB101_104.out BK101.out⟩
          have n1_ : Aside0 ((((((((w16.setCell ⟨gb104, 0, none⟩ (.slice A103_0 ((rd_T33 l0_1 x4_2).f0.f0).length c103_0)).setCell ⟨gb104, 1, none⟩ (.int .i64 ((rd_T33 l0_1 x4_2).f1))).setCell ⟨gb104, 2, none⟩ (.int .i64 ((rd_T33 l0_1 x4_2).f2))).setCell ⟨gb104, 3, none⟩ (.int .i64 ((rd_T33 l0_1 x4_2).f3))).setCell ⟨gb104, 4, none⟩ (.slice A103_4 ((rd_T33 l0_1 x4_2).f4.f0).length c103_4)).setCell ⟨gb104, 5, none⟩ (.slice A103_5 ((rd_T33 l0_1 x4_2).f5).length c103_5)).setCell ⟨gb104, 6, none⟩ (.slice A103_6 ((rd_T33 l0_1 x4_2).f6).length c103_6)).heap[gb104]? = some (.cells #[.slice A103_0 ((rd_T33 l0_1 x4_2).f0.f0).length c103_0, .int .i64 ((rd_T33 l0_1 x4_2).f1), .int .i64 ((rd_T33 l0_1 x4_2).f2), .int .i64 ((rd_T33 l0_1 x4_2).f3), .slice A103_4 ((rd_T33 l0_1 x4_2).f4.f0).length c103_4, .slice A103_5 ((rd_T33 l0_1 x4_2).f5).length c103_5, .slice A103_6 ((rd_T33 l0_1 x4_2).f6).length c103_6] 33 (0, 0))) := ⟨bput7 BK104.out⟩
          have n2_ : Aside0 (Below w.heap.size w (((((((w16.setCell ⟨gb104, 0, none⟩ (.slice A103_0 ((rd_T33 l0_1 x4_2).f0.f0).length c103_0)).setCell ⟨gb104, 1, none⟩ (.int .i64 ((rd_T33 l0_1 x4_2).f1))).setCell ⟨gb104, 2, none⟩ (.int .i64 ((rd_T33 l0_1 x4_2).f2))).setCell ⟨gb104, 3, none⟩ (.int .i64 ((rd_T33 l0_1 x4_2).f3))).setCell ⟨gb104, 4, none⟩ (.slice A103_4 ((rd_T33 l0_1 x4_2).f4.f0).length c103_4)).setCell ⟨gb104, 5, none⟩ (.slice A103_5 ((rd_T33 l0_1 x4_2).f5).length c103_5)).setCell ⟨gb104, 6, none⟩ (.slice A103_6 ((rd_T33 l0_1 x4_2).f6).length c103_6))) := ⟨by repeat (first | exact bw HB.out | refine below_set ?_ GE101.out | refine below_set ?_ GE104.out)⟩
          (try clear BK101)
          (try clear BK104)
          (try clear HB)
          generalize (((((((w16.setCell ⟨gb104, 0, none⟩ (.slice A103_0 ((rd_T33 l0_1 x4_2).f0.f0).length c103_0)).setCell ⟨gb104, 1, none⟩ (.int .i64 ((rd_T33 l0_1 x4_2).f1))).setCell ⟨gb104, 2, none⟩ (.int .i64 ((rd_T33 l0_1 x4_2).f2))).setCell ⟨gb104, 3, none⟩ (.int .i64 ((rd_T33 l0_1 x4_2).f3))).setCell ⟨gb104, 4, none⟩ (.slice A103_4 ((rd_T33 l0_1 x4_2).f4.f0).length c103_4)).setCell ⟨gb104, 5, none⟩ (.slice A103_5 ((rd_T33 l0_1 x4_2).f5).length c103_5)).setCell ⟨gb104, 6, none⟩ (.slice A103_6 ((rd_T33 l0_1 x4_2).f6).length c103_6)) = w51 at n0_ n1_ n2_ ⊢
          have BK101 := n0_
          have BK104 := n1_
          have HB := n2_
          clear n0_ n1_ n2_
          have n0_ := ak (blk_drew BK101.out)
          have n1_ := ak (blk_drew BK104.out)
          have n2_ := ak (below_drew1 HB.out)
          clear BK101
          clear BK104
          clear HB
          have BK101 := n0_
          have BK104 := n1_
          have HB := n2_
          clear n0_ n1_ n2_
          refine start_ (n := 33) (S := fun w' => w'.cell? ⟨gb104, 0, none⟩ = some (.slice A103_0 ((rd_T33 l0_1 x4_2).f0.f0).length c103_0) ∧ w'.cell? ⟨gb104, 1, none⟩ = some (.int .i64 ((rd_T33 l0_1 x4_2).f1)) ∧ w'.cell? ⟨gb104, 2, none⟩ = some (.int .i64 ((rd_T33 l0_1 x4_2).f2)) ∧ w'.cell? ⟨gb104, 3, none⟩ = some (.int .i64 ((rd_T33 l0_1 x4_2).f3)) ∧ w'.cell? ⟨gb104, 4, none⟩ = some (.slice A103_4 ((rd_T33 l0_1 x4_2).f4.f0).length c103_4) ∧ w'.cell? ⟨gb104, 5, none⟩ = some (.slice A103_5 ((rd_T33 l0_1 x4_2).f5).length c103_5) ∧ w'.cell? ⟨gb104, 6, none⟩ = some (.slice A103_6 ((rd_T33 l0_1 x4_2).f6).length c103_6)) (ds := []) (bA 33 0) (by kernel_rfl) rfl rfl ⟨(blk_cell BK104.out 0).trans rfl, (blk_cell BK104.out 1).trans rfl, (blk_cell BK104.out 2).trans rfl, (blk_cell BK104.out 3).trans rfl, (blk_cell BK104.out 4).trans rfl, (blk_cell BK104.out 5).trans rfl, (blk_cell BK104.out 6).trans rfl⟩ (fun hHeld => ?_); refine with_tabW spec_ZoneOk.tab8 spec_ZoneOk.bits8 (fun HT_ HW_ => ?_)
          generalize w51.drew = w52 at BK101 BK104 HB hHeld ⊢
          refine take_ (i := 0) (N := some 28) (v := ?_) (a' := ?_) (bA 33 1) rfl rfl (take_ofW HT_.out HW_.out (by kernel_rfl)) (fun _ _ _ h => h) (Or.inl ⟨by rfl, ?_⟩) hHeld ?_ ?_
          rotate_left; rintro w' ⟨s0, s1, s2, s3, s4, s5, s6⟩; go_simp; with_reducible rfl; rotate_left; go_simp; rfl
          refine one_ (i := 1) (N := some 29) (bA 33 3) rfl rfl (one_of HT_.out (by kernel_rfl)) (by decide) (fun K hK => ?_)
          refine goes_ Try.func60 (by kernel_rfl) rfl #[.agg #[.slice A103_0 ((rd_T33 l0_1 x4_2).f0.f0).length c103_0, .int .i64 ((rd_T33 l0_1 x4_2).f1), .int .i64 ((rd_T33 l0_1 x4_2).f2), .int .i64 ((rd_T33 l0_1 x4_2).f3), .slice A103_4 ((rd_T33 l0_1 x4_2).f4.f0).length c103_4, .slice A103_5 ((rd_T33 l0_1 x4_2).f5).length c103_5, .slice A103_6 ((rd_T33 l0_1 x4_2).f6).length c103_6]] (by rfl) rfl rfl (by first | rfl | (simp only [List.map_toArray, List.map_cons, List.map_nil]; first | done | rfl)) ?_
          with_reducible refine (spec_RrOk.calls k2 _ _ ((rd_T33 l0_1 x4_2).f0.f0) ((rd_T33 l0_1 x4_2).f1) ((rd_T33 l0_1 x4_2).f2) ((rd_T33 l0_1 x4_2).f3) _ _ ((rd_T33 l0_1 x4_2).f4.f0) _ _ ((rd_T33 l0_1 x4_2).f5) _ _ ((rd_T33 l0_1 x4_2).f6) false _ ?side1 ?side2 ?side3 ?side4 ?side5 ?side6 ?side7 ?side8 A19.out).mono ?_
          (case side1 => exact cw HR103_0.out HB.out)
          (case side2 => exact HC103_0.out)
          (case side3 => exact cw HR103_4.out HB.out)
          (case side4 => exact HC103_4.out)
          (case side5 => exact cw HR103_5.out HB.out)
          (case side6 => exact HC103_5.out)
          (case side7 => exact cw HR103_6.out HB.out)
          (case side8 => exact HC103_6.out)
          rintro e w53 ⟨rfl, hb⟩
          refine ⟨_, rfl, ?_⟩
          have n0_ := ak (blk_below (bk BK101.out) hb)
          have n1_ := ak (blk_below (bk BK104.out) hb)
          have n2_ := ak (below_step (by repeat (first | exact bw HB.out | refine below_set ?_ GE101.out | refine below_set ?_ GE104.out)) hb)
          clear BK101
          clear BK104
          clear HB
          have BK101 := n0_
          have BK104 := n1_
          have HB := n2_
          clear n0_ n1_ n2_
          (try clear hb)
          (try clear hb2)
          (try clear hk)
          (try clear hi)
          refine hK.out _ _ ⟨(blk_cell BK104.out 0).trans rfl, (blk_cell BK104.out 1).trans rfl, (blk_cell BK104.out 2).trans rfl, (blk_cell BK104.out 3).trans rfl, (blk_cell BK104.out 4).trans rfl, (blk_cell BK104.out 5).trans rfl, (blk_cell BK104.out 6).trans rfl⟩ (fun hHeld => ?_)
          clear hK K
          refine norm_ (a' := ?_) ?_ ?_; rotate_left; go_simp; rfl
          refine pu_ HT_ 2 30 (bA 33 7) (v := ?_) (a' := ?_) rfl rfl (by kernel_rfl) (fun _ _ _ h => h) (by rfl) ?_ ?_ ?_; rotate_left; intro w'; go_simp; with_reducible rfl; rotate_left; go_simp; rfl
          refine pu_ HT_ 3 31 (bA 33 15) (v := ?_) (a' := ?_) rfl rfl (by kernel_rfl) (fun _ _ _ h => h) (by rfl) ?_ ?_ ?_; rotate_left; intro w'; go_simp; with_reducible rfl; rotate_left; go_simp; rfl
          refine sk_ HT_ 4 32 (bA 33 31) (a' := ?_) rfl rfl (by kernel_rfl) (fun _ _ _ h => h) (by rfl) ?_ ?_; rotate_left; go_simp; rfl
          refine sk_ HT_ 5 33 (bA 33 63) (a' := ?_) rfl rfl (by kernel_rfl) (fun _ _ _ h => h) (by rfl) ?_ ?_; rotate_left; go_simp; rfl
          refine sk_ HT_ 6 34 (bA 33 127) (a' := ?_) rfl rfl (by kernel_rfl) (fun _ _ _ h => h) (by rfl) ?_ ?_; rotate_left; go_simp; rfl
          refine sk_ HT_ 7 35 (bA 33 255) (a' := ?_) rfl rfl (by kernel_rfl) (fun _ _ _ h => h) (by rfl) ?_ ?_; rotate_left; go_simp; rfl
          refine sk_ HT_ 8 36 (bA 33 511) (a' := ?_) rfl rfl (by kernel_rfl) (fun _ _ _ h => h) (by rfl) ?_ ?_; rotate_left; go_simp; rfl
          refine sk_ HT_ 9 37 (bA 33 1023) (a' := ?_) rfl rfl (by kernel_rfl) (fun _ _ _ h => h) (by rfl) ?_ ?_; rotate_left; go_simp; rfl
          refine pu_ HT_ 10 38 (bA 33 2047) (v := ?_) (a' := ?_) rfl rfl (by kernel_rfl) (fun _ _ _ h => h) (by rfl) ?_ ?_ ?_; rotate_left; intro w'; go_simp; with_reducible rfl; rotate_left; go_simp; rfl
          refine pu_ HT_ 11 39 (bA 33 4095) (v := ?_) (a' := ?_) rfl rfl (by kernel_rfl) (fun _ _ _ h => h) (by rfl) ?_ ?_ ?_; rotate_left; intro w'; go_simp; with_reducible rfl; rotate_left; go_simp; rfl
          refine sk_ HT_ 12 40 (bA 33 8191) (a' := ?_) rfl rfl (by kernel_rfl) (fun _ _ _ h => h) (by rfl) ?_ ?_; rotate_left; go_simp; rfl
          refine sk_ HT_ 13 41 (bA 33 16383) (a' := ?_) rfl rfl (by kernel_rfl) (fun _ _ _ h => h) (by rfl) ?_ ?_; rotate_left; go_simp; rfl
          refine sk_ HT_ 14 42 (bA 33 32767) (a' := ?_) rfl rfl (by kernel_rfl) (fun _ _ _ h => h) (by rfl) ?_ ?_; rotate_left; go_simp; rfl
          refine sk_ HT_ 15 43 (bA 33 65535) (a' := ?_) rfl rfl (by kernel_rfl) (fun _ _ _ h => h) (by rfl) ?_ ?_; rotate_left; go_simp; rfl
          refine sk_ HT_ 16 44 (bA 33 131071) (a' := ?_) rfl rfl (by kernel_rfl) (fun _ _ _ h => h) (by rfl) ?_ ?_; rotate_left; go_simp; rfl
          refine sk_ HT_ 17 45 (bA 33 262143) (a' := ?_) rfl rfl (by kernel_rfl) (fun _ _ _ h => h) (by rfl) ?_ ?_; rotate_left; go_simp; rfl
          refine sk_ HT_ 18 46 (bA 33 524287) (a' := ?_) rfl rfl (by kernel_rfl) (fun _ _ _ h => h) (by rfl) ?_ ?_; rotate_left; go_simp; rfl
          refine sk_ HT_ 19 47 (bA 33 1048575) (a' := ?_) rfl rfl (by kernel_rfl) (fun _ _ _ h => h) (by rfl) ?_ ?_; rotate_left; go_simp; rfl
          refine sk_ HT_ 20 48 (bA 33 2097151) (a' := ?_) rfl rfl (by kernel_rfl) (fun _ _ _ h => h) (by rfl) ?_ ?_; rotate_left; go_simp; rfl
          refine sk_ HT_ 21 49 (bA 33 4194303) (a' := ?_) rfl rfl (by kernel_rfl) (fun _ _ _ h => h) (by rfl) ?_ ?_; rotate_left; go_simp; rfl
          refine sk_ HT_ 22 50 (bA 33 8388607) (a' := ?_) rfl rfl (by kernel_rfl) (fun _ _ _ h => h) (by rfl) ?_ ?_; rotate_left; go_simp; rfl
          refine sk_ HT_ 23 51 (bA 33 16777215) (a' := ?_) rfl rfl (by kernel_rfl) (fun _ _ _ h => h) (by rfl) ?_ ?_; rotate_left; go_simp; rfl
          refine sk_ HT_ 24 52 (bA 33 33554431) (a' := ?_) rfl rfl (by kernel_rfl) (fun _ _ _ h => h) (by rfl) ?_ ?_; rotate_left; go_simp; rfl
          refine pu_ HT_ 25 53 (bA 33 67108863) (v := ?_) (a' := ?_) rfl rfl (by kernel_rfl) (fun _ _ _ h => h) (by rfl) ?_ ?_ ?_; rotate_left; intro w'; go_simp; with_reducible rfl; rotate_left; go_simp; rfl
          refine pu_ HT_ 26 54 (bA 33 134217727) (v := ?_) (a' := ?_) rfl rfl (by kernel_rfl) (fun _ _ _ h => h) (by rfl) ?_ ?_ ?_; rotate_left; intro w'; go_simp; with_reducible rfl; rotate_left; go_simp; rfl
          refine sk_ HT_ 27 55 (bA 33 268435455) (a' := ?_) rfl rfl (by kernel_rfl) (fun _ _ _ h => h) (by rfl) ?_ ?_; rotate_left; go_simp; rfl
          refine sk_ HT_ 28 56 (bA 33 536870911) (a' := ?_) rfl rfl (by kernel_rfl) (fun _ _ _ h => h) (by rfl) ?_ ?_; rotate_left; go_simp; rfl
          refine sk_ HT_ 29 57 (bA 33 1073741823) (a' := ?_) rfl rfl (by kernel_rfl) (fun _ _ _ h => h) (by rfl) ?_ ?_; rotate_left; go_simp; rfl
          refine sk_ HT_ 30 58 (bA 33 2147483647) (a' := ?_) rfl rfl (by kernel_rfl) (fun _ _ _ h => h) (by rfl) ?_ ?_; rotate_left; go_simp; rfl
          refine sk_ HT_ 31 59 (bA 33 4294967295) (a' := ?_) rfl rfl (by kernel_rfl) (fun _ _ _ h => h) (by rfl) ?_ ?_; rotate_left; go_simp; rfl
          refine pu_ HT_ 32 60 (bA 33 8589934591) (v := ?_) (a' := ?_) rfl rfl (by kernel_rfl) (fun _ _ _ h => h) (by rfl) ?_ ?_ ?_; rotate_left; intro w'; go_simp; with_reducible rfl; rotate_left; go_simp; rfl
          refine done_ (done_of HT_.out (by kernel_rfl)) ?_
          try go_wp2
          go_meet
          case rel => exact ⟨_, (true), (by first | rfl | (simp; done) | (simp [*]; done)), H', ⟨by have := HJ1.out; have := HK2.out; first | omega | exact Nat.le_refl _⟩, ⟨bk BK101.out⟩, ⟨bk BK104.out⟩, ⟨by repeat (first | exact bw HB.out | refine below_set ?_ GE101.out | refine below_set ?_ GE104.out)⟩⟩
        case rest =>
         clear HC14
         try clear c1
         try clear c2
         try clear p2
         try clear c6
         try clear c9
         try clear c10
         try clear c20
         try clear c22
         obtain ⟨kq, x60_13, rfl, HA, HJ13, BK101, BK104, HB⟩ := hcut
         cases kq with
         | zero => exact absurd HA.out (by simp [spec_ZoneOk.j2])
         | succ kj13 =>
          have H := HA.out
          clear HA
          simp only [spec_ZoneOk.j2] at H
          by_cases c54 : x60_13 = true
          ·subst c54
           have H1 : (some false) = some r := by rw [if_pos rfl] at H; exact H
           clear H
           have H := H1
           clear H1
           obtain rfl := Option.some.inj H
           go_wp2
           go_ret
           exact ⟨by first | rfl | (simp [errW_none, errW_some] <;> rfl) | (simp [*, errW_none, errW_some] <;> rfl), by repeat (first | exact bw HB.out | refine below_set ?_ GE101.out | refine below_set ?_ GE104.out)⟩
          ·replace c54 := Bool.eq_false_iff.mpr c54
           subst c54
           have H1 : (if ((rd_T33 l0_1 x4_2).f1) = 6 then ((spec_l2cmp.f kj13 ((rd_T33 l0_1 x4_2).f0.f0) l0_0).bind fun t111 => (if t111 = 0 then (spec_ZoneOk.l0 kj13 (wrap64 (x3_2 + 1)) (wrap64 (x4_2 + 1)) l0_0 l0_1) else (some false))) else (spec_ZoneOk.l0 kj13 x3_2 (wrap64 (x4_2 + 1)) l0_0 l0_1)) = some r := by rw [if_neg (show ¬ (false = true) by decide)] at H; exact H
           clear H
           have H := H1
           clear H1
           by_cases c55 : ((rd_T33 l0_1 x4_2).f1) = 6
           ·rw [if_pos c55] at H
            have c55b0 : (((rd_T33 l0_1 x4_2).f1) == 6) = true := beq_iff_eq.mpr c55
            have c55b1 : (((rd_T33 l0_1 x4_2).f1) != 6) = false := bne_eq_false_iff_eq.mpr c55
            clear c55
            replace H := Option.bind_eq_some_iff.mp H
            obtain ⟨t111, A560, H⟩ := H
            replace H : (if t111 = 0 then (spec_ZoneOk.l0 kj13 (wrap64 (x3_2 + 1)) (wrap64 (x4_2 + 1)) l0_0 l0_1) else (some false)) = some r := H
            have A56 := ak A560
            clear A560
            by_cases c57 : t111 = 0
            ·rw [if_pos c57] at H
             have c57b0 : (t111 == 0) = true := beq_iff_eq.mpr c57
             have c57b1 : (t111 != 0) = false := bne_eq_false_iff_eq.mpr c57
             clear c57
             have H' := ak H
             clear H
             have hnb58 := NB104_101.out
             have hnc58 := NB101_104.out
             obtain ⟨hcz59_0, hcz59_1, hcz59_2, hcz59_3, hcz59_4, hcz59_5, hcz59_6, hfz59_0, hfz59_1, hfz59_2, hfz59_3, hfz59_4, hfz59_5, hfz59_6⟩ := cells7 BK104.out
             obtain ⟨hcz60_0, hcz60_1, hfz60_0, hfz60_1⟩ := cells2 BK101.out
             go_wp2_with (first | ((with_reducible refine gate_callee (f := 98) rfl ?_); refine goesL_ (some 70) rfl rfl Try.func98 (by kernel_rfl) rfl #[.agg #[.slice A103_0 ((rd_T33 l0_1 x4_2).f0.f0).length c103_0], .agg #[.slice A0_0 l0_0.length c0_0]] rfl (by first | rfl | (simp only [List.map_toArray, List.map_cons, List.map_nil]; first | done | rfl)) ?_; (with_reducible refine (spec_l2cmp.calls kj13 _ _ ((rd_T33 l0_1 x4_2).f0.f0) _ _ l0_0 t111 _ ?side1 ?side2 ?side3 ?side4 A56.out).mono ?_); (case side1 => exact cw HR103_0.out HB.out); (case side2 => exact HC103_0.out); (case side3 => exact cw HR0_0.out HB.out); (case side4 => exact HC0_0.out); rintro e w61 ⟨rfl, hb⟩; refine ⟨_, rfl, ?_⟩; replace BK101 := ak (blk_below (bk BK101.out) hb); replace BK104 := ak (blk_below (bk BK104.out) hb); replace HB := ak (below_step (by repeat (first | exact bw HB.out | refine below_set ?_ GE101.out | refine below_set ?_ GE104.out)) hb); (try clear hb)))
             go_roundg kj13
             case measure => have := HJ1.out; have := HK2.out; have := HJ13.out; omega
             case rel => exact ⟨(wrap64 (x3_2 + 1)), (wrap64 (x4_2 + 1)), (by first | rfl | (simp; done) | (simp [*]; done)), (by first | rfl | (simp; done) | (simp [*]; done)), H', ⟨by have := HJ1.out; have := HK2.out; have := HJ13.out; omega⟩, ⟨bk BK101.out⟩, ⟨by repeat (first | exact bw HB.out | refine below_set ?_ GE101.out | refine below_set ?_ GE104.out)⟩⟩
            ·rw [if_neg c57] at H
             have c57b0 : (t111 == 0) = false := beq_eq_false_iff_ne.mpr c57
             have c57b1 : (t111 != 0) = true := bne_iff_ne.mpr c57
             obtain rfl := Option.some.inj H
             have hnb62 := NB104_101.out
             have hnc62 := NB101_104.out
             obtain ⟨hcz63_0, hcz63_1, hcz63_2, hcz63_3, hcz63_4, hcz63_5, hcz63_6, hfz63_0, hfz63_1, hfz63_2, hfz63_3, hfz63_4, hfz63_5, hfz63_6⟩ := cells7 BK104.out
             obtain ⟨hcz64_0, hcz64_1, hfz64_0, hfz64_1⟩ := cells2 BK101.out
             go_wp2_with (first | ((with_reducible refine gate_callee (f := 98) rfl ?_); refine goesL_ (some 70) rfl rfl Try.func98 (by kernel_rfl) rfl #[.agg #[.slice A103_0 ((rd_T33 l0_1 x4_2).f0.f0).length c103_0], .agg #[.slice A0_0 l0_0.length c0_0]] rfl (by first | rfl | (simp only [List.map_toArray, List.map_cons, List.map_nil]; first | done | rfl)) ?_; (with_reducible refine (spec_l2cmp.calls kj13 _ _ ((rd_T33 l0_1 x4_2).f0.f0) _ _ l0_0 t111 _ ?side1 ?side2 ?side3 ?side4 A56.out).mono ?_); (case side1 => exact cw HR103_0.out HB.out); (case side2 => exact HC103_0.out); (case side3 => exact cw HR0_0.out HB.out); (case side4 => exact HC0_0.out); rintro e w65 ⟨rfl, hb⟩; refine ⟨_, rfl, ?_⟩; replace BK101 := ak (blk_below (bk BK101.out) hb); replace BK104 := ak (blk_below (bk BK104.out) hb); replace HB := ak (below_step (by repeat (first | exact bw HB.out | refine below_set ?_ GE101.out | refine below_set ?_ GE104.out)) hb); (try clear hb)))
             go_ret
             exact ⟨by first | rfl | (simp [errW_none, errW_some] <;> rfl) | (simp [*, errW_none, errW_some] <;> rfl), by repeat (first | exact bw HB.out | refine below_set ?_ GE101.out | refine below_set ?_ GE104.out)⟩
           ·rw [if_neg c55] at H
            have c55b0 : (((rd_T33 l0_1 x4_2).f1) == 6) = false := beq_eq_false_iff_ne.mpr c55
            have c55b1 : (((rd_T33 l0_1 x4_2).f1) != 6) = true := bne_iff_ne.mpr c55
            have H' := ak H
            clear H
            have hnb66 := NB104_101.out
            have hnc66 := NB101_104.out
            obtain ⟨hcz67_0, hcz67_1, hcz67_2, hcz67_3, hcz67_4, hcz67_5, hcz67_6, hfz67_0, hfz67_1, hfz67_2, hfz67_3, hfz67_4, hfz67_5, hfz67_6⟩ := cells7 BK104.out
            go_wp2
            go_roundg kj13
            case measure => have := HJ1.out; have := HK2.out; have := HJ13.out; omega
            case rel => exact ⟨(x3_2), (wrap64 (x4_2 + 1)), (by first | rfl | (simp; done) | (simp [*]; done)), (by first | rfl | (simp; done) | (simp [*]; done)), H', ⟨by have := HJ1.out; have := HK2.out; have := HJ13.out; omega⟩, ⟨bk BK101.out⟩, ⟨by repeat (first | exact bw HB.out | refine below_set ?_ GE101.out | refine below_set ?_ GE104.out)⟩⟩
       ·rw [if_neg c13] at H
        exact absurd H (by simp)
      ·rw [if_neg c12] at H
       have c12b0 : decide (x4_2 < (l0_1.length : Int)) = false := decide_eq_false c12
       clear c12
       obtain rfl := Option.some.inj H
       obtain ⟨hcz68_0, hcz68_1, hfz68_0, hfz68_1⟩ := cells2 BK101.out
       go_wp2
       go_ret
       exact ⟨by first | rfl | (simp [errW_none, errW_some] <;> rfl) | (simp [*, errW_none, errW_some] <;> rfl), by repeat (first | exact bw HB.out | refine below_set ?_ GE101.out)⟩


/-! ### spec_l5has: function 106 -/
def spec_l5has.l0 : Nat → Int → List (List Int) → List (S33) → List (List Int) → Option (Bool)
 | 0, _, _, _, _ => none
 | k + 1, x5, x102000, x102001, x103000 => if x5 < (x102001.length : Int) then (if 0 ≤ x5 then ((spec_l2under.f k ((rd_T33 x102001 x5).f0.f0) x103000).bind fun t104 => (if t104 = true then (some true) else (spec_l5has.l0 k (wrap64 (x5 + 1)) x102000 x102001 x103000))) else (none)) else (some false)
def spec_l5has.f (k : Nat) (l0_0 : List (List Int)) (l0_1 : List (S33)) (l1_0 : List (List Int)) : Option (Bool) := spec_l5has.l0 k 0 l0_0 l0_1 l1_0
def spec_l5has.T4 : Bool × List (List Nat × List Nat) := (true, [([], []), ([0], [0]), ([], []), ([1, 2], [1, 2]), ([3], [3]), ([4], [4]), ([], []), ([5, 6], [5, 6])])
def spec_l5has.B4 : List Nat := [0, 1, 0, 7, 15, 31, 0, 127]
theorem spec_l5has.tab4 : rtab .any (opsOf Try.f106 4) = spec_l5has.T4 := by kernel_rfl
theorem spec_l5has.bits4 : waitsOk spec_l5has.T4.2 spec_l5has.B4 = true := by kernel_rfl
set_option maxHeartbeats 8000000 in
set_option maxRecDepth 100000 in
theorem spec_l5has.calls (k : Nat) (A0_0 : Option Addr) (c0_0 : Nat) (l0_0 : List (List Int)) (A0_1 : Option Addr) (c0_1 : Nat) (l0_1 : List (S33)) (A1_0 : Option Addr) (c1_0 : Nat) (l1_0 : List (List Int)) (r : Bool) (w : World) (hr0_0 : Kd.C (Kd.slice 5 (Kd.int .u8)) w A0_0 l0_0.length l0_0) (hc0_0 : l0_0.length ≤ c0_0) (hr0_1 : Kd.C k33 w A0_1 l0_1.length l0_1) (hc0_1 : l0_1.length ≤ c0_1) (hr1_0 : Kd.C (Kd.slice 5 (Kd.int .u8)) w A1_0 l1_0.length l1_0) (hc1_0 : l1_0.length ≤ c1_0) (h : spec_l5has.f k l0_0 l0_1 l1_0 = some r) :
  Calls Try.prog 106 #[.agg #[.slice A0_0 l0_0.length c0_0, .slice A0_1 l0_1.length c0_1], .agg #[.slice A1_0 l1_0.length c1_0]] w fun e w' => e = .returned (.bool r) ∧ Below w.heap.size w w' := by
 have hu59 := Try.underlying59
 have hu31 := Try.underlying31
 have HR0_0 := ak hr0_0
 have HC0_0 := ak hc0_0
 clear hr0_0 hc0_0
 have HR0_1 := ak hr0_1
 have HC0_1 := ak hc0_1
 clear hr0_1 hc0_1
 have HR1_0 := ak hr1_0
 have HC1_0 := ak hc1_0
 clear hr1_0 hc1_0
 have HB := ak (Below.refl w.heap.size w)
 have H : (spec_l5has.l0 k 0 l0_0 l0_1 l1_0) = some r := h
 clear h
 have H' := ak H
 clear H
 go_enter Try.func106, Try.ntmps106
 go_wp2_with (first | ((with_reducible refine gate_dst (N := 2) rfl ?_); refine boxed (N := 2) rfl rfl (cs := #[.slice A0_0 l0_0.length c0_0, .slice A0_1 l0_1.length c0_1]) (t := 59) HB.out (by first | (go_simp; done) | (go_simp; rfl)) ?_; clear HB; intro gb101 w3 hg HB BK101 GE101 hb; have GW101 := GE101; clear hb hg) | ((with_reducible refine gate_dst (N := 3) rfl ?_); refine box_event ?hg (N := 3) ?hd (cs := #[.slice A1_0 l1_0.length c1_0]) (t := 31) ?hr ?_; (case hd => rfl); (case hg => rfl); (case hr => first | (go_simp; done) | (go_simp; rfl)); intro gb102 hg w4 hbox hb; have BK102 := ak (hbox); have GW102 := ak ((by rw [hg]; exact (below_size (bw HB.out)) : w.heap.size ≤ gb102)); have GE102 := ak ((by rw [hg]; exact (below_size (bw HB.out)) : w.heap.size ≤ gb102)); replace HB := ak (below_step (bw HB.out) hb); have NB101_102 := ak ((by rw [hg]; exact Nat.ne_of_lt (blk_lt (bk BK101.out)) : gb101 ≠ gb102)); have NB102_101 := ak ((by rw [hg]; exact Nat.ne_of_gt (blk_lt (bk BK101.out)) : gb102 ≠ gb101)); replace BK101 := ak (blk_below (bk BK101.out) hb); clear hb hbox hg))
 go_loopg [5] k (fun kq v5 w' => ∃ (x5_1 : Int), v5 = .int .i64 x5_1 ∧ Aside0 (spec_l5has.l0 kq x5_1 l0_0 l0_1 l1_0 = some r) ∧ Aside0 (kq ≤ k) ∧ Aside0 (w'.heap[gb101]? = some (.cells #[(.slice A0_0 l0_0.length c0_0), (.slice A0_1 l0_1.length c0_1)] 59 (0, 0))) ∧ Aside0 (w'.heap[gb102]? = some (.cells #[(.slice A1_0 l1_0.length c1_0)] 31 (0, 0))) ∧ Aside0 (Below w.heap.size w w'))
 case atStart => exact ⟨(0), (by first | rfl | (simp; done) | (simp [*]; done)), H', ⟨Nat.le_refl _⟩, ⟨bk BK101.out⟩, ⟨bk BK102.out⟩, ⟨bw HB.out⟩⟩
 case round =>
  clear H'
  try clear c1
  try clear p2
  obtain ⟨x5_1, rfl, HA, HK1, BK101, BK102, HB⟩ := hrel
  cases gk with
  | zero => exact absurd HA.out (by simp [spec_l5has.l0])
  | succ k1 =>
   have H := HA.out
   clear HA
   simp only [spec_l5has.l0] at H
   by_cases c5 : x5_1 < (l0_1.length : Int)
   ·rw [if_pos c5] at H
    have c5b0 : decide (x5_1 < (l0_1.length : Int)) = true := decide_eq_true c5
    clear c5
    by_cases c6 : 0 ≤ x5_1
    ·rw [if_pos c6] at H
     have c6b0 : decide (0 ≤ x5_1) = true := decide_eq_true c6
     clear c6
     replace H := Option.bind_eq_some_iff.mp H
     obtain ⟨t104, A70, H⟩ := H
     replace H : (if t104 = true then (some true) else (spec_l5has.l0 k1 (wrap64 (x5_1 + 1)) l0_0 l0_1 l1_0)) = some r := H
     have A7 := ak A70
     clear A70
     by_cases c8 : t104 = true
     ·subst c8
      have H1 : (some true) = some r := by rw [if_pos rfl] at H; exact H
      clear H
      have H := H1
      clear H1
      obtain rfl := Option.some.inj H
      have hnb9 := NB101_102.out
      have hnc9 := NB102_101.out
      obtain ⟨hcz10_0, hcz10_1, hfz10_0, hfz10_1⟩ := cells2 BK101.out
      try go_wp2
      have n0_ := ak (blk_drew BK101.out)
      have n1_ := ak (blk_drew BK102.out)
      have n2_ := ak (below_drew1 HB.out)
      clear BK101
      clear BK102
      clear HB
      have BK101 := n0_
      have BK102 := n1_
      have HB := n2_
      clear n0_ n1_ n2_
      have p103 : 0 ≤ (x5_1 : Int) := of_decide_eq_true (by first | (with_reducible assumption) | assumption)
      have q103 : x5_1 < (l0_1.length : Int) := of_decide_eq_true (by first | (with_reducible assumption) | assumption)
      obtain ⟨ad103, A103_0, c103_0, A103_4, c103_4, A103_5, c103_5, A103_6, c103_6, e103, hx103_0, hx103_1, hx103_2, hx103_3, hx103_4, hx103_5, hx103_6, hl103_0, hi103_0, hl103_4, hi103_4, hl103_5, hi103_5, hl103_6, hi103_6⟩ := at_T33 HR0_1.out x5_1 p103 q103
      have hw103_6 := hx103_6
      have hw103_5 := hx103_5
      have hw103_4 := hx103_4
      have hw103_3 := hx103_3
      have hw103_2 := hx103_2
      have hw103_1 := hx103_1
      have hw103_0 := hx103_0
      cases e103
      replace hx103_0 := hc_ HB.out hx103_0
      replace hx103_1 := hc_ HB.out hx103_1
      replace hx103_2 := hc_ HB.out hx103_2
      replace hx103_3 := hc_ HB.out hx103_3
      replace hx103_4 := hc_ HB.out hx103_4
      replace hx103_5 := hc_ HB.out hx103_5
      replace hx103_6 := hc_ HB.out hx103_6
      have HR103_0 := ak hi103_0
      have HC103_0 := ak hl103_0
      clear hi103_0 hl103_0
      have HR103_4 := ak hi103_4
      have HC103_4 := ak hl103_4
      clear hi103_4 hl103_4
      have HR103_5 := ak hi103_5
      have HC103_5 := ak hl103_5
      clear hi103_5 hl103_5
      have HR103_6 := ak hi103_6
      have HC103_6 := ak hl103_6
      clear hi103_6 hl103_6
      replace p103 := eq_true p103
      replace q103 := eq_true q103
      refine start_ (n := 8) (S := fun w' => w'.cell? ⟨gb101, 0, none⟩ = some (.slice A0_0 l0_0.length c0_0) ∧ w'.cell? ⟨gb101, 1, none⟩ = some (.slice (some ad103) l0_1.length c0_1) ∧ w'.cell? ⟨gb102, 0, none⟩ = some (.slice A1_0 l1_0.length c1_0) ∧ w'.cell? (ad103.add ((x5_1).toNat * 7)) = some (.slice A103_0 ((rd_T33 l0_1 x5_1).f0.f0).length c103_0) ∧ w'.cell? ⟨(ad103.add ((x5_1).toNat * 7)).block, (ad103.add ((x5_1).toNat * 7)).off + 1, none⟩ = some (.int .i64 ((rd_T33 l0_1 x5_1).f1)) ∧ w'.cell? ⟨(ad103.add ((x5_1).toNat * 7)).block, (ad103.add ((x5_1).toNat * 7)).off + 2, none⟩ = some (.int .i64 ((rd_T33 l0_1 x5_1).f2)) ∧ w'.cell? ⟨(ad103.add ((x5_1).toNat * 7)).block, (ad103.add ((x5_1).toNat * 7)).off + 3, none⟩ = some (.int .i64 ((rd_T33 l0_1 x5_1).f3)) ∧ w'.cell? ⟨(ad103.add ((x5_1).toNat * 7)).block, (ad103.add ((x5_1).toNat * 7)).off + 4, none⟩ = some (.slice A103_4 ((rd_T33 l0_1 x5_1).f4.f0).length c103_4) ∧ w'.cell? ⟨(ad103.add ((x5_1).toNat * 7)).block, (ad103.add ((x5_1).toNat * 7)).off + 5, none⟩ = some (.slice A103_5 ((rd_T33 l0_1 x5_1).f5).length c103_5) ∧ w'.cell? ⟨(ad103.add ((x5_1).toNat * 7)).block, (ad103.add ((x5_1).toNat * 7)).off + 6, none⟩ = some (.slice A103_6 ((rd_T33 l0_1 x5_1).f6).length c103_6)) (ds := []) (bA 8 0) (by kernel_rfl) rfl rfl ⟨(blk_cell BK101.out 0).trans rfl, (blk_cell BK101.out 1).trans rfl, (blk_cell BK102.out 0).trans rfl, (hc_ HB.out hw103_0), (hc_ HB.out hw103_1), (hc_ HB.out hw103_2), (hc_ HB.out hw103_3), (hc_ HB.out hw103_4), (hc_ HB.out hw103_5), (hc_ HB.out hw103_6)⟩ (fun hHeld => ?_); refine with_tabW spec_l5has.tab4 spec_l5has.bits4 (fun HT_ HW_ => ?_)
      generalize wr.drew = w11 at BK101 BK102 HB HR103_0 HR103_4 HR103_5 HR103_6 hx103_0 hx103_1 hx103_2 hx103_3 hx103_4 hx103_5 hx103_6 hHeld ⊢
      refine pu_ HT_ 0 13 (bA 8 1) (v := ?_) (a' := ?_) rfl rfl (by kernel_rfl) (fun _ _ _ h => h) (by rfl) ?_ ?_ ?_; rotate_left; intro w'; go_simp; with_reducible rfl; rotate_left; go_simp; rfl
      refine pu_ HT_ 2 15 (bA 8 5) (v := ?_) (a' := ?_) rfl rfl (by kernel_rfl) (fun _ _ _ h => h) (by rfl) ?_ ?_ ?_; rotate_left; intro w'; go_simp; with_reducible rfl; rotate_left; go_simp; rfl
      refine take_ (i := 1) (N := some 14) (v := ?_) (a' := ?_) (bA 8 7) rfl rfl (take_ofW HT_.out HW_.out (by kernel_rfl)) (fun _ _ _ h => h) (Or.inl ⟨by rfl, ?_⟩) hHeld ?_ ?_
      rotate_left; rintro w' ⟨s0, s1, s2, s3, s4, s5, s6, s7, s8, s9⟩; go_simp; with_reducible rfl; rotate_left; go_simp; rfl
      refine pu_ HT_ 3 16 (bA 8 15) (v := ?_) (a' := ?_) rfl rfl (by kernel_rfl) (fun _ _ _ h => h) (by rfl) ?_ ?_ ?_; rotate_left; intro w'; go_simp; with_reducible rfl; rotate_left; go_simp; rfl
      refine pu_ HT_ 4 17 (bA 8 31) (v := ?_) (a' := ?_) rfl rfl (by kernel_rfl) (fun _ _ _ h => h) (by rfl) ?_ ?_ ?_; rotate_left; intro w'; go_simp; with_reducible rfl; rotate_left; go_simp; rfl
      refine take_ (i := 5) (N := some 18) (v := ?_) (a' := ?_) (bA 8 63) rfl rfl (take_ofW HT_.out HW_.out (by kernel_rfl)) (fun _ _ _ h => h) (Or.inl ⟨by rfl, ?_⟩) hHeld ?_ ?_
      rotate_left; rintro w' ⟨s0, s1, s2, s3, s4, s5, s6, s7, s8, s9⟩; go_simp; with_reducible rfl; rotate_left; go_simp; rfl
      refine take_ (i := 6) (N := some 19) (v := ?_) (a' := ?_) (bA 8 127) rfl rfl (take_ofW HT_.out HW_.out (by kernel_rfl)) (fun _ _ _ h => h) (Or.inl ⟨by rfl, ?_⟩) hHeld ?_ ?_
      rotate_left; rintro w' ⟨s0, s1, s2, s3, s4, s5, s6, s7, s8, s9⟩; go_simp; with_reducible rfl; rotate_left; go_simp; rfl
      refine one_ (i := 7) (N := some 20) (bA 8 255) rfl rfl (one_of HT_.out (by kernel_rfl)) (by decide) (fun K hK => ?_)
      refine goes_ Try.func96 (by kernel_rfl) rfl #[.agg #[.slice A103_0 ((rd_T33 l0_1 x5_1).f0.f0).length c103_0], .agg #[.slice A1_0 l1_0.length c1_0]] (by rfl) rfl rfl (by first | rfl | (simp only [List.map_toArray, List.map_cons, List.map_nil]; first | done | rfl)) ?_
      with_reducible refine (spec_l2under.calls k1 _ _ ((rd_T33 l0_1 x5_1).f0.f0) _ _ l1_0 true _ ?side1 ?side2 ?side3 ?side4 A7.out).mono ?_
      (case side1 => exact cw HR103_0.out HB.out)
      (case side2 => exact HC103_0.out)
      (case side3 => exact cw HR1_0.out HB.out)
      (case side4 => exact HC1_0.out)
      rintro e w12 ⟨rfl, hb⟩
      refine ⟨_, rfl, ?_⟩
      have n0_ := ak (blk_below (bk BK101.out) hb)
      have n1_ := ak (blk_below (bk BK102.out) hb)
      have n2_ := ak (below_step (bw HB.out) hb)
      clear BK101
      clear BK102
      clear HB
      have BK101 := n0_
      have BK102 := n1_
      have HB := n2_
      clear n0_ n1_ n2_
      (try clear hb)
      (try clear hb2)
      (try clear hk)
      (try clear hi)
      refine hK.out _ _ ⟨(blk_cell BK101.out 0).trans rfl, (blk_cell BK101.out 1).trans rfl, (blk_cell BK102.out 0).trans rfl, (hc_ HB.out hw103_0), (hc_ HB.out hw103_1), (hc_ HB.out hw103_2), (hc_ HB.out hw103_3), (hc_ HB.out hw103_4), (hc_ HB.out hw103_5), (hc_ HB.out hw103_6)⟩ (fun hHeld => ?_)
      clear hK K
      refine norm_ (a' := ?_) ?_ ?_; rotate_left; go_simp; rfl
      refine done_ (done_of HT_.out (by kernel_rfl)) ?_
      try go_wp2
      go_ret
      exact ⟨by first | rfl | (simp [errW_none, errW_some] <;> rfl) | (simp [*, errW_none, errW_some] <;> rfl), bw HB.out⟩
     ·replace c8 := Bool.eq_false_iff.mpr c8
      subst c8
      have H1 : (spec_l5has.l0 k1 (wrap64 (x5_1 + 1)) l0_0 l0_1 l1_0) = some r := by rw [if_neg (show ¬ (false = true) by decide)] at H; exact H
      clear H
      have H := H1
      clear H1
      have H' := ak H
      clear H
      have hnb13 := NB101_102.out
      have hnc13 := NB102_101.out
      obtain ⟨hcz14_0, hcz14_1, hfz14_0, hfz14_1⟩ := cells2 BK101.out
      try go_wp2
      have n0_ := ak (blk_drew BK101.out)
      have n1_ := ak (blk_drew BK102.out)
      have n2_ := ak (below_drew1 HB.out)
      clear BK101
      clear BK102
      clear HB
      have BK101 := n0_
      have BK102 := n1_
      have HB := n2_
      clear n0_ n1_ n2_
      have p103 : 0 ≤ (x5_1 : Int) := of_decide_eq_true (by first | (with_reducible assumption) | assumption)
      have q103 : x5_1 < (l0_1.length : Int) := of_decide_eq_true (by first | (with_reducible assumption) | assumption)
      obtain ⟨ad103, A103_0, c103_0, A103_4, c103_4, A103_5, c103_5, A103_6, c103_6, e103, hx103_0, hx103_1, hx103_2, hx103_3, hx103_4, hx103_5, hx103_6, hl103_0, hi103_0, hl103_4, hi103_4, hl103_5, hi103_5, hl103_6, hi103_6⟩ := at_T33 HR0_1.out x5_1 p103 q103
      have hw103_6 := hx103_6
      have hw103_5 := hx103_5
      have hw103_4 := hx103_4
      have hw103_3 := hx103_3
      have hw103_2 := hx103_2
      have hw103_1 := hx103_1
      have hw103_0 := hx103_0
      cases e103
      replace hx103_0 := hc_ HB.out hx103_0
      replace hx103_1 := hc_ HB.out hx103_1
      replace hx103_2 := hc_ HB.out hx103_2
      replace hx103_3 := hc_ HB.out hx103_3
      replace hx103_4 := hc_ HB.out hx103_4
      replace hx103_5 := hc_ HB.out hx103_5
      replace hx103_6 := hc_ HB.out hx103_6
      have HR103_0 := ak hi103_0
      have HC103_0 := ak hl103_0
      clear hi103_0 hl103_0
      have HR103_4 := ak hi103_4
      have HC103_4 := ak hl103_4
      clear hi103_4 hl103_4
      have HR103_5 := ak hi103_5
      have HC103_5 := ak hl103_5
      clear hi103_5 hl103_5
      have HR103_6 := ak hi103_6
      have HC103_6 := ak hl103_6
      clear hi103_6 hl103_6
      replace p103 := eq_true p103
      replace q103 := eq_true q103
      refine start_ (n := 8) (S := fun w' => w'.cell? ⟨gb101, 0, none⟩ = some (.slice A0_0 l0_0.length c0_0) ∧ w'.cell? ⟨gb101, 1, none⟩ = some (.slice (some ad103) l0_1.length c0_1) ∧ w'.cell? ⟨gb102, 0, none⟩ = some (.slice A1_0 l1_0.length c1_0) ∧ w'.cell? (ad103.add ((x5_1).toNat * 7)) = some (.slice A103_0 ((rd_T33 l0_1 x5_1).f0.f0).length c103_0) ∧ w'.cell? ⟨(ad103.add ((x5_1).toNat * 7)).block, (ad103.add ((x5_1).toNat * 7)).off + 1, none⟩ = some (.int .i64 ((rd_T33 l0_1 x5_1).f1)) ∧ w'.cell? ⟨(ad103.add ((x5_1).toNat * 7)).block, (ad103.add ((x5_1).toNat * 7)).off + 2, none⟩ = some (.int .i64 ((rd_T33 l0_1 x5_1).f2)) ∧ w'.cell? ⟨(ad103.add ((x5_1).toNat * 7)).block, (ad103.add ((x5_1).toNat * 7)).off + 3, none⟩ = some (.int .i64 ((rd_T33 l0_1 x5_1).f3)) ∧ w'.cell? ⟨(ad103.add ((x5_1).toNat * 7)).block, (ad103.add ((x5_1).toNat * 7)).off + 4, none⟩ = some (.slice A103_4 ((rd_T33 l0_1 x5_1).f4.f0).length c103_4) ∧ w'.cell? ⟨(ad103.add ((x5_1).toNat * 7)).block, (ad103.add ((x5_1).toNat * 7)).off + 5, none⟩ = some (.slice A103_5 ((rd_T33 l0_1 x5_1).f5).length c103_5) ∧ w'.cell? ⟨(ad103.add ((x5_1).toNat * 7)).block, (ad103.add ((x5_1).toNat * 7)).off + 6, none⟩ = some (.slice A103_6 ((rd_T33 l0_1 x5_1).f6).length c103_6)) (ds := []) (bA 8 0) (by kernel_rfl) rfl rfl ⟨(blk_cell BK101.out 0).trans rfl, (blk_cell BK101.out 1).trans rfl, (blk_cell BK102.out 0).trans rfl, (hc_ HB.out hw103_0), (hc_ HB.out hw103_1), (hc_ HB.out hw103_2), (hc_ HB.out hw103_3), (hc_ HB.out hw103_4), (hc_ HB.out hw103_5), (hc_ HB.out hw103_6)⟩ (fun hHeld => ?_); refine with_tabW spec_l5has.tab4 spec_l5has.bits4 (fun HT_ HW_ => ?_)
      generalize wr.drew = w15 at BK101 BK102 HB HR103_0 HR103_4 HR103_5 HR103_6 hx103_0 hx103_1 hx103_2 hx103_3 hx103_4 hx103_5 hx103_6 hHeld ⊢
      refine pu_ HT_ 0 13 (bA 8 1) (v := ?_) (a' := ?_) rfl rfl (by kernel_rfl) (fun _ _ _ h => h) (by rfl) ?_ ?_ ?_; rotate_left; intro w'; go_simp; with_reducible rfl; rotate_left; go_simp; rfl
      refine pu_ HT_ 2 15 (bA 8 5) (v := ?_) (a' := ?_) rfl rfl (by kernel_rfl) (fun _ _ _ h => h) (by rfl) ?_ ?_ ?_; rotate_left; intro w'; go_simp; with_reducible rfl; rotate_left; go_simp; rfl
      refine take_ (i := 1) (N := some 14) (v := ?_) (a' := ?_) (bA 8 7) rfl rfl (take_ofW HT_.out HW_.out (by kernel_rfl)) (fun _ _ _ h => h) (Or.inl ⟨by rfl, ?_⟩) hHeld ?_ ?_
      rotate_left; rintro w' ⟨s0, s1, s2, s3, s4, s5, s6, s7, s8, s9⟩; go_simp; with_reducible rfl; rotate_left; go_simp; rfl
      refine pu_ HT_ 3 16 (bA 8 15) (v := ?_) (a' := ?_) rfl rfl (by kernel_rfl) (fun _ _ _ h => h) (by rfl) ?_ ?_ ?_; rotate_left; intro w'; go_simp; with_reducible rfl; rotate_left; go_simp; rfl
      refine pu_ HT_ 4 17 (bA 8 31) (v := ?_) (a' := ?_) rfl rfl (by kernel_rfl) (fun _ _ _ h => h) (by rfl) ?_ ?_ ?_; rotate_left; intro w'; go_simp; with_reducible rfl; rotate_left; go_simp; rfl
      refine take_ (i := 5) (N := some 18) (v := ?_) (a' := ?_) (bA 8 63) rfl rfl (take_ofW HT_.out HW_.out (by kernel_rfl)) (fun _ _ _ h => h) (Or.inl ⟨by rfl, ?_⟩) hHeld ?_ ?_
      rotate_left; rintro w' ⟨s0, s1, s2, s3, s4, s5, s6, s7, s8, s9⟩; go_simp; with_reducible rfl; rotate_left; go_simp; rfl
      refine take_ (i := 6) (N := some 19) (v := ?_) (a' := ?_) (bA 8 127) rfl rfl (take_ofW HT_.out HW_.out (by kernel_rfl)) (fun _ _ _ h => h) (Or.inl ⟨by rfl, ?_⟩) hHeld ?_ ?_
      rotate_left; rintro w' ⟨s0, s1, s2, s3, s4, s5, s6, s7, s8, s9⟩; go_simp; with_reducible rfl; rotate_left; go_simp; rfl
      refine one_ (i := 7) (N := some 20) (bA 8 255) rfl rfl (one_of HT_.out (by kernel_rfl)) (by decide) (fun K hK => ?_)
      refine goes_ Try.func96 (by kernel_rfl) rfl #[.agg #[.slice A103_0 ((rd_T33 l0_1 x5_1).f0.f0).length c103_0], .agg #[.slice A1_0 l1_0.length c1_0]] (by rfl) rfl rfl (by first | rfl | (simp only [List.map_toArray, List.map_cons, List.map_nil]; first | done | rfl)) ?_
      with_reducible refine (spec_l2under.calls k1 _ _ ((rd_T33 l0_1 x5_1).f0.f0) _ _ l1_0 false _ ?side1 ?side2 ?side3 ?side4 A7.out).mono ?_
      (case side1 => exact cw HR103_0.out HB.out)
      (case side2 => exact HC103_0.out)
      (case side3 => exact cw HR1_0.out HB.out)
      (case side4 => exact HC1_0.out)
      rintro e w16 ⟨rfl, hb⟩
      refine ⟨_, rfl, ?_⟩
      have n0_ := ak (blk_below (bk BK101.out) hb)
      have n1_ := ak (blk_below (bk BK102.out) hb)
      have n2_ := ak (below_step (bw HB.out) hb)
      clear BK101
      clear BK102
      clear HB
      have BK101 := n0_
      have BK102 := n1_
      have HB := n2_
      clear n0_ n1_ n2_
      (try clear hb)
      (try clear hb2)
      (try clear hk)
      (try clear hi)
      refine hK.out _ _ ⟨(blk_cell BK101.out 0).trans rfl, (blk_cell BK101.out 1).trans rfl, (blk_cell BK102.out 0).trans rfl, (hc_ HB.out hw103_0), (hc_ HB.out hw103_1), (hc_ HB.out hw103_2), (hc_ HB.out hw103_3), (hc_ HB.out hw103_4), (hc_ HB.out hw103_5), (hc_ HB.out hw103_6)⟩ (fun hHeld => ?_)
      clear hK K
      refine norm_ (a' := ?_) ?_ ?_; rotate_left; go_simp; rfl
      refine done_ (done_of HT_.out (by kernel_rfl)) ?_
      try go_wp2
      go_roundg k1
      case measure => have := HK1.out; omega
      case rel => exact ⟨(wrap64 (x5_1 + 1)), (by first | rfl | (simp; done) | (simp [*]; done)), H', ⟨by have := HK1.out; omega⟩, ⟨bk BK101.out⟩, ⟨bk BK102.out⟩, ⟨bw HB.out⟩⟩
    ·rw [if_neg c6] at H
     exact absurd H (by simp)
   ·rw [if_neg c5] at H
    have c5b0 : decide (x5_1 < (l0_1.length : Int)) = false := decide_eq_false c5
    clear c5
    obtain rfl := Option.some.inj H
    have hnb17 := NB101_102.out
    have hnc17 := NB102_101.out
    obtain ⟨hcz18_0, hcz18_1, hfz18_0, hfz18_1⟩ := cells2 BK101.out
    go_wp2
    go_ret
    exact ⟨by first | rfl | (simp [errW_none, errW_some] <;> rfl) | (simp [*, errW_none, errW_some] <;> rfl), bw HB.out⟩


/-! ### spec_HasName: function 40 -/
def spec_HasName.f (k : Nat) (l0_0 : List (List Int)) (l0_1 : List (S33)) (l1_0 : List (List Int)) : Option (Bool) := (spec_ZoneOk.f k l0_0 l0_1).bind fun t103 => (if t103 = true then ((spec_NameOk.f k l1_0).bind fun t104 => (if t104 = true then ((spec_l5has.f k l0_0 l0_1 l1_0).bind fun t105 => (some t105)) else (some false))) else (some false))
set_option maxHeartbeats 8000000 in
set_option maxRecDepth 100000 in
theorem spec_HasName.calls (k : Nat) (A0_0 : Option Addr) (c0_0 : Nat) (l0_0 : List (List Int)) (A0_1 : Option Addr) (c0_1 : Nat) (l0_1 : List (S33)) (A1_0 : Option Addr) (c1_0 : Nat) (l1_0 : List (List Int)) (r : Bool) (w : World) (hr0_0 : Kd.C (Kd.slice 5 (Kd.int .u8)) w A0_0 l0_0.length l0_0) (hc0_0 : l0_0.length ≤ c0_0) (hr0_1 : Kd.C k33 w A0_1 l0_1.length l0_1) (hc0_1 : l0_1.length ≤ c0_1) (hr1_0 : Kd.C (Kd.slice 5 (Kd.int .u8)) w A1_0 l1_0.length l1_0) (hc1_0 : l1_0.length ≤ c1_0) (h : spec_HasName.f k l0_0 l0_1 l1_0 = some r) :
  Calls Try.prog 40 #[.agg #[.slice A0_0 l0_0.length c0_0, .slice A0_1 l0_1.length c0_1], .agg #[.slice A1_0 l1_0.length c1_0]] w fun e w' => e = .returned (.bool r) ∧ Below w.heap.size w w' := by
 have hu59 := Try.underlying59
 have hu31 := Try.underlying31
 have HR0_0 := ak hr0_0
 have HC0_0 := ak hc0_0
 clear hr0_0 hc0_0
 have HR0_1 := ak hr0_1
 have HC0_1 := ak hc0_1
 clear hr0_1 hc0_1
 have HR1_0 := ak hr1_0
 have HC1_0 := ak hc1_0
 clear hr1_0 hc1_0
 have HB := ak (Below.refl w.heap.size w)
 have H : ((spec_ZoneOk.f k l0_0 l0_1).bind fun t103 => (if t103 = true then ((spec_NameOk.f k l1_0).bind fun t104 => (if t104 = true then ((spec_l5has.f k l0_0 l0_1 l1_0).bind fun t105 => (some t105)) else (some false))) else (some false))) = some r := h
 clear h
 replace H := Option.bind_eq_some_iff.mp H
 obtain ⟨t103, A30, H⟩ := H
 replace H : (if t103 = true then ((spec_NameOk.f k l1_0).bind fun t104 => (if t104 = true then ((spec_l5has.f k l0_0 l0_1 l1_0).bind fun t105 => (some t105)) else (some false))) else (some false)) = some r := H
 have A3 := ak A30
 clear A30
 by_cases c4 : t103 = true
 ·subst c4
  have H1 : ((spec_NameOk.f k l1_0).bind fun t104 => (if t104 = true then ((spec_l5has.f k l0_0 l0_1 l1_0).bind fun t105 => (some t105)) else (some false))) = some r := by rw [if_pos rfl] at H; exact H
  clear H
  have H := H1
  clear H1
  replace H := Option.bind_eq_some_iff.mp H
  obtain ⟨t104, A50, H⟩ := H
  replace H : (if t104 = true then ((spec_l5has.f k l0_0 l0_1 l1_0).bind fun t105 => (some t105)) else (some false)) = some r := H
  have A5 := ak A50
  clear A50
  by_cases c6 : t104 = true
  ·subst c6
   have H1 : ((spec_l5has.f k l0_0 l0_1 l1_0).bind fun t105 => (some t105)) = some r := by rw [if_pos rfl] at H; exact H
   clear H
   have H := H1
   clear H1
   replace H := Option.bind_eq_some_iff.mp H
   obtain ⟨t105, A70, H⟩ := H
   replace H : (some t105) = some r := H
   have A7 := ak A70
   clear A70
   obtain rfl := Option.some.inj H
   go_enter Try.func40, Try.ntmps40
   go_wp2_with (first | ((with_reducible refine gate_dst (N := 2) rfl ?_); refine boxed (N := 2) rfl rfl (cs := #[.slice A0_0 l0_0.length c0_0, .slice A0_1 l0_1.length c0_1]) (t := 59) HB.out (by first | (go_simp; done) | (go_simp; rfl)) ?_; clear HB; intro gb101 w8 hg HB BK101 GE101 hb; have GW101 := GE101; clear hb hg) | ((with_reducible refine gate_dst (N := 3) rfl ?_); refine box_event ?hg (N := 3) ?hd (cs := #[.slice A1_0 l1_0.length c1_0]) (t := 31) ?hr ?_; (case hd => rfl); (case hg => rfl); (case hr => first | (go_simp; done) | (go_simp; rfl)); intro gb102 hg w9 hbox hb; have BK102 := ak (hbox); have GW102 := ak ((by rw [hg]; exact (below_size (bw HB.out)) : w.heap.size ≤ gb102)); have GE102 := ak ((by rw [hg]; exact (below_size (bw HB.out)) : w.heap.size ≤ gb102)); replace HB := ak (below_step (bw HB.out) hb); have NB101_102 := ak ((by rw [hg]; exact Nat.ne_of_lt (blk_lt (bk BK101.out)) : gb101 ≠ gb102)); have NB102_101 := ak ((by rw [hg]; exact Nat.ne_of_gt (blk_lt (bk BK101.out)) : gb102 ≠ gb101)); replace BK101 := ak (blk_below (bk BK101.out) hb); clear hb hbox hg; have hnb10 := NB101_102.out; have hnc10 := NB102_101.out; obtain ⟨hcz11_0, hcz11_1, hfz11_0, hfz11_1⟩ := cells2 BK101.out) | ((with_reducible refine gate_callee (f := 35) rfl ?_); refine goesL_ (some 6) rfl rfl Try.func35 (by kernel_rfl) rfl #[.agg #[.slice A0_0 l0_0.length c0_0, .slice A0_1 l0_1.length c0_1]] rfl (by first | rfl | (simp only [List.map_toArray, List.map_cons, List.map_nil]; first | done | rfl)) ?_; (with_reducible refine (spec_ZoneOk.calls k _ _ l0_0 _ _ l0_1 true _ ?side1 ?side2 ?side3 ?side4 A3.out).mono ?_); (case side1 => exact cw HR0_0.out HB.out); (case side2 => exact HC0_0.out); (case side3 => exact cw HR0_1.out HB.out); (case side4 => exact HC0_1.out); rintro e w12 ⟨rfl, hb⟩; refine ⟨_, rfl, ?_⟩; replace BK101 := ak (blk_below (bk BK101.out) hb); replace BK102 := ak (blk_below (bk BK102.out) hb); replace HB := ak (below_step (bw HB.out) hb); (try clear hb); obtain ⟨hcz13_0, hfz13_0⟩ := cells1 BK102.out) | (go_at_call 76; (with_reducible refine (spec_NameOk.calls k _ _ l1_0 true _ ?side1 ?side2 A5.out).mono ?_); (case side1 => exact cw HR1_0.out HB.out); (case side2 => exact HC1_0.out); rintro e w14 ⟨rfl, hb⟩; replace BK101 := ak (blk_below (bk BK101.out) hb); replace BK102 := ak (blk_below (bk BK102.out) hb); replace HB := ak (below_step (bw HB.out) hb); (try clear hb); obtain ⟨hcz15_0, hcz15_1, hfz15_0, hfz15_1⟩ := cells2 BK101.out; obtain ⟨hcz16_0, hfz16_0⟩ := cells1 BK102.out) | (go_at_call 106; (with_reducible refine (spec_l5has.calls k _ _ l0_0 _ _ l0_1 _ _ l1_0 t105 _ ?side1 ?side2 ?side3 ?side4 ?side5 ?side6 A7.out).mono ?_); (case side1 => exact cw HR0_0.out HB.out); (case side2 => exact HC0_0.out); (case side3 => exact cw HR0_1.out HB.out); (case side4 => exact HC0_1.out); (case side5 => exact cw HR1_0.out HB.out); (case side6 => exact HC1_0.out); rintro e w17 ⟨rfl, hb⟩; replace BK101 := ak (blk_below (bk BK101.out) hb); replace BK102 := ak (blk_below (bk BK102.out) hb); replace HB := ak (below_step (bw HB.out) hb); (try clear hb)))
   go_ret
   exact ⟨by first | rfl | (simp [errW_none, errW_some] <;> rfl) | (simp [*, errW_none, errW_some] <;> rfl), bw HB.out⟩
  ·replace c6 := Bool.eq_false_iff.mpr c6
   subst c6
   have H1 : (some false) = some r := by rw [if_neg (show ¬ (false = true) by decide)] at H; exact H
   clear H
   have H := H1
   clear H1
   obtain rfl := Option.some.inj H
   go_enter Try.func40, Try.ntmps40
   go_wp2_with (first | ((with_reducible refine gate_dst (N := 2) rfl ?_); refine boxed (N := 2) rfl rfl (cs := #[.slice A0_0 l0_0.length c0_0, .slice A0_1 l0_1.length c0_1]) (t := 59) HB.out (by first | (go_simp; done) | (go_simp; rfl)) ?_; clear HB; intro gb101 w18 hg HB BK101 GE101 hb; have GW101 := GE101; clear hb hg) | ((with_reducible refine gate_dst (N := 3) rfl ?_); refine box_event ?hg (N := 3) ?hd (cs := #[.slice A1_0 l1_0.length c1_0]) (t := 31) ?hr ?_; (case hd => rfl); (case hg => rfl); (case hr => first | (go_simp; done) | (go_simp; rfl)); intro gb102 hg w19 hbox hb; have BK102 := ak (hbox); have GW102 := ak ((by rw [hg]; exact (below_size (bw HB.out)) : w.heap.size ≤ gb102)); have GE102 := ak ((by rw [hg]; exact (below_size (bw HB.out)) : w.heap.size ≤ gb102)); replace HB := ak (below_step (bw HB.out) hb); have NB101_102 := ak ((by rw [hg]; exact Nat.ne_of_lt (blk_lt (bk BK101.out)) : gb101 ≠ gb102)); have NB102_101 := ak ((by rw [hg]; exact Nat.ne_of_gt (blk_lt (bk BK101.out)) : gb102 ≠ gb101)); replace BK101 := ak (blk_below (bk BK101.out) hb); clear hb hbox hg; have hnb20 := NB101_102.out; have hnc20 := NB102_101.out; obtain ⟨hcz21_0, hcz21_1, hfz21_0, hfz21_1⟩ := cells2 BK101.out) | ((with_reducible refine gate_callee (f := 35) rfl ?_); refine goesL_ (some 6) rfl rfl Try.func35 (by kernel_rfl) rfl #[.agg #[.slice A0_0 l0_0.length c0_0, .slice A0_1 l0_1.length c0_1]] rfl (by first | rfl | (simp only [List.map_toArray, List.map_cons, List.map_nil]; first | done | rfl)) ?_; (with_reducible refine (spec_ZoneOk.calls k _ _ l0_0 _ _ l0_1 true _ ?side1 ?side2 ?side3 ?side4 A3.out).mono ?_); (case side1 => exact cw HR0_0.out HB.out); (case side2 => exact HC0_0.out); (case side3 => exact cw HR0_1.out HB.out); (case side4 => exact HC0_1.out); rintro e w22 ⟨rfl, hb⟩; refine ⟨_, rfl, ?_⟩; replace BK101 := ak (blk_below (bk BK101.out) hb); replace BK102 := ak (blk_below (bk BK102.out) hb); replace HB := ak (below_step (bw HB.out) hb); (try clear hb); obtain ⟨hcz23_0, hfz23_0⟩ := cells1 BK102.out) | (go_at_call 76; (with_reducible refine (spec_NameOk.calls k _ _ l1_0 false _ ?side1 ?side2 A5.out).mono ?_); (case side1 => exact cw HR1_0.out HB.out); (case side2 => exact HC1_0.out); rintro e w24 ⟨rfl, hb⟩; replace BK101 := ak (blk_below (bk BK101.out) hb); replace BK102 := ak (blk_below (bk BK102.out) hb); replace HB := ak (below_step (bw HB.out) hb); (try clear hb)))
   go_ret
   exact ⟨by first | rfl | (simp [errW_none, errW_some] <;> rfl) | (simp [*, errW_none, errW_some] <;> rfl), bw HB.out⟩
 ·replace c4 := Bool.eq_false_iff.mpr c4
  subst c4
  have H1 : (some false) = some r := by rw [if_neg (show ¬ (false = true) by decide)] at H; exact H
  clear H
  have H := H1
  clear H1
  obtain rfl := Option.some.inj H
  go_enter Try.func40, Try.ntmps40
  go_wp2_with (first | ((with_reducible refine gate_dst (N := 2) rfl ?_); refine boxed (N := 2) rfl rfl (cs := #[.slice A0_0 l0_0.length c0_0, .slice A0_1 l0_1.length c0_1]) (t := 59) HB.out (by first | (go_simp; done) | (go_simp; rfl)) ?_; clear HB; intro gb101 w25 hg HB BK101 GE101 hb; have GW101 := GE101; clear hb hg) | ((with_reducible refine gate_dst (N := 3) rfl ?_); refine box_event ?hg (N := 3) ?hd (cs := #[.slice A1_0 l1_0.length c1_0]) (t := 31) ?hr ?_; (case hd => rfl); (case hg => rfl); (case hr => first | (go_simp; done) | (go_simp; rfl)); intro gb102 hg w26 hbox hb; have BK102 := ak (hbox); have GW102 := ak ((by rw [hg]; exact (below_size (bw HB.out)) : w.heap.size ≤ gb102)); have GE102 := ak ((by rw [hg]; exact (below_size (bw HB.out)) : w.heap.size ≤ gb102)); replace HB := ak (below_step (bw HB.out) hb); have NB101_102 := ak ((by rw [hg]; exact Nat.ne_of_lt (blk_lt (bk BK101.out)) : gb101 ≠ gb102)); have NB102_101 := ak ((by rw [hg]; exact Nat.ne_of_gt (blk_lt (bk BK101.out)) : gb102 ≠ gb101)); replace BK101 := ak (blk_below (bk BK101.out) hb); clear hb hbox hg; have hnb27 := NB101_102.out; have hnc27 := NB102_101.out; obtain ⟨hcz28_0, hcz28_1, hfz28_0, hfz28_1⟩ := cells2 BK101.out) | ((with_reducible refine gate_callee (f := 35) rfl ?_); refine goesL_ (some 6) rfl rfl Try.func35 (by kernel_rfl) rfl #[.agg #[.slice A0_0 l0_0.length c0_0, .slice A0_1 l0_1.length c0_1]] rfl (by first | rfl | (simp only [List.map_toArray, List.map_cons, List.map_nil]; first | done | rfl)) ?_; (with_reducible refine (spec_ZoneOk.calls k _ _ l0_0 _ _ l0_1 false _ ?side1 ?side2 ?side3 ?side4 A3.out).mono ?_); (case side1 => exact cw HR0_0.out HB.out); (case side2 => exact HC0_0.out); (case side3 => exact cw HR0_1.out HB.out); (case side4 => exact HC0_1.out); rintro e w29 ⟨rfl, hb⟩; refine ⟨_, rfl, ?_⟩; replace BK101 := ak (blk_below (bk BK101.out) hb); replace BK102 := ak (blk_below (bk BK102.out) hb); replace HB := ak (below_step (bw HB.out) hb); (try clear hb)))
  go_ret
  exact ⟨by first | rfl | (simp [errW_none, errW_some] <;> rfl) | (simp [*, errW_none, errW_some] <;> rfl), bw HB.out⟩


/-! ### cmp_Or_int: function 140 -/
def cmp_Or_int.l0 : Nat → Int → List Int → Int → Int → Option (Int)
 | 0, _, _, _, _ => none
 | k + 1, x3, x6, x7, x8 => if x8 < x7 then (if 0 ≤ x8 then (if x8 < (x6.length : Int) then (if (rd x6 x8) = x3 then (cmp_Or_int.l0 k x3 x6 x7 (wrap64 (x8 + 1))) else (some (rd x6 x8))) else (none)) else (none)) else (some x3)
def cmp_Or_int.f (k : Nat) (l0 : List Int) : Option (Int) := cmp_Or_int.l0 k 0 l0 (l0.length : Int) 0
set_option maxHeartbeats 8000000 in
set_option maxRecDepth 100000 in
theorem cmp_Or_int.calls (k : Nat) (A0 : Option Addr) (c0 : Nat) (l0 : List Int) (r : Int) (w : World) (hr0 : Kd.C (Kd.int .i64) w A0 l0.length l0) (hc0 : l0.length ≤ c0) (h : cmp_Or_int.f k l0 = some r) :
  Calls Try.prog 140 #[.slice A0 l0.length c0] w fun e w' => e = .returned (.int .i64 r) ∧ Drawn0 w w' := by
 have HR0 := ak hr0
 have HC0 := ak hc0
 clear hr0 hc0
 have H : (cmp_Or_int.l0 k 0 l0 (l0.length : Int) 0) = some r := h
 clear h
 have H' := ak H
 clear H
 go_enter Try.func140, Try.ntmps140
 go_wp2
 go_loopg [8] k (fun kq v8 w' => ∃ (x8_1 : Int), v8 = .int .i64 x8_1 ∧ Aside0 (cmp_Or_int.l0 kq 0 l0 (l0.length : Int) x8_1 = some r) ∧ Aside0 (kq ≤ k) ∧ Drawn0 w w')
 case atStart => exact ⟨(0), (by first | rfl | (simp; done) | (simp [*]; done)), H', ⟨Nat.le_refl _⟩, by repeat (first | exact Drawn0.refl _ | apply Drawn0.step)⟩
 case round =>
  clear H'
  try clear c1
  obtain ⟨x8_1, rfl, HA, HK1, ⟨m1, rfl⟩⟩ := hrel
  cases gk with
  | zero => exact absurd HA.out (by simp [cmp_Or_int.l0])
  | succ k1 =>
   have H := HA.out
   clear HA
   simp only [cmp_Or_int.l0] at H
   by_cases c2 : x8_1 < (l0.length : Int)
   ·rw [if_pos c2] at H
    have c2b0 : decide (x8_1 < (l0.length : Int)) = true := decide_eq_true c2
    clear c2
    by_cases c3 : 0 ≤ x8_1
    ·rw [if_pos c3] at H
     have c3b0 : decide (0 ≤ x8_1) = true := decide_eq_true c3
     clear c3
     by_cases c4 : x8_1 < (l0.length : Int)
     ·rw [if_pos c4] at H
      have c4b0 : decide (x8_1 < (l0.length : Int)) = true := decide_eq_true c4
      clear c4
      by_cases c5 : (rd l0 x8_1) = 0
      ·rw [if_pos c5] at H
       have c5b0 : ((rd l0 x8_1) == 0) = true := beq_iff_eq.mpr c5
       have c5b1 : ((rd l0 x8_1) != 0) = false := bne_eq_false_iff_eq.mpr c5
       clear c5
       have H' := ak H
       clear H
       have p101 : 0 ≤ (x8_1 : Int) := of_decide_eq_true (by first | (with_reducible assumption) | assumption)
       have q101 : x8_1 < (l0.length : Int) := of_decide_eq_true (by first | (with_reducible assumption) | assumption)
       obtain ⟨ad101, e101, hx101_0⟩ := Kd.at_int HR0.out x8_1 p101 q101
       cases e101
       replace p101 := eq_true p101
       replace q101 := eq_true q101
       go_wp2
       go_roundg k1
       case measure => have := HK1.out; omega
       case rel => exact ⟨(wrap64 (x8_1 + 1)), (by first | rfl | (simp; done) | (simp [*]; done)), H', ⟨by have := HK1.out; omega⟩, by repeat (first | exact Drawn0.refl _ | apply Drawn0.step)⟩
      ·rw [if_neg c5] at H
       have c5b0 : ((rd l0 x8_1) == 0) = false := beq_eq_false_iff_ne.mpr c5
       have c5b1 : ((rd l0 x8_1) != 0) = true := bne_iff_ne.mpr c5
       obtain rfl := Option.some.inj H
       have p101 : 0 ≤ (x8_1 : Int) := of_decide_eq_true (by first | (with_reducible assumption) | assumption)
       have q101 : x8_1 < (l0.length : Int) := of_decide_eq_true (by first | (with_reducible assumption) | assumption)
       obtain ⟨ad101, e101, hx101_0⟩ := Kd.at_int HR0.out x8_1 p101 q101
       cases e101
       replace p101 := eq_true p101
       replace q101 := eq_true q101
       go_wp2
       go_ret
       exact ⟨by first | rfl | (simp; done) | (simp [*]; done), by repeat (first | exact Drawn0.refl _ | apply Drawn0.step)⟩
     ·rw [if_neg c4] at H
      exact absurd H (by simp)
    ·rw [if_neg c3] at H
     exact absurd H (by simp)
   ·rw [if_neg c2] at H
    have c2b0 : decide (x8_1 < (l0.length : Int)) = false := decide_eq_false c2
    clear c2
    obtain rfl := Option.some.inj H
    go_wp2
    go_ret
    exact ⟨by first | rfl | (simp; done) | (simp [*]; done), by repeat (first | exact Drawn0.refl _ | apply Drawn0.step)⟩


/-! ### cmp_isNaN_int: function 207 -/
def cmp_isNaN_int.f (a0 : Int) : Option (Bool) := some (a0 != a0)
set_option maxHeartbeats 8000000 in
set_option maxRecDepth 100000 in
theorem cmp_isNaN_int.calls (a0 : Int) (r : Bool) (w : World) (h : cmp_isNaN_int.f a0 = some r) :
  Calls Try.prog 207 #[.int .i64 a0] w fun e w' => e = .returned (.bool r) ∧ Drawn0 w w' := by
 have H : (some (a0 != a0)) = some r := h
 clear h
 obtain rfl := Option.some.inj H
 go_enter Try.func207, Try.ntmps207
 go_wp2
 go_ret
 exact ⟨by first | rfl | (simp; done) | (simp [*]; done), by repeat (first | exact Drawn0.refl _ | apply Drawn0.step)⟩


/-! ### cmp_Compare_int: function 142 -/
def cmp_Compare_int.f (a0 : Int) (a1 : Int) : Option (Int) := (cmp_isNaN_int.f a0).bind fun t101 => ((cmp_isNaN_int.f a1).bind fun t102 => (if t101 = true then (if t102 = true then (some 0) else (some (-1))) else (if t102 = true then (some 1) else (if a0 < a1 then (some (-1)) else (if a0 > a1 then (some 1) else (some 0))))))
set_option maxHeartbeats 8000000 in
set_option maxRecDepth 100000 in
theorem cmp_Compare_int.calls (a0 : Int) (a1 : Int) (r : Int) (w : World) (h : cmp_Compare_int.f a0 a1 = some r) :
  Calls Try.prog 142 #[.int .i64 a0, .int .i64 a1] w fun e w' => e = .returned (.int .i64 r) ∧ Drawn0 w w' := by
 have H : ((cmp_isNaN_int.f a0).bind fun t101 => ((cmp_isNaN_int.f a1).bind fun t102 => (if t101 = true then (if t102 = true then (some 0) else (some (-1))) else (if t102 = true then (some 1) else (if a0 < a1 then (some (-1)) else (if a0 > a1 then (some 1) else (some 0))))))) = some r := h
 clear h
 replace H := Option.bind_eq_some_iff.mp H
 obtain ⟨t101, A30, H⟩ := H
 replace H : ((cmp_isNaN_int.f a1).bind fun t102 => (if t101 = true then (if t102 = true then (some 0) else (some (-1))) else (if t102 = true then (some 1) else (if a0 < a1 then (some (-1)) else (if a0 > a1 then (some 1) else (some 0)))))) = some r := H
 have A3 := ak A30
 clear A30
 replace H := Option.bind_eq_some_iff.mp H
 obtain ⟨t102, A40, H⟩ := H
 replace H : (if t101 = true then (if t102 = true then (some 0) else (some (-1))) else (if t102 = true then (some 1) else (if a0 < a1 then (some (-1)) else (if a0 > a1 then (some 1) else (some 0))))) = some r := H
 have A4 := ak A40
 clear A40
 by_cases c5 : t101 = true
 ·subst c5
  have H1 : (if t102 = true then (some 0) else (some (-1))) = some r := by rw [if_pos rfl] at H; exact H
  clear H
  have H := H1
  clear H1
  by_cases c6 : t102 = true
  ·subst c6
   have H1 : (some 0) = some r := by rw [if_pos rfl] at H; exact H
   clear H
   have H := H1
   clear H1
   obtain rfl := Option.some.inj H
   go_enter Try.func142, Try.ntmps142
   go_wp2_with (first | ((with_reducible refine gate_callee (f := 207) rfl ?_); refine goesL_ (some 8) rfl rfl Try.func207 (by kernel_rfl) rfl #[.int .i64 a0] rfl (by first | rfl | (simp only [List.map_toArray, List.map_cons, List.map_nil]; first | done | rfl)) ?_; (with_reducible refine (cmp_isNaN_int.calls a0 true _ A3.out).mono ?_); rintro e w' ⟨rfl, ⟨nd, rfl⟩⟩; refine ⟨_, rfl, ?_⟩) | ((with_reducible refine gate_callee (f := 207) rfl ?_); refine goesL_ (some 10) rfl rfl Try.func207 (by kernel_rfl) rfl #[.int .i64 a1] rfl (by first | rfl | (simp only [List.map_toArray, List.map_cons, List.map_nil]; first | done | rfl)) ?_; (with_reducible refine (cmp_isNaN_int.calls a1 true _ A4.out).mono ?_); rintro e w' ⟨rfl, ⟨nd, rfl⟩⟩; refine ⟨_, rfl, ?_⟩))
   go_ret
   exact ⟨by first | rfl | (simp; done) | (simp [*]; done), by repeat (first | exact Drawn0.refl _ | apply Drawn0.step)⟩
  ·replace c6 := Bool.eq_false_iff.mpr c6
   subst c6
   have H1 : (some (-1)) = some r := by rw [if_neg (show ¬ (false = true) by decide)] at H; exact H
   clear H
   have H := H1
   clear H1
   obtain rfl := Option.some.inj H
   go_enter Try.func142, Try.ntmps142
   go_wp2_with (first | ((with_reducible refine gate_callee (f := 207) rfl ?_); refine goesL_ (some 8) rfl rfl Try.func207 (by kernel_rfl) rfl #[.int .i64 a0] rfl (by first | rfl | (simp only [List.map_toArray, List.map_cons, List.map_nil]; first | done | rfl)) ?_; (with_reducible refine (cmp_isNaN_int.calls a0 true _ A3.out).mono ?_); rintro e w' ⟨rfl, ⟨nd, rfl⟩⟩; refine ⟨_, rfl, ?_⟩) | ((with_reducible refine gate_callee (f := 207) rfl ?_); refine goesL_ (some 10) rfl rfl Try.func207 (by kernel_rfl) rfl #[.int .i64 a1] rfl (by first | rfl | (simp only [List.map_toArray, List.map_cons, List.map_nil]; first | done | rfl)) ?_; (with_reducible refine (cmp_isNaN_int.calls a1 false _ A4.out).mono ?_); rintro e w' ⟨rfl, ⟨nd, rfl⟩⟩; refine ⟨_, rfl, ?_⟩))
   go_ret
   exact ⟨by first | rfl | (simp; done) | (simp [*]; done), by repeat (first | exact Drawn0.refl _ | apply Drawn0.step)⟩
 ·replace c5 := Bool.eq_false_iff.mpr c5
  subst c5
  have H1 : (if t102 = true then (some 1) else (if a0 < a1 then (some (-1)) else (if a0 > a1 then (some 1) else (some 0)))) = some r := by rw [if_neg (show ¬ (false = true) by decide)] at H; exact H
  clear H
  have H := H1
  clear H1
  by_cases c7 : t102 = true
  ·subst c7
   have H1 : (some 1) = some r := by rw [if_pos rfl] at H; exact H
   clear H
   have H := H1
   clear H1
   obtain rfl := Option.some.inj H
   go_enter Try.func142, Try.ntmps142
   go_wp2_with (first | ((with_reducible refine gate_callee (f := 207) rfl ?_); refine goesL_ (some 8) rfl rfl Try.func207 (by kernel_rfl) rfl #[.int .i64 a0] rfl (by first | rfl | (simp only [List.map_toArray, List.map_cons, List.map_nil]; first | done | rfl)) ?_; (with_reducible refine (cmp_isNaN_int.calls a0 false _ A3.out).mono ?_); rintro e w' ⟨rfl, ⟨nd, rfl⟩⟩; refine ⟨_, rfl, ?_⟩) | ((with_reducible refine gate_callee (f := 207) rfl ?_); refine goesL_ (some 10) rfl rfl Try.func207 (by kernel_rfl) rfl #[.int .i64 a1] rfl (by first | rfl | (simp only [List.map_toArray, List.map_cons, List.map_nil]; first | done | rfl)) ?_; (with_reducible refine (cmp_isNaN_int.calls a1 true _ A4.out).mono ?_); rintro e w' ⟨rfl, ⟨nd, rfl⟩⟩; refine ⟨_, rfl, ?_⟩))
   go_ret
   exact ⟨by first | rfl | (simp; done) | (simp [*]; done), by repeat (first | exact Drawn0.refl _ | apply Drawn0.step)⟩
  ·replace c7 := Bool.eq_false_iff.mpr c7
   subst c7
   have H1 : (if a0 < a1 then (some (-1)) else (if a0 > a1 then (some 1) else (some 0))) = some r := by rw [if_neg (show ¬ (false = true) by decide)] at H; exact H
   clear H
   have H := H1
   clear H1
   by_cases c8 : a0 < a1
   ·rw [if_pos c8] at H
    have c8b0 : decide (a0 < a1) = true := decide_eq_true c8
    clear c8
    obtain rfl := Option.some.inj H
    go_enter Try.func142, Try.ntmps142
    go_wp2_with (first | ((with_reducible refine gate_callee (f := 207) rfl ?_); refine goesL_ (some 8) rfl rfl Try.func207 (by kernel_rfl) rfl #[.int .i64 a0] rfl (by first | rfl | (simp only [List.map_toArray, List.map_cons, List.map_nil]; first | done | rfl)) ?_; (with_reducible refine (cmp_isNaN_int.calls a0 false _ A3.out).mono ?_); rintro e w' ⟨rfl, ⟨nd, rfl⟩⟩; refine ⟨_, rfl, ?_⟩) | ((with_reducible refine gate_callee (f := 207) rfl ?_); refine goesL_ (some 10) rfl rfl Try.func207 (by kernel_rfl) rfl #[.int .i64 a1] rfl (by first | rfl | (simp only [List.map_toArray, List.map_cons, List.map_nil]; first | done | rfl)) ?_; (with_reducible refine (cmp_isNaN_int.calls a1 false _ A4.out).mono ?_); rintro e w' ⟨rfl, ⟨nd, rfl⟩⟩; refine ⟨_, rfl, ?_⟩))
    go_ret
    exact ⟨by first | rfl | (simp; done) | (simp [*]; done), by repeat (first | exact Drawn0.refl _ | apply Drawn0.step)⟩
   ·rw [if_neg c8] at H
    have c8b0 : decide (a0 < a1) = false := decide_eq_false c8
    clear c8
    by_cases c9 : a0 > a1
    ·rw [if_pos c9] at H
     have c9b0 : decide (a1 < a0) = true := decide_eq_true c9
     clear c9
     obtain rfl := Option.some.inj H
     go_enter Try.func142, Try.ntmps142
     go_wp2_with (first | ((with_reducible refine gate_callee (f := 207) rfl ?_); refine goesL_ (some 8) rfl rfl Try.func207 (by kernel_rfl) rfl #[.int .i64 a0] rfl (by first | rfl | (simp only [List.map_toArray, List.map_cons, List.map_nil]; first | done | rfl)) ?_; (with_reducible refine (cmp_isNaN_int.calls a0 false _ A3.out).mono ?_); rintro e w' ⟨rfl, ⟨nd, rfl⟩⟩; refine ⟨_, rfl, ?_⟩) | ((with_reducible refine gate_callee (f := 207) rfl ?_); refine goesL_ (some 10) rfl rfl Try.func207 (by kernel_rfl) rfl #[.int .i64 a1] rfl (by first | rfl | (simp only [List.map_toArray, List.map_cons, List.map_nil]; first | done | rfl)) ?_; (with_reducible refine (cmp_isNaN_int.calls a1 false _ A4.out).mono ?_); rintro e w' ⟨rfl, ⟨nd, rfl⟩⟩; refine ⟨_, rfl, ?_⟩))
     go_ret
     exact ⟨by first | rfl | (simp; done) | (simp [*]; done), by repeat (first | exact Drawn0.refl _ | apply Drawn0.step)⟩
    ·rw [if_neg c9] at H
     have c9b0 : decide (a1 < a0) = false := decide_eq_false c9
     clear c9
     obtain rfl := Option.some.inj H
     go_enter Try.func142, Try.ntmps142
     go_wp2_with (first | ((with_reducible refine gate_callee (f := 207) rfl ?_); refine goesL_ (some 8) rfl rfl Try.func207 (by kernel_rfl) rfl #[.int .i64 a0] rfl (by first | rfl | (simp only [List.map_toArray, List.map_cons, List.map_nil]; first | done | rfl)) ?_; (with_reducible refine (cmp_isNaN_int.calls a0 false _ A3.out).mono ?_); rintro e w' ⟨rfl, ⟨nd, rfl⟩⟩; refine ⟨_, rfl, ?_⟩) | ((with_reducible refine gate_callee (f := 207) rfl ?_); refine goesL_ (some 10) rfl rfl Try.func207 (by kernel_rfl) rfl #[.int .i64 a1] rfl (by first | rfl | (simp only [List.map_toArray, List.map_cons, List.map_nil]; first | done | rfl)) ?_; (with_reducible refine (cmp_isNaN_int.calls a1 false _ A4.out).mono ?_); rintro e w' ⟨rfl, ⟨nd, rfl⟩⟩; refine ⟨_, rfl, ?_⟩))
     go_ret
     exact ⟨by first | rfl | (simp; done) | (simp [*]; done), by repeat (first | exact Drawn0.refl _ | apply Drawn0.step)⟩


/-! ### bytes_Compare: function 143 -/

theorem bytes_Compare.push (l : List Int) : ∀ (acc : ByteArray), l.foldl (fun (s : ByteArray) n => s.push n.toNat.toUInt8) acc = ⟨acc.data ++ (l.map fun n => UInt8.ofNat n.toNat).toArray⟩ := by
 induction l with
 | nil => intro acc; simp
 | cons x l ih => intro acc; rw [List.foldl_cons, ih]; simp [ByteArray.push]
theorem bytes_Compare.loads {P : Program} (w : World) (l : List Int) : ∀ (a : Addr) (acc : ByteArray), (∀ j x, l[j]? = some x → w.cell? (a.add j) = some (.int .u8 x)) →
  (Extern.Bytes.loadBytes a l.length acc).run P w = .ok (l.foldl (fun (s : ByteArray) n => s.push n.toNat.toUInt8) acc) w := by
 induction l with
 | nil => intro a acc h; simp [Extern.Bytes.loadBytes, Sem.run_pure]
 | cons x l ih =>
  intro a acc h
  have h0 := h 0 x rfl
  have ha : a.add 0 = a := by cases a; simp [Addr.add]
  rw [ha] at h0
  have hl : (load a).run P w = .ok (.int .u8 x) w := by go_simp
  simp only [List.length_cons, Extern.Bytes.loadBytes, Sem.run_bind, hl, Result.andThen]
  rw [ih (a.add 1) (acc.push x.toNat.toUInt8) (fun j y hj => by rw [Go.Proofs.YtagedmajlppohaaW.PrintWords.add_add, Nat.add_comm]; exact h (j + 1) y (by simpa using hj))]
  rfl
theorem bytes_Compare.bytes {P : Program} (w : World) (A : Option Addr) (c : Nat) (l : List Int) (h : Kd.C (Kd.int .u8) w A l.length l) : (Extern.Bytes.bytesOf (.slice A l.length c)).run P w = .ok (strOfNums l) w := by
 cases A with
 | none =>
  have hl : l = [] := by
   cases l with
   | nil => rfl
   | cons x l => obtain ⟨ad, e, _⟩ := h.2.2 (by simp); cases e
  subst hl
  simp [Extern.Bytes.bytesOf, Sem.run_pure, strOfNums]; rfl
 | some a =>
  have := bytes_Compare.loads (P := P) w l a ByteArray.empty (fun j x hj => by
   have hjl := (List.getElem?_eq_some_iff.1 hj).1
   obtain ⟨ad, e, hc⟩ := Kd.at_int h (j : Int) (by omega) (by omega)
   injection e with e; subst e
   rw [show ((j : Int)).toNat = j from by omega] at hc
   rw [hc]
   simp [rd, List.getD_eq_getElem?_getD, hj])
  simp only [Extern.Bytes.bytesOf]
  rw [this, bytes_Compare.push]
  simp [strOfNums]
theorem bytes_Compare.run {P : Program} (w : World) (A0 : Option Addr) (c0 : Nat) (l0 : List Int) (A1 : Option Addr) (c1 : Nat) (l1 : List Int) (h0 : Kd.C (Kd.int .u8) w A0 l0.length l0) (h1 : Kd.C (Kd.int .u8) w A1 l1.length l1) :
  (Extern.BytealgCompare.compare #[.slice A0 l0.length c0, .slice A1 l1.length c1]).run P w = .ok (.int .i64 (Lib.compareBytes (strOfNums l0).data.toList (strOfNums l1).data.toList)) w := by
 change Sem.run P (do pure (goInt (Extern.BytealgCompare.cmp (← Extern.Bytes.bytesOf (.slice A0 l0.length c0)) (← Extern.Bytes.bytesOf (.slice A1 l1.length c1))))) w = _
 simp only [Sem.run_bind, bytes_Compare.bytes w A0 c0 l0 h0, bytes_Compare.bytes w A1 c1 l1 h1, Sem.run_pure, Result.andThen]
 rw [Lib.cmp_eq]
 rfl
def bytes_Compare.f (l0 : List Int) (l1 : List Int) : Option Int := some (Lib.compareBytes (strOfNums l0).data.toList (strOfNums l1).data.toList)
set_option maxHeartbeats 8000000 in
set_option maxRecDepth 100000 in
theorem bytes_Compare.calls (A0 : Option Addr) (c0 : Nat) (l0 : List Int) (A1 : Option Addr) (c1 : Nat) (l1 : List Int) (r : Int) (w : World) (hr0 : Kd.C (Kd.int .u8) w A0 l0.length l0) (hc0 : l0.length ≤ c0) (hr1 : Kd.C (Kd.int .u8) w A1 l1.length l1) (hc1 : l1.length ≤ c1) (h : bytes_Compare.f l0 l1 = some r) :
  Calls Try.prog 143 #[.slice A0 l0.length c0, .slice A1 l1.length c1] w fun e w' => e = .returned (.int .i64 r) ∧ Drawn0 w w' := by
 have hx := bytes_Compare.run (P := Try.prog) w A0 c0 l0 A1 c1 l1 hr0 hr1
 have hr := Option.some.inj h
 rw [hr] at hx
 clear h hr hr0 hr1
 go_enter Try.func143, Try.ntmps143
 go_wp2
 rw [run_callFunc_extern Try.func208 (by kernel_rfl) (by kernel_rfl) (by kernel_rfl) (e := Extern.BytealgCompare.compare) (by kernel_rfl), hx]
 simp only [Result.andThen]
 rw [Oper.upon_value]
 go_wp2
 go_ret
 exact ⟨rfl, Drawn0.refl _⟩


/-! ### impl_Name_compare: function 141 -/
def impl_Name_compare.l0 : Nat → Int → List (List Int) → List (List Int) → Option (Int)
 | 0, _, _, _ => none
 | k + 1, x5, x102000, x103000 => if x5 ≤ (mn (x102000.length : Int) (x103000.length : Int)) then (if 0 ≤ (wrap64 ((x102000.length : Int) - x5)) then (if (wrap64 ((x102000.length : Int) - x5)) < (x102000.length : Int) then (if 0 ≤ (wrap64 ((x103000.length : Int) - x5)) then (if (wrap64 ((x103000.length : Int) - x5)) < (x103000.length : Int) then ((bytes_Compare.f (rd_L10 x102000 (wrap64 ((x102000.length : Int) - x5))) (rd_L10 x103000 (wrap64 ((x103000.length : Int) - x5)))).bind fun t105 => (if t105 = 0 then (impl_Name_compare.l0 k (wrap64 (x5 + 1)) x102000 x103000) else (some t105))) else (none)) else (none)) else (none)) else (none)) else ((cmp_Compare_int.f (x102000.length : Int) (x103000.length : Int)).bind fun t106 => (some t106))
def impl_Name_compare.f (k : Nat) (l0_0 : List (List Int)) (l1_0 : List (List Int)) : Option (Int) := impl_Name_compare.l0 k 1 l0_0 l1_0
set_option maxHeartbeats 8000000 in
set_option maxRecDepth 100000 in
theorem impl_Name_compare.calls (k : Nat) (A0_0 : Option Addr) (c0_0 : Nat) (l0_0 : List (List Int)) (A1_0 : Option Addr) (c1_0 : Nat) (l1_0 : List (List Int)) (r : Int) (w : World) (hr0_0 : Kd.C (Kd.slice 5 (Kd.int .u8)) w A0_0 l0_0.length l0_0) (hc0_0 : l0_0.length ≤ c0_0) (hr1_0 : Kd.C (Kd.slice 5 (Kd.int .u8)) w A1_0 l1_0.length l1_0) (hc1_0 : l1_0.length ≤ c1_0) (h : impl_Name_compare.f k l0_0 l1_0 = some r) :
  Calls Try.prog 141 #[.agg #[.slice A0_0 l0_0.length c0_0], .agg #[.slice A1_0 l1_0.length c1_0]] w fun e w' => e = .returned (.int .i64 r) ∧ Below w.heap.size w w' := by
 have hu31 := Try.underlying31
 have HR0_0 := ak hr0_0
 have HC0_0 := ak hc0_0
 clear hr0_0 hc0_0
 have HR1_0 := ak hr1_0
 have HC1_0 := ak hc1_0
 clear hr1_0 hc1_0
 have HB := ak (Below.refl w.heap.size w)
 have H : (impl_Name_compare.l0 k 1 l0_0 l1_0) = some r := h
 clear h
 have H' := ak H
 clear H
 go_enter Try.func141, Try.ntmps141
 go_wp2_with (first | ((with_reducible refine gate_dst (N := 2) rfl ?_); refine boxed (N := 2) rfl rfl (cs := #[.slice A0_0 l0_0.length c0_0]) (t := 31) HB.out (by first | (go_simp; done) | (go_simp; rfl)) ?_; clear HB; intro gb101 w3 hg HB BK101 GE101 hb; have GW101 := GE101; clear hb hg) | ((with_reducible refine gate_dst (N := 3) rfl ?_); refine box_event ?hg (N := 3) ?hd (cs := #[.slice A1_0 l1_0.length c1_0]) (t := 31) ?hr ?_; (case hd => rfl); (case hg => rfl); (case hr => first | (go_simp; done) | (go_simp; rfl)); intro gb102 hg w4 hbox hb; have BK102 := ak (hbox); have GW102 := ak ((by rw [hg]; exact (below_size (bw HB.out)) : w.heap.size ≤ gb102)); have GE102 := ak ((by rw [hg]; exact (below_size (bw HB.out)) : w.heap.size ≤ gb102)); replace HB := ak (below_step (bw HB.out) hb); have NB101_102 := ak ((by rw [hg]; exact Nat.ne_of_lt (blk_lt (bk BK101.out)) : gb101 ≠ gb102)); have NB102_101 := ak ((by rw [hg]; exact Nat.ne_of_gt (blk_lt (bk BK101.out)) : gb102 ≠ gb101)); replace BK101 := ak (blk_below (bk BK101.out) hb); clear hb hbox hg))
 repeat (go_quiet (first | ((with_reducible refine gate_dst (N := 2) rfl ?_); refine boxed (N := 2) rfl rfl (cs := #[.slice A0_0 l0_0.length c0_0]) (t := 31) HB.out (by first | (go_simp; done) | (go_simp; rfl)) ?_; clear HB; intro gb101 w3 hg HB BK101 GE101 hb; have GW101 := GE101; clear hb hg) | ((with_reducible refine gate_dst (N := 3) rfl ?_); refine box_event ?hg (N := 3) ?hd (cs := #[.slice A1_0 l1_0.length c1_0]) (t := 31) ?hr ?_; (case hd => rfl); (case hg => rfl); (case hr => first | (go_simp; done) | (go_simp; rfl)); intro gb102 hg w4 hbox hb; have BK102 := ak (hbox); have GW102 := ak ((by rw [hg]; exact (below_size (bw HB.out)) : w.heap.size ≤ gb102)); have GE102 := ak ((by rw [hg]; exact (below_size (bw HB.out)) : w.heap.size ≤ gb102)); replace HB := ak (below_step (bw HB.out) hb); have NB101_102 := ak ((by rw [hg]; exact Nat.ne_of_lt (blk_lt (bk BK101.out)) : gb101 ≠ gb102)); have NB102_101 := ak ((by rw [hg]; exact Nat.ne_of_gt (blk_lt (bk BK101.out)) : gb102 ≠ gb101)); replace BK101 := ak (blk_below (bk BK101.out) hb); clear hb hbox hg)); try go_wp2_with (first | ((with_reducible refine gate_dst (N := 2) rfl ?_); refine boxed (N := 2) rfl rfl (cs := #[.slice A0_0 l0_0.length c0_0]) (t := 31) HB.out (by first | (go_simp; done) | (go_simp; rfl)) ?_; clear HB; intro gb101 w3 hg HB BK101 GE101 hb; have GW101 := GE101; clear hb hg) | ((with_reducible refine gate_dst (N := 3) rfl ?_); refine box_event ?hg (N := 3) ?hd (cs := #[.slice A1_0 l1_0.length c1_0]) (t := 31) ?hr ?_; (case hd => rfl); (case hg => rfl); (case hr => first | (go_simp; done) | (go_simp; rfl)); intro gb102 hg w4 hbox hb; have BK102 := ak (hbox); have GW102 := ak ((by rw [hg]; exact (below_size (bw HB.out)) : w.heap.size ≤ gb102)); have GE102 := ak ((by rw [hg]; exact (below_size (bw HB.out)) : w.heap.size ≤ gb102)); replace HB := ak (below_step (bw HB.out) hb); have NB101_102 := ak ((by rw [hg]; exact Nat.ne_of_lt (blk_lt (bk BK101.out)) : gb101 ≠ gb102)); have NB102_101 := ak ((by rw [hg]; exact Nat.ne_of_gt (blk_lt (bk BK101.out)) : gb102 ≠ gb101)); replace BK101 := ak (blk_below (bk BK101.out) hb); clear hb hbox hg)))
 go_loopg [5] k (fun kq v5 w' => ∃ (x5_1 : Int), v5 = .int .i64 x5_1 ∧ Aside0 (impl_Name_compare.l0 kq x5_1 l0_0 l1_0 = some r) ∧ Aside0 (kq ≤ k) ∧ Aside0 (w'.heap[gb101]? = some (.cells #[(.slice A0_0 l0_0.length c0_0)] 31 (0, 0))) ∧ Aside0 (w'.heap[gb102]? = some (.cells #[(.slice A1_0 l1_0.length c1_0)] 31 (0, 0))) ∧ Aside0 (Below w.heap.size w w'))
 case atStart => exact ⟨(1), (by first | rfl | (simp; done) | (simp [*]; done)), H', ⟨Nat.le_refl _⟩, ⟨bk BK101.out⟩, ⟨bk BK102.out⟩, ⟨bw HB.out⟩⟩
 case round =>
  clear H'
  try clear c1
  try clear p2
  obtain ⟨x5_1, rfl, HA, HK1, BK101, BK102, HB⟩ := hrel
  cases gk with
  | zero => exact absurd HA.out (by simp [impl_Name_compare.l0])
  | succ k1 =>
   have H := HA.out
   clear HA
   simp only [impl_Name_compare.l0] at H
   obtain ⟨ji5, hji5⟩ : ∃ j_ : Int, (mn (l0_0.length : Int) (l1_0.length : Int)) = j_ := ⟨_, rfl⟩
   replace H : (if x5_1 ≤ (ji5) then (if 0 ≤ (wrap64 ((l0_0.length : Int) - x5_1)) then (if (wrap64 ((l0_0.length : Int) - x5_1)) < (l0_0.length : Int) then (if 0 ≤ (wrap64 ((l1_0.length : Int) - x5_1)) then (if (wrap64 ((l1_0.length : Int) - x5_1)) < (l1_0.length : Int) then ((bytes_Compare.f (rd_L10 l0_0 (wrap64 ((l0_0.length : Int) - x5_1))) (rd_L10 l1_0 (wrap64 ((l1_0.length : Int) - x5_1)))).bind fun t105 => (if t105 = 0 then (impl_Name_compare.l0 k1 (wrap64 (x5_1 + 1)) l0_0 l1_0) else (some t105))) else (none)) else (none)) else (none)) else (none)) else ((cmp_Compare_int.f (l0_0.length : Int) (l1_0.length : Int)).bind fun t106 => (some t106))) = some r := by first | (rw [hji5] at H; exact H) | (simp only [hji5] at H ⊢; exact H)
   have hji5_ : (if (l1_0.length : Int) < (l0_0.length : Int) then (l1_0.length : Int) else (l0_0.length : Int)) = ji5 := hji5; have hji5_n := hji5_; (try simp only [Int.ofNat_lt] at hji5_n)
   by_cases c6 : x5_1 ≤ (ji5)
   ·rw [if_pos c6] at H
    have c6b0 : decide (x5_1 ≤ (ji5)) = true := decide_eq_true c6
    clear c6
    obtain ⟨ji7, hji7⟩ : ∃ j_ : Int, (wrap64 ((l0_0.length : Int) - x5_1)) = j_ := ⟨_, rfl⟩
    replace H : (if 0 ≤ (ji7) then (if (ji7) < (l0_0.length : Int) then (if 0 ≤ (wrap64 ((l1_0.length : Int) - x5_1)) then (if (wrap64 ((l1_0.length : Int) - x5_1)) < (l1_0.length : Int) then ((bytes_Compare.f (rd_L10 l0_0 (ji7)) (rd_L10 l1_0 (wrap64 ((l1_0.length : Int) - x5_1)))).bind fun t105 => (if t105 = 0 then (impl_Name_compare.l0 k1 (wrap64 (x5_1 + 1)) l0_0 l1_0) else (some t105))) else (none)) else (none)) else (none)) else (none)) = some r := by first | (rw [hji7] at H; exact H) | (simp only [hji7] at H ⊢; exact H)
    have hji7w : (IntKind.i64.wrap ((l0_0.length : Int) - x5_1)) = ji7 := (i64_w _).trans hji7
    by_cases c8 : 0 ≤ (ji7)
    ·rw [if_pos c8] at H
     have c8b0 : decide (0 ≤ (ji7)) = true := decide_eq_true c8
     clear c8
     by_cases c9 : (ji7) < (l0_0.length : Int)
     ·rw [if_pos c9] at H
      have c9b0 : decide ((ji7) < (l0_0.length : Int)) = true := decide_eq_true c9
      clear c9
      obtain ⟨ji10, hji10⟩ : ∃ j_ : Int, (wrap64 ((l1_0.length : Int) - x5_1)) = j_ := ⟨_, rfl⟩
      replace H : (if 0 ≤ (ji10) then (if (ji10) < (l1_0.length : Int) then ((bytes_Compare.f (rd_L10 l0_0 (ji7)) (rd_L10 l1_0 (ji10))).bind fun t105 => (if t105 = 0 then (impl_Name_compare.l0 k1 (wrap64 (x5_1 + 1)) l0_0 l1_0) else (some t105))) else (none)) else (none)) = some r := by first | (rw [hji10] at H; exact H) | (simp only [hji10] at H ⊢; exact H)
      have hji10w : (IntKind.i64.wrap ((l1_0.length : Int) - x5_1)) = ji10 := (i64_w _).trans hji10
      by_cases c11 : 0 ≤ (ji10)
      ·rw [if_pos c11] at H
       have c11b0 : decide (0 ≤ (ji10)) = true := decide_eq_true c11
       clear c11
       by_cases c12 : (ji10) < (l1_0.length : Int)
       ·rw [if_pos c12] at H
        have c12b0 : decide ((ji10) < (l1_0.length : Int)) = true := decide_eq_true c12
        clear c12
        replace H := Option.bind_eq_some_iff.mp H
        obtain ⟨t105, A130, H⟩ := H
        replace H : (if t105 = 0 then (impl_Name_compare.l0 k1 (wrap64 (x5_1 + 1)) l0_0 l1_0) else (some t105)) = some r := H
        have A13 := ak A130
        clear A130
        by_cases c14 : t105 = 0
        ·rw [if_pos c14] at H
         have c14b0 : (t105 == 0) = true := beq_iff_eq.mpr c14
         have c14b1 : (t105 != 0) = false := bne_eq_false_iff_eq.mpr c14
         clear c14
         have H' := ak H
         clear H
         have hnb15 := NB101_102.out
         have hnc15 := NB102_101.out
         obtain ⟨hcz16_0, hfz16_0⟩ := cells1 BK101.out
         obtain ⟨hcz17_0, hfz17_0⟩ := cells1 BK102.out
         have p103 : 0 ≤ ((ji7) : Int) := of_decide_eq_true (by first | (with_reducible assumption) | assumption)
         have q103 : (ji7) < (l0_0.length : Int) := of_decide_eq_true (by first | (with_reducible assumption) | assumption)
         obtain ⟨ad103, A103_0, c103_0, e103, hx103_0, hl103_0, hi103_0⟩ := at_L10 HR0_0.out (ji7) p103 q103
         cases e103
         replace hx103_0 := hc_ HB.out hx103_0
         have HR103_0 := ak hi103_0
         have HC103_0 := ak hl103_0
         clear hi103_0 hl103_0
         replace p103 := eq_true p103
         replace q103 := eq_true q103
         have p104 : 0 ≤ ((ji10) : Int) := of_decide_eq_true (by first | (with_reducible assumption) | assumption)
         have q104 : (ji10) < (l1_0.length : Int) := of_decide_eq_true (by first | (with_reducible assumption) | assumption)
         obtain ⟨ad104, A104_0, c104_0, e104, hx104_0, hl104_0, hi104_0⟩ := at_L10 HR1_0.out (ji10) p104 q104
         cases e104
         replace hx104_0 := hc_ HB.out hx104_0
         have HR104_0 := ak hi104_0
         have HC104_0 := ak hl104_0
         clear hi104_0 hl104_0
         replace p104 := eq_true p104
         replace q104 := eq_true q104
         go_wp2_with (first | (go_at_call 143; (with_reducible refine (bytes_Compare.calls _ _ (rd_L10 l0_0 (ji7)) _ _ (rd_L10 l1_0 (ji10)) t105 _ ?side1 ?side2 ?side3 ?side4 A13.out).mono ?_); (case side1 => exact cw HR103_0.out HB.out); (case side2 => exact HC103_0.out); (case side3 => exact cw HR104_0.out HB.out); (case side4 => exact HC104_0.out); rintro e w' ⟨rfl, ⟨nd, rfl⟩⟩; (try first | exact ⟨rfl, _, World.drewN_drewN _ _ _⟩ | exact ⟨rfl, _, Eq.trans (World.drewN_drewN _ _ _) (congrArg (World.drewN _) (Nat.add_assoc _ _ _))⟩)))
         repeat (go_quiet (first | (go_at_call 143; (with_reducible refine (bytes_Compare.calls _ _ (rd_L10 l0_0 (ji7)) _ _ (rd_L10 l1_0 (ji10)) t105 _ ?side1 ?side2 ?side3 ?side4 A13.out).mono ?_); (case side1 => exact cw HR103_0.out HB.out); (case side2 => exact HC103_0.out); (case side3 => exact cw HR104_0.out HB.out); (case side4 => exact HC104_0.out); rintro e w' ⟨rfl, ⟨nd, rfl⟩⟩; (try first | exact ⟨rfl, _, World.drewN_drewN _ _ _⟩ | exact ⟨rfl, _, Eq.trans (World.drewN_drewN _ _ _) (congrArg (World.drewN _) (Nat.add_assoc _ _ _))⟩))); try go_wp2_with (first | (go_at_call 143; (with_reducible refine (bytes_Compare.calls _ _ (rd_L10 l0_0 (ji7)) _ _ (rd_L10 l1_0 (ji10)) t105 _ ?side1 ?side2 ?side3 ?side4 A13.out).mono ?_); (case side1 => exact cw HR103_0.out HB.out); (case side2 => exact HC103_0.out); (case side3 => exact cw HR104_0.out HB.out); (case side4 => exact HC104_0.out); rintro e w' ⟨rfl, ⟨nd, rfl⟩⟩; (try first | exact ⟨rfl, _, World.drewN_drewN _ _ _⟩ | exact ⟨rfl, _, Eq.trans (World.drewN_drewN _ _ _) (congrArg (World.drewN _) (Nat.add_assoc _ _ _))⟩))))
         go_roundg k1
         case measure => have := HK1.out; omega
         case rel => exact ⟨(wrap64 (x5_1 + 1)), (by first | rfl | (simp; done) | (simp [*]; done)), H', ⟨by have := HK1.out; omega⟩, ⟨bk BK101.out⟩, ⟨bk BK102.out⟩, ⟨bw HB.out⟩⟩
        ·rw [if_neg c14] at H
         have c14b0 : (t105 == 0) = false := beq_eq_false_iff_ne.mpr c14
         have c14b1 : (t105 != 0) = true := bne_iff_ne.mpr c14
         obtain rfl := Option.some.inj H
         have hnb18 := NB101_102.out
         have hnc18 := NB102_101.out
         obtain ⟨hcz19_0, hfz19_0⟩ := cells1 BK101.out
         obtain ⟨hcz20_0, hfz20_0⟩ := cells1 BK102.out
         have p103 : 0 ≤ ((ji7) : Int) := of_decide_eq_true (by first | (with_reducible assumption) | assumption)
         have q103 : (ji7) < (l0_0.length : Int) := of_decide_eq_true (by first | (with_reducible assumption) | assumption)
         obtain ⟨ad103, A103_0, c103_0, e103, hx103_0, hl103_0, hi103_0⟩ := at_L10 HR0_0.out (ji7) p103 q103
         cases e103
         replace hx103_0 := hc_ HB.out hx103_0
         have HR103_0 := ak hi103_0
         have HC103_0 := ak hl103_0
         clear hi103_0 hl103_0
         replace p103 := eq_true p103
         replace q103 := eq_true q103
         have p104 : 0 ≤ ((ji10) : Int) := of_decide_eq_true (by first | (with_reducible assumption) | assumption)
         have q104 : (ji10) < (l1_0.length : Int) := of_decide_eq_true (by first | (with_reducible assumption) | assumption)
         obtain ⟨ad104, A104_0, c104_0, e104, hx104_0, hl104_0, hi104_0⟩ := at_L10 HR1_0.out (ji10) p104 q104
         cases e104
         replace hx104_0 := hc_ HB.out hx104_0
         have HR104_0 := ak hi104_0
         have HC104_0 := ak hl104_0
         clear hi104_0 hl104_0
         replace p104 := eq_true p104
         replace q104 := eq_true q104
         go_wp2_with (first | (go_at_call 143; (with_reducible refine (bytes_Compare.calls _ _ (rd_L10 l0_0 (ji7)) _ _ (rd_L10 l1_0 (ji10)) t105 _ ?side1 ?side2 ?side3 ?side4 A13.out).mono ?_); (case side1 => exact cw HR103_0.out HB.out); (case side2 => exact HC103_0.out); (case side3 => exact cw HR104_0.out HB.out); (case side4 => exact HC104_0.out); rintro e w' ⟨rfl, ⟨nd, rfl⟩⟩; (try first | exact ⟨rfl, _, World.drewN_drewN _ _ _⟩ | exact ⟨rfl, _, Eq.trans (World.drewN_drewN _ _ _) (congrArg (World.drewN _) (Nat.add_assoc _ _ _))⟩)))
         repeat (go_quiet (first | (go_at_call 143; (with_reducible refine (bytes_Compare.calls _ _ (rd_L10 l0_0 (ji7)) _ _ (rd_L10 l1_0 (ji10)) t105 _ ?side1 ?side2 ?side3 ?side4 A13.out).mono ?_); (case side1 => exact cw HR103_0.out HB.out); (case side2 => exact HC103_0.out); (case side3 => exact cw HR104_0.out HB.out); (case side4 => exact HC104_0.out); rintro e w' ⟨rfl, ⟨nd, rfl⟩⟩; (try first | exact ⟨rfl, _, World.drewN_drewN _ _ _⟩ | exact ⟨rfl, _, Eq.trans (World.drewN_drewN _ _ _) (congrArg (World.drewN _) (Nat.add_assoc _ _ _))⟩))); try go_wp2_with (first | (go_at_call 143; (with_reducible refine (bytes_Compare.calls _ _ (rd_L10 l0_0 (ji7)) _ _ (rd_L10 l1_0 (ji10)) t105 _ ?side1 ?side2 ?side3 ?side4 A13.out).mono ?_); (case side1 => exact cw HR103_0.out HB.out); (case side2 => exact HC103_0.out); (case side3 => exact cw HR104_0.out HB.out); (case side4 => exact HC104_0.out); rintro e w' ⟨rfl, ⟨nd, rfl⟩⟩; (try first | exact ⟨rfl, _, World.drewN_drewN _ _ _⟩ | exact ⟨rfl, _, Eq.trans (World.drewN_drewN _ _ _) (congrArg (World.drewN _) (Nat.add_assoc _ _ _))⟩))))
         go_ret
         exact ⟨by first | rfl | (simp [errW_none, errW_some] <;> rfl) | (simp only [← hji5, ← hji7, ← hji10]; first | rfl | (simp [errW_none, errW_some] <;> rfl)) | (simp [*, errW_none, errW_some] <;> rfl), bw HB.out⟩
       ·rw [if_neg c12] at H
        exact absurd H (by simp)
      ·rw [if_neg c11] at H
       exact absurd H (by simp)
     ·rw [if_neg c9] at H
      exact absurd H (by simp)
    ·rw [if_neg c8] at H
     exact absurd H (by simp)
   ·rw [if_neg c6] at H
    have c6b0 : decide (x5_1 ≤ (ji5)) = false := decide_eq_false c6
    clear c6
    replace H := Option.bind_eq_some_iff.mp H
    obtain ⟨t106, A210, H⟩ := H
    replace H : (some t106) = some r := H
    have A21 := ak A210
    clear A210
    obtain rfl := Option.some.inj H
    have hnb22 := NB101_102.out
    have hnc22 := NB102_101.out
    obtain ⟨hcz23_0, hfz23_0⟩ := cells1 BK101.out
    obtain ⟨hcz24_0, hfz24_0⟩ := cells1 BK102.out
    go_wp2_with (first | (go_at_call 142; (with_reducible refine (cmp_Compare_int.calls (l0_0.length : Int) (l1_0.length : Int) t106 _ A21.out).mono ?_); rintro e w' ⟨rfl, ⟨nd, rfl⟩⟩; (try first | exact ⟨rfl, _, World.drewN_drewN _ _ _⟩ | exact ⟨rfl, _, Eq.trans (World.drewN_drewN _ _ _) (congrArg (World.drewN _) (Nat.add_assoc _ _ _))⟩)))
    repeat (go_quiet (first | (go_at_call 142; (with_reducible refine (cmp_Compare_int.calls (l0_0.length : Int) (l1_0.length : Int) t106 _ A21.out).mono ?_); rintro e w' ⟨rfl, ⟨nd, rfl⟩⟩; (try first | exact ⟨rfl, _, World.drewN_drewN _ _ _⟩ | exact ⟨rfl, _, Eq.trans (World.drewN_drewN _ _ _) (congrArg (World.drewN _) (Nat.add_assoc _ _ _))⟩))); try go_wp2_with (first | (go_at_call 142; (with_reducible refine (cmp_Compare_int.calls (l0_0.length : Int) (l1_0.length : Int) t106 _ A21.out).mono ?_); rintro e w' ⟨rfl, ⟨nd, rfl⟩⟩; (try first | exact ⟨rfl, _, World.drewN_drewN _ _ _⟩ | exact ⟨rfl, _, Eq.trans (World.drewN_drewN _ _ _) (congrArg (World.drewN _) (Nat.add_assoc _ _ _))⟩))))
    go_ret
    exact ⟨by first | rfl | (simp [errW_none, errW_some] <;> rfl) | (simp only [← hji5]; first | rfl | (simp [errW_none, errW_some] <;> rfl)) | (simp [*, errW_none, errW_some] <;> rfl), bw HB.out⟩


/-! ### impl_hasTo: function 85 -/
def impl_hasTo.f (a0 : Int) : Option (Bool) := if a0 = 2 then (some true) else (if a0 = 5 then (some true) else (if a0 = 6 then (some true) else (some (a0 == 12))))
set_option maxHeartbeats 8000000 in
set_option maxRecDepth 100000 in
theorem impl_hasTo.calls (a0 : Int) (r : Bool) (w : World) (h : impl_hasTo.f a0 = some r) :
  Calls Try.prog 85 #[.int .i64 a0] w fun e w' => e = .returned (.bool r) ∧ Drawn0 w w' := by
 have H : (if a0 = 2 then (some true) else (if a0 = 5 then (some true) else (if a0 = 6 then (some true) else (some (a0 == 12))))) = some r := h
 clear h
 by_cases c2 : a0 = 2
 ·rw [if_pos c2] at H
  have c2b0 : (a0 == 2) = true := beq_iff_eq.mpr c2
  have c2b1 : (a0 != 2) = false := bne_eq_false_iff_eq.mpr c2
  clear c2
  obtain rfl := Option.some.inj H
  go_enter Try.func85, Try.ntmps85
  go_wp2
  go_ret
  exact ⟨by first | rfl | (simp; done) | (simp [*]; done), by repeat (first | exact Drawn0.refl _ | apply Drawn0.step)⟩
 ·rw [if_neg c2] at H
  have c2b0 : (a0 == 2) = false := beq_eq_false_iff_ne.mpr c2
  have c2b1 : (a0 != 2) = true := bne_iff_ne.mpr c2
  by_cases c3 : a0 = 5
  ·rw [if_pos c3] at H
   have c3b0 : (a0 == 5) = true := beq_iff_eq.mpr c3
   have c3b1 : (a0 != 5) = false := bne_eq_false_iff_eq.mpr c3
   clear c3
   obtain rfl := Option.some.inj H
   go_enter Try.func85, Try.ntmps85
   go_wp2
   go_ret
   exact ⟨by first | rfl | (simp; done) | (simp [*]; done), by repeat (first | exact Drawn0.refl _ | apply Drawn0.step)⟩
  ·rw [if_neg c3] at H
   have c3b0 : (a0 == 5) = false := beq_eq_false_iff_ne.mpr c3
   have c3b1 : (a0 != 5) = true := bne_iff_ne.mpr c3
   by_cases c4 : a0 = 6
   ·rw [if_pos c4] at H
    have c4b0 : (a0 == 6) = true := beq_iff_eq.mpr c4
    have c4b1 : (a0 != 6) = false := bne_eq_false_iff_eq.mpr c4
    clear c4
    obtain rfl := Option.some.inj H
    go_enter Try.func85, Try.ntmps85
    go_wp2
    go_ret
    exact ⟨by first | rfl | (simp; done) | (simp [*]; done), by repeat (first | exact Drawn0.refl _ | apply Drawn0.step)⟩
   ·rw [if_neg c4] at H
    have c4b0 : (a0 == 6) = false := beq_eq_false_iff_ne.mpr c4
    have c4b1 : (a0 != 6) = true := bne_iff_ne.mpr c4
    obtain rfl := Option.some.inj H
    go_enter Try.func85, Try.ntmps85
    go_wp2
    go_ret
    exact ⟨by first | rfl | (simp; done) | (simp [*]; done), by repeat (first | exact Drawn0.refl _ | apply Drawn0.step)⟩


/-! ### impl_two: function 200 -/
def impl_two.f (a0 : Int) : Option (List Int) := some (([(a0 / 256) % 256, (a0) % 256] : List Int))
set_option maxHeartbeats 8000000 in
set_option maxRecDepth 100000 in
theorem impl_two.calls (a0 : Int) (r : List Int) (w : World) (h : impl_two.f a0 = some r) :
  Calls Try.prog 200 #[.int .i64 a0] w fun e w' => ∃ v0_ : Value, e = .returned (v0_) ∧ Kd.R (Kd.int .u8) 5 w' w.heap.size (fun _ => True) v0_ r ∧ Below w.heap.size w w' := by
 have HB := ak (Below.refl w.heap.size w)
 have H : (some (([(a0 / 256) % 256, (a0) % 256] : List Int))) = some r := h
 clear h
 obtain ⟨y101, hy101⟩ : ∃ y_ : List Int, y_ = (([(a0 / 256) % 256, (a0) % 256] : List Int)) := ⟨_, rfl⟩
 replace H : (some y101) = some r := by first | (rw [hy101]; with_reducible exact H) | (have H2_ := (Option.bind_some _ _).symm.trans H; rw [hy101]; with_reducible exact H2_) | (have H2_ := (Option.bind_some _ _).symm.trans H; with_reducible exact H2_) | with_reducible exact H | (rw [hy101]; exact H) | exact H
 have Ny101 := ak hy101
 clear hy101
 obtain rfl := Option.some.inj H
 go_enter Try.func200, Try.ntmps200
 go_wp2_with (first | ((with_reducible refine gate_dst (N := 8) rfl ?_); refine Kd.R_lit (Kd.int .u8) _ 5 ?hg (N := 8) ?hd (xs := ([(a0 / 256) % 256, (a0) % 256] : List Int)) (inner := [.int .u8 ((a0 / 256) % 256), .int .u8 ((a0) % 256)]) (ok := fun _ => True) (okp := fun _ => True) ?hr ?hp (fun _ hk => hk) trivial (Below.refl _ _) (Nat.le_refl _) (by simp) ?_; (case hd => rfl); (case hg => rfl); (case hr => first | (go_simp; done) | (go_simp; rfl)); (case hp => exact (Reps.one (show Kd.M (Kd.int .u8) _ _ _ ((a0 / 256) % 256) [.int .u8 ((a0 / 256) % 256)] from rfl) (Reps.one (show Kd.M (Kd.int .u8) _ _ _ ((a0) % 256) [.int .u8 ((a0) % 256)] from rfl) (Reps.none _ _)))); intro v102 w2 ho3 hb hg_ hnew_; clear hg_ hnew_; (first | rw [← Ny101.out] at ho3 | (simp only [Int.reduceToNat] at ho3; rw [← Ny101.out] at ho3)); have HO103 := ak (Kd.R_lower ho3 (below_size (bw HB.out))); replace HB := ak (below_step (bw HB.out) hb); clear hb ho3))
 go_ret
 exact ⟨_, by first | rfl | (simp [errW_none, errW_some] <;> rfl) | (simp [*, errW_none, errW_some] <;> rfl), rw_ HO103.out, bw HB.out⟩


/-! ### impl_four: function 149 -/
def impl_four.f (a0 : Int) : Option (List Int) := (impl_two.f (a0 / 65536)).bind fun t101 => ((impl_two.f a0).bind fun t104 => (if t101.length + t104.length < 140737488355328 then (some (t101 ++ t104)) else (none)))
set_option maxHeartbeats 8000000 in
set_option maxRecDepth 100000 in
theorem impl_four.calls (a0 : Int) (r : List Int) (w : World) (h : impl_four.f a0 = some r) :
  Calls Try.prog 149 #[.int .i64 a0] w fun e w' => ∃ v0_ : Value, e = .returned (v0_) ∧ Kd.R (Kd.int .u8) 5 w' w.heap.size (fun _ => True) v0_ r ∧ Below w.heap.size w w' := by
 have HB := ak (Below.refl w.heap.size w)
 have H : ((impl_two.f (a0 / 65536)).bind fun t101 => ((impl_two.f a0).bind fun t104 => (if t101.length + t104.length < 140737488355328 then (some (t101 ++ t104)) else (none)))) = some r := h
 clear h
 replace H := Option.bind_eq_some_iff.mp H
 obtain ⟨t101, A20, H⟩ := H
 replace H : ((impl_two.f a0).bind fun t104 => (if t101.length + t104.length < 140737488355328 then (some (t101 ++ t104)) else (none))) = some r := H
 have A2 := ak A20
 clear A20
 replace H := Option.bind_eq_some_iff.mp H
 obtain ⟨t104, A30, H⟩ := H
 replace H : (if t101.length + t104.length < 140737488355328 then (some (t101 ++ t104)) else (none)) = some r := H
 have A3 := ak A30
 clear A30
 by_cases c4 : t101.length + t104.length < 140737488355328
 ·rw [if_pos c4] at H
  have LMc4 := ak c4
  clear c4
  obtain ⟨y107, hy107⟩ : ∃ y_ : List Int, y_ = (t101 ++ t104) := ⟨_, rfl⟩
  replace H : (some y107) = some r := by first | (rw [hy107]; with_reducible exact H) | (have H2_ := (Option.bind_some _ _).symm.trans H; rw [hy107]; with_reducible exact H2_) | (have H2_ := (Option.bind_some _ _).symm.trans H; with_reducible exact H2_) | with_reducible exact H | (rw [hy107]; exact H) | exact H
  have Ny107 := ak hy107
  clear hy107
  obtain rfl := Option.some.inj H
  go_enter Try.func149, Try.ntmps149
  go_wp2_with (first | ((with_reducible refine gate_callee (f := 200) rfl ?_); refine goesL_ (some 5) rfl rfl Try.func200 (by kernel_rfl) rfl #[.int .i64 (a0 / 65536)] rfl (by first | rfl | (simp only [List.map_toArray, List.map_cons, List.map_nil]; first | done | rfl)) ?_; (with_reducible refine (impl_two.calls (a0 / 65536) t101 _ A2.out).mono ?_); rintro e w5 ⟨v102, rfl, ho0, hb⟩; refine ⟨_, rfl, ?_⟩; have HO103 := ak (Kd.R_lower ho0 (below_size (bw HB.out))); replace HB := ak (below_step (bw HB.out) hb); (try clear hb); (try clear ho0)) | ((with_reducible refine gate_callee (f := 200) rfl ?_); refine goesL_ (some 7) rfl rfl Try.func200 (by kernel_rfl) rfl #[.int .i64 a0] rfl (by first | rfl | (simp only [List.map_toArray, List.map_cons, List.map_nil]; first | done | rfl)) ?_; (with_reducible refine (impl_two.calls a0 t104 _ A3.out).mono ?_); rintro e w6 ⟨v105, rfl, ho0, hb⟩; refine ⟨_, rfl, ?_⟩; have HO106 := ak (Kd.R_lower (Kd.R_new' ho0 (Kd.R_lt (rw_ HO103.out))) (below_size (bw HB.out))); replace HO103 := ak (Kd.R_elder' (rw_ HO103.out) (Kd.R_base ho0) hb); replace HB := ak (below_step (bw HB.out) hb); (try clear hb); (try clear ho0); obtain ⟨Ao8, co8, eo8⟩ := Kd.R_slice HO106.out; subst eo8) | ((with_reducible refine gate_builtin (b := .append) (xs := #[.tmp 5, .tmp 7]) rfl ?_); at_builtin; refine Kd.R_append_rows (Kd.int .u8) (w0 := w) w.heap.size rfl (.tmp 5) (.tmp 7) 25 5 (.int .u8 0) 1 rfl Try.underlying25 info5 rfl (by decide) (by omega) v102 t101 t104 _ _ _ (fun k_ => some k_ ≠ (.slice Ao8 t104.length co8 : Value).ownBlock) (fun _ => False) rfl rfl ?aO ?aR (fun _ _ h => h) (fun _ h => h.elim) ?aF ?aB ?aS ?aL ?_; (case aR => repeat (first | exact (Kd.R_reads' HO106.out).2.2 | (with_reducible refine Kd.C_alloc ?_ _) | (with_reducible refine Kd.C_drewN ?_ _) | (with_reducible refine Kd.C_drew ?_))); (case aB => exact (bw HB.out)); (case aF => exact (fun k_ hk => Kd.fresh' (Kd.R_lt (rw_ HO106.out)) k_ hk)); (case aO => exact (by (with_reducible repeat (first | apply Kd.R_alloc | apply Kd.R_drewN | apply Kd.R_drew)); exact Kd.R_mono HO103.out (fun _ hk => hk.2))); (case aS => exact (below_size (bw HB.out))); (case aL => have := LMc4.out; omega); intro v108 w7 ho hb hg hat; rw [← Ny107.out] at ho; replace HO106 := ak (Kd.R_after (ok := (fun _ => True)) (rw_ HO106.out) hg hat); replace HB := ak (hb); have HO109 := ak (ho); clear HO103; clear ho hb hg hat))
  go_ret
  exact ⟨_, by first | rfl | (simp [errW_none, errW_some] <;> rfl) | (simp [*, errW_none, errW_some] <;> rfl), by (with_reducible repeat (first | apply Kd.R_alloc | apply Kd.R_drewN | apply Kd.R_drew)); exact Kd.R_mono HO109.out (fun _ hk => trivial), bw HB.out⟩
 ·rw [if_neg c4] at H
  exact absurd H (by simp)


/-! ### impl_Name_wire: function 156 -/
def impl_Name_wire.l0 : Nat → List Int → List (List Int) → Int → Int → Option (List Int)
 | 0, _, _, _, _ => none
 | k + 1, x3, x8, x9, x10 => if x10 < x9 then (if 0 ≤ x10 then (if x10 < (x8.length : Int) then (if x3.length < 140737488355328 then ((some (x3 ++ [(((rd_L10 x8 x10).length : Int)) % 256] : List Int)).bind fun y106 => (if y106.length + (rd_L10 x8 x10).length < 140737488355328 then (impl_Name_wire.l0 k (y106 ++ (rd_L10 x8 x10)) x8 x9 (wrap64 (x10 + 1))) else (none))) else (none)) else (none)) else (none)) else (if x3.length < 140737488355328 then (some (x3 ++ [0])) else (none))
def impl_Name_wire.f (k : Nat) (l0_0 : List (List Int)) : Option (List Int) := impl_Name_wire.l0 k (([] : List Int)) l0_0 (l0_0.length : Int) 0
set_option maxHeartbeats 8000000 in
set_option maxRecDepth 100000 in
theorem impl_Name_wire.calls (k : Nat) (A0_0 : Option Addr) (c0_0 : Nat) (l0_0 : List (List Int)) (r : List Int) (w : World) (hr0_0 : Kd.C (Kd.slice 5 (Kd.int .u8)) w A0_0 l0_0.length l0_0) (hc0_0 : l0_0.length ≤ c0_0) (h : impl_Name_wire.f k l0_0 = some r) :
  Calls Try.prog 156 #[.agg #[.slice A0_0 l0_0.length c0_0]] w fun e w' => ∃ v0_ : Value, e = .returned (v0_) ∧ Kd.R (Kd.int .u8) 5 w' w.heap.size (fun _ => True) v0_ r ∧ Below w.heap.size w w' := by
 have hu31 := Try.underlying31
 have HR0_0 := ak hr0_0
 have HC0_0 := ak hc0_0
 clear hr0_0 hc0_0
 have HB := ak (Below.refl w.heap.size w)
 have H : (impl_Name_wire.l0 k (([] : List Int)) l0_0 (l0_0.length : Int) 0) = some r := h
 clear h
 obtain ⟨y102, hy102⟩ : ∃ y_ : List Int, y_ = (([] : List Int)) := ⟨_, rfl⟩
 replace H : (impl_Name_wire.l0 k y102 l0_0 (l0_0.length : Int) 0) = some r := by first | (rw [hy102]; with_reducible exact H) | (have H2_ := (Option.bind_some _ _).symm.trans H; rw [hy102]; with_reducible exact H2_) | (have H2_ := (Option.bind_some _ _).symm.trans H; with_reducible exact H2_) | with_reducible exact H | (rw [hy102]; exact H) | exact H
 have Ny102 := ak hy102
 clear hy102
 have H' := ak H
 clear H
 go_enter Try.func156, Try.ntmps156
 go_wp2_with (first | ((with_reducible refine gate_dst (N := 1) rfl ?_); refine boxed (N := 1) rfl rfl (cs := #[.slice A0_0 l0_0.length c0_0]) (t := 31) HB.out (by first | (go_simp; done) | (go_simp; rfl)) ?_; clear HB; intro gb101 w2 hg HB BK101 GE101 hb; have GW101 := GE101; clear hb hg) | ((with_reducible refine gate_dst (N := 6) rfl ?_); refine Kd.R_lit (Kd.int .u8) _ 5 ?hg (N := 6) ?hd (xs := ([] : List Int)) (inner := []) (ok := fun _ => True) (okp := fun _ => True) ?hr ?hp (fun _ hk => hk) trivial (Below.refl _ _) (Nat.le_refl _) (by simp) ?_; (case hd => rfl); (case hg => rfl); (case hr => first | (go_simp; done) | (go_simp; rfl)); (case hp => exact (Reps.none _ _)); intro v103 w3 ho4 hb hg_ hnew_; clear hg_ hnew_; (first | rw [← Ny102.out] at ho4 | (simp only [Int.reduceToNat] at ho4; rw [← Ny102.out] at ho4)); have HO104 := ak (Kd.R_lower ho4 (below_size (bw HB.out))); replace BK101 := ak (blk_below (bk BK101.out) hb); replace HB := ak (below_step (bw HB.out) hb); clear hb ho4; obtain ⟨hcz5_0, hfz5_0⟩ := cells1 BK101.out))
 go_loopg [3, 10] k (fun kq v3 v10 w' => ∃ (x3_1 : List Int) (x10_1 : Int), v10 = .int .i64 x10_1 ∧ Aside0 (impl_Name_wire.l0 kq x3_1 l0_0 (l0_0.length : Int) x10_1 = some r) ∧ Aside0 (kq ≤ k) ∧ Aside0 (Kd.R (Kd.int .u8) 5 w' w.heap.size (fun _ => True) v3 x3_1) ∧ Aside0 (w'.heap[gb101]? = some (.cells #[(.slice A0_0 l0_0.length c0_0)] 31 (0, 0))) ∧ Aside0 (Below w.heap.size w w'))
 case atStart => exact ⟨(y102), (0), (by first | rfl | (simp; done) | (simp [*]; done)), H', ⟨Nat.le_refl _⟩, ⟨rw_ HO104.out⟩, ⟨bk BK101.out⟩, ⟨bw HB.out⟩⟩
 case round =>
  clear H'
  try clear c1
  try clear p2
  try clear hcz5_0
  try clear hfz5_0
  obtain ⟨x3_1, x10_1, rfl, HA, HK1, HO_3, BK101, HB⟩ := hrel
  cases gk with
  | zero => exact absurd HA.out (by simp [impl_Name_wire.l0])
  | succ k1 =>
   have H := HA.out
   clear HA
   simp only [impl_Name_wire.l0] at H
   by_cases c6 : x10_1 < (l0_0.length : Int)
   ·rw [if_pos c6] at H
    have c6b0 : decide (x10_1 < (l0_0.length : Int)) = true := decide_eq_true c6
    clear c6
    by_cases c7 : 0 ≤ x10_1
    ·rw [if_pos c7] at H
     have c7b0 : decide (0 ≤ x10_1) = true := decide_eq_true c7
     clear c7
     by_cases c8 : x10_1 < (l0_0.length : Int)
     ·rw [if_pos c8] at H
      have c8b0 : decide (x10_1 < (l0_0.length : Int)) = true := decide_eq_true c8
      clear c8
      by_cases c9 : x3_1.length < 140737488355328
      ·rw [if_pos c9] at H
       have LMc9 := ak c9
       clear c9
       obtain ⟨y106, hy106⟩ : ∃ y_ : List Int, y_ = (x3_1 ++ [(((rd_L10 l0_0 x10_1).length : Int)) % 256]) := ⟨_, rfl⟩
       replace H : (if y106.length + (rd_L10 l0_0 x10_1).length < 140737488355328 then (impl_Name_wire.l0 k1 (y106 ++ (rd_L10 l0_0 x10_1)) l0_0 (l0_0.length : Int) (wrap64 (x10_1 + 1))) else (none)) = some r := by first | (rw [hy106]; with_reducible exact H) | (have H2_ := (Option.bind_some _ _).symm.trans H; rw [hy106]; with_reducible exact H2_) | (have H2_ := (Option.bind_some _ _).symm.trans H; with_reducible exact H2_) | with_reducible exact H | (rw [hy106]; exact H) | exact H
       have Ny106 := ak hy106
       clear hy106
       by_cases c10 : y106.length + (rd_L10 l0_0 x10_1).length < 140737488355328
       ·rw [if_pos c10] at H
        have LMc10 := ak c10
        clear c10
        obtain ⟨y109, hy109⟩ : ∃ y_ : List Int, y_ = (y106 ++ (rd_L10 l0_0 x10_1)) := ⟨_, rfl⟩
        replace H : (impl_Name_wire.l0 k1 y109 l0_0 (l0_0.length : Int) (wrap64 (x10_1 + 1))) = some r := by first | (rw [hy109]; with_reducible exact H) | (have H2_ := (Option.bind_some _ _).symm.trans H; rw [hy109]; with_reducible exact H2_) | (have H2_ := (Option.bind_some _ _).symm.trans H; with_reducible exact H2_) | with_reducible exact H | (rw [hy109]; exact H) | exact H
        have Ny109 := ak hy109
        clear hy109
        have H' := ak H
        clear H
        have p105 : 0 ≤ (x10_1 : Int) := of_decide_eq_true (by first | (with_reducible assumption) | assumption)
        have q105 : x10_1 < (l0_0.length : Int) := of_decide_eq_true (by first | (with_reducible assumption) | assumption)
        obtain ⟨ad105, A105_0, c105_0, e105, hx105_0, hl105_0, hi105_0⟩ := at_L10 HR0_0.out x10_1 p105 q105
        cases e105
        replace hx105_0 := hc_ HB.out hx105_0
        have HR105_0 := ak hi105_0
        have HC105_0 := ak hl105_0
        clear hi105_0 hl105_0
        replace p105 := eq_true p105
        replace q105 := eq_true q105
        go_wp2_with (first | ((with_reducible refine gate_builtin (b := .append) (xs := #[.tmp 14, .tmp 18]) rfl ?_); at_builtin; refine Kd.R_append (Kd.int .u8) (w0 := w) w.heap.size rfl (.tmp 14) (.tmp 18) 25 5 (.int .u8 0) 1 rfl Try.underlying25 info5 rfl (by decide) (by omega) u3 x3_1 ((((rd_L10 l0_0 x10_1).length : Int)) % 256) [.int .u8 ((((rd_L10 l0_0 x10_1).length : Int)) % 256)] (fun _ => True) (fun _ => False) rfl rfl ?aP (fun _ hk => hk.elim) ?aF ?aO ?aB ?aS ?aL ?_; (case aP => exact rfl); (case aB => exact (bw HB.out)); (case aF => exact (fun _ _ => trivial)); (case aO => exact (rw_ HO_3.out)); (case aS => exact (below_size (bw HB.out))); (case aL => have := LMc9.out; omega); intro v107 w11 ho hb hg hat; rw [← Ny106.out] at ho; replace BK101 := ak (blk_grown (bk BK101.out) hg (Kd.R_ne HO_3.out BK101.out (by decide))); replace HB := ak (hb); have HO108 := ak (ho); clear HO_3; clear ho hb hg hat) | ((with_reducible refine gate_builtin (b := .append) (xs := #[.tmp 19, .tmp 20]) rfl ?_); at_builtin; refine Kd.R_append_rows (Kd.int .u8) (w0 := w) w.heap.size rfl (.tmp 19) (.tmp 20) 25 5 (.int .u8 0) 1 rfl Try.underlying25 info5 rfl (by decide) (by omega) v107 y106 (rd_L10 l0_0 x10_1) _ _ _ (fun _ => True) (fun _ => False) rfl rfl ?aO ?aR (fun _ _ h => h) (fun _ h => h.elim) ?aF ?aB ?aS ?aL ?_; (case aR => exact cw HR105_0.out HB.out); (case aB => exact (bw HB.out)); (case aF => exact (fun _ _ => trivial)); (case aO => exact (rw_ HO108.out)); (case aS => exact (below_size (bw HB.out))); (case aL => have := LMc10.out; omega); intro v110 w12 ho hb hg hat; rw [← Ny109.out] at ho; replace BK101 := ak (blk_grown (bk BK101.out) hg (Kd.R_ne HO108.out BK101.out (by decide))); replace HB := ak (hb); have HO111 := ak (ho); clear HO108; clear ho hb hg hat))
        go_roundg k1
        case measure => have := HK1.out; omega
        case rel => exact ⟨(y109), (wrap64 (x10_1 + 1)), (by first | rfl | (simp; done) | (simp [*]; done)), H', ⟨by have := HK1.out; omega⟩, ⟨rw_ HO111.out⟩, ⟨bk BK101.out⟩, ⟨bw HB.out⟩⟩
       ·rw [if_neg c10] at H
        exact absurd H (by simp)
      ·rw [if_neg c9] at H
       exact absurd H (by simp)
     ·rw [if_neg c8] at H
      exact absurd H (by simp)
    ·rw [if_neg c7] at H
     exact absurd H (by simp)
   ·rw [if_neg c6] at H
    have c6b0 : decide (x10_1 < (l0_0.length : Int)) = false := decide_eq_false c6
    clear c6
    by_cases c13 : x3_1.length < 140737488355328
    ·rw [if_pos c13] at H
     have LMc13 := ak c13
     clear c13
     obtain ⟨y112, hy112⟩ : ∃ y_ : List Int, y_ = (x3_1 ++ [0]) := ⟨_, rfl⟩
     replace H : (some y112) = some r := by first | (rw [hy112]; with_reducible exact H) | (have H2_ := (Option.bind_some _ _).symm.trans H; rw [hy112]; with_reducible exact H2_) | (have H2_ := (Option.bind_some _ _).symm.trans H; with_reducible exact H2_) | with_reducible exact H | (rw [hy112]; exact H) | exact H
     have Ny112 := ak hy112
     clear hy112
     obtain rfl := Option.some.inj H
     go_wp2_with (first | ((with_reducible refine gate_builtin (b := .append) (xs := #[.tmp 23, .tmp 24]) rfl ?_); at_builtin; refine Kd.R_append (Kd.int .u8) (w0 := w) w.heap.size rfl (.tmp 23) (.tmp 24) 25 5 (.int .u8 0) 1 rfl Try.underlying25 info5 rfl (by decide) (by omega) u3 x3_1 0 [.int .u8 0] (fun _ => True) (fun _ => False) rfl rfl ?aP (fun _ hk => hk.elim) ?aF ?aO ?aB ?aS ?aL ?_; (case aP => exact rfl); (case aB => exact (bw HB.out)); (case aF => exact (fun _ _ => trivial)); (case aO => exact (rw_ HO_3.out)); (case aS => exact (below_size (bw HB.out))); (case aL => have := LMc13.out; omega); intro v113 w14 ho hb hg hat; rw [← Ny112.out] at ho; replace BK101 := ak (blk_grown (bk BK101.out) hg (Kd.R_ne HO_3.out BK101.out (by decide))); replace HB := ak (hb); have HO114 := ak (ho); clear HO_3; clear ho hb hg hat))
     go_ret
     exact ⟨_, by first | rfl | (simp [errW_none, errW_some] <;> rfl) | (simp [*, errW_none, errW_some] <;> rfl), rw_ HO114.out, bw HB.out⟩
    ·rw [if_neg c13] at H
     exact absurd H (by simp)


/-! ### impl_Rr_data: function 144 -/
def impl_Rr_data.l0 : Nat → List Int → List Int → Int → Int → Option (List Int)
 | 0, _, _, _, _ => none
 | k + 1, x3, x21, x22, x23 => if x23 < x22 then (if 0 ≤ x23 then (if x23 < (x21.length : Int) then ((impl_four.f (rd x21 x23)).bind fun t110 => (if x3.length + t110.length < 140737488355328 then (impl_Rr_data.l0 k (x3 ++ t110) x21 x22 (wrap64 (x23 + 1))) else (none))) else (none)) else (none)) else (some x3)
def impl_Rr_data.f (k : Nat) (l0_0 : List (List Int)) (a0_1 : Int) (a0_2 : Int) (a0_3 : Int) (l0_4 : List (List Int)) (l0_5 : List Int) (l0_6 : List Int) : Option (List Int) := if a0_1 = 1 then ((impl_four.f a0_3).bind fun t102 => (some t102)) else ((impl_hasTo.f a0_1).bind fun t105 => (if t105 = true then ((impl_Name_wire.f k l0_4).bind fun t106 => (impl_Rr_data.l0 k t106 l0_6 (l0_6.length : Int) 0)) else ((some (([((l0_5.length : Int)) % 256] : List Int) : List Int)).bind fun y116 => (if y116.length + l0_5.length < 140737488355328 then (some (y116 ++ l0_5)) else (none)))))
set_option maxHeartbeats 8000000 in
set_option maxRecDepth 100000 in
theorem impl_Rr_data.calls (k : Nat) (A0_0 : Option Addr) (c0_0 : Nat) (l0_0 : List (List Int)) (a0_1 : Int) (a0_2 : Int) (a0_3 : Int) (A0_4 : Option Addr) (c0_4 : Nat) (l0_4 : List (List Int)) (A0_5 : Option Addr) (c0_5 : Nat) (l0_5 : List Int) (A0_6 : Option Addr) (c0_6 : Nat) (l0_6 : List Int) (r : List Int) (w : World) (hr0_0 : Kd.C (Kd.slice 5 (Kd.int .u8)) w A0_0 l0_0.length l0_0) (hc0_0 : l0_0.length ≤ c0_0) (hr0_4 : Kd.C (Kd.slice 5 (Kd.int .u8)) w A0_4 l0_4.length l0_4) (hc0_4 : l0_4.length ≤ c0_4) (hr0_5 : Kd.C (Kd.int .u8) w A0_5 l0_5.length l0_5) (hc0_5 : l0_5.length ≤ c0_5) (hr0_6 : Kd.C (Kd.int .i64) w A0_6 l0_6.length l0_6) (hc0_6 : l0_6.length ≤ c0_6) (h : impl_Rr_data.f k l0_0 a0_1 a0_2 a0_3 l0_4 l0_5 l0_6 = some r) :
  Calls Try.prog 144 #[.agg #[.slice A0_0 l0_0.length c0_0, .int .i64 a0_1, .int .i64 a0_2, .int .i64 a0_3, .slice A0_4 l0_4.length c0_4, .slice A0_5 l0_5.length c0_5, .slice A0_6 l0_6.length c0_6]] w fun e w' => ∃ v0_ : Value, e = .returned (v0_) ∧ Kd.R (Kd.int .u8) 5 w' w.heap.size (fun _ => True) v0_ r ∧ Below w.heap.size w w' := by
 have hu33 := Try.underlying33
 have hu31 := Try.underlying31
 have HR0_0 := ak hr0_0
 have HC0_0 := ak hc0_0
 clear hr0_0 hc0_0
 have HR0_4 := ak hr0_4
 have HC0_4 := ak hc0_4
 clear hr0_4 hc0_4
 have HR0_5 := ak hr0_5
 have HC0_5 := ak hc0_5
 clear hr0_5 hc0_5
 have HR0_6 := ak hr0_6
 have HC0_6 := ak hc0_6
 clear hr0_6 hc0_6
 have HB := ak (Below.refl w.heap.size w)
 have H : (if a0_1 = 1 then ((impl_four.f a0_3).bind fun t102 => (some t102)) else ((impl_hasTo.f a0_1).bind fun t105 => (if t105 = true then ((impl_Name_wire.f k l0_4).bind fun t106 => (impl_Rr_data.l0 k t106 l0_6 (l0_6.length : Int) 0)) else ((some (([((l0_5.length : Int)) % 256] : List Int) : List Int)).bind fun y116 => (if y116.length + l0_5.length < 140737488355328 then (some (y116 ++ l0_5)) else (none)))))) = some r := h
 clear h
 by_cases c2 : a0_1 = 1
 ·rw [if_pos c2] at H
  have c2b0 : (a0_1 == 1) = true := beq_iff_eq.mpr c2
  have c2b1 : (a0_1 != 1) = false := bne_eq_false_iff_eq.mpr c2
  clear c2
  replace H := Option.bind_eq_some_iff.mp H
  obtain ⟨t102, A30, H⟩ := H
  replace H : (some t102) = some r := H
  have A3 := ak A30
  clear A30
  obtain rfl := Option.some.inj H
  go_enter Try.func144, Try.ntmps144
  go_wp2_with (first | ((with_reducible refine gate_dst (N := 1) rfl ?_); refine boxed (N := 1) rfl rfl (cs := #[.slice A0_0 l0_0.length c0_0, .int .i64 a0_1, .int .i64 a0_2, .int .i64 a0_3, .slice A0_4 l0_4.length c0_4, .slice A0_5 l0_5.length c0_5, .slice A0_6 l0_6.length c0_6]) (t := 33) HB.out (by first | (go_simp; done) | (go_simp; rfl)) ?_; clear HB; intro gb101 w4 hg HB BK101 GE101 hb; have GW101 := GE101; clear hb hg; obtain ⟨hcz5_0, hcz5_1, hcz5_2, hcz5_3, hcz5_4, hcz5_5, hcz5_6, hfz5_0, hfz5_1, hfz5_2, hfz5_3, hfz5_4, hfz5_5, hfz5_6⟩ := cells7 BK101.out) | ((with_reducible refine gate_callee (f := 149) rfl ?_); refine goesL_ (some 12) rfl rfl Try.func149 (by kernel_rfl) rfl #[.int .i64 a0_3] rfl (by first | rfl | (simp only [List.map_toArray, List.map_cons, List.map_nil]; first | done | rfl)) ?_; (with_reducible refine (impl_four.calls a0_3 t102 _ A3.out).mono ?_); rintro e w6 ⟨v103, rfl, ho0, hb⟩; refine ⟨_, rfl, ?_⟩; have HO104 := ak (Kd.R_lower ho0 (below_size (bw HB.out))); replace BK101 := ak (blk_below (bk BK101.out) hb); replace HB := ak (below_step (bw HB.out) hb); (try clear hb); (try clear ho0)))
  go_ret
  exact ⟨_, by first | rfl | (simp [errW_none, errW_some] <;> rfl) | (simp [*, errW_none, errW_some] <;> rfl), rw_ HO104.out, bw HB.out⟩
 ·rw [if_neg c2] at H
  have c2b0 : (a0_1 == 1) = false := beq_eq_false_iff_ne.mpr c2
  have c2b1 : (a0_1 != 1) = true := bne_iff_ne.mpr c2
  replace H := Option.bind_eq_some_iff.mp H
  obtain ⟨t105, A70, H⟩ := H
  replace H : (if t105 = true then ((impl_Name_wire.f k l0_4).bind fun t106 => (impl_Rr_data.l0 k t106 l0_6 (l0_6.length : Int) 0)) else ((some (([((l0_5.length : Int)) % 256] : List Int) : List Int)).bind fun y116 => (if y116.length + l0_5.length < 140737488355328 then (some (y116 ++ l0_5)) else (none)))) = some r := H
  have A7 := ak A70
  clear A70
  by_cases c8 : t105 = true
  ·subst c8
   have H1 : ((impl_Name_wire.f k l0_4).bind fun t106 => (impl_Rr_data.l0 k t106 l0_6 (l0_6.length : Int) 0)) = some r := by rw [if_pos rfl] at H; exact H
   clear H
   have H := H1
   clear H1
   replace H := Option.bind_eq_some_iff.mp H
   obtain ⟨t106, A90, H⟩ := H
   replace H : (impl_Rr_data.l0 k t106 l0_6 (l0_6.length : Int) 0) = some r := H
   have A9 := ak A90
   clear A90
   have H' := ak H
   clear H
   go_enter Try.func144, Try.ntmps144
   go_wp2_with (first | ((with_reducible refine gate_dst (N := 1) rfl ?_); refine boxed (N := 1) rfl rfl (cs := #[.slice A0_0 l0_0.length c0_0, .int .i64 a0_1, .int .i64 a0_2, .int .i64 a0_3, .slice A0_4 l0_4.length c0_4, .slice A0_5 l0_5.length c0_5, .slice A0_6 l0_6.length c0_6]) (t := 33) HB.out (by first | (go_simp; done) | (go_simp; rfl)) ?_; clear HB; intro gb101 w10 hg HB BK101 GE101 hb; have GW101 := GE101; clear hb hg; obtain ⟨hcz11_0, hcz11_1, hcz11_2, hcz11_3, hcz11_4, hcz11_5, hcz11_6, hfz11_0, hfz11_1, hfz11_2, hfz11_3, hfz11_4, hfz11_5, hfz11_6⟩ := cells7 BK101.out) | ((with_reducible refine gate_callee (f := 85) rfl ?_); refine goesL_ (some 16) rfl rfl Try.func85 (by kernel_rfl) rfl #[.int .i64 a0_1] rfl (by first | rfl | (simp only [List.map_toArray, List.map_cons, List.map_nil]; first | done | rfl)) ?_; (with_reducible refine (impl_hasTo.calls a0_1 true _ A7.out).mono ?_); rintro e w' ⟨rfl, ⟨nd, rfl⟩⟩; refine ⟨_, rfl, ?_⟩) | ((with_reducible refine gate_callee (f := 156) rfl ?_); refine goesL_ (some 19) rfl rfl Try.func156 (by kernel_rfl) rfl #[.agg #[.slice A0_4 l0_4.length c0_4]] rfl (by first | rfl | (simp only [List.map_toArray, List.map_cons, List.map_nil]; first | done | rfl)) ?_; (with_reducible refine (impl_Name_wire.calls k _ _ l0_4 t106 _ ?side1 ?side2 A9.out).mono ?_); (case side1 => repeat (first | exact (Kd.C_below HR0_4.out (bw HB.out)) | (with_reducible refine Kd.C_alloc ?_ _) | (with_reducible refine Kd.C_drewN ?_ _) | (with_reducible refine Kd.C_drew ?_))); (case side2 => exact HC0_4.out); rintro e w12 ⟨v107, rfl, ho0, hb⟩; refine ⟨_, rfl, ?_⟩; have HO108 := ak (Kd.R_lower ho0 (below_size (bw HB.out))); replace BK101 := ak (blk_below (bk BK101.out) hb); replace HB := ak (below_step (bw HB.out) hb); (try clear hb); (try clear ho0); obtain ⟨hcz13_0, hcz13_1, hcz13_2, hcz13_3, hcz13_4, hcz13_5, hcz13_6, hfz13_0, hfz13_1, hfz13_2, hfz13_3, hfz13_4, hfz13_5, hfz13_6⟩ := cells7 BK101.out))
   go_loopg [3, 23] k (fun kq v3 v23 w' => ∃ (x3_1 : List Int) (x23_1 : Int), v23 = .int .i64 x23_1 ∧ Aside0 (impl_Rr_data.l0 kq x3_1 l0_6 (l0_6.length : Int) x23_1 = some r) ∧ Aside0 (kq ≤ k) ∧ Aside0 (Kd.R (Kd.int .u8) 5 w' w.heap.size (fun _ => True) v3 x3_1) ∧ Aside0 (w'.heap[gb101]? = some (.cells #[(.slice A0_0 l0_0.length c0_0), .int .i64 a0_1, .int .i64 a0_2, .int .i64 a0_3, (.slice A0_4 l0_4.length c0_4), (.slice A0_5 l0_5.length c0_5), (.slice A0_6 l0_6.length c0_6)] 33 (0, 0))) ∧ Aside0 (Below w.heap.size w w'))
   case atStart => exact ⟨(t106), (0), (by first | rfl | (simp; done) | (simp [*]; done)), H', ⟨Nat.le_refl _⟩, ⟨rw_ HO108.out⟩, ⟨bk BK101.out⟩, ⟨bw HB.out⟩⟩
   case round =>
    clear H'
    try clear c1
    try clear c2
    try clear c2b0
    try clear c2b1
    try clear p2
    try clear c8
    try clear hcz11_0
    try clear hcz11_1
    try clear hcz11_2
    try clear hcz11_3
    try clear hcz11_4
    try clear hcz11_5
    try clear hcz11_6
    try clear hcz13_0
    try clear hcz13_1
    try clear hcz13_2
    try clear hcz13_3
    try clear hcz13_4
    try clear hcz13_5
    try clear hcz13_6
    try clear hcz5_0
    try clear hcz5_1
    try clear hcz5_2
    try clear hcz5_3
    try clear hcz5_4
    try clear hcz5_5
    try clear hcz5_6
    try clear hfz11_0
    try clear hfz11_1
    try clear hfz11_2
    try clear hfz11_3
    try clear hfz11_4
    try clear hfz11_5
    try clear hfz11_6
    try clear hfz13_0
    try clear hfz13_1
    try clear hfz13_2
    try clear hfz13_3
    try clear hfz13_4
    try clear hfz13_5
    try clear hfz13_6
    try clear hfz5_0
    try clear hfz5_1
    try clear hfz5_2
    try clear hfz5_3
    try clear hfz5_4
    try clear hfz5_5
    try clear hfz5_6
    obtain ⟨x3_1, x23_1, rfl, HA, HK1, HO_3, BK101, HB⟩ := hrel
    cases gk with
    | zero => exact absurd HA.out (by simp [impl_Rr_data.l0])
    | succ k1 =>
     have H := HA.out
     clear HA
     simp only [impl_Rr_data.l0] at H
     by_cases c14 : x23_1 < (l0_6.length : Int)
     ·rw [if_pos c14] at H
      have c14b0 : decide (x23_1 < (l0_6.length : Int)) = true := decide_eq_true c14
      clear c14
      by_cases c15 : 0 ≤ x23_1
      ·rw [if_pos c15] at H
       have c15b0 : decide (0 ≤ x23_1) = true := decide_eq_true c15
       clear c15
       by_cases c16 : x23_1 < (l0_6.length : Int)
       ·rw [if_pos c16] at H
        have c16b0 : decide (x23_1 < (l0_6.length : Int)) = true := decide_eq_true c16
        clear c16
        replace H := Option.bind_eq_some_iff.mp H
        obtain ⟨t110, A170, H⟩ := H
        replace H : (if x3_1.length + t110.length < 140737488355328 then (impl_Rr_data.l0 k1 (x3_1 ++ t110) l0_6 (l0_6.length : Int) (wrap64 (x23_1 + 1))) else (none)) = some r := H
        have A17 := ak A170
        clear A170
        by_cases c18 : x3_1.length + t110.length < 140737488355328
        ·rw [if_pos c18] at H
         have LMc18 := ak c18
         clear c18
         obtain ⟨y113, hy113⟩ : ∃ y_ : List Int, y_ = (x3_1 ++ t110) := ⟨_, rfl⟩
         replace H : (impl_Rr_data.l0 k1 y113 l0_6 (l0_6.length : Int) (wrap64 (x23_1 + 1))) = some r := by first | (rw [hy113]; with_reducible exact H) | (have H2_ := (Option.bind_some _ _).symm.trans H; rw [hy113]; with_reducible exact H2_) | (have H2_ := (Option.bind_some _ _).symm.trans H; with_reducible exact H2_) | with_reducible exact H | (rw [hy113]; exact H) | exact H
         have Ny113 := ak hy113
         clear hy113
         have H' := ak H
         clear H
         have p109 : 0 ≤ (x23_1 : Int) := of_decide_eq_true (by first | (with_reducible assumption) | assumption)
         have q109 : x23_1 < (l0_6.length : Int) := of_decide_eq_true (by first | (with_reducible assumption) | assumption)
         obtain ⟨ad109, e109, hx109_0⟩ := Kd.at_int HR0_6.out x23_1 p109 q109
         cases e109
         replace hx109_0 := hc_ HB.out hx109_0
         replace p109 := eq_true p109
         replace q109 := eq_true q109
         go_wp2_with (first | ((with_reducible refine gate_callee (f := 149) rfl ?_); refine goesL_ (some 29) rfl rfl Try.func149 (by kernel_rfl) rfl #[.int .i64 (rd l0_6 x23_1)] rfl (by first | rfl | (simp only [List.map_toArray, List.map_cons, List.map_nil]; first | done | rfl)) ?_; (with_reducible refine (impl_four.calls (rd l0_6 x23_1) t110 _ A17.out).mono ?_); rintro e w19 ⟨v111, rfl, ho0, hb⟩; refine ⟨_, rfl, ?_⟩; have HO112 := ak (Kd.R_lower (Kd.R_new' ho0 (Kd.R_lt (rw_ HO_3.out))) (below_size (bw HB.out))); replace HO_3 := ak (Kd.R_elder' (rw_ HO_3.out) (Kd.R_base ho0) hb); replace BK101 := ak (blk_below (bk BK101.out) hb); replace HB := ak (below_step (bw HB.out) hb); (try clear hb); (try clear ho0); obtain ⟨Ao21, co21, eo21⟩ := Kd.R_slice HO112.out; subst eo21) | ((with_reducible refine gate_builtin (b := .append) (xs := #[.tmp 27, .tmp 29]) rfl ?_); at_builtin; refine Kd.R_append_rows (Kd.int .u8) (w0 := w) w.heap.size rfl (.tmp 27) (.tmp 29) 25 5 (.int .u8 0) 1 rfl Try.underlying25 info5 rfl (by decide) (by omega) u3 x3_1 t110 _ _ _ (fun k_ => some k_ ≠ (.slice Ao21 t110.length co21 : Value).ownBlock) (fun _ => False) rfl rfl ?aO ?aR (fun _ _ h => h) (fun _ h => h.elim) ?aF ?aB ?aS ?aL ?_; (case aR => repeat (first | exact (Kd.R_reads' HO112.out).2.2 | (with_reducible refine Kd.C_alloc ?_ _) | (with_reducible refine Kd.C_drewN ?_ _) | (with_reducible refine Kd.C_drew ?_))); (case aB => exact (bw HB.out)); (case aF => exact (fun k_ hk => Kd.fresh' (Kd.R_lt (rw_ HO112.out)) k_ hk)); (case aO => exact (by (with_reducible repeat (first | apply Kd.R_alloc | apply Kd.R_drewN | apply Kd.R_drew)); exact Kd.R_mono HO_3.out (fun _ hk => hk.2))); (case aS => exact (below_size (bw HB.out))); (case aL => have := LMc18.out; omega); intro v114 w20 ho hb hg hat; rw [← Ny113.out] at ho; replace BK101 := ak (blk_grown (bk BK101.out) hg (Kd.R_ne HO_3.out BK101.out (by decide))); replace HO112 := ak (Kd.R_after (ok := (fun _ => True)) (rw_ HO112.out) hg hat); replace HB := ak (hb); have HO115 := ak (ho); clear HO_3; clear ho hb hg hat))
         go_roundg k1
         case measure => have := HK1.out; omega
         case rel => exact ⟨(y113), (wrap64 (x23_1 + 1)), (by first | rfl | (simp; done) | (simp [*]; done)), H', ⟨by have := HK1.out; omega⟩, ⟨by (with_reducible repeat (first | apply Kd.R_alloc | apply Kd.R_drewN | apply Kd.R_drew)); exact Kd.R_mono HO115.out (fun _ hk => trivial)⟩, ⟨bk BK101.out⟩, ⟨bw HB.out⟩⟩
        ·rw [if_neg c18] at H
         exact absurd H (by simp)
       ·rw [if_neg c16] at H
        exact absurd H (by simp)
      ·rw [if_neg c15] at H
       exact absurd H (by simp)
     ·rw [if_neg c14] at H
      have c14b0 : decide (x23_1 < (l0_6.length : Int)) = false := decide_eq_false c14
      clear c14
      obtain rfl := Option.some.inj H
      go_wp2
      go_ret
      exact ⟨_, by first | rfl | (simp [errW_none, errW_some] <;> rfl) | (simp [*, errW_none, errW_some] <;> rfl), rw_ HO_3.out, bw HB.out⟩
  ·replace c8 := Bool.eq_false_iff.mpr c8
   subst c8
   have H1 : ((some (([((l0_5.length : Int)) % 256] : List Int) : List Int)).bind fun y116 => (if y116.length + l0_5.length < 140737488355328 then (some (y116 ++ l0_5)) else (none))) = some r := by rw [if_neg (show ¬ (false = true) by decide)] at H; exact H
   clear H
   have H := H1
   clear H1
   obtain ⟨y116, hy116⟩ : ∃ y_ : List Int, y_ = (([((l0_5.length : Int)) % 256] : List Int)) := ⟨_, rfl⟩
   replace H : (if y116.length + l0_5.length < 140737488355328 then (some (y116 ++ l0_5)) else (none)) = some r := by first | (rw [hy116]; with_reducible exact H) | (have H2_ := (Option.bind_some _ _).symm.trans H; rw [hy116]; with_reducible exact H2_) | (have H2_ := (Option.bind_some _ _).symm.trans H; with_reducible exact H2_) | with_reducible exact H | (rw [hy116]; exact H) | exact H
   have Ny116 := ak hy116
   clear hy116
   by_cases c22 : y116.length + l0_5.length < 140737488355328
   ·rw [if_pos c22] at H
    have LMc22 := ak c22
    clear c22
    obtain ⟨y119, hy119⟩ : ∃ y_ : List Int, y_ = (y116 ++ l0_5) := ⟨_, rfl⟩
    replace H : (some y119) = some r := by first | (rw [hy119]; with_reducible exact H) | (have H2_ := (Option.bind_some _ _).symm.trans H; rw [hy119]; with_reducible exact H2_) | (have H2_ := (Option.bind_some _ _).symm.trans H; with_reducible exact H2_) | with_reducible exact H | (rw [hy119]; exact H) | exact H
    have Ny119 := ak hy119
    clear hy119
    obtain rfl := Option.some.inj H
    go_enter Try.func144, Try.ntmps144
    go_wp2_with (first | ((with_reducible refine gate_dst (N := 1) rfl ?_); refine boxed (N := 1) rfl rfl (cs := #[.slice A0_0 l0_0.length c0_0, .int .i64 a0_1, .int .i64 a0_2, .int .i64 a0_3, .slice A0_4 l0_4.length c0_4, .slice A0_5 l0_5.length c0_5, .slice A0_6 l0_6.length c0_6]) (t := 33) HB.out (by first | (go_simp; done) | (go_simp; rfl)) ?_; clear HB; intro gb101 w23 hg HB BK101 GE101 hb; have GW101 := GE101; clear hb hg; obtain ⟨hcz24_0, hcz24_1, hcz24_2, hcz24_3, hcz24_4, hcz24_5, hcz24_6, hfz24_0, hfz24_1, hfz24_2, hfz24_3, hfz24_4, hfz24_5, hfz24_6⟩ := cells7 BK101.out) | ((with_reducible refine gate_callee (f := 85) rfl ?_); refine goesL_ (some 16) rfl rfl Try.func85 (by kernel_rfl) rfl #[.int .i64 a0_1] rfl (by first | rfl | (simp only [List.map_toArray, List.map_cons, List.map_nil]; first | done | rfl)) ?_; (with_reducible refine (impl_hasTo.calls a0_1 false _ A7.out).mono ?_); rintro e w' ⟨rfl, ⟨nd, rfl⟩⟩; refine ⟨_, rfl, ?_⟩) | ((with_reducible refine gate_dst (N := 37) rfl ?_); refine Kd.R_lit (Kd.int .u8) _ 5 ?hg (N := 37) ?hd (xs := ([((l0_5.length : Int)) % 256] : List Int)) (inner := [.int .u8 (((l0_5.length : Int)) % 256)]) (ok := fun _ => True) (okp := fun _ => True) ?hr ?hp (fun _ hk => hk) trivial (Below.refl _ _) (Nat.le_refl _) (by simp) ?_; (case hd => rfl); (case hg => rfl); (case hr => first | (go_simp; done) | (go_simp; rfl)); (case hp => exact (Reps.one (show Kd.M (Kd.int .u8) _ _ _ (((l0_5.length : Int)) % 256) [.int .u8 (((l0_5.length : Int)) % 256)] from rfl) (Reps.none _ _))); intro v117 w25 ho26 hb hg_ hnew_; clear hg_ hnew_; (first | rw [← Ny116.out] at ho26 | (simp only [Int.reduceToNat] at ho26; rw [← Ny116.out] at ho26)); have HO118 := ak (Kd.R_lower ho26 (below_size (bw HB.out))); replace BK101 := ak (blk_below (bk BK101.out) hb); replace HB := ak (below_step (bw HB.out) hb); clear hb ho26; obtain ⟨hcz27_0, hcz27_1, hcz27_2, hcz27_3, hcz27_4, hcz27_5, hcz27_6, hfz27_0, hfz27_1, hfz27_2, hfz27_3, hfz27_4, hfz27_5, hfz27_6⟩ := cells7 BK101.out) | ((with_reducible refine gate_builtin (b := .append) (xs := #[.tmp 37, .tmp 39]) rfl ?_); at_builtin; refine Kd.R_append_rows (Kd.int .u8) (w0 := w) w.heap.size rfl (.tmp 37) (.tmp 39) 25 5 (.int .u8 0) 1 rfl Try.underlying25 info5 rfl (by decide) (by omega) v117 y116 l0_5 _ _ _ (fun _ => True) (fun _ => False) rfl rfl ?aO ?aR (fun _ _ h => h) (fun _ h => h.elim) ?aF ?aB ?aS ?aL ?_; (case aR => exact cw HR0_5.out HB.out); (case aB => exact (bw HB.out)); (case aF => exact (fun _ _ => trivial)); (case aO => exact (rw_ HO118.out)); (case aS => exact (below_size (bw HB.out))); (case aL => have := LMc22.out; omega); intro v120 w28 ho hb hg hat; rw [← Ny119.out] at ho; replace BK101 := ak (blk_grown (bk BK101.out) hg (Kd.R_ne HO118.out BK101.out (by decide))); replace HB := ak (hb); have HO121 := ak (ho); clear HO118; clear ho hb hg hat))
    go_ret
    exact ⟨_, by first | rfl | (simp [errW_none, errW_some] <;> rfl) | (simp [*, errW_none, errW_some] <;> rfl), rw_ HO121.out, bw HB.out⟩
   ·rw [if_neg c22] at H
    exact absurd H (by simp)


/-! ### impl_Rr_compare: function 64 -/
def impl_Rr_compare.f (k : Nat) (l0_0 : List (List Int)) (a0_1 : Int) (a0_2 : Int) (a0_3 : Int) (l0_4 : List (List Int)) (l0_5 : List Int) (l0_6 : List Int) (l1_0 : List (List Int)) (a1_1 : Int) (a1_2 : Int) (a1_3 : Int) (l1_4 : List (List Int)) (l1_5 : List Int) (l1_6 : List Int) : Option (Int) := (impl_Name_compare.f k l0_0 l1_0).bind fun t103 => ((cmp_Compare_int.f a0_1 a1_1).bind fun t104 => ((impl_Rr_data.f k l0_0 a0_1 a0_2 a0_3 l0_4 l0_5 l0_6).bind fun t105 => ((impl_Rr_data.f k l1_0 a1_1 a1_2 a1_3 l1_4 l1_5 l1_6).bind fun t108 => ((bytes_Compare.f t105 t108).bind fun t111 => ((cmp_Or_int.f k (([t103, t104, t111] : List Int))).bind fun t115 => (some t115))))))
def impl_Rr_compare.T1 : Bool × List (List Nat × List Nat) := (true, [([], []), ([0], [0]), ([], []), ([2], [2]), ([1, 3], [1, 3]), ([], []), ([5], [5]), ([], []), ([7], [7]), ([6, 8, 4], [6, 8]), ([], []), ([10, 9], [10]), ([], []), ([12, 11], [12]), ([11, 13, 13], [11, 13]), ([4, 9, 14], [4, 9, 14]), ([15, 14], [15]), ([16, 16, 0, 1, 2, 3, 4, 5, 6, 7, 8, 9, 10, 11, 12, 13, 14, 15, 16], [16])])
def impl_Rr_compare.B1 : List Nat := [0, 1, 0, 4, 15, 0, 32, 0, 128, 511, 0, 2047, 0, 8191, 16383, 32767, 65535, 131071]
theorem impl_Rr_compare.tab1 : rtab .any (opsOf Try.f64 1) = impl_Rr_compare.T1 := by kernel_rfl
theorem impl_Rr_compare.bits1 : waitsOk impl_Rr_compare.T1.2 impl_Rr_compare.B1 = true := by kernel_rfl
set_option maxHeartbeats 8000000 in
set_option maxRecDepth 100000 in
theorem impl_Rr_compare.calls (k : Nat) (A0_0 : Option Addr) (c0_0 : Nat) (l0_0 : List (List Int)) (a0_1 : Int) (a0_2 : Int) (a0_3 : Int) (A0_4 : Option Addr) (c0_4 : Nat) (l0_4 : List (List Int)) (A0_5 : Option Addr) (c0_5 : Nat) (l0_5 : List Int) (A0_6 : Option Addr) (c0_6 : Nat) (l0_6 : List Int) (A1_0 : Option Addr) (c1_0 : Nat) (l1_0 : List (List Int)) (a1_1 : Int) (a1_2 : Int) (a1_3 : Int) (A1_4 : Option Addr) (c1_4 : Nat) (l1_4 : List (List Int)) (A1_5 : Option Addr) (c1_5 : Nat) (l1_5 : List Int) (A1_6 : Option Addr) (c1_6 : Nat) (l1_6 : List Int) (r : Int) (w : World) (hr0_0 : Kd.C (Kd.slice 5 (Kd.int .u8)) w A0_0 l0_0.length l0_0) (hc0_0 : l0_0.length ≤ c0_0) (hr0_4 : Kd.C (Kd.slice 5 (Kd.int .u8)) w A0_4 l0_4.length l0_4) (hc0_4 : l0_4.length ≤ c0_4) (hr0_5 : Kd.C (Kd.int .u8) w A0_5 l0_5.length l0_5) (hc0_5 : l0_5.length ≤ c0_5) (hr0_6 : Kd.C (Kd.int .i64) w A0_6 l0_6.length l0_6) (hc0_6 : l0_6.length ≤ c0_6) (hr1_0 : Kd.C (Kd.slice 5 (Kd.int .u8)) w A1_0 l1_0.length l1_0) (hc1_0 : l1_0.length ≤ c1_0) (hr1_4 : Kd.C (Kd.slice 5 (Kd.int .u8)) w A1_4 l1_4.length l1_4) (hc1_4 : l1_4.length ≤ c1_4) (hr1_5 : Kd.C (Kd.int .u8) w A1_5 l1_5.length l1_5) (hc1_5 : l1_5.length ≤ c1_5) (hr1_6 : Kd.C (Kd.int .i64) w A1_6 l1_6.length l1_6) (hc1_6 : l1_6.length ≤ c1_6) (h : impl_Rr_compare.f k l0_0 a0_1 a0_2 a0_3 l0_4 l0_5 l0_6 l1_0 a1_1 a1_2 a1_3 l1_4 l1_5 l1_6 = some r) :
  Calls Try.prog 64 #[.agg #[.slice A0_0 l0_0.length c0_0, .int .i64 a0_1, .int .i64 a0_2, .int .i64 a0_3, .slice A0_4 l0_4.length c0_4, .slice A0_5 l0_5.length c0_5, .slice A0_6 l0_6.length c0_6], .agg #[.slice A1_0 l1_0.length c1_0, .int .i64 a1_1, .int .i64 a1_2, .int .i64 a1_3, .slice A1_4 l1_4.length c1_4, .slice A1_5 l1_5.length c1_5, .slice A1_6 l1_6.length c1_6]] w fun e w' => e = .returned (.int .i64 r) ∧ Below w.heap.size w w' := by
 have hu33 := Try.underlying33
 have hu31 := Try.underlying31
 have HR0_0 := ak hr0_0
 have HC0_0 := ak hc0_0
 clear hr0_0 hc0_0
 have HR0_4 := ak hr0_4
 have HC0_4 := ak hc0_4
 clear hr0_4 hc0_4
 have HR0_5 := ak hr0_5
 have HC0_5 := ak hc0_5
 clear hr0_5 hc0_5
 have HR0_6 := ak hr0_6
 have HC0_6 := ak hc0_6
 clear hr0_6 hc0_6
 have HR1_0 := ak hr1_0
 have HC1_0 := ak hc1_0
 clear hr1_0 hc1_0
 have HR1_4 := ak hr1_4
 have HC1_4 := ak hc1_4
 clear hr1_4 hc1_4
 have HR1_5 := ak hr1_5
 have HC1_5 := ak hc1_5
 clear hr1_5 hc1_5
 have HR1_6 := ak hr1_6
 have HC1_6 := ak hc1_6
 clear hr1_6 hc1_6
 have HB := ak (Below.refl w.heap.size w)
 have H : ((impl_Name_compare.f k l0_0 l1_0).bind fun t103 => ((cmp_Compare_int.f a0_1 a1_1).bind fun t104 => ((impl_Rr_data.f k l0_0 a0_1 a0_2 a0_3 l0_4 l0_5 l0_6).bind fun t105 => ((impl_Rr_data.f k l1_0 a1_1 a1_2 a1_3 l1_4 l1_5 l1_6).bind fun t108 => ((bytes_Compare.f t105 t108).bind fun t111 => ((cmp_Or_int.f k (([t103, t104, t111] : List Int))).bind fun t115 => (some t115))))))) = some r := h
 clear h
 replace H := Option.bind_eq_some_iff.mp H
 obtain ⟨t103, A30, H⟩ := H
 replace H : ((cmp_Compare_int.f a0_1 a1_1).bind fun t104 => ((impl_Rr_data.f k l0_0 a0_1 a0_2 a0_3 l0_4 l0_5 l0_6).bind fun t105 => ((impl_Rr_data.f k l1_0 a1_1 a1_2 a1_3 l1_4 l1_5 l1_6).bind fun t108 => ((bytes_Compare.f t105 t108).bind fun t111 => ((cmp_Or_int.f k (([t103, t104, t111] : List Int))).bind fun t115 => (some t115)))))) = some r := H
 have A3 := ak A30
 clear A30
 replace H := Option.bind_eq_some_iff.mp H
 obtain ⟨t104, A40, H⟩ := H
 replace H : ((impl_Rr_data.f k l0_0 a0_1 a0_2 a0_3 l0_4 l0_5 l0_6).bind fun t105 => ((impl_Rr_data.f k l1_0 a1_1 a1_2 a1_3 l1_4 l1_5 l1_6).bind fun t108 => ((bytes_Compare.f t105 t108).bind fun t111 => ((cmp_Or_int.f k (([t103, t104, t111] : List Int))).bind fun t115 => (some t115))))) = some r := H
 have A4 := ak A40
 clear A40
 replace H := Option.bind_eq_some_iff.mp H
 obtain ⟨t105, A50, H⟩ := H
 replace H : ((impl_Rr_data.f k l1_0 a1_1 a1_2 a1_3 l1_4 l1_5 l1_6).bind fun t108 => ((bytes_Compare.f t105 t108).bind fun t111 => ((cmp_Or_int.f k (([t103, t104, t111] : List Int))).bind fun t115 => (some t115)))) = some r := H
 have A5 := ak A50
 clear A50
 replace H := Option.bind_eq_some_iff.mp H
 obtain ⟨t108, A60, H⟩ := H
 replace H : ((bytes_Compare.f t105 t108).bind fun t111 => ((cmp_Or_int.f k (([t103, t104, t111] : List Int))).bind fun t115 => (some t115))) = some r := H
 have A6 := ak A60
 clear A60
 replace H := Option.bind_eq_some_iff.mp H
 obtain ⟨t111, A70, H⟩ := H
 replace H : ((cmp_Or_int.f k (([t103, t104, t111] : List Int))).bind fun t115 => (some t115)) = some r := H
 have A7 := ak A70
 clear A70
 obtain ⟨y112, hy112⟩ : ∃ y_ : List Int, y_ = (([t103, t104, t111] : List Int)) := ⟨_, rfl⟩
 replace H : ((cmp_Or_int.f k y112).bind fun t115 => (some t115)) = some r := by first | (rw [hy112]; with_reducible exact H) | (have H2_ := (Option.bind_some _ _).symm.trans H; rw [hy112]; with_reducible exact H2_) | (have H2_ := (Option.bind_some _ _).symm.trans H; with_reducible exact H2_) | with_reducible exact H | (rw [hy112]; exact H) | exact H
 have Ny112 := ak hy112
 clear hy112
 replace H := Option.bind_eq_some_iff.mp H
 obtain ⟨t115, A80, H⟩ := H
 replace H : (some t115) = some r := H
 have A8 := ak A80
 clear A80
 obtain rfl := Option.some.inj H
 go_enter Try.func64, Try.ntmps64
 try go_wp2_with (first | ((with_reducible refine gate_dst (N := 2) rfl ?_); refine boxed (N := 2) rfl rfl (cs := #[.slice A0_0 l0_0.length c0_0, .int .i64 a0_1, .int .i64 a0_2, .int .i64 a0_3, .slice A0_4 l0_4.length c0_4, .slice A0_5 l0_5.length c0_5, .slice A0_6 l0_6.length c0_6]) (t := 33) HB.out (by first | (go_simp; done) | (go_simp; rfl)) ?_; clear HB; intro gb101 w9 hg HB BK101 GE101 hb; have GW101 := GE101; clear hb hg) | ((with_reducible refine gate_dst (N := 3) rfl ?_); refine box_event ?hg (N := 3) ?hd (cs := #[.slice A1_0 l1_0.length c1_0, .int .i64 a1_1, .int .i64 a1_2, .int .i64 a1_3, .slice A1_4 l1_4.length c1_4, .slice A1_5 l1_5.length c1_5, .slice A1_6 l1_6.length c1_6]) (t := 33) ?hr ?_; (case hd => rfl); (case hg => rfl); (case hr => first | (go_simp; done) | (go_simp; rfl)); intro gb102 hg w10 hbox hb; have BK102 := ak (hbox); have GW102 := ak ((by rw [hg]; exact (below_size (bw HB.out)) : w.heap.size ≤ gb102)); have GE102 := ak ((by rw [hg]; exact (below_size (bw HB.out)) : w.heap.size ≤ gb102)); replace HB := ak (below_step (bw HB.out) hb); have NB101_102 := ak ((by rw [hg]; exact Nat.ne_of_lt (blk_lt (bk BK101.out)) : gb101 ≠ gb102)); have NB102_101 := ak ((by rw [hg]; exact Nat.ne_of_gt (blk_lt (bk BK101.out)) : gb102 ≠ gb101)); replace BK101 := ak (blk_below (bk BK101.out) hb); clear hb hbox hg))
 have n0_ := ak (blk_drew BK101.out)
 have n1_ := ak (blk_drew BK102.out)
 have n2_ := ak (below_drew1 HB.out)
 clear BK101
 clear BK102
 clear HB
 have BK101 := n0_
 have BK102 := n1_
 have HB := n2_
 clear n0_ n1_ n2_
 refine start_ (n := 18) (S := fun w' => w'.cell? ⟨gb101, 0, none⟩ = some (.slice A0_0 l0_0.length c0_0) ∧ w'.cell? ⟨gb101, 1, none⟩ = some (.int .i64 a0_1) ∧ w'.cell? ⟨gb101, 2, none⟩ = some (.int .i64 a0_2) ∧ w'.cell? ⟨gb101, 3, none⟩ = some (.int .i64 a0_3) ∧ w'.cell? ⟨gb101, 4, none⟩ = some (.slice A0_4 l0_4.length c0_4) ∧ w'.cell? ⟨gb101, 5, none⟩ = some (.slice A0_5 l0_5.length c0_5) ∧ w'.cell? ⟨gb101, 6, none⟩ = some (.slice A0_6 l0_6.length c0_6) ∧ w'.cell? ⟨gb102, 0, none⟩ = some (.slice A1_0 l1_0.length c1_0) ∧ w'.cell? ⟨gb102, 1, none⟩ = some (.int .i64 a1_1) ∧ w'.cell? ⟨gb102, 2, none⟩ = some (.int .i64 a1_2) ∧ w'.cell? ⟨gb102, 3, none⟩ = some (.int .i64 a1_3) ∧ w'.cell? ⟨gb102, 4, none⟩ = some (.slice A1_4 l1_4.length c1_4) ∧ w'.cell? ⟨gb102, 5, none⟩ = some (.slice A1_5 l1_5.length c1_5) ∧ w'.cell? ⟨gb102, 6, none⟩ = some (.slice A1_6 l1_6.length c1_6)) (ds := []) (bA 18 0) (by kernel_rfl) rfl rfl ⟨(blk_cell BK101.out 0).trans rfl, (blk_cell BK101.out 1).trans rfl, (blk_cell BK101.out 2).trans rfl, (blk_cell BK101.out 3).trans rfl, (blk_cell BK101.out 4).trans rfl, (blk_cell BK101.out 5).trans rfl, (blk_cell BK101.out 6).trans rfl, (blk_cell BK102.out 0).trans rfl, (blk_cell BK102.out 1).trans rfl, (blk_cell BK102.out 2).trans rfl, (blk_cell BK102.out 3).trans rfl, (blk_cell BK102.out 4).trans rfl, (blk_cell BK102.out 5).trans rfl, (blk_cell BK102.out 6).trans rfl⟩ (fun hHeld => ?_); refine with_tabW impl_Rr_compare.tab1 impl_Rr_compare.bits1 (fun HT_ HW_ => ?_)
 generalize w10.drew = w11 at BK101 BK102 HB hHeld ⊢
 refine pu_ HT_ 0 5 (bA 18 1) (v := ?_) (a' := ?_) rfl rfl (by kernel_rfl) (fun _ _ _ h => h) (by rfl) ?_ ?_ ?_; rotate_left; intro w'; go_simp; with_reducible rfl; rotate_left; go_simp; rfl
 refine pu_ HT_ 2 7 (bA 18 5) (v := ?_) (a' := ?_) rfl rfl (by kernel_rfl) (fun _ _ _ h => h) (by rfl) ?_ ?_ ?_; rotate_left; intro w'; go_simp; with_reducible rfl; rotate_left; go_simp; rfl
 refine pu_ HT_ 5 10 (bA 18 37) (v := ?_) (a' := ?_) rfl rfl (by kernel_rfl) (fun _ _ _ h => h) (by rfl) ?_ ?_ ?_; rotate_left; intro w'; go_simp; with_reducible rfl; rotate_left; go_simp; rfl
 refine pu_ HT_ 7 12 (bA 18 165) (v := ?_) (a' := ?_) rfl rfl (by kernel_rfl) (fun _ _ _ h => h) (by rfl) ?_ ?_ ?_; rotate_left; intro w'; go_simp; with_reducible rfl; rotate_left; go_simp; rfl
 refine take_ (i := 1) (N := some 6) (v := ?_) (a' := ?_) (bA 18 167) rfl rfl (take_ofW HT_.out HW_.out (by kernel_rfl)) (fun _ _ _ h => h) (Or.inl ⟨by rfl, ?_⟩) hHeld ?_ ?_
 rotate_left; rintro w' ⟨s0, s1, s2, s3, s4, s5, s6, s7, s8, s9, s10, s11, s12, s13⟩; go_simp; with_reducible rfl; rotate_left; go_simp; rfl
 refine take_ (i := 3) (N := some 8) (v := ?_) (a' := ?_) (bA 18 175) rfl rfl (take_ofW HT_.out HW_.out (by kernel_rfl)) (fun _ _ _ h => h) (Or.inl ⟨by rfl, ?_⟩) hHeld ?_ ?_
 rotate_left; rintro w' ⟨s0, s1, s2, s3, s4, s5, s6, s7, s8, s9, s10, s11, s12, s13⟩; go_simp; with_reducible rfl; rotate_left; go_simp; rfl
 refine take_ (i := 6) (N := some 11) (v := ?_) (a' := ?_) (bA 18 239) rfl rfl (take_ofW HT_.out HW_.out (by kernel_rfl)) (fun _ _ _ h => h) (Or.inl ⟨by rfl, ?_⟩) hHeld ?_ ?_
 rotate_left; rintro w' ⟨s0, s1, s2, s3, s4, s5, s6, s7, s8, s9, s10, s11, s12, s13⟩; go_simp; with_reducible rfl; rotate_left; go_simp; rfl
 refine take_ (i := 8) (N := some 13) (v := ?_) (a' := ?_) (bA 18 495) rfl rfl (take_ofW HT_.out HW_.out (by kernel_rfl)) (fun _ _ _ h => h) (Or.inl ⟨by rfl, ?_⟩) hHeld ?_ ?_
 rotate_left; rintro w' ⟨s0, s1, s2, s3, s4, s5, s6, s7, s8, s9, s10, s11, s12, s13⟩; go_simp; with_reducible rfl; rotate_left; go_simp; rfl
 refine take_ (i := 10) (N := some 15) (v := ?_) (a' := ?_) (bA 18 1519) rfl rfl (take_ofW HT_.out HW_.out (by kernel_rfl)) (fun _ _ _ h => h) (Or.inl ⟨by rfl, ?_⟩) hHeld ?_ ?_
 rotate_left; rintro w' ⟨s0, s1, s2, s3, s4, s5, s6, s7, s8, s9, s10, s11, s12, s13⟩; go_simp; with_reducible rfl; rotate_left; go_simp; rfl
 refine take_ (i := 12) (N := some 17) (v := ?_) (a' := ?_) (bA 18 5615) rfl rfl (take_ofW HT_.out HW_.out (by kernel_rfl)) (fun _ _ _ h => h) (Or.inl ⟨by rfl, ?_⟩) hHeld ?_ ?_
 rotate_left; rintro w' ⟨s0, s1, s2, s3, s4, s5, s6, s7, s8, s9, s10, s11, s12, s13⟩; go_simp; with_reducible rfl; rotate_left; go_simp; rfl
 refine one_ (i := 4) (N := some 9) (bA 18 5631) rfl rfl (one_of HT_.out (by kernel_rfl)) (by decide) (fun K hK => ?_)
 refine goes_ Try.func141 (by kernel_rfl) rfl #[.agg #[.slice A0_0 l0_0.length c0_0], .agg #[.slice A1_0 l1_0.length c1_0]] (by rfl) rfl rfl (by first | rfl | (simp only [List.map_toArray, List.map_cons, List.map_nil]; first | done | rfl)) ?_
 with_reducible refine (impl_Name_compare.calls k _ _ l0_0 _ _ l1_0 t103 _ ?side1 ?side2 ?side3 ?side4 A3.out).mono ?_
 (case side1 => exact cw HR0_0.out HB.out)
 (case side2 => exact HC0_0.out)
 (case side3 => exact cw HR1_0.out HB.out)
 (case side4 => exact HC1_0.out)
 rintro e w12 ⟨rfl, hb⟩
 refine ⟨_, rfl, ?_⟩
 have n0_ := ak (blk_below (bk BK101.out) hb)
 have n1_ := ak (blk_below (bk BK102.out) hb)
 have n2_ := ak (below_step (bw HB.out) hb)
 clear BK101
 clear BK102
 clear HB
 have BK101 := n0_
 have BK102 := n1_
 have HB := n2_
 clear n0_ n1_ n2_
 (try clear hb)
 (try clear hb2)
 (try clear hk)
 (try clear hi)
 refine hK.out _ _ ⟨(blk_cell BK101.out 0).trans rfl, (blk_cell BK101.out 1).trans rfl, (blk_cell BK101.out 2).trans rfl, (blk_cell BK101.out 3).trans rfl, (blk_cell BK101.out 4).trans rfl, (blk_cell BK101.out 5).trans rfl, (blk_cell BK101.out 6).trans rfl, (blk_cell BK102.out 0).trans rfl, (blk_cell BK102.out 1).trans rfl, (blk_cell BK102.out 2).trans rfl, (blk_cell BK102.out 3).trans rfl, (blk_cell BK102.out 4).trans rfl, (blk_cell BK102.out 5).trans rfl, (blk_cell BK102.out 6).trans rfl⟩ (fun hHeld => ?_)
 clear hK K
 refine norm_ (a' := ?_) ?_ ?_; rotate_left; go_simp; rfl
 refine one_ (i := 9) (N := some 14) (bA 18 6143) rfl rfl (one_of HT_.out (by kernel_rfl)) (by decide) (fun K hK => ?_)
 refine goes_ Try.func142 (by kernel_rfl) rfl #[.int .i64 a0_1, .int .i64 a1_1] (by rfl) rfl rfl (by first | rfl | (simp only [List.map_toArray, List.map_cons, List.map_nil]; first | done | rfl)) ?_
 with_reducible refine (cmp_Compare_int.calls a0_1 a1_1 t104 _ A4.out).mono ?_
 rintro e w' ⟨rfl, ⟨nd, rfl⟩⟩
 refine ⟨_, rfl, ?_⟩
 refine hK.out _ _ ⟨(blk_cell BK101.out 0).trans rfl, (blk_cell BK101.out 1).trans rfl, (blk_cell BK101.out 2).trans rfl, (blk_cell BK101.out 3).trans rfl, (blk_cell BK101.out 4).trans rfl, (blk_cell BK101.out 5).trans rfl, (blk_cell BK101.out 6).trans rfl, (blk_cell BK102.out 0).trans rfl, (blk_cell BK102.out 1).trans rfl, (blk_cell BK102.out 2).trans rfl, (blk_cell BK102.out 3).trans rfl, (blk_cell BK102.out 4).trans rfl, (blk_cell BK102.out 5).trans rfl, (blk_cell BK102.out 6).trans rfl⟩ (fun hHeld => ?_)
 clear hK K
 refine norm_ (a' := ?_) ?_ ?_; rotate_left; go_simp; rfl
 refine one_ (i := 11) (N := some 16) (bA 18 8191) rfl rfl (one_of HT_.out (by kernel_rfl)) (by decide) (fun K hK => ?_)
 refine goes_ Try.func144 (by kernel_rfl) rfl #[.agg #[.slice A0_0 l0_0.length c0_0, .int .i64 a0_1, .int .i64 a0_2, .int .i64 a0_3, .slice A0_4 l0_4.length c0_4, .slice A0_5 l0_5.length c0_5, .slice A0_6 l0_6.length c0_6]] (by rfl) rfl rfl (by first | rfl | (simp only [List.map_toArray, List.map_cons, List.map_nil]; first | done | rfl)) ?_
 with_reducible refine (impl_Rr_data.calls k _ _ l0_0 a0_1 a0_2 a0_3 _ _ l0_4 _ _ l0_5 _ _ l0_6 t105 _ ?side1 ?side2 ?side3 ?side4 ?side5 ?side6 ?side7 ?side8 A5.out).mono ?_
 (case side1 => repeat (first | exact (Kd.C_below HR0_0.out (bw HB.out)) | (with_reducible refine Kd.C_alloc ?_ _) | (with_reducible refine Kd.C_drewN ?_ _) | (with_reducible refine Kd.C_drew ?_)))
 (case side2 => exact HC0_0.out)
 (case side3 => repeat (first | exact (Kd.C_below HR0_4.out (bw HB.out)) | (with_reducible refine Kd.C_alloc ?_ _) | (with_reducible refine Kd.C_drewN ?_ _) | (with_reducible refine Kd.C_drew ?_)))
 (case side4 => exact HC0_4.out)
 (case side5 => repeat (first | exact (Kd.C_below HR0_5.out (bw HB.out)) | (with_reducible refine Kd.C_alloc ?_ _) | (with_reducible refine Kd.C_drewN ?_ _) | (with_reducible refine Kd.C_drew ?_)))
 (case side6 => exact HC0_5.out)
 (case side7 => repeat (first | exact (Kd.C_below HR0_6.out (bw HB.out)) | (with_reducible refine Kd.C_alloc ?_ _) | (with_reducible refine Kd.C_drewN ?_ _) | (with_reducible refine Kd.C_drew ?_)))
 (case side8 => exact HC0_6.out)
 rintro e w13 ⟨v106, rfl, ho0, hb⟩
 refine ⟨_, rfl, ?_⟩
 have n0_ := ak (Kd.R_lower ho0 (below_size (bw HB.out)))
 have n1_ := ak (blk_below (bk BK101.out) hb)
 have n2_ := ak (blk_below (bk BK102.out) hb)
 have n3_ := ak (below_step (bw HB.out) hb)
 clear BK101
 clear BK102
 clear HB
 have HO107 := n0_
 have BK101 := n1_
 have BK102 := n2_
 have HB := n3_
 clear n0_ n1_ n2_ n3_
 (try clear hb)
 (try clear hb2)
 (try clear hk)
 (try clear hi)
 (try clear ho0)
 refine hK.out _ _ ⟨(blk_cell BK101.out 0).trans rfl, (blk_cell BK101.out 1).trans rfl, (blk_cell BK101.out 2).trans rfl, (blk_cell BK101.out 3).trans rfl, (blk_cell BK101.out 4).trans rfl, (blk_cell BK101.out 5).trans rfl, (blk_cell BK101.out 6).trans rfl, (blk_cell BK102.out 0).trans rfl, (blk_cell BK102.out 1).trans rfl, (blk_cell BK102.out 2).trans rfl, (blk_cell BK102.out 3).trans rfl, (blk_cell BK102.out 4).trans rfl, (blk_cell BK102.out 5).trans rfl, (blk_cell BK102.out 6).trans rfl⟩ (fun hHeld => ?_)
 clear hK K
 refine norm_ (a' := ?_) ?_ ?_; rotate_left; go_simp; rfl
 refine one_ (i := 13) (N := some 18) (bA 18 16383) rfl rfl (one_of HT_.out (by kernel_rfl)) (by decide) (fun K hK => ?_)
 refine goes_ Try.func144 (by kernel_rfl) rfl #[.agg #[.slice A1_0 l1_0.length c1_0, .int .i64 a1_1, .int .i64 a1_2, .int .i64 a1_3, .slice A1_4 l1_4.length c1_4, .slice A1_5 l1_5.length c1_5, .slice A1_6 l1_6.length c1_6]] (by rfl) rfl rfl (by first | rfl | (simp only [List.map_toArray, List.map_cons, List.map_nil]; first | done | rfl)) ?_
 with_reducible refine (impl_Rr_data.calls k _ _ l1_0 a1_1 a1_2 a1_3 _ _ l1_4 _ _ l1_5 _ _ l1_6 t108 _ ?side1 ?side2 ?side3 ?side4 ?side5 ?side6 ?side7 ?side8 A6.out).mono ?_
 (case side1 => exact cw HR1_0.out HB.out)
 (case side2 => exact HC1_0.out)
 (case side3 => exact cw HR1_4.out HB.out)
 (case side4 => exact HC1_4.out)
 (case side5 => exact cw HR1_5.out HB.out)
 (case side6 => exact HC1_5.out)
 (case side7 => exact cw HR1_6.out HB.out)
 (case side8 => exact HC1_6.out)
 rintro e w14 ⟨v109, rfl, ho0, hb⟩
 refine ⟨_, rfl, ?_⟩
 have n0_ := ak (Kd.R_elder' (rw_ HO107.out) (Kd.R_base ho0) hb)
 have n1_ := ak (Kd.R_lower (Kd.R_new' ho0 (Kd.R_lt (rw_ HO107.out))) (below_size (bw HB.out)))
 have n2_ := ak (blk_below (bk BK101.out) hb)
 have n3_ := ak (blk_below (bk BK102.out) hb)
 have n4_ := ak (below_step (bw HB.out) hb)
 clear HO107
 clear BK101
 clear BK102
 clear HB
 have HO107 := n0_
 have HO110 := n1_
 have BK101 := n2_
 have BK102 := n3_
 have HB := n4_
 clear n0_ n1_ n2_ n3_ n4_
 (try clear hb)
 (try clear hb2)
 (try clear hk)
 (try clear hi)
 (try clear ho0)
 obtain ⟨Ao15, co15, eo15⟩ := Kd.R_slice HO107.out
 (first | subst eo15 | (injection eo15 with f1_ f2_ f3_; have f4_ := f1_.symm; have f5_ := f3_.symm; clear f1_ f2_ f3_; subst f4_; subst f5_))
 obtain ⟨Ao16, co16, eo16⟩ := Kd.R_slice HO110.out
 (first | subst eo16 | (injection eo16 with f1_ f2_ f3_; have f4_ := f1_.symm; have f5_ := f3_.symm; clear f1_ f2_ f3_; subst f4_; subst f5_))
 refine hK.out _ _ ⟨(blk_cell BK101.out 0).trans rfl, (blk_cell BK101.out 1).trans rfl, (blk_cell BK101.out 2).trans rfl, (blk_cell BK101.out 3).trans rfl, (blk_cell BK101.out 4).trans rfl, (blk_cell BK101.out 5).trans rfl, (blk_cell BK101.out 6).trans rfl, (blk_cell BK102.out 0).trans rfl, (blk_cell BK102.out 1).trans rfl, (blk_cell BK102.out 2).trans rfl, (blk_cell BK102.out 3).trans rfl, (blk_cell BK102.out 4).trans rfl, (blk_cell BK102.out 5).trans rfl, (blk_cell BK102.out 6).trans rfl⟩ (fun hHeld => ?_)
 clear hK K
 refine norm_ (a' := ?_) ?_ ?_; rotate_left; go_simp; rfl
 refine one_ (i := 14) (N := some 19) (bA 18 32767) rfl rfl (one_of HT_.out (by kernel_rfl)) (by decide) (fun K hK => ?_)
 refine goes_ Try.func143 (by kernel_rfl) rfl #[.slice Ao15 t105.length co15, .slice Ao16 t108.length co16] (by rfl) rfl rfl (by first | rfl | (simp only [List.map_toArray, List.map_cons, List.map_nil]; first | done | rfl)) ?_
 with_reducible refine (bytes_Compare.calls _ _ t105 _ _ t108 t111 _ ?side1 ?side2 ?side3 ?side4 A7.out).mono ?_
 (case side1 => repeat (first | exact (Kd.R_reads' HO107.out).2.2 | (with_reducible refine Kd.C_alloc ?_ _) | (with_reducible refine Kd.C_drewN ?_ _) | (with_reducible refine Kd.C_drew ?_)))
 (case side2 => exact (Kd.R_reads' HO107.out).2.1)
 (case side3 => repeat (first | exact (Kd.R_reads' HO110.out).2.2 | (with_reducible refine Kd.C_alloc ?_ _) | (with_reducible refine Kd.C_drewN ?_ _) | (with_reducible refine Kd.C_drew ?_)))
 (case side4 => exact (Kd.R_reads' HO110.out).2.1)
 rintro e w' ⟨rfl, ⟨nd, rfl⟩⟩
 refine ⟨_, rfl, ?_⟩
 refine hK.out _ _ ⟨(blk_cell BK101.out 0).trans rfl, (blk_cell BK101.out 1).trans rfl, (blk_cell BK101.out 2).trans rfl, (blk_cell BK101.out 3).trans rfl, (blk_cell BK101.out 4).trans rfl, (blk_cell BK101.out 5).trans rfl, (blk_cell BK101.out 6).trans rfl, (blk_cell BK102.out 0).trans rfl, (blk_cell BK102.out 1).trans rfl, (blk_cell BK102.out 2).trans rfl, (blk_cell BK102.out 3).trans rfl, (blk_cell BK102.out 4).trans rfl, (blk_cell BK102.out 5).trans rfl, (blk_cell BK102.out 6).trans rfl⟩ (fun hHeld => ?_)
 clear hK K
 refine norm_ (a' := ?_) ?_ ?_; rotate_left; go_simp; rfl
 refine one_ (i := 15) (N := some 20) (bA 18 65535) rfl rfl (one_of HT_.out (by kernel_rfl)) (by decide) (fun K hK => ?_)
 refine Kd.R_lit_step (Kd.int .i64) _ 3 ?hg (N := 20) ?hd (xs := ([t103, t104, t111] : List Int)) (inner := [.int .i64 t103, .int .i64 t104, .int .i64 t111]) (ok := fun _ => True) (okp := fun _ => True) ?hr ?hp (fun _ hk => hk) trivial (Below.refl _ _) (Nat.le_refl _) (by simp) ?_; (case hd => rfl); (case hg => rfl); (case hr => first | (go_simp; done) | (go_simp; rfl)); (case hp => exact (Reps.one (show Kd.M (Kd.int .i64) _ _ _ t103 [.int .i64 t103] from rfl) (Reps.one (show Kd.M (Kd.int .i64) _ _ _ t104 [.int .i64 t104] from rfl) (Reps.one (show Kd.M (Kd.int .i64) _ _ _ t111 [.int .i64 t111] from rfl) (Reps.none _ _)))))
 intro v113 w17 ho18 hb hg_ hnew_
 clear hg_ hnew_
 (first | rw [← Ny112.out] at ho18 | (simp only [Int.reduceToNat] at ho18; rw [← Ny112.out] at ho18))
 have n0_ := ak (Kd.R_below (rw_ HO107.out) hb)
 have n1_ := ak (Kd.R_below (rw_ HO110.out) hb)
 have n2_ := ak (Kd.R_lower ho18 (below_size (bw HB.out)))
 have n3_ := ak (blk_below (bk BK101.out) hb)
 have n4_ := ak (blk_below (bk BK102.out) hb)
 have n5_ := ak (below_step (bw HB.out) hb)
 clear HO107
 clear HO110
 clear BK101
 clear BK102
 clear HB
 have HO107 := n0_
 have HO110 := n1_
 have HO114 := n2_
 have BK101 := n3_
 have BK102 := n4_
 have HB := n5_
 clear n0_ n1_ n2_ n3_ n4_ n5_
 clear hb ho18
 obtain ⟨Ao19, co19, eo19⟩ := Kd.R_slice HO114.out
 (first | subst eo19 | (injection eo19 with f1_ f2_ f3_; have f4_ := f1_.symm; have f5_ := f3_.symm; clear f1_ f2_ f3_; subst f4_; subst f5_))
 refine hK.out _ _ ⟨(blk_cell BK101.out 0).trans rfl, (blk_cell BK101.out 1).trans rfl, (blk_cell BK101.out 2).trans rfl, (blk_cell BK101.out 3).trans rfl, (blk_cell BK101.out 4).trans rfl, (blk_cell BK101.out 5).trans rfl, (blk_cell BK101.out 6).trans rfl, (blk_cell BK102.out 0).trans rfl, (blk_cell BK102.out 1).trans rfl, (blk_cell BK102.out 2).trans rfl, (blk_cell BK102.out 3).trans rfl, (blk_cell BK102.out 4).trans rfl, (blk_cell BK102.out 5).trans rfl, (blk_cell BK102.out 6).trans rfl⟩ (fun hHeld => ?_)
 clear hK K
 refine norm_ (a' := ?_) ?_ ?_; rotate_left; go_simp; rfl
 refine one_ (i := 16) (N := some 21) (bA 18 131071) rfl rfl (one_of HT_.out (by kernel_rfl)) (by decide) (fun K hK => ?_)
 refine goes_ Try.func140 (by kernel_rfl) rfl #[.slice Ao19 y112.length co19] (by rfl) rfl rfl (by first | rfl | (simp only [List.map_toArray, List.map_cons, List.map_nil]; first | done | rfl)) ?_
 with_reducible refine (cmp_Or_int.calls k _ _ y112 t115 _ ?side1 ?side2 A8.out).mono ?_
 (case side1 => repeat (first | exact (Kd.R_reads' HO114.out).2.2 | (with_reducible refine Kd.C_alloc ?_ _) | (with_reducible refine Kd.C_drewN ?_ _) | (with_reducible refine Kd.C_drew ?_)))
 (case side2 => exact (Kd.R_reads' HO114.out).2.1)
 rintro e w' ⟨rfl, ⟨nd, rfl⟩⟩
 refine ⟨_, rfl, ?_⟩
 refine hK.out _ _ ⟨(blk_cell BK101.out 0).trans rfl, (blk_cell BK101.out 1).trans rfl, (blk_cell BK101.out 2).trans rfl, (blk_cell BK101.out 3).trans rfl, (blk_cell BK101.out 4).trans rfl, (blk_cell BK101.out 5).trans rfl, (blk_cell BK101.out 6).trans rfl, (blk_cell BK102.out 0).trans rfl, (blk_cell BK102.out 1).trans rfl, (blk_cell BK102.out 2).trans rfl, (blk_cell BK102.out 3).trans rfl, (blk_cell BK102.out 4).trans rfl, (blk_cell BK102.out 5).trans rfl, (blk_cell BK102.out 6).trans rfl⟩ (fun hHeld => ?_)
 clear hK K
 refine norm_ (a' := ?_) ?_ ?_; rotate_left; go_simp; rfl
 refine pu_ HT_ 17 4 (bA 18 262143) (v := ?_) (a' := ?_) rfl rfl (by kernel_rfl) (fun _ _ _ h => h) (by rfl) ?_ ?_ ?_; rotate_left; intro w'; go_simp; with_reducible rfl; rotate_left; go_simp; rfl
 refine done_ (done_of HT_.out (by kernel_rfl)) ?_
 try go_wp2
 go_ret
 exact ⟨by first | rfl | (simp [errW_none, errW_some] <;> rfl) | (simp [*, errW_none, errW_some] <;> rfl), bw HB.out⟩


/-! ### slices_IndexFunc_byte_byte_233: function 233 -/

set_option maxHeartbeats 2000000 in
theorem slices_IndexFunc_byte_byte_233.calls (g : Nat) (lb : Array Value) (eg : ∀ args w, (callFunc g args).run Try.prog w = .ok (.enter g args) w) (p : List Int → Bool) (A0 : Option Addr) (c0 : Nat) (l0 : List (List Int)) (w : World) (hr0 : Kd.C (Kd.slice 5 (Kd.int .u8)) w A0 l0.length l0)
  (hp : ∀ (W : World) (A : Option Addr) (c : Nat) (x : List Int), Below w.heap.size w W → Kd.C (Kd.int .u8) W A x.length x → x.length ≤ c → Calls Try.prog g (#[.slice A x.length c] ++ lb) W fun e w' => e = .returned (.bool (p x)) ∧ Below w.heap.size w w') :
  Calls Try.prog 233 #[.slice A0 l0.length c0, .func (.func g) #[] lb] w fun e w' => (∃ r : Int, e = .returned (.int .i64 r) ∧ decide (0 ≤ r) = l0.any p) ∧ Below w.heap.size w w' := by
 have HR0 := ak hr0
 have hbig : l0.length ≤ 9223372036854775807 := hr0.2.1
 have HP := ak hp
 clear hr0 hp
 go_enter Try.func233, Try.ntmps233
 go_wp2
 go_loopg [5, 8] l0.length (fun gg _ s8 wr => ∃ kk : Nat, kk ≤ l0.length ∧ l0.length - kk ≤ gg ∧ s8 = .int .i64 kk ∧ Aside0 (Below w.heap.size w wr) ∧ Aside0 ((l0.take kk).any p = false))
 case atStart => exact ⟨0, Nat.zero_le _, by omega, rfl, ⟨Below.refl _ w⟩, ⟨by simp⟩⟩
 case round =>
  obtain ⟨kk, hkk, hg, rfl, BW, AF⟩ := hrel
  by_cases hlt : kk < l0.length
  ·obtain ⟨ad, A1, c1, rfl, hcell, hc1, hC1⟩ := at_L10 HR0.out (kk : Int) (by omega) (by omega)
   replace hcell := hc_ BW.out hcell
   have hcall := HP.out wr A1 c1 (rd_L10 l0 (kk : Int)) BW.out (Kd.C_below hC1 BW.out) hc1
   have hx : Aside0 (l0.take (kk + 1) = l0.take kk ++ [rd_L10 l0 (kk : Int)]) := ⟨by
    rw [List.take_succ_eq_append_getElem hlt]; simp [rd_L10, List.getD_eq_getElem?_getD, hlt]⟩
   clear hC1 hc1
   generalize rd_L10 l0 (kk : Int) = y at hcell hcall hx
   have hltz : (kk : Int) < (l0.length : Int) := by omega
   rw [show ((kk : Int)).toNat = kk from by omega] at hcell
   cases hq : p y with
   | true =>
    rw [hq] at hcall
    go_wp2_with (go_at_fn g; refine hcall.mono ?_; rintro e w' ⟨rfl, hb'⟩)
    go_ret
    refine ⟨⟨_, rfl, ?_⟩, hb'⟩
    have : l0.any p = true := by
     rw [← List.take_append_drop (kk + 1) l0, hx.out]; simp [hq]
    rw [this]; simp
   | false =>
    rw [hq] at hcall
    go_wp2_with (go_at_fn g; refine hcall.mono ?_; rintro e w' ⟨rfl, hb'⟩)
    go_roundg (l0.length - (kk + 1))
    case measure => omega
    case rel => exact ⟨kk + 1, by omega, by omega, by go_num, ⟨hb'⟩, ⟨by rw [hx.out, List.any_append, AF.out]; simp [hq]⟩⟩
  ·have hltz : ¬ (kk : Int) < (l0.length : Int) := by omega
   go_wp2
   go_ret
   refine ⟨⟨_, rfl, ?_⟩, BW.out⟩
   have := AF.out
   rw [List.take_of_length_le (by omega)] at this
   rw [this]; rfl


end Go.Proofs.Ytagedmajlppohaa.Q
