/- Printed by a program of this session (wip/myprint.py), which drives the kit's printer: functions and what their calls do. -/
import Derived.Test.YtagedmajlppohaaZFnExactSerial0
import Derived.Deep.RegionHeld3
import Derived.Deep.DrawnRows
namespace Go.Proofs.Ytagedmajlppohaa.Q
open Go.RowKit Go Go.Proofs.YtagedmajlppohaaW.PrintWords Go.Proofs.YtagedmajlppohaaW.PrintLast Go.Proofs.YtagedmajlppohaaW.PrintMore
attribute [local go_sem] max2_int min2_int max_two min_two max_three min_three max_four min_four
set_option linter.unusedVariables false
set_option linter.unusedSimpArgs false

/-! ### QB: function 38 -/
def QB.f (k : Nat) (qd : List (List Int)) (qb : List (S33)) (qn : List (List Int)) (qaj : List (S33)) : Option (Bool) := (jR.f k qd qn).bind fun qx => (if qx = true then ((jF.f k qb qaj).bind fun qK => (if qK = true then (some true) else (some false))) else (some false))
set_option maxHeartbeats 8000000 in
set_option maxRecDepth 100000 in
theorem QB.calls (k : Nat) (qq : Option Addr) (qp : Nat) (qd : List (List Int)) (jA : Option Addr) (je : Nat) (qb : List (S33)) (jn : Option Addr) (jm : Nat) (qn : List (List Int)) (qib : Option Addr) (qh8 : Nat) (qaj : List (S33)) (r : Bool) (w : World) (jd : Kd.C (Kd.slice 5 (Kd.int .u8)) w qq qd.length qd) (jg : qd.length ≤ qp) (QR : Kd.C k33 w jA qb.length qb) (Jn : qb.length ≤ je) (yA : Kd.C (Kd.slice 5 (Kd.int .u8)) w jn qn.length qn) (yS : qn.length ≤ jm) (qpJ : Kd.C k33 w qib qaj.length qaj) (qpR : qaj.length ≤ qh8) (h : QB.f k qd qb qn qaj = some r) :
  Calls Try.prog 38 #[.agg #[.slice qq qd.length qp, .slice jA qb.length je], .agg #[.slice jn qn.length jm, .slice qib qaj.length qh8]] w fun e w' => e = .returned (.bool r) ∧ Below w.heap.size w w' := by
 have qez := Try.underlying59
 have Ys := Try.underlying31
 have qW := ak jd
 have jb := ak jg
 clear jd jg
 have yB := ak QR
 have QJ := ak Jn
 clear QR Jn
 have yo := ak yA
 have yE := ak yS
 clear yA yS
 have qpV := ak qpJ
 have qpY := ak qpR
 clear qpJ qpR
 have HB := ak (Below.refl w.heap.size w)
 have H : ((jR.f k qd qn).bind fun qx => (if qx = true then ((jF.f k qb qaj).bind fun qK => (if qK = true then (some true) else (some false))) else (some false))) = some r := h
 clear h
 replace H := Option.bind_eq_some_iff.mp H
 obtain ⟨qx, A30, H⟩ := H
 replace H : (if qx = true then ((jF.f k qb qaj).bind fun qK => (if qK = true then (some true) else (some false))) else (some false)) = some r := H
 have A3 := ak A30
 clear A30
 by_cases c4 : qx = true
 ·subst c4
  have H1 : ((jF.f k qb qaj).bind fun qK => (if qK = true then (some true) else (some false))) = some r := by rw [if_pos rfl] at H; exact H
  clear H
  have H := H1
  clear H1
  replace H := Option.bind_eq_some_iff.mp H
  obtain ⟨qK, A50, H⟩ := H
  replace H : (if qK = true then (some true) else (some false)) = some r := H
  have A5 := ak A50
  clear A50
  by_cases c6 : qK = true
  ·subst c6
   have H1 : (some true) = some r := by rw [if_pos rfl] at H; exact H
   clear H
   have H := H1
   clear H1
   obtain rfl := Option.some.inj H
   go_enter Try.func38, Try.ntmps38
   go_wp2_with (first | ((with_reducible refine gate_dst (N := 2) rfl ?_); refine boxed (N := 2) rfl rfl (cs := #[.slice qq qd.length qp, .slice jA qb.length je]) (t := 59) HB.out (by first | (go_simp; done) | (go_simp; rfl)) ?_; clear HB; intro qi w7 hg HB qc qm hb; have jD := qm; clear hb hg) | ((with_reducible refine gate_dst (N := 3) rfl ?_); refine box_event ?hg (N := 3) ?hd (cs := #[.slice jn qn.length jm, .slice qib qaj.length qh8]) (t := 59) ?hr ?_; (case hd => rfl); (case hg => rfl); (case hr => first | (go_simp; done) | (go_simp; rfl)); intro qg hg w8 hbox hb; have qf := ak (hbox); have QS := ak ((by rw [hg]; exact (below_size (bw HB.out)) : w.heap.size ≤ qg)); have ji := ak ((by rw [hg]; exact (below_size (bw HB.out)) : w.heap.size ≤ qg)); replace HB := ak (below_step (bw HB.out) hb); have qO := ak ((by rw [hg]; exact Nat.ne_of_lt (blk_lt (bk qc.out)) : qi ≠ qg)); have qN := ak ((by rw [hg]; exact Nat.ne_of_gt (blk_lt (bk qc.out)) : qg ≠ qi)); replace qc := ak (blk_below (bk qc.out) hb); clear hb hbox hg; have qvM := qO.out; have qvK := qN.out; obtain ⟨qd2, qd1, qdM, qdL⟩ := cells2 qc.out; obtain ⟨JZ, Yl, JY, Yk⟩ := cells2 qf.out) | ((with_reducible refine gate_callee (f := 43) rfl ?_); refine goesL_ (some 9) rfl rfl Try.func43 (by kernel_rfl) rfl #[.agg #[.slice qq qd.length qp], .agg #[.slice jn qn.length jm]] rfl (by first | rfl | (simp only [List.map_toArray, List.map_cons, List.map_nil]; first | done | rfl)) ?_; (with_reducible refine (jR.calls k _ _ qd _ _ qn true _ ?qk ?qj ?qw ?qy A3.out).mono ?_); (case qk => exact cw qW.out HB.out); (case qj => exact jb.out); (case qw => exact cw yo.out HB.out); (case qy => exact yE.out); rintro e w12 ⟨rfl, hb⟩; refine ⟨_, rfl, ?_⟩; replace qc := ak (blk_below (bk qc.out) hb); replace qf := ak (blk_below (bk qf.out) hb); replace HB := ak (below_step (bw HB.out) hb); (try clear hb); obtain ⟨QN, JO, QM, JN⟩ := cells2 qc.out; obtain ⟨XW, qaJ, XU, qaH⟩ := cells2 qf.out) | ((with_reducible refine gate_callee (f := 104) rfl ?_); refine goesL_ (some 15) rfl rfl Try.func104 (by kernel_rfl) rfl #[.slice jA qb.length je, .slice qib qaj.length qh8] rfl (by first | rfl | (simp only [List.map_toArray, List.map_cons, List.map_nil]; first | done | rfl)) ?_; (with_reducible refine (jF.calls k _ _ qb _ _ qaj true _ ?qk ?qj ?qw ?qy A5.out).mono ?_); (case qk => exact cw yB.out HB.out); (case qj => exact QJ.out); (case qw => exact cw qpV.out HB.out); (case qy => exact qpY.out); rintro e w15 ⟨rfl, hb⟩; refine ⟨_, rfl, ?_⟩; replace qc := ak (blk_below (bk qc.out) hb); replace qf := ak (blk_below (bk qf.out) hb); replace HB := ak (below_step (bw HB.out) hb); (try clear hb)))
   go_ret
   exact ⟨by first | rfl | (simp [errW_none, errW_some] <;> rfl) | (simp [*, errW_none, errW_some] <;> rfl), bw HB.out⟩
  ·replace c6 := Bool.eq_false_iff.mpr c6
   subst c6
   have H1 : (some false) = some r := by rw [if_neg (show ¬ (false = true) by decide)] at H; exact H
   clear H
   have H := H1
   clear H1
   obtain rfl := Option.some.inj H
   go_enter Try.func38, Try.ntmps38
   go_wp2_with (first | ((with_reducible refine gate_dst (N := 2) rfl ?_); refine boxed (N := 2) rfl rfl (cs := #[.slice qq qd.length qp, .slice jA qb.length je]) (t := 59) HB.out (by first | (go_simp; done) | (go_simp; rfl)) ?_; clear HB; intro qi w16 hg HB qc qm hb; have jD := qm; clear hb hg) | ((with_reducible refine gate_dst (N := 3) rfl ?_); refine box_event ?hg (N := 3) ?hd (cs := #[.slice jn qn.length jm, .slice qib qaj.length qh8]) (t := 59) ?hr ?_; (case hd => rfl); (case hg => rfl); (case hr => first | (go_simp; done) | (go_simp; rfl)); intro qg hg w17 hbox hb; have qf := ak (hbox); have QS := ak ((by rw [hg]; exact (below_size (bw HB.out)) : w.heap.size ≤ qg)); have ji := ak ((by rw [hg]; exact (below_size (bw HB.out)) : w.heap.size ≤ qg)); replace HB := ak (below_step (bw HB.out) hb); have qO := ak ((by rw [hg]; exact Nat.ne_of_lt (blk_lt (bk qc.out)) : qi ≠ qg)); have qN := ak ((by rw [hg]; exact Nat.ne_of_gt (blk_lt (bk qc.out)) : qg ≠ qi)); replace qc := ak (blk_below (bk qc.out) hb); clear hb hbox hg; have qov := qO.out; have qot := qN.out; obtain ⟨qht, qoh, qha, qnp⟩ := cells2 qc.out; obtain ⟨qaI, qcK, qaG, qcp⟩ := cells2 qf.out) | ((with_reducible refine gate_callee (f := 43) rfl ?_); refine goesL_ (some 9) rfl rfl Try.func43 (by kernel_rfl) rfl #[.agg #[.slice qq qd.length qp], .agg #[.slice jn qn.length jm]] rfl (by first | rfl | (simp only [List.map_toArray, List.map_cons, List.map_nil]; first | done | rfl)) ?_; (with_reducible refine (jR.calls k _ _ qd _ _ qn true _ ?qk ?qj ?qw ?qy A3.out).mono ?_); (case qk => exact cw qW.out HB.out); (case qj => exact jb.out); (case qw => exact cw yo.out HB.out); (case qy => exact yE.out); rintro e w21 ⟨rfl, hb⟩; refine ⟨_, rfl, ?_⟩; replace qc := ak (blk_below (bk qc.out) hb); replace qf := ak (blk_below (bk qf.out) hb); replace HB := ak (below_step (bw HB.out) hb); (try clear hb); obtain ⟨XV, qbI, XT, qbq⟩ := cells2 qc.out; obtain ⟨qdV, qhs, qdF, qg9⟩ := cells2 qf.out) | ((with_reducible refine gate_callee (f := 104) rfl ?_); refine goesL_ (some 15) rfl rfl Try.func104 (by kernel_rfl) rfl #[.slice jA qb.length je, .slice qib qaj.length qh8] rfl (by first | rfl | (simp only [List.map_toArray, List.map_cons, List.map_nil]; first | done | rfl)) ?_; (with_reducible refine (jF.calls k _ _ qb _ _ qaj false _ ?qk ?qj ?qw ?qy A5.out).mono ?_); (case qk => exact cw yB.out HB.out); (case qj => exact QJ.out); (case qw => exact cw qpV.out HB.out); (case qy => exact qpY.out); rintro e w24 ⟨rfl, hb⟩; refine ⟨_, rfl, ?_⟩; replace qc := ak (blk_below (bk qc.out) hb); replace qf := ak (blk_below (bk qf.out) hb); replace HB := ak (below_step (bw HB.out) hb); (try clear hb)))
   go_ret
   exact ⟨by first | rfl | (simp [errW_none, errW_some] <;> rfl) | (simp [*, errW_none, errW_some] <;> rfl), bw HB.out⟩
 ·replace c4 := Bool.eq_false_iff.mpr c4
  subst c4
  have H1 : (some false) = some r := by rw [if_neg (show ¬ (false = true) by decide)] at H; exact H
  clear H
  have H := H1
  clear H1
  obtain rfl := Option.some.inj H
  go_enter Try.func38, Try.ntmps38
  go_wp2_with (first | ((with_reducible refine gate_dst (N := 2) rfl ?_); refine boxed (N := 2) rfl rfl (cs := #[.slice qq qd.length qp, .slice jA qb.length je]) (t := 59) HB.out (by first | (go_simp; done) | (go_simp; rfl)) ?_; clear HB; intro qi w25 hg HB qc qm hb; have jD := qm; clear hb hg) | ((with_reducible refine gate_dst (N := 3) rfl ?_); refine box_event ?hg (N := 3) ?hd (cs := #[.slice jn qn.length jm, .slice qib qaj.length qh8]) (t := 59) ?hr ?_; (case hd => rfl); (case hg => rfl); (case hr => first | (go_simp; done) | (go_simp; rfl)); intro qg hg w26 hbox hb; have qf := ak (hbox); have QS := ak ((by rw [hg]; exact (below_size (bw HB.out)) : w.heap.size ≤ qg)); have ji := ak ((by rw [hg]; exact (below_size (bw HB.out)) : w.heap.size ≤ qg)); replace HB := ak (below_step (bw HB.out) hb); have qO := ak ((by rw [hg]; exact Nat.ne_of_lt (blk_lt (bk qc.out)) : qi ≠ qg)); have qN := ak ((by rw [hg]; exact Nat.ne_of_gt (blk_lt (bk qc.out)) : qg ≠ qi)); replace qc := ak (blk_below (bk qc.out) hb); clear hb hbox hg; have qpN := qO.out; have qpK := qN.out; obtain ⟨qhp, qho, qg6, qg5⟩ := cells2 qc.out; obtain ⟨qfR, qhn, qfy, qg4⟩ := cells2 qf.out) | ((with_reducible refine gate_callee (f := 43) rfl ?_); refine goesL_ (some 9) rfl rfl Try.func43 (by kernel_rfl) rfl #[.agg #[.slice qq qd.length qp], .agg #[.slice jn qn.length jm]] rfl (by first | rfl | (simp only [List.map_toArray, List.map_cons, List.map_nil]; first | done | rfl)) ?_; (with_reducible refine (jR.calls k _ _ qd _ _ qn false _ ?qk ?qj ?qw ?qy A3.out).mono ?_); (case qk => exact cw qW.out HB.out); (case qj => exact jb.out); (case qw => exact cw yo.out HB.out); (case qy => exact yE.out); rintro e w30 ⟨rfl, hb⟩; refine ⟨_, rfl, ?_⟩; replace qc := ak (blk_below (bk qc.out) hb); replace qf := ak (blk_below (bk qf.out) hb); replace HB := ak (below_step (bw HB.out) hb); (try clear hb)))
  go_ret
  exact ⟨by first | rfl | (simp [errW_none, errW_some] <;> rfl) | (simp [*, errW_none, errW_some] <;> rfl), bw HB.out⟩


/-! ### jp: function 157 -/
mutual
def jp.j0 : Nat → List Int → Bool → Option (Bool)
 | 0, _, _ => none
 | k + 1, x0, x11 => if x11 = true then (some false) else (jp.l0 k x0 0)
def jp.l0 : Nat → List Int → Int → Option (Bool)
 | 0, _, _ => none
 | k + 1, x0, x3 => if x3 < (x0.length : Int) then (if 0 ≤ x3 then (if (rd x0 x3) ≥ 97 then (if ((rd x0 x3) ≤ 122) then (jp.l0 k x0 (wrap64 (x3 + 1))) else (if (rd x0 x3) ≥ 48 then (if ((rd x0 x3) ≤ 57) then (jp.l0 k x0 (wrap64 (x3 + 1))) else (if (rd x0 x3) = 45 then (jp.l0 k x0 (wrap64 (x3 + 1))) else (some false))) else (if (rd x0 x3) = 45 then (jp.l0 k x0 (wrap64 (x3 + 1))) else (some false)))) else (if (rd x0 x3) ≥ 48 then (if ((rd x0 x3) ≤ 57) then (jp.l0 k x0 (wrap64 (x3 + 1))) else (if (rd x0 x3) = 45 then (jp.l0 k x0 (wrap64 (x3 + 1))) else (some false))) else (if (rd x0 x3) = 45 then (jp.l0 k x0 (wrap64 (x3 + 1))) else (some false)))) else (none)) else (some true)
end
def jp.f (k : Nat) (l0 : List Int) : Option (Bool) := if (l0.length : Int) < 1 then (jp.j0 k l0 true) else (jp.j0 k l0 (decide ((l0.length : Int) > 15)))
set_option maxHeartbeats 8000000 in
set_option maxRecDepth 100000 in
theorem jp.calls (k : Nat) (A0 : Option Addr) (c0 : Nat) (l0 : List Int) (r : Bool) (w : World) (hr0 : Kd.C (Kd.int .u8) w A0 l0.length l0) (hc0 : l0.length ≤ c0) (h : jp.f k l0 = some r) :
  Calls Try.prog 157 #[.slice A0 l0.length c0] w fun e w' => e = .returned (.bool r) ∧ Drawn0 w w' := by
 have HR0 := ak hr0
 have HC0 := ak hc0
 clear hr0 hc0
 have H : (if (l0.length : Int) < 1 then (jp.j0 k l0 true) else (jp.j0 k l0 (decide ((l0.length : Int) > 15)))) = some r := h
 clear h
 have HC2 := ak H
 clear H
 go_enter Try.func157, Try.ntmps157
 go_upto_region 1 with (fail)
 go_cut [11] (fun v11 wc => ∃ (kq : Nat) (qle : Bool), v11 = .bool qle ∧ Aside0 (jp.j0 kq l0 qle = some r) ∧ Aside0 (kq ≤ k) ∧ Drawn0 w wc)
 case first =>
  have H := HC2.out
  clear HC2
  by_cases c3 : (l0.length : Int) < 1
  ·rw [if_pos c3] at H
   have c3b0 : decide ((l0.length : Int) < 1) = true := decide_eq_true c3
   have c3b1 : decide (l0.length < 1) = true := decide_eq_true (by omega)
   clear c3
   (first | rw [c3b0] | (simp only [i64_w, i32_w]; rw [c3b0]) | skip)
   have H' := ak H
   clear H
   go_wp2
   go_meet
   case rel => exact ⟨_, (true), (by first | rfl | (simp; done) | (simp [*]; done)), H', ⟨by first | omega | exact Nat.le_refl _⟩, by repeat (first | exact Drawn0.refl _ | apply Drawn0.step)⟩
  ·rw [if_neg c3] at H
   have c3b0 : decide ((l0.length : Int) < 1) = false := decide_eq_false c3
   have c3b1 : decide (l0.length < 1) = false := decide_eq_false (by omega)
   clear c3
   (first | rw [c3b0] | (simp only [i64_w, i32_w]; rw [c3b0]) | skip)
   have H' := ak H
   clear H
   go_wp2
   go_meet
   case rel => exact ⟨_, (decide ((l0.length : Int) > 15)), (by first | rfl | (simp; done) | (simp [*]; done)), H', ⟨by first | omega | exact Nat.le_refl _⟩, by repeat (first | exact Drawn0.refl _ | apply Drawn0.step)⟩
 case rest =>
  clear HC2
  try clear c1
  try clear p2
  try clear c3
  try clear c3b0
  try clear c3b1
  obtain ⟨kq, qle, rfl, HA, HJ1, ⟨mc1, rfl⟩⟩ := hcut
  cases kq with
  | zero => exact absurd HA.out (by simp [jp.j0])
  | succ kj1 =>
   have H := HA.out
   clear HA
   simp only [jp.j0] at H
   by_cases c4 : qle = true
   ·subst c4
    have H1 : (some false) = some r := by rw [if_pos rfl] at H; exact H
    clear H
    have H := H1
    clear H1
    obtain rfl := Option.some.inj H
    go_wp2
    go_ret
    exact ⟨by first | rfl | (simp; done) | (simp [*]; done), by repeat (first | exact Drawn0.refl _ | apply Drawn0.step)⟩
   ·replace c4 := Bool.eq_false_iff.mpr c4
    subst c4
    have H1 : (jp.l0 kj1 l0 0) = some r := by rw [if_neg (show ¬ (false = true) by decide)] at H; exact H
    clear H
    have H := H1
    clear H1
    have H' := ak H
    clear H
    go_wp2
    go_loopg [3] kj1 (fun kq v3 w' => ∃ (qD : Int), v3 = .int .i64 qD ∧ Aside0 (jp.l0 kq l0 qD = some r) ∧ Aside0 (kq ≤ kj1) ∧ Drawn0 w w')
    case atStart => exact ⟨(0), (by first | rfl | (simp; done) | (simp [*]; done)), H', ⟨Nat.le_refl _⟩, by repeat (first | exact Drawn0.refl _ | apply Drawn0.step)⟩
    case round =>
     clear H'
     try clear c1
     try clear p2
     try clear c3
     try clear c3b0
     try clear c3b1
     try clear c4
     try clear p2
     obtain ⟨qD, rfl, HA, HK2, ⟨m2, rfl⟩⟩ := hrel
     cases gk with
     | zero => exact absurd HA.out (by simp [jp.l0])
     | succ k2 =>
      have H := HA.out
      clear HA
      simp only [jp.l0] at H
      by_cases c5 : qD < (l0.length : Int)
      ·rw [if_pos c5] at H
       have c5b0 : decide (qD < (l0.length : Int)) = true := decide_eq_true c5
       clear c5
       by_cases c6 : 0 ≤ qD
       ·rw [if_pos c6] at H
        have c6b0 : decide (0 ≤ qD) = true := decide_eq_true c6
        clear c6
        by_cases c7 : (rd l0 qD) ≥ 97
        ·rw [if_pos c7] at H
         have c7b0 : decide (97 ≤ (rd l0 qD)) = true := decide_eq_true c7
         clear c7
         by_cases c8 : ((rd l0 qD) ≤ 122)
         ·rw [if_pos c8] at H
          have c8b0 : decide ((rd l0 qD) ≤ 122) = true := decide_eq_true c8
          clear c8
          have H' := ak H
          clear H
          have ju : 0 ≤ (qD : Int) := of_decide_eq_true (by first | (with_reducible assumption) | assumption)
          have jt : qD < (l0.length : Int) := of_decide_eq_true (by first | (with_reducible assumption) | assumption)
          obtain ⟨ja, yl, zj⟩ := Kd.at_int HR0.out qD ju jt
          cases yl
          replace ju := eq_true ju
          replace jt := eq_true jt
          have zw : 0 ≤ (qD : Int) := of_decide_eq_true (by first | (with_reducible assumption) | assumption)
          have zu : qD < (l0.length : Int) := of_decide_eq_true (by first | (with_reducible assumption) | assumption)
          obtain ⟨zM, JU, zS⟩ := Kd.at_int HR0.out qD zw zu
          obtain rfl : ja = zM := (by injection JU)
          replace zw := eq_true zw
          replace zu := eq_true zu
          go_wp2
          go_roundg k2
          case measure => have := HJ1.out; have := HK2.out; omega
          case rel => exact ⟨(wrap64 (qD + 1)), (by first | rfl | (simp; done) | (simp [*]; done)), H', ⟨by have := HJ1.out; have := HK2.out; omega⟩, by repeat (first | exact Drawn0.refl _ | apply Drawn0.step)⟩
         ·rw [if_neg c8] at H
          have c8b0 : decide ((rd l0 qD) ≤ 122) = false := decide_eq_false c8
          clear c8
          by_cases c9 : (rd l0 qD) ≥ 48
          ·rw [if_pos c9] at H
           have c9b0 : decide (48 ≤ (rd l0 qD)) = true := decide_eq_true c9
           clear c9
           by_cases c10 : ((rd l0 qD) ≤ 57)
           ·rw [if_pos c10] at H
            have c10b0 : decide ((rd l0 qD) ≤ 57) = true := decide_eq_true c10
            clear c10
            have H' := ak H
            clear H
            have ju : 0 ≤ (qD : Int) := of_decide_eq_true (by first | (with_reducible assumption) | assumption)
            have jt : qD < (l0.length : Int) := of_decide_eq_true (by first | (with_reducible assumption) | assumption)
            obtain ⟨ja, yl, zj⟩ := Kd.at_int HR0.out qD ju jt
            cases yl
            replace ju := eq_true ju
            replace jt := eq_true jt
            have zw : 0 ≤ (qD : Int) := of_decide_eq_true (by first | (with_reducible assumption) | assumption)
            have zu : qD < (l0.length : Int) := of_decide_eq_true (by first | (with_reducible assumption) | assumption)
            obtain ⟨zM, JU, zS⟩ := Kd.at_int HR0.out qD zw zu
            obtain rfl : ja = zM := (by injection JU)
            replace zw := eq_true zw
            replace zu := eq_true zu
            have zv : 0 ≤ (qD : Int) := of_decide_eq_true (by first | (with_reducible assumption) | assumption)
            have zt : qD < (l0.length : Int) := of_decide_eq_true (by first | (with_reducible assumption) | assumption)
            obtain ⟨qJ, Zg, jP⟩ := Kd.at_int HR0.out qD zv zt
            obtain rfl : ja = qJ := (by injection Zg)
            replace zv := eq_true zv
            replace zt := eq_true zt
            have yt : 0 ≤ (qD : Int) := of_decide_eq_true (by first | (with_reducible assumption) | assumption)
            have yr : qD < (l0.length : Int) := of_decide_eq_true (by first | (with_reducible assumption) | assumption)
            obtain ⟨zp, Yt, zC⟩ := Kd.at_int HR0.out qD yt yr
            obtain rfl : ja = zp := (by injection Yt)
            replace yt := eq_true yt
            replace yr := eq_true yr
            go_wp2
            go_roundg k2
            case measure => have := HJ1.out; have := HK2.out; omega
            case rel => exact ⟨(wrap64 (qD + 1)), (by first | rfl | (simp; done) | (simp [*]; done)), H', ⟨by have := HJ1.out; have := HK2.out; omega⟩, by repeat (first | exact Drawn0.refl _ | apply Drawn0.step)⟩
           ·rw [if_neg c10] at H
            have c10b0 : decide ((rd l0 qD) ≤ 57) = false := decide_eq_false c10
            clear c10
            by_cases c11 : (rd l0 qD) = 45
            ·rw [if_pos c11] at H
             have c11b0 : ((rd l0 qD) == 45) = true := beq_iff_eq.mpr c11
             have c11b1 : ((rd l0 qD) != 45) = false := bne_eq_false_iff_eq.mpr c11
             clear c11
             have H' := ak H
             clear H
             have ju : 0 ≤ (qD : Int) := of_decide_eq_true (by first | (with_reducible assumption) | assumption)
             have jt : qD < (l0.length : Int) := of_decide_eq_true (by first | (with_reducible assumption) | assumption)
             obtain ⟨ja, yl, zj⟩ := Kd.at_int HR0.out qD ju jt
             cases yl
             replace ju := eq_true ju
             replace jt := eq_true jt
             have zw : 0 ≤ (qD : Int) := of_decide_eq_true (by first | (with_reducible assumption) | assumption)
             have zu : qD < (l0.length : Int) := of_decide_eq_true (by first | (with_reducible assumption) | assumption)
             obtain ⟨zM, JU, zS⟩ := Kd.at_int HR0.out qD zw zu
             obtain rfl : ja = zM := (by injection JU)
             replace zw := eq_true zw
             replace zu := eq_true zu
             have zv : 0 ≤ (qD : Int) := of_decide_eq_true (by first | (with_reducible assumption) | assumption)
             have zt : qD < (l0.length : Int) := of_decide_eq_true (by first | (with_reducible assumption) | assumption)
             obtain ⟨qJ, Zg, jP⟩ := Kd.at_int HR0.out qD zv zt
             obtain rfl : ja = qJ := (by injection Zg)
             replace zv := eq_true zv
             replace zt := eq_true zt
             have yt : 0 ≤ (qD : Int) := of_decide_eq_true (by first | (with_reducible assumption) | assumption)
             have yr : qD < (l0.length : Int) := of_decide_eq_true (by first | (with_reducible assumption) | assumption)
             obtain ⟨zp, Yt, zC⟩ := Kd.at_int HR0.out qD yt yr
             obtain rfl : ja = zp := (by injection Yt)
             replace yt := eq_true yt
             replace yr := eq_true yr
             have yX : 0 ≤ (qD : Int) := of_decide_eq_true (by first | (with_reducible assumption) | assumption)
             have yW : qD < (l0.length : Int) := of_decide_eq_true (by first | (with_reducible assumption) | assumption)
             obtain ⟨YB, XL, zs⟩ := Kd.at_int HR0.out qD yX yW
             obtain rfl : ja = YB := (by injection XL)
             replace yX := eq_true yX
             replace yW := eq_true yW
             go_wp2
             go_roundg k2
             case measure => have := HJ1.out; have := HK2.out; omega
             case rel => exact ⟨(wrap64 (qD + 1)), (by first | rfl | (simp; done) | (simp [*]; done)), H', ⟨by have := HJ1.out; have := HK2.out; omega⟩, by repeat (first | exact Drawn0.refl _ | apply Drawn0.step)⟩
            ·rw [if_neg c11] at H
             have c11b0 : ((rd l0 qD) == 45) = false := beq_eq_false_iff_ne.mpr c11
             have c11b1 : ((rd l0 qD) != 45) = true := bne_iff_ne.mpr c11
             obtain rfl := Option.some.inj H
             have ju : 0 ≤ (qD : Int) := of_decide_eq_true (by first | (with_reducible assumption) | assumption)
             have jt : qD < (l0.length : Int) := of_decide_eq_true (by first | (with_reducible assumption) | assumption)
             obtain ⟨ja, yl, zj⟩ := Kd.at_int HR0.out qD ju jt
             cases yl
             replace ju := eq_true ju
             replace jt := eq_true jt
             have zw : 0 ≤ (qD : Int) := of_decide_eq_true (by first | (with_reducible assumption) | assumption)
             have zu : qD < (l0.length : Int) := of_decide_eq_true (by first | (with_reducible assumption) | assumption)
             obtain ⟨zM, JU, zS⟩ := Kd.at_int HR0.out qD zw zu
             obtain rfl : ja = zM := (by injection JU)
             replace zw := eq_true zw
             replace zu := eq_true zu
             have zv : 0 ≤ (qD : Int) := of_decide_eq_true (by first | (with_reducible assumption) | assumption)
             have zt : qD < (l0.length : Int) := of_decide_eq_true (by first | (with_reducible assumption) | assumption)
             obtain ⟨qJ, Zg, jP⟩ := Kd.at_int HR0.out qD zv zt
             obtain rfl : ja = qJ := (by injection Zg)
             replace zv := eq_true zv
             replace zt := eq_true zt
             have yt : 0 ≤ (qD : Int) := of_decide_eq_true (by first | (with_reducible assumption) | assumption)
             have yr : qD < (l0.length : Int) := of_decide_eq_true (by first | (with_reducible assumption) | assumption)
             obtain ⟨zp, Yt, zC⟩ := Kd.at_int HR0.out qD yt yr
             obtain rfl : ja = zp := (by injection Yt)
             replace yt := eq_true yt
             replace yr := eq_true yr
             have yX : 0 ≤ (qD : Int) := of_decide_eq_true (by first | (with_reducible assumption) | assumption)
             have yW : qD < (l0.length : Int) := of_decide_eq_true (by first | (with_reducible assumption) | assumption)
             obtain ⟨YB, XL, zs⟩ := Kd.at_int HR0.out qD yX yW
             obtain rfl : ja = YB := (by injection XL)
             replace yX := eq_true yX
             replace yW := eq_true yW
             go_wp2
             go_ret
             exact ⟨by first | rfl | (simp; done) | (simp [*]; done), by repeat (first | exact Drawn0.refl _ | apply Drawn0.step)⟩
          ·rw [if_neg c9] at H
           have c9b0 : decide (48 ≤ (rd l0 qD)) = false := decide_eq_false c9
           clear c9
           by_cases c12 : (rd l0 qD) = 45
           ·rw [if_pos c12] at H
            have c12b0 : ((rd l0 qD) == 45) = true := beq_iff_eq.mpr c12
            have c12b1 : ((rd l0 qD) != 45) = false := bne_eq_false_iff_eq.mpr c12
            clear c12
            have H' := ak H
            clear H
            have ju : 0 ≤ (qD : Int) := of_decide_eq_true (by first | (with_reducible assumption) | assumption)
            have jt : qD < (l0.length : Int) := of_decide_eq_true (by first | (with_reducible assumption) | assumption)
            obtain ⟨ja, yl, zj⟩ := Kd.at_int HR0.out qD ju jt
            cases yl
            replace ju := eq_true ju
            replace jt := eq_true jt
            have zw : 0 ≤ (qD : Int) := of_decide_eq_true (by first | (with_reducible assumption) | assumption)
            have zu : qD < (l0.length : Int) := of_decide_eq_true (by first | (with_reducible assumption) | assumption)
            obtain ⟨zM, JU, zS⟩ := Kd.at_int HR0.out qD zw zu
            obtain rfl : ja = zM := (by injection JU)
            replace zw := eq_true zw
            replace zu := eq_true zu
            have zv : 0 ≤ (qD : Int) := of_decide_eq_true (by first | (with_reducible assumption) | assumption)
            have zt : qD < (l0.length : Int) := of_decide_eq_true (by first | (with_reducible assumption) | assumption)
            obtain ⟨qJ, Zg, jP⟩ := Kd.at_int HR0.out qD zv zt
            obtain rfl : ja = qJ := (by injection Zg)
            replace zv := eq_true zv
            replace zt := eq_true zt
            have yk : 0 ≤ (qD : Int) := of_decide_eq_true (by first | (with_reducible assumption) | assumption)
            have yj : qD < (l0.length : Int) := of_decide_eq_true (by first | (with_reducible assumption) | assumption)
            obtain ⟨Yo, YM, zi⟩ := Kd.at_int HR0.out qD yk yj
            obtain rfl : ja = Yo := (by injection YM)
            replace yk := eq_true yk
            replace yj := eq_true yj
            go_wp2
            go_roundg k2
            case measure => have := HJ1.out; have := HK2.out; omega
            case rel => exact ⟨(wrap64 (qD + 1)), (by first | rfl | (simp; done) | (simp [*]; done)), H', ⟨by have := HJ1.out; have := HK2.out; omega⟩, by repeat (first | exact Drawn0.refl _ | apply Drawn0.step)⟩
           ·rw [if_neg c12] at H
            have c12b0 : ((rd l0 qD) == 45) = false := beq_eq_false_iff_ne.mpr c12
            have c12b1 : ((rd l0 qD) != 45) = true := bne_iff_ne.mpr c12
            obtain rfl := Option.some.inj H
            have ju : 0 ≤ (qD : Int) := of_decide_eq_true (by first | (with_reducible assumption) | assumption)
            have jt : qD < (l0.length : Int) := of_decide_eq_true (by first | (with_reducible assumption) | assumption)
            obtain ⟨ja, yl, zj⟩ := Kd.at_int HR0.out qD ju jt
            cases yl
            replace ju := eq_true ju
            replace jt := eq_true jt
            have zw : 0 ≤ (qD : Int) := of_decide_eq_true (by first | (with_reducible assumption) | assumption)
            have zu : qD < (l0.length : Int) := of_decide_eq_true (by first | (with_reducible assumption) | assumption)
            obtain ⟨zM, JU, zS⟩ := Kd.at_int HR0.out qD zw zu
            obtain rfl : ja = zM := (by injection JU)
            replace zw := eq_true zw
            replace zu := eq_true zu
            have zv : 0 ≤ (qD : Int) := of_decide_eq_true (by first | (with_reducible assumption) | assumption)
            have zt : qD < (l0.length : Int) := of_decide_eq_true (by first | (with_reducible assumption) | assumption)
            obtain ⟨qJ, Zg, jP⟩ := Kd.at_int HR0.out qD zv zt
            obtain rfl : ja = qJ := (by injection Zg)
            replace zv := eq_true zv
            replace zt := eq_true zt
            have yk : 0 ≤ (qD : Int) := of_decide_eq_true (by first | (with_reducible assumption) | assumption)
            have yj : qD < (l0.length : Int) := of_decide_eq_true (by first | (with_reducible assumption) | assumption)
            obtain ⟨Yo, YM, zi⟩ := Kd.at_int HR0.out qD yk yj
            obtain rfl : ja = Yo := (by injection YM)
            replace yk := eq_true yk
            replace yj := eq_true yj
            go_wp2
            go_ret
            exact ⟨by first | rfl | (simp; done) | (simp [*]; done), by repeat (first | exact Drawn0.refl _ | apply Drawn0.step)⟩
        ·rw [if_neg c7] at H
         have c7b0 : decide (97 ≤ (rd l0 qD)) = false := decide_eq_false c7
         clear c7
         by_cases c13 : (rd l0 qD) ≥ 48
         ·rw [if_pos c13] at H
          have c13b0 : decide (48 ≤ (rd l0 qD)) = true := decide_eq_true c13
          clear c13
          by_cases c14 : ((rd l0 qD) ≤ 57)
          ·rw [if_pos c14] at H
           have c14b0 : decide ((rd l0 qD) ≤ 57) = true := decide_eq_true c14
           clear c14
           have H' := ak H
           clear H
           have ju : 0 ≤ (qD : Int) := of_decide_eq_true (by first | (with_reducible assumption) | assumption)
           have jt : qD < (l0.length : Int) := of_decide_eq_true (by first | (with_reducible assumption) | assumption)
           obtain ⟨ja, yl, zj⟩ := Kd.at_int HR0.out qD ju jt
           cases yl
           replace ju := eq_true ju
           replace jt := eq_true jt
           have Qk : 0 ≤ (qD : Int) := of_decide_eq_true (by first | (with_reducible assumption) | assumption)
           have Qj : qD < (l0.length : Int) := of_decide_eq_true (by first | (with_reducible assumption) | assumption)
           obtain ⟨YA, XK, zZ⟩ := Kd.at_int HR0.out qD Qk Qj
           obtain rfl : ja = YA := (by injection XK)
           replace Qk := eq_true Qk
           replace Qj := eq_true Qj
           have XI : 0 ≤ (qD : Int) := of_decide_eq_true (by first | (with_reducible assumption) | assumption)
           have XH : qD < (l0.length : Int) := of_decide_eq_true (by first | (with_reducible assumption) | assumption)
           obtain ⟨qaK, qga, Yj⟩ := Kd.at_int HR0.out qD XI XH
           obtain rfl : ja = qaK := (by injection qga)
           replace XI := eq_true XI
           replace XH := eq_true XH
           go_wp2
           go_roundg k2
           case measure => have := HJ1.out; have := HK2.out; omega
           case rel => exact ⟨(wrap64 (qD + 1)), (by first | rfl | (simp; done) | (simp [*]; done)), H', ⟨by have := HJ1.out; have := HK2.out; omega⟩, by repeat (first | exact Drawn0.refl _ | apply Drawn0.step)⟩
          ·rw [if_neg c14] at H
           have c14b0 : decide ((rd l0 qD) ≤ 57) = false := decide_eq_false c14
           clear c14
           by_cases c15 : (rd l0 qD) = 45
           ·rw [if_pos c15] at H
            have c15b0 : ((rd l0 qD) == 45) = true := beq_iff_eq.mpr c15
            have c15b1 : ((rd l0 qD) != 45) = false := bne_eq_false_iff_eq.mpr c15
            clear c15
            have H' := ak H
            clear H
            have ju : 0 ≤ (qD : Int) := of_decide_eq_true (by first | (with_reducible assumption) | assumption)
            have jt : qD < (l0.length : Int) := of_decide_eq_true (by first | (with_reducible assumption) | assumption)
            obtain ⟨ja, yl, zj⟩ := Kd.at_int HR0.out qD ju jt
            cases yl
            replace ju := eq_true ju
            replace jt := eq_true jt
            have Qk : 0 ≤ (qD : Int) := of_decide_eq_true (by first | (with_reducible assumption) | assumption)
            have Qj : qD < (l0.length : Int) := of_decide_eq_true (by first | (with_reducible assumption) | assumption)
            obtain ⟨YA, XK, zZ⟩ := Kd.at_int HR0.out qD Qk Qj
            obtain rfl : ja = YA := (by injection XK)
            replace Qk := eq_true Qk
            replace Qj := eq_true Qj
            have XI : 0 ≤ (qD : Int) := of_decide_eq_true (by first | (with_reducible assumption) | assumption)
            have XH : qD < (l0.length : Int) := of_decide_eq_true (by first | (with_reducible assumption) | assumption)
            obtain ⟨qaK, qga, Yj⟩ := Kd.at_int HR0.out qD XI XH
            obtain rfl : ja = qaK := (by injection qga)
            replace XI := eq_true XI
            replace XH := eq_true XH
            have Xh : 0 ≤ (qD : Int) := of_decide_eq_true (by first | (with_reducible assumption) | assumption)
            have Xg : qD < (l0.length : Int) := of_decide_eq_true (by first | (with_reducible assumption) | assumption)
            obtain ⟨qeu, qf9, YH⟩ := Kd.at_int HR0.out qD Xh Xg
            obtain rfl : ja = qeu := (by injection qf9)
            replace Xh := eq_true Xh
            replace Xg := eq_true Xg
            go_wp2
            go_roundg k2
            case measure => have := HJ1.out; have := HK2.out; omega
            case rel => exact ⟨(wrap64 (qD + 1)), (by first | rfl | (simp; done) | (simp [*]; done)), H', ⟨by have := HJ1.out; have := HK2.out; omega⟩, by repeat (first | exact Drawn0.refl _ | apply Drawn0.step)⟩
           ·rw [if_neg c15] at H
            have c15b0 : ((rd l0 qD) == 45) = false := beq_eq_false_iff_ne.mpr c15
            have c15b1 : ((rd l0 qD) != 45) = true := bne_iff_ne.mpr c15
            obtain rfl := Option.some.inj H
            have ju : 0 ≤ (qD : Int) := of_decide_eq_true (by first | (with_reducible assumption) | assumption)
            have jt : qD < (l0.length : Int) := of_decide_eq_true (by first | (with_reducible assumption) | assumption)
            obtain ⟨ja, yl, zj⟩ := Kd.at_int HR0.out qD ju jt
            cases yl
            replace ju := eq_true ju
            replace jt := eq_true jt
            have Qk : 0 ≤ (qD : Int) := of_decide_eq_true (by first | (with_reducible assumption) | assumption)
            have Qj : qD < (l0.length : Int) := of_decide_eq_true (by first | (with_reducible assumption) | assumption)
            obtain ⟨YA, XK, zZ⟩ := Kd.at_int HR0.out qD Qk Qj
            obtain rfl : ja = YA := (by injection XK)
            replace Qk := eq_true Qk
            replace Qj := eq_true Qj
            have XI : 0 ≤ (qD : Int) := of_decide_eq_true (by first | (with_reducible assumption) | assumption)
            have XH : qD < (l0.length : Int) := of_decide_eq_true (by first | (with_reducible assumption) | assumption)
            obtain ⟨qaK, qga, Yj⟩ := Kd.at_int HR0.out qD XI XH
            obtain rfl : ja = qaK := (by injection qga)
            replace XI := eq_true XI
            replace XH := eq_true XH
            have Xh : 0 ≤ (qD : Int) := of_decide_eq_true (by first | (with_reducible assumption) | assumption)
            have Xg : qD < (l0.length : Int) := of_decide_eq_true (by first | (with_reducible assumption) | assumption)
            obtain ⟨qeu, qf9, YH⟩ := Kd.at_int HR0.out qD Xh Xg
            obtain rfl : ja = qeu := (by injection qf9)
            replace Xh := eq_true Xh
            replace Xg := eq_true Xg
            go_wp2
            go_ret
            exact ⟨by first | rfl | (simp; done) | (simp [*]; done), by repeat (first | exact Drawn0.refl _ | apply Drawn0.step)⟩
         ·rw [if_neg c13] at H
          have c13b0 : decide (48 ≤ (rd l0 qD)) = false := decide_eq_false c13
          clear c13
          by_cases c16 : (rd l0 qD) = 45
          ·rw [if_pos c16] at H
           have c16b0 : ((rd l0 qD) == 45) = true := beq_iff_eq.mpr c16
           have c16b1 : ((rd l0 qD) != 45) = false := bne_eq_false_iff_eq.mpr c16
           clear c16
           have H' := ak H
           clear H
           have ju : 0 ≤ (qD : Int) := of_decide_eq_true (by first | (with_reducible assumption) | assumption)
           have jt : qD < (l0.length : Int) := of_decide_eq_true (by first | (with_reducible assumption) | assumption)
           obtain ⟨ja, yl, zj⟩ := Kd.at_int HR0.out qD ju jt
           cases yl
           replace ju := eq_true ju
           replace jt := eq_true jt
           have Qk : 0 ≤ (qD : Int) := of_decide_eq_true (by first | (with_reducible assumption) | assumption)
           have Qj : qD < (l0.length : Int) := of_decide_eq_true (by first | (with_reducible assumption) | assumption)
           obtain ⟨YA, XK, zZ⟩ := Kd.at_int HR0.out qD Qk Qj
           obtain rfl : ja = YA := (by injection XK)
           replace Qk := eq_true Qk
           replace Qj := eq_true Qj
           have qdj : 0 ≤ (qD : Int) := of_decide_eq_true (by first | (with_reducible assumption) | assumption)
           have qdi : qD < (l0.length : Int) := of_decide_eq_true (by first | (with_reducible assumption) | assumption)
           obtain ⟨qiw, ql8, qgP⟩ := Kd.at_int HR0.out qD qdj qdi
           obtain rfl : ja = qiw := (by injection ql8)
           replace qdj := eq_true qdj
           replace qdi := eq_true qdi
           go_wp2
           go_roundg k2
           case measure => have := HJ1.out; have := HK2.out; omega
           case rel => exact ⟨(wrap64 (qD + 1)), (by first | rfl | (simp; done) | (simp [*]; done)), H', ⟨by have := HJ1.out; have := HK2.out; omega⟩, by repeat (first | exact Drawn0.refl _ | apply Drawn0.step)⟩
          ·rw [if_neg c16] at H
           have c16b0 : ((rd l0 qD) == 45) = false := beq_eq_false_iff_ne.mpr c16
           have c16b1 : ((rd l0 qD) != 45) = true := bne_iff_ne.mpr c16
           obtain rfl := Option.some.inj H
           have ju : 0 ≤ (qD : Int) := of_decide_eq_true (by first | (with_reducible assumption) | assumption)
           have jt : qD < (l0.length : Int) := of_decide_eq_true (by first | (with_reducible assumption) | assumption)
           obtain ⟨ja, yl, zj⟩ := Kd.at_int HR0.out qD ju jt
           cases yl
           replace ju := eq_true ju
           replace jt := eq_true jt
           have Qk : 0 ≤ (qD : Int) := of_decide_eq_true (by first | (with_reducible assumption) | assumption)
           have Qj : qD < (l0.length : Int) := of_decide_eq_true (by first | (with_reducible assumption) | assumption)
           obtain ⟨YA, XK, zZ⟩ := Kd.at_int HR0.out qD Qk Qj
           obtain rfl : ja = YA := (by injection XK)
           replace Qk := eq_true Qk
           replace Qj := eq_true Qj
           have qdj : 0 ≤ (qD : Int) := of_decide_eq_true (by first | (with_reducible assumption) | assumption)
           have qdi : qD < (l0.length : Int) := of_decide_eq_true (by first | (with_reducible assumption) | assumption)
           obtain ⟨qiw, ql8, qgP⟩ := Kd.at_int HR0.out qD qdj qdi
           obtain rfl : ja = qiw := (by injection ql8)
           replace qdj := eq_true qdj
           replace qdi := eq_true qdi
           go_wp2
           go_ret
           exact ⟨by first | rfl | (simp; done) | (simp [*]; done), by repeat (first | exact Drawn0.refl _ | apply Drawn0.step)⟩
       ·rw [if_neg c6] at H
        exact absurd H (by simp)
      ·rw [if_neg c5] at H
       have c5b0 : decide (qD < (l0.length : Int)) = false := decide_eq_false c5
       clear c5
       obtain rfl := Option.some.inj H
       go_wp2
       go_ret
       exact ⟨by first | rfl | (simp; done) | (simp [*]; done), by repeat (first | exact Drawn0.refl _ | apply Drawn0.step)⟩


/-! ### jw: function 76 -/
def jw.l0 : Nat → Int → List (List Int) → Option (Bool)
 | 0, _, _ => none
 | k + 1, x3, qU => if x3 < (qU.length : Int) then (if 0 ≤ x3 then ((jp.f k (qP qU x3)).bind fun qx => (if qx = true then (jw.l0 k (wrap64 (x3 + 1)) qU) else (some false))) else (none)) else (some true)
def jw.f (k : Nat) (qd : List (List Int)) : Option (Bool) := if (qd.length : Int) > 6 then (some false) else (jw.l0 k 0 qd)
set_option maxHeartbeats 8000000 in
set_option maxRecDepth 100000 in
theorem jw.calls (k : Nat) (qq : Option Addr) (qp : Nat) (qd : List (List Int)) (r : Bool) (w : World) (jd : Kd.C (Kd.slice 5 (Kd.int .u8)) w qq qd.length qd) (jg : qd.length ≤ qp) (h : jw.f k qd = some r) :
  Calls Try.prog 76 #[.agg #[.slice qq qd.length qp]] w fun e w' => e = .returned (.bool r) ∧ Below w.heap.size w w' := by
 have Ys := Try.underlying31
 have qW := ak jd
 have jb := ak jg
 clear jd jg
 have HB := ak (Below.refl w.heap.size w)
 have H : (if (qd.length : Int) > 6 then (some false) else (jw.l0 k 0 qd)) = some r := h
 clear h
 by_cases c2 : (qd.length : Int) > 6
 ·rw [if_pos c2] at H
  have c2b0 : decide (6 < (qd.length : Int)) = true := decide_eq_true c2
  have c2b1 : decide (6 < qd.length) = true := decide_eq_true (by omega)
  clear c2
  obtain rfl := Option.some.inj H
  go_enter Try.func76, Try.ntmps76
  go_wp2_with (first | ((with_reducible refine gate_dst (N := 1) rfl ?_); refine boxed (N := 1) rfl rfl (cs := #[.slice qq qd.length qp]) (t := 31) HB.out (by first | (go_simp; done) | (go_simp; rfl)) ?_; clear HB; intro qi w3 hg HB qc qm hb; have jD := qm; clear hb hg; obtain ⟨qgr, qgn⟩ := cells1 qc.out))
  go_ret
  exact ⟨by first | rfl | (simp [errW_none, errW_some] <;> rfl) | (simp [*, errW_none, errW_some] <;> rfl), bw HB.out⟩
 ·rw [if_neg c2] at H
  have c2b0 : decide (6 < (qd.length : Int)) = false := decide_eq_false c2
  have c2b1 : decide (6 < qd.length) = false := decide_eq_false (by omega)
  clear c2
  have H' := ak H
  clear H
  go_enter Try.func76, Try.ntmps76
  go_wp2_with (first | ((with_reducible refine gate_dst (N := 1) rfl ?_); refine boxed (N := 1) rfl rfl (cs := #[.slice qq qd.length qp]) (t := 31) HB.out (by first | (go_simp; done) | (go_simp; rfl)) ?_; clear HB; intro qi w5 hg HB qc qm hb; have jD := qm; clear hb hg; obtain ⟨qdf, qdd⟩ := cells1 qc.out))
  go_loopg [3] k (fun kq v3 w' => ∃ (jE : Int), v3 = .int .i64 jE ∧ Aside0 (jw.l0 kq jE qd = some r) ∧ Aside0 (kq ≤ k) ∧ Aside0 (w'.heap[qi]? = some (.cells #[(.slice qq qd.length qp)] 31 (0, 0))) ∧ Aside0 (Below w.heap.size w w'))
  case atStart => exact ⟨(0), (by first | rfl | (simp; done) | (simp [*]; done)), H', ⟨Nat.le_refl _⟩, ⟨bk qc.out⟩, ⟨bw HB.out⟩⟩
  case round =>
   clear H'
   try clear c2
   try clear c2b0
   try clear c2b1
   try clear p2
   try clear qgr
   try clear qdf
   try clear qgn
   try clear qdd
   obtain ⟨jE, rfl, HA, HK1, qc, HB⟩ := hrel
   cases gk with
   | zero => exact absurd HA.out (by simp [jw.l0])
   | succ k1 =>
    have H := HA.out
    clear HA
    simp only [jw.l0] at H
    by_cases c7 : jE < (qd.length : Int)
    ·rw [if_pos c7] at H
     have c7b0 : decide (jE < (qd.length : Int)) = true := decide_eq_true c7
     clear c7
     by_cases c8 : 0 ≤ jE
     ·rw [if_pos c8] at H
      have c8b0 : decide (0 ≤ jE) = true := decide_eq_true c8
      clear c8
      replace H := Option.bind_eq_some_iff.mp H
      obtain ⟨qx, A90, H⟩ := H
      replace H : (if qx = true then (jw.l0 k1 (wrap64 (jE + 1)) qd) else (some false)) = some r := H
      have A9 := ak A90
      clear A90
      by_cases c10 : qx = true
      ·subst c10
       have H1 : (jw.l0 k1 (wrap64 (jE + 1)) qd) = some r := by rw [if_pos rfl] at H; exact H
       clear H
       have H := H1
       clear H1
       have H' := ak H
       clear H
       obtain ⟨JZ, JY⟩ := cells1 qc.out
       have zw : 0 ≤ (jE : Int) := of_decide_eq_true (by first | (with_reducible assumption) | assumption)
       have zu : jE < (qd.length : Int) := of_decide_eq_true (by first | (with_reducible assumption) | assumption)
       obtain ⟨zM, Xe, Xb, JU, zS, Jc, Jl⟩ := Ju qW.out jE zw zu
       cases JU
       replace zS := hc_ HB.out zS
       have Jm := ak Jl
       have Zq := ak Jc
       clear Jl Jc
       replace zw := eq_true zw
       replace zu := eq_true zu
       go_wp2_with (first | ((with_reducible refine gate_callee (f := 157) rfl ?_); refine goesL_ (some 20) rfl rfl Try.func157 (by kernel_rfl) rfl #[.slice Xe (qP qd jE).length Xb] rfl (by first | rfl | (simp only [List.map_toArray, List.map_cons, List.map_nil]; first | done | rfl)) ?_; (with_reducible refine (jp.calls k1 _ _ (qP qd jE) true _ ?qk ?qj A9.out).mono ?_); (case qk => exact cw Jm.out HB.out); (case qj => exact Zq.out); rintro e w' ⟨rfl, ⟨nd, rfl⟩⟩; refine ⟨_, rfl, ?_⟩))
       go_roundg k1
       case measure => have := HK1.out; omega
       case rel => exact ⟨(wrap64 (jE + 1)), (by first | rfl | (simp; done) | (simp [*]; done)), H', ⟨by have := HK1.out; omega⟩, ⟨bk qc.out⟩, ⟨bw HB.out⟩⟩
      ·replace c10 := Bool.eq_false_iff.mpr c10
       subst c10
       have H1 : (some false) = some r := by rw [if_neg (show ¬ (false = true) by decide)] at H; exact H
       clear H
       have H := H1
       clear H1
       obtain rfl := Option.some.inj H
       obtain ⟨qcX, qcC⟩ := cells1 qc.out
       have zw : 0 ≤ (jE : Int) := of_decide_eq_true (by first | (with_reducible assumption) | assumption)
       have zu : jE < (qd.length : Int) := of_decide_eq_true (by first | (with_reducible assumption) | assumption)
       obtain ⟨zM, Xe, Xb, JU, zS, Jc, Jl⟩ := Ju qW.out jE zw zu
       cases JU
       replace zS := hc_ HB.out zS
       have Jm := ak Jl
       have Zq := ak Jc
       clear Jl Jc
       replace zw := eq_true zw
       replace zu := eq_true zu
       go_wp2_with (first | ((with_reducible refine gate_callee (f := 157) rfl ?_); refine goesL_ (some 20) rfl rfl Try.func157 (by kernel_rfl) rfl #[.slice Xe (qP qd jE).length Xb] rfl (by first | rfl | (simp only [List.map_toArray, List.map_cons, List.map_nil]; first | done | rfl)) ?_; (with_reducible refine (jp.calls k1 _ _ (qP qd jE) false _ ?qk ?qj A9.out).mono ?_); (case qk => exact cw Jm.out HB.out); (case qj => exact Zq.out); rintro e w' ⟨rfl, ⟨nd, rfl⟩⟩; refine ⟨_, rfl, ?_⟩))
       go_ret
       exact ⟨by first | rfl | (simp [errW_none, errW_some] <;> rfl) | (simp [*, errW_none, errW_some] <;> rfl), bw HB.out⟩
     ·rw [if_neg c8] at H
      exact absurd H (by simp)
    ·rw [if_neg c7] at H
     have c7b0 : decide (jE < (qd.length : Int)) = false := decide_eq_false c7
     clear c7
     obtain rfl := Option.some.inj H
     obtain ⟨QN, QM⟩ := cells1 qc.out
     go_wp2
     go_ret
     exact ⟨by first | rfl | (simp [errW_none, errW_some] <;> rfl) | (simp [*, errW_none, errW_some] <;> rfl), bw HB.out⟩


/-! ### QP: function 80 -/
def QP.f (a0 : Int) : Option (Bool) := if a0 = 1 then (some true) else (if a0 = 2 then (some true) else (if a0 = 5 then (some true) else (if a0 = 6 then (some true) else (if a0 = 12 then (some true) else (if a0 = 16 then (some true) else (if a0 = 49 then (some true) else (some false)))))))
set_option maxHeartbeats 8000000 in
set_option maxRecDepth 100000 in
theorem QP.calls (a0 : Int) (r : Bool) (w : World) (h : QP.f a0 = some r) :
  Calls Try.prog 80 #[.int .i64 a0] w fun e w' => e = .returned (.bool r) ∧ Drawn0 w w' := by
 have H : (if a0 = 1 then (some true) else (if a0 = 2 then (some true) else (if a0 = 5 then (some true) else (if a0 = 6 then (some true) else (if a0 = 12 then (some true) else (if a0 = 16 then (some true) else (if a0 = 49 then (some true) else (some false)))))))) = some r := h
 clear h
 by_cases c2 : a0 = 1
 ·rw [if_pos c2] at H
  have c2b0 : (a0 == 1) = true := beq_iff_eq.mpr c2
  have c2b1 : (a0 != 1) = false := bne_eq_false_iff_eq.mpr c2
  clear c2
  obtain rfl := Option.some.inj H
  go_enter Try.func80, Try.ntmps80
  go_wp2
  go_ret
  exact ⟨by first | rfl | (simp; done) | (simp [*]; done), by repeat (first | exact Drawn0.refl _ | apply Drawn0.step)⟩
 ·rw [if_neg c2] at H
  have c2b0 : (a0 == 1) = false := beq_eq_false_iff_ne.mpr c2
  have c2b1 : (a0 != 1) = true := bne_iff_ne.mpr c2
  by_cases c3 : a0 = 2
  ·rw [if_pos c3] at H
   have c3b0 : (a0 == 2) = true := beq_iff_eq.mpr c3
   have c3b1 : (a0 != 2) = false := bne_eq_false_iff_eq.mpr c3
   clear c3
   obtain rfl := Option.some.inj H
   go_enter Try.func80, Try.ntmps80
   go_wp2
   go_ret
   exact ⟨by first | rfl | (simp; done) | (simp [*]; done), by repeat (first | exact Drawn0.refl _ | apply Drawn0.step)⟩
  ·rw [if_neg c3] at H
   have c3b0 : (a0 == 2) = false := beq_eq_false_iff_ne.mpr c3
   have c3b1 : (a0 != 2) = true := bne_iff_ne.mpr c3
   by_cases c4 : a0 = 5
   ·rw [if_pos c4] at H
    have c4b0 : (a0 == 5) = true := beq_iff_eq.mpr c4
    have c4b1 : (a0 != 5) = false := bne_eq_false_iff_eq.mpr c4
    clear c4
    obtain rfl := Option.some.inj H
    go_enter Try.func80, Try.ntmps80
    go_wp2
    go_ret
    exact ⟨by first | rfl | (simp; done) | (simp [*]; done), by repeat (first | exact Drawn0.refl _ | apply Drawn0.step)⟩
   ·rw [if_neg c4] at H
    have c4b0 : (a0 == 5) = false := beq_eq_false_iff_ne.mpr c4
    have c4b1 : (a0 != 5) = true := bne_iff_ne.mpr c4
    by_cases c5 : a0 = 6
    ·rw [if_pos c5] at H
     have c5b0 : (a0 == 6) = true := beq_iff_eq.mpr c5
     have c5b1 : (a0 != 6) = false := bne_eq_false_iff_eq.mpr c5
     clear c5
     obtain rfl := Option.some.inj H
     go_enter Try.func80, Try.ntmps80
     go_wp2
     go_ret
     exact ⟨by first | rfl | (simp; done) | (simp [*]; done), by repeat (first | exact Drawn0.refl _ | apply Drawn0.step)⟩
    ·rw [if_neg c5] at H
     have c5b0 : (a0 == 6) = false := beq_eq_false_iff_ne.mpr c5
     have c5b1 : (a0 != 6) = true := bne_iff_ne.mpr c5
     by_cases c6 : a0 = 12
     ·rw [if_pos c6] at H
      have c6b0 : (a0 == 12) = true := beq_iff_eq.mpr c6
      have c6b1 : (a0 != 12) = false := bne_eq_false_iff_eq.mpr c6
      clear c6
      obtain rfl := Option.some.inj H
      go_enter Try.func80, Try.ntmps80
      go_wp2
      go_ret
      exact ⟨by first | rfl | (simp; done) | (simp [*]; done), by repeat (first | exact Drawn0.refl _ | apply Drawn0.step)⟩
     ·rw [if_neg c6] at H
      have c6b0 : (a0 == 12) = false := beq_eq_false_iff_ne.mpr c6
      have c6b1 : (a0 != 12) = true := bne_iff_ne.mpr c6
      by_cases c7 : a0 = 16
      ·rw [if_pos c7] at H
       have c7b0 : (a0 == 16) = true := beq_iff_eq.mpr c7
       have c7b1 : (a0 != 16) = false := bne_eq_false_iff_eq.mpr c7
       clear c7
       obtain rfl := Option.some.inj H
       go_enter Try.func80, Try.ntmps80
       go_wp2
       go_ret
       exact ⟨by first | rfl | (simp; done) | (simp [*]; done), by repeat (first | exact Drawn0.refl _ | apply Drawn0.step)⟩
      ·rw [if_neg c7] at H
       have c7b0 : (a0 == 16) = false := beq_eq_false_iff_ne.mpr c7
       have c7b1 : (a0 != 16) = true := bne_iff_ne.mpr c7
       by_cases c8 : a0 = 49
       ·rw [if_pos c8] at H
        have c8b0 : (a0 == 49) = true := beq_iff_eq.mpr c8
        have c8b1 : (a0 != 49) = false := bne_eq_false_iff_eq.mpr c8
        clear c8
        obtain rfl := Option.some.inj H
        go_enter Try.func80, Try.ntmps80
        go_wp2
        go_ret
        exact ⟨by first | rfl | (simp; done) | (simp [*]; done), by repeat (first | exact Drawn0.refl _ | apply Drawn0.step)⟩
       ·rw [if_neg c8] at H
        have c8b0 : (a0 == 49) = false := beq_eq_false_iff_ne.mpr c8
        have c8b1 : (a0 != 49) = true := bne_iff_ne.mpr c8
        obtain rfl := Option.some.inj H
        go_enter Try.func80, Try.ntmps80
        go_wp2
        go_ret
        exact ⟨by first | rfl | (simp; done) | (simp [*]; done), by repeat (first | exact Drawn0.refl _ | apply Drawn0.step)⟩


/-! ### Jq: function 159 -/
def Jq.f (a0 : Int) : Option (Bool) := if a0 = 2 then (some true) else (if a0 = 5 then (some true) else (if a0 = 6 then (some true) else (some (a0 == 12))))
set_option maxHeartbeats 8000000 in
set_option maxRecDepth 100000 in
theorem Jq.calls (a0 : Int) (r : Bool) (w : World) (h : Jq.f a0 = some r) :
  Calls Try.prog 159 #[.int .i64 a0] w fun e w' => e = .returned (.bool r) ∧ Drawn0 w w' := by
 have H : (if a0 = 2 then (some true) else (if a0 = 5 then (some true) else (if a0 = 6 then (some true) else (some (a0 == 12))))) = some r := h
 clear h
 by_cases c2 : a0 = 2
 ·rw [if_pos c2] at H
  have c2b0 : (a0 == 2) = true := beq_iff_eq.mpr c2
  have c2b1 : (a0 != 2) = false := bne_eq_false_iff_eq.mpr c2
  clear c2
  obtain rfl := Option.some.inj H
  go_enter Try.func159, Try.ntmps159
  go_wp2
  go_ret
  exact ⟨by first | rfl | (simp; done) | (simp [*]; done), by repeat (first | exact Drawn0.refl _ | apply Drawn0.step)⟩
 ·rw [if_neg c2] at H
  have c2b0 : (a0 == 2) = false := beq_eq_false_iff_ne.mpr c2
  have c2b1 : (a0 != 2) = true := bne_iff_ne.mpr c2
  by_cases c3 : a0 = 5
  ·rw [if_pos c3] at H
   have c3b0 : (a0 == 5) = true := beq_iff_eq.mpr c3
   have c3b1 : (a0 != 5) = false := bne_eq_false_iff_eq.mpr c3
   clear c3
   obtain rfl := Option.some.inj H
   go_enter Try.func159, Try.ntmps159
   go_wp2
   go_ret
   exact ⟨by first | rfl | (simp; done) | (simp [*]; done), by repeat (first | exact Drawn0.refl _ | apply Drawn0.step)⟩
  ·rw [if_neg c3] at H
   have c3b0 : (a0 == 5) = false := beq_eq_false_iff_ne.mpr c3
   have c3b1 : (a0 != 5) = true := bne_iff_ne.mpr c3
   by_cases c4 : a0 = 6
   ·rw [if_pos c4] at H
    have c4b0 : (a0 == 6) = true := beq_iff_eq.mpr c4
    have c4b1 : (a0 != 6) = false := bne_eq_false_iff_eq.mpr c4
    clear c4
    obtain rfl := Option.some.inj H
    go_enter Try.func159, Try.ntmps159
    go_wp2
    go_ret
    exact ⟨by first | rfl | (simp; done) | (simp [*]; done), by repeat (first | exact Drawn0.refl _ | apply Drawn0.step)⟩
   ·rw [if_neg c4] at H
    have c4b0 : (a0 == 6) = false := beq_eq_false_iff_ne.mpr c4
    have c4b1 : (a0 != 6) = true := bne_iff_ne.mpr c4
    obtain rfl := Option.some.inj H
    go_enter Try.func159, Try.ntmps159
    go_wp2
    go_ret
    exact ⟨by first | rfl | (simp; done) | (simp [*]; done), by repeat (first | exact Drawn0.refl _ | apply Drawn0.step)⟩


/-! ### Yq: function 205 -/
def Yq.f (a0 : Int) : Option (Bool) := if a0 = 16 then (some true) else (some (a0 == 49))
set_option maxHeartbeats 8000000 in
set_option maxRecDepth 100000 in
theorem Yq.calls (a0 : Int) (r : Bool) (w : World) (h : Yq.f a0 = some r) :
  Calls Try.prog 205 #[.int .i64 a0] w fun e w' => e = .returned (.bool r) ∧ Drawn0 w w' := by
 have H : (if a0 = 16 then (some true) else (some (a0 == 49))) = some r := h
 clear h
 by_cases c2 : a0 = 16
 ·rw [if_pos c2] at H
  have c2b0 : (a0 == 16) = true := beq_iff_eq.mpr c2
  have c2b1 : (a0 != 16) = false := bne_eq_false_iff_eq.mpr c2
  clear c2
  obtain rfl := Option.some.inj H
  go_enter Try.func205, Try.ntmps205
  go_wp2
  go_ret
  exact ⟨by first | rfl | (simp; done) | (simp [*]; done), by repeat (first | exact Drawn0.refl _ | apply Drawn0.step)⟩
 ·rw [if_neg c2] at H
  have c2b0 : (a0 == 16) = false := beq_eq_false_iff_ne.mpr c2
  have c2b1 : (a0 != 16) = true := bne_iff_ne.mpr c2
  obtain rfl := Option.some.inj H
  go_enter Try.func205, Try.ntmps205
  go_wp2
  go_ret
  exact ⟨by first | rfl | (simp; done) | (simp [*]; done), by repeat (first | exact Drawn0.refl _ | apply Drawn0.step)⟩


/-! ### qX: function 134 -/
mutual
def qX.j0 : Nat → List (List Int) → Int → Int → Int → List (List Int) → List Int → List Int → Option (Bool)
 | 0, _, _, _, _, _, _, _ => none
 | k + 1, qU, qB, QL, yY, yG, yF, zB => (Jq.f qB).bind fun qG => (if qG = true then ((jw.f k yG).bind fun qx => (if qx = true then (qX.j1 k qU qB QL yY yG yF zB) else (some false))) else (if (yG.length : Int) > 0 then (some false) else (qX.j1 k qU qB QL yY yG yF zB)))
def qX.j1 : Nat → List (List Int) → Int → Int → Int → List (List Int) → List Int → List Int → Option (Bool)
 | 0, _, _, _, _, _, _, _ => none
 | k + 1, qU, qB, QL, yY, yG, yF, zB => (Yq.f qB).bind fun qK => (if qK = true then (if (yF.length : Int) > 40 then (some false) else (qX.j2 k qU qB QL yY yG yF zB)) else (if (yF.length : Int) > 0 then (some false) else (qX.j2 k qU qB QL yY yG yF zB)))
def qX.j2 : Nat → List (List Int) → Int → Int → Int → List (List Int) → List Int → List Int → Option (Bool)
 | 0, _, _, _, _, _, _, _ => none
 | k + 1, qU, qB, QL, yY, yG, yF, zB => if qB = 6 then (if (zB.length : Int) = 2 then (if 0 < (zB.length : Int) then (if (rd zB 0) < 0 then (some false) else (if (rd zB 0) ≥ 4294967296 then (some false) else (if 1 < (zB.length : Int) then (if (rd zB 1) ≥ 0 then (some (decide ((rd zB 1) ≤ 100000))) else (some false)) else (none)))) else (none)) else (some false)) else (some ((zB.length : Int) == 0))
end
def qX.f (k : Nat) (qd : List (List Int)) (qu : Int) (qH : Int) (qF : Int) (qA : List (List Int)) (qt : List Int) (qo : List Int) : Option (Bool) := if qu = 1 then (if qF < 0 then (some false) else (if qF ≥ 4294967296 then (some false) else (qX.j0 k qd qu qH qF qA qt qo))) else (if qF = 0 then (qX.j0 k qd qu qH qF qA qt qo) else (some false))
set_option maxHeartbeats 8000000 in
set_option maxRecDepth 100000 in
theorem qX.calls (k : Nat) (qq : Option Addr) (qp : Nat) (qd : List (List Int)) (qu : Int) (qH : Int) (qF : Int) (jC : Option Addr) (jB : Nat) (qA : List (List Int)) (jK : Option Addr) (jJ : Nat) (qt : List Int) (jM : Option Addr) (jL : Nat) (qo : List Int) (r : Bool) (w : World) (jd : Kd.C (Kd.slice 5 (Kd.int .u8)) w qq qd.length qd) (jg : qd.length ≤ qp) (QF : Kd.C (Kd.slice 5 (Kd.int .u8)) w jC qA.length qA) (QI : qA.length ≤ jB) (QE : Kd.C (Kd.int .u8) w jK qt.length qt) (QH : qt.length ≤ jJ) (QD : Kd.C (Kd.int .i64) w jM qo.length qo) (QG : qo.length ≤ jL) (h : qX.f k qd qu qH qF qA qt qo = some r) :
  Calls Try.prog 134 #[.agg #[.slice qq qd.length qp, .int .i64 qu, .int .i64 qH, .int .i64 qF, .slice jC qA.length jB, .slice jK qt.length jJ, .slice jM qo.length jL]] w fun e w' => e = .returned (.bool r) ∧ Below w.heap.size w w' := by
 have qak := Try.underlying33
 have Ys := Try.underlying31
 have qW := ak jd
 have jb := ak jg
 clear jd jg
 have Jo := ak QF
 have Jp := ak QI
 clear QF QI
 have ZF := ak QE
 have Yp := ak QH
 clear QE QH
 have Qd := ak QD
 have YP := ak QG
 clear QD QG
 have HB := ak (Below.refl w.heap.size w)
 have H : (if qu = 1 then (if qF < 0 then (some false) else (if qF ≥ 4294967296 then (some false) else (qX.j0 k qd qu qH qF qA qt qo))) else (if qF = 0 then (qX.j0 k qd qu qH qF qA qt qo) else (some false))) = some r := h
 clear h
 have HC2 := ak H
 clear H
 go_enter Try.func134, Try.ntmps134
 go_upto_if 5 with (first | ((with_reducible refine gate_dst (N := 1) rfl ?_); refine boxed (N := 1) rfl rfl (cs := #[.slice qq qd.length qp, .int .i64 qu, .int .i64 qH, .int .i64 qF, .slice jC qA.length jB, .slice jK qt.length jJ, .slice jM qo.length jL]) (t := 33) HB.out (by first | (go_simp; done) | (go_simp; rfl)) ?_; clear HB; intro qi w3 hg HB qc qm hb; have jD := qm; clear hb hg; obtain ⟨qgr, ql2, ql1, ql0, qlZ, qlY, qlX, qgn, qlP, qlO, qlN, qlM, qlL, qlK⟩ := cells7 qc.out))
 (try simp only [Act.put, List.setIfInBounds_toArray, List.set_cons_zero, List.set_cons_succ])
 go_cut [] (fun wc => ∃ (kq : Nat), Aside0 (qX.j0 kq qd qu qH qF qA qt qo = some r) ∧ Aside0 (kq ≤ k) ∧ Aside0 (wc.heap[qi]? = some (.cells #[(.slice qq qd.length qp), .int .i64 qu, .int .i64 qH, .int .i64 qF, (.slice jC qA.length jB), (.slice jK qt.length jJ), (.slice jM qo.length jL)] 33 (0, 0))) ∧ Aside0 (Below w.heap.size w wc))
 case first =>
  have H := HC2.out
  clear HC2
  by_cases c5 : qu = 1
  ·rw [if_pos c5] at H
   have c5b0 : (qu == 1) = true := beq_iff_eq.mpr c5
   have c5b1 : (qu != 1) = false := bne_eq_false_iff_eq.mpr c5
   clear c5
   (first | rw [c5b0] | (simp only [i64_w, i32_w]; rw [c5b0]) | skip)
   by_cases c6 : qF < 0
   ·rw [if_pos c6] at H
    have c6b0 : decide (qF < 0) = true := decide_eq_true c6
    clear c6
    obtain rfl := Option.some.inj H
    obtain ⟨qb6, qde, qlV, qlU, qlT, qlS, qlR, qb3, qdc, qlI, qlH, qlG, qlF, qlE⟩ := cells7 qc.out
    go_wp2
    go_ret
    exact ⟨by first | rfl | (simp [errW_none, errW_some] <;> rfl) | (simp [*, errW_none, errW_some] <;> rfl), bw HB.out⟩
   ·rw [if_neg c6] at H
    have c6b0 : decide (qF < 0) = false := decide_eq_false c6
    clear c6
    by_cases c8 : qF ≥ 4294967296
    ·rw [if_pos c8] at H
     have c8b0 : decide (4294967296 ≤ qF) = true := decide_eq_true c8
     clear c8
     obtain rfl := Option.some.inj H
     obtain ⟨Js, Zo, qaZ, qaY, qaX, qaW, qaV, Jr, Zn, qaU, qaT, qaS, qaR, qaQ⟩ := cells7 qc.out
     go_wp2
     go_ret
     exact ⟨by first | rfl | (simp [errW_none, errW_some] <;> rfl) | (simp [*, errW_none, errW_some] <;> rfl), bw HB.out⟩
    ·rw [if_neg c8] at H
     have c8b0 : decide (4294967296 ≤ qF) = false := decide_eq_false c8
     clear c8
     have H' := ak H
     clear H
     obtain ⟨qd2, qd1, qf3, qf2, qf1, qf0, qfZ, qdM, qdL, qfK, qfJ, qfI, qfH, qfG⟩ := cells7 qc.out
     go_wp2
     go_meet
     case rel => exact ⟨_, H', ⟨by first | omega | exact Nat.le_refl _⟩, ⟨bk qc.out⟩, ⟨bw HB.out⟩⟩
  ·rw [if_neg c5] at H
   have c5b0 : (qu == 1) = false := beq_eq_false_iff_ne.mpr c5
   have c5b1 : (qu != 1) = true := bne_iff_ne.mpr c5
   (first | rw [c5b0] | (simp only [i64_w, i32_w]; rw [c5b0]) | skip)
   by_cases c11 : qF = 0
   ·rw [if_pos c11] at H
    have c11b0 : (qF == 0) = true := beq_iff_eq.mpr c11
    have c11b1 : (qF != 0) = false := bne_eq_false_iff_eq.mpr c11
    clear c11
    have H' := ak H
    clear H
    obtain ⟨qcX, qhz, qhy, qhx, qhw, qhv, qhu, qcC, qhg, qhf, qhe, qhd, qhc, qhb⟩ := cells7 qc.out
    go_wp2
    go_meet
    case rel => exact ⟨_, H', ⟨by first | omega | exact Nat.le_refl _⟩, ⟨bk qc.out⟩, ⟨bw HB.out⟩⟩
   ·rw [if_neg c11] at H
    have c11b0 : (qF == 0) = false := beq_eq_false_iff_ne.mpr c11
    have c11b1 : (qF != 0) = true := bne_iff_ne.mpr c11
    obtain rfl := Option.some.inj H
    obtain ⟨QN, JO, XB, XA, Xz, Xy, Xx, QM, JN, Xv, Xu, Xt, Xs, Xr⟩ := cells7 qc.out
    go_wp2
    go_ret
    exact ⟨by first | rfl | (simp [errW_none, errW_some] <;> rfl) | (simp [*, errW_none, errW_some] <;> rfl), bw HB.out⟩
 case rest =>
  clear HC2
  try clear c1
  try clear p2
  try clear c5
  try clear c5b0
  try clear c5b1
  try clear c6
  try clear c6b0
  try clear c8
  try clear c8b0
  try clear c11
  try clear c11b0
  try clear c11b1
  try clear c13
  try clear qd2
  try clear qd1
  try clear qf3
  try clear qf2
  try clear qf1
  try clear qf0
  try clear qfZ
  try clear qcX
  try clear qhz
  try clear qhy
  try clear qhx
  try clear qhw
  try clear qhv
  try clear qhu
  try clear QN
  try clear JO
  try clear XB
  try clear XA
  try clear Xz
  try clear Xy
  try clear Xx
  try clear qgr
  try clear ql2
  try clear ql1
  try clear ql0
  try clear qlZ
  try clear qlY
  try clear qlX
  try clear qb6
  try clear qde
  try clear qlV
  try clear qlU
  try clear qlT
  try clear qlS
  try clear qlR
  try clear Js
  try clear Zo
  try clear qaZ
  try clear qaY
  try clear qaX
  try clear qaW
  try clear qaV
  try clear qdM
  try clear qdL
  try clear qfK
  try clear qfJ
  try clear qfI
  try clear qfH
  try clear qfG
  try clear qcC
  try clear qhg
  try clear qhf
  try clear qhe
  try clear qhd
  try clear qhc
  try clear qhb
  try clear QM
  try clear JN
  try clear Xv
  try clear Xu
  try clear Xt
  try clear Xs
  try clear Xr
  try clear qgn
  try clear qlP
  try clear qlO
  try clear qlN
  try clear qlM
  try clear qlL
  try clear qlK
  try clear qb3
  try clear qdc
  try clear qlI
  try clear qlH
  try clear qlG
  try clear qlF
  try clear qlE
  try clear Jr
  try clear Zn
  try clear qaU
  try clear qaT
  try clear qaS
  try clear qaR
  try clear qaQ
  obtain ⟨kq, HA, HJ1, qc, HB⟩ := hcut
  cases kq with
  | zero => exact absurd HA.out (by simp [qX.j0])
  | succ kj1 =>
   have H := HA.out
   clear HA
   simp only [qX.j0] at H
   replace H := Option.bind_eq_some_iff.mp H
   obtain ⟨qG, quT, H⟩ := H
   replace H : (if qG = true then ((jw.f kj1 qA).bind fun qx => (if qx = true then (qX.j1 kj1 qd qu qH qF qA qt qo) else (some false))) else (if (qA.length : Int) > 0 then (some false) else (qX.j1 kj1 qd qu qH qF qA qt qo))) = some r := H
   have A14 := ak quT
   clear quT
   have qpz := ak H
   clear H
   obtain ⟨YV, Xw, qbN, qbM, qbL, qbK, qbJ, YS, Xq, qbv, qbu, qbt, qbs, qbr⟩ := cells7 qc.out
   go_upto_if 19 with (first | ((with_reducible refine gate_callee (f := 159) rfl ?_); refine goesL_ (some 19) rfl rfl Try.func159 (by kernel_rfl) rfl #[.int .i64 qu] rfl (by first | rfl | (simp only [List.map_toArray, List.map_cons, List.map_nil]; first | done | rfl)) ?_; (with_reducible refine (Jq.calls qu qG _ A14.out).mono ?_); rintro e w' ⟨rfl, ⟨nd, rfl⟩⟩; refine ⟨_, rfl, ?_⟩))
   (try simp only [Act.put, List.setIfInBounds_toArray, List.set_cons_zero, List.set_cons_succ])
   go_cut [] (fun wc => ∃ (kq : Nat), Aside0 (qX.j1 kq qd qu qH qF qA qt qo = some r) ∧ Aside0 (kq ≤ kj1) ∧ Aside0 (wc.heap[qi]? = some (.cells #[(.slice qq qd.length qp), .int .i64 qu, .int .i64 qH, .int .i64 qF, (.slice jC qA.length jB), (.slice jK qt.length jJ), (.slice jM qo.length jL)] 33 (0, 0))) ∧ Aside0 (Below w.heap.size w wc))
   case first =>
    have H := qpz.out
    clear qpz
    by_cases c17 : qG = true
    ·subst c17
     have H1 : ((jw.f kj1 qA).bind fun qx => (if qx = true then (qX.j1 kj1 qd qu qH qF qA qt qo) else (some false))) = some r := by rw [if_pos rfl] at H; exact H
     clear H
     have H := H1
     clear H1
     replace H := Option.bind_eq_some_iff.mp H
     obtain ⟨qx, qmf, H⟩ := H
     replace H : (if qx = true then (qX.j1 kj1 qd qu qH qF qA qt qo) else (some false)) = some r := H
     have A18 := ak qmf
     clear qmf
     by_cases c19 : qx = true
     ·subst c19
      have H1 : (qX.j1 kj1 qd qu qH qF qA qt qo) = some r := by rw [if_pos rfl] at H; exact H
      clear H
      have H := H1
      clear H1
      have H' := ak H
      clear H
      obtain ⟨qaI, qcK, qd0, qdZ, qdY, qdX, qdW, qaG, qcp, qdK, qdJ, qdI, qdH, qdG⟩ := cells7 qc.out
      go_wp2_with (first | ((with_reducible refine gate_callee (f := 76) rfl ?_); refine goesL_ (some 22) rfl rfl Try.func76 (by kernel_rfl) rfl #[.agg #[.slice jC qA.length jB]] rfl (by first | rfl | (simp only [List.map_toArray, List.map_cons, List.map_nil]; first | done | rfl)) ?_; (with_reducible refine (jw.calls kj1 _ _ qA true _ ?qk ?qj A18.out).mono ?_); (case qk => exact cw Jo.out HB.out); (case qj => exact Jp.out); rintro e w21 ⟨rfl, hb⟩; refine ⟨_, rfl, ?_⟩; replace qc := ak (blk_below (bk qc.out) hb); replace HB := ak (below_step (bw HB.out) hb); (try clear hb)))
      go_meet
      case rel => exact ⟨_, H', ⟨by have := HJ1.out; first | omega | exact Nat.le_refl _⟩, ⟨bk qc.out⟩, ⟨bw HB.out⟩⟩
     ·replace c19 := Bool.eq_false_iff.mpr c19
      subst c19
      have H1 : (some false) = some r := by rw [if_neg (show ¬ (false = true) by decide)] at H; exact H
      clear H
      have H := H1
      clear H1
      obtain rfl := Option.some.inj H
      obtain ⟨XV, qbI, qcJ, qcI, qcH, qcG, qcF, XT, qbq, qco, qcn, qcm, qcl, qck⟩ := cells7 qc.out
      go_wp2_with (first | ((with_reducible refine gate_callee (f := 76) rfl ?_); refine goesL_ (some 22) rfl rfl Try.func76 (by kernel_rfl) rfl #[.agg #[.slice jC qA.length jB]] rfl (by first | rfl | (simp only [List.map_toArray, List.map_cons, List.map_nil]; first | done | rfl)) ?_; (with_reducible refine (jw.calls kj1 _ _ qA false _ ?qk ?qj A18.out).mono ?_); (case qk => exact cw Jo.out HB.out); (case qj => exact Jp.out); rintro e w23 ⟨rfl, hb⟩; refine ⟨_, rfl, ?_⟩; replace qc := ak (blk_below (bk qc.out) hb); replace HB := ak (below_step (bw HB.out) hb); (try clear hb)))
      go_ret
      exact ⟨by first | rfl | (simp [errW_none, errW_some] <;> rfl) | (simp [*, errW_none, errW_some] <;> rfl), bw HB.out⟩
    ·replace c17 := Bool.eq_false_iff.mpr c17
     subst c17
     have H1 : (if (qA.length : Int) > 0 then (some false) else (qX.j1 kj1 qd qu qH qF qA qt qo)) = some r := by rw [if_neg (show ¬ (false = true) by decide)] at H; exact H
     clear H
     have H := H1
     clear H1
     by_cases c24 : (qA.length : Int) > 0
     ·rw [if_pos c24] at H
      have c24b0 : decide (0 < (qA.length : Int)) = true := decide_eq_true c24
      have c24b1 : decide (0 < qA.length) = true := decide_eq_true (by omega)
      clear c24
      (first | rw [c24b0] | (simp only [i64_w, i32_w]; rw [c24b0]) | skip)
      obtain rfl := Option.some.inj H
      obtain ⟨qdU, qfX, qfW, qfV, qfU, qfT, qfS, qdE, qfE, qfD, qfC, qfB, qfA, qfz⟩ := cells7 qc.out
      go_wp2
      go_ret
      exact ⟨by first | rfl | (simp [errW_none, errW_some] <;> rfl) | (simp [*, errW_none, errW_some] <;> rfl), bw HB.out⟩
     ·rw [if_neg c24] at H
      have c24b0 : decide (0 < (qA.length : Int)) = false := decide_eq_false c24
      have c24b1 : decide (0 < qA.length) = false := decide_eq_false (by omega)
      clear c24
      (first | rw [c24b0] | (simp only [i64_w, i32_w]; rw [c24b0]) | skip)
      have H' := ak H
      clear H
      obtain ⟨qhq, qkA, qkz, qky, qkx, qkw, qkv, qg7, qjH, qjG, qjF, qjE, qjD, qjC⟩ := cells7 qc.out
      go_wp2
      go_meet
      case rel => exact ⟨_, H', ⟨by have := HJ1.out; first | omega | exact Nat.le_refl _⟩, ⟨bk qc.out⟩, ⟨bw HB.out⟩⟩
   case rest =>
    clear qpz
    try clear c1
    try clear c2
    try clear p2
    try clear c5
    try clear c5b0
    try clear c5b1
    try clear c6
    try clear c6b0
    try clear c7
    try clear c8
    try clear c8b0
    try clear c11
    try clear c11b0
    try clear c11b1
    try clear c13
    try clear c15
    try clear c17
    try clear c19
    try clear c24
    try clear c24b0
    try clear c24b1
    try clear qd2
    try clear qd1
    try clear qf3
    try clear qf2
    try clear qf1
    try clear qf0
    try clear qfZ
    try clear qcX
    try clear qhz
    try clear qhy
    try clear qhx
    try clear qhw
    try clear qhv
    try clear qhu
    try clear QN
    try clear JO
    try clear XB
    try clear XA
    try clear Xz
    try clear Xy
    try clear Xx
    try clear YV
    try clear Xw
    try clear qbN
    try clear qbM
    try clear qbL
    try clear qbK
    try clear qbJ
    try clear qaI
    try clear qcK
    try clear qd0
    try clear qdZ
    try clear qdY
    try clear qdX
    try clear qdW
    try clear XV
    try clear qbI
    try clear qcJ
    try clear qcI
    try clear qcH
    try clear qcG
    try clear qcF
    try clear qdU
    try clear qfX
    try clear qfW
    try clear qfV
    try clear qfU
    try clear qfT
    try clear qfS
    try clear qhq
    try clear qkA
    try clear qkz
    try clear qky
    try clear qkx
    try clear qkw
    try clear qkv
    try clear qgr
    try clear ql2
    try clear ql1
    try clear ql0
    try clear qlZ
    try clear qlY
    try clear qlX
    try clear qb6
    try clear qde
    try clear qlV
    try clear qlU
    try clear qlT
    try clear qlS
    try clear qlR
    try clear Js
    try clear Zo
    try clear qaZ
    try clear qaY
    try clear qaX
    try clear qaW
    try clear qaV
    try clear qdM
    try clear qdL
    try clear qfK
    try clear qfJ
    try clear qfI
    try clear qfH
    try clear qfG
    try clear qcC
    try clear qhg
    try clear qhf
    try clear qhe
    try clear qhd
    try clear qhc
    try clear qhb
    try clear QM
    try clear JN
    try clear Xv
    try clear Xu
    try clear Xt
    try clear Xs
    try clear Xr
    try clear YS
    try clear Xq
    try clear qbv
    try clear qbu
    try clear qbt
    try clear qbs
    try clear qbr
    try clear qaG
    try clear qcp
    try clear qdK
    try clear qdJ
    try clear qdI
    try clear qdH
    try clear qdG
    try clear XT
    try clear qbq
    try clear qco
    try clear qcn
    try clear qcm
    try clear qcl
    try clear qck
    try clear qdE
    try clear qfE
    try clear qfD
    try clear qfC
    try clear qfB
    try clear qfA
    try clear qfz
    try clear qg7
    try clear qjH
    try clear qjG
    try clear qjF
    try clear qjE
    try clear qjD
    try clear qjC
    try clear qgn
    try clear qlP
    try clear qlO
    try clear qlN
    try clear qlM
    try clear qlL
    try clear qlK
    try clear qb3
    try clear qdc
    try clear qlI
    try clear qlH
    try clear qlG
    try clear qlF
    try clear qlE
    try clear Jr
    try clear Zn
    try clear qaU
    try clear qaT
    try clear qaS
    try clear qaR
    try clear qaQ
    try clear p2
    obtain ⟨kq, HA, quC, qc, HB⟩ := hcut
    cases kq with
    | zero => exact absurd HA.out (by simp [qX.j1])
    | succ qls =>
     have H := HA.out
     clear HA
     simp only [qX.j1] at H
     replace H := Option.bind_eq_some_iff.mp H
     obtain ⟨qK, qmd, H⟩ := H
     replace H : (if qK = true then (if (qt.length : Int) > 40 then (some false) else (qX.j2 qls qd qu qH qF qA qt qo)) else (if (qt.length : Int) > 0 then (some false) else (qX.j2 qls qd qu qH qF qA qt qo))) = some r := H
     have A27 := ak qmd
     clear qmd
     have qpw := ak H
     clear H
     obtain ⟨qfR, qhn, qks, qkr, qkq, qkp, qko, qfy, qg4, qjz, qjy, qjx, qjw, qjv⟩ := cells7 qc.out
     go_upto_if 31 with (first | ((with_reducible refine gate_callee (f := 205) rfl ?_); refine goesL_ (some 31) rfl rfl Try.func205 (by kernel_rfl) rfl #[.int .i64 qu] rfl (by first | rfl | (simp only [List.map_toArray, List.map_cons, List.map_nil]; first | done | rfl)) ?_; (with_reducible refine (Yq.calls qu qK _ A27.out).mono ?_); rintro e w' ⟨rfl, ⟨nd, rfl⟩⟩; refine ⟨_, rfl, ?_⟩))
     (try simp only [Act.put, List.setIfInBounds_toArray, List.set_cons_zero, List.set_cons_succ])
     go_cut [] (fun wc => ∃ (kq : Nat), Aside0 (qX.j2 kq qd qu qH qF qA qt qo = some r) ∧ Aside0 (kq ≤ qls) ∧ Aside0 (wc.heap[qi]? = some (.cells #[(.slice qq qd.length qp), .int .i64 qu, .int .i64 qH, .int .i64 qF, (.slice jC qA.length jB), (.slice jK qt.length jJ), (.slice jM qo.length jL)] 33 (0, 0))) ∧ Aside0 (Below w.heap.size w wc))
     case first =>
      have H := qpw.out
      clear qpw
      by_cases c30 : qK = true
      ·subst c30
       have H1 : (if (qt.length : Int) > 40 then (some false) else (qX.j2 qls qd qu qH qF qA qt qo)) = some r := by rw [if_pos rfl] at H; exact H
       clear H
       have H := H1
       clear H1
       by_cases c31 : (qt.length : Int) > 40
       ·rw [if_pos c31] at H
        have c31b0 : decide (40 < (qt.length : Int)) = true := decide_eq_true c31
        have c31b1 : decide (40 < qt.length) = true := decide_eq_true (by omega)
        clear c31
        (first | rw [c31b0] | (simp only [i64_w, i32_w]; rw [c31b0]) | skip)
        obtain rfl := Option.some.inj H
        obtain ⟨qbH, qbG, qbF, qbE, qbD, qbC, qbB, qbp, qbo, qbn, qbm, qbl, qbk, qbj⟩ := cells7 qc.out
        go_wp2
        go_ret
        exact ⟨by first | rfl | (simp [errW_none, errW_some] <;> rfl) | (simp [*, errW_none, errW_some] <;> rfl), bw HB.out⟩
       ·rw [if_neg c31] at H
        have c31b0 : decide (40 < (qt.length : Int)) = false := decide_eq_false c31
        have c31b1 : decide (40 < qt.length) = false := decide_eq_false (by omega)
        clear c31
        (first | rw [c31b0] | (simp only [i64_w, i32_w]; rw [c31b0]) | skip)
        have H' := ak H
        clear H
        obtain ⟨qkn, qtn, qtm, qtl, qtk, qtj, qti, qju, qrI, qrH, qrG, qrF, qrE, qrD⟩ := cells7 qc.out
        go_wp2
        go_meet
        case rel => exact ⟨_, H', ⟨by have := HJ1.out; have := quC.out; first | omega | exact Nat.le_refl _⟩, ⟨bk qc.out⟩, ⟨bw HB.out⟩⟩
      ·replace c30 := Bool.eq_false_iff.mpr c30
       subst c30
       have H1 : (if (qt.length : Int) > 0 then (some false) else (qX.j2 qls qd qu qH qF qA qt qo)) = some r := by rw [if_neg (show ¬ (false = true) by decide)] at H; exact H
       clear H
       have H := H1
       clear H1
       by_cases c34 : (qt.length : Int) > 0
       ·rw [if_pos c34] at H
        have c34b0 : decide (0 < (qt.length : Int)) = true := decide_eq_true c34
        have c34b1 : decide (0 < qt.length) = true := decide_eq_true (by omega)
        clear c34
        obtain rfl := Option.some.inj H
        obtain ⟨qcE, qcD, qdR, qdQ, qdP, qdO, qdN, qcj, qci, qdB, qdA, qdz, qdy, qdx⟩ := cells7 qc.out
        go_wp2
        go_ret
        exact ⟨by first | rfl | (simp [errW_none, errW_some] <;> rfl) | (simp [*, errW_none, errW_some] <;> rfl), bw HB.out⟩
       ·rw [if_neg c34] at H
        have c34b0 : decide (0 < (qt.length : Int)) = false := decide_eq_false c34
        have c34b1 : decide (0 < qt.length) = false := decide_eq_false (by omega)
        clear c34
        have H' := ak H
        clear H
        obtain ⟨qkm, qnY, qnX, qnW, qnV, qnU, qnT, qjt, qm6, qm5, qm4, qm3, qm2, qm1⟩ := cells7 qc.out
        go_wp2
        go_meet
        case rel => exact ⟨_, H', ⟨by have := HJ1.out; have := quC.out; first | omega | exact Nat.le_refl _⟩, ⟨bk qc.out⟩, ⟨bw HB.out⟩⟩
     case rest =>
      clear qpw
      try clear c1
      try clear c2
      try clear p2
      try clear c3
      try clear c5
      try clear c5b0
      try clear c5b1
      try clear c6
      try clear c6b0
      try clear c7
      try clear c8
      try clear c8b0
      try clear c11
      try clear c11b0
      try clear c11b1
      try clear c13
      try clear c15
      try clear c17
      try clear c19
      try clear c20
      try clear c24
      try clear c24b0
      try clear c24b1
      try clear c30
      try clear c31
      try clear c31b0
      try clear c31b1
      try clear c34
      try clear c34b0
      try clear c34b1
      try clear qd2
      try clear qd1
      try clear qf3
      try clear qf2
      try clear qf1
      try clear qf0
      try clear qfZ
      try clear qcX
      try clear qhz
      try clear qhy
      try clear qhx
      try clear qhw
      try clear qhv
      try clear qhu
      try clear QN
      try clear JO
      try clear XB
      try clear XA
      try clear Xz
      try clear Xy
      try clear Xx
      try clear YV
      try clear Xw
      try clear qbN
      try clear qbM
      try clear qbL
      try clear qbK
      try clear qbJ
      try clear qaI
      try clear qcK
      try clear qd0
      try clear qdZ
      try clear qdY
      try clear qdX
      try clear qdW
      try clear XV
      try clear qbI
      try clear qcJ
      try clear qcI
      try clear qcH
      try clear qcG
      try clear qcF
      try clear qdU
      try clear qfX
      try clear qfW
      try clear qfV
      try clear qfU
      try clear qfT
      try clear qfS
      try clear qhq
      try clear qkA
      try clear qkz
      try clear qky
      try clear qkx
      try clear qkw
      try clear qkv
      try clear qfR
      try clear qhn
      try clear qks
      try clear qkr
      try clear qkq
      try clear qkp
      try clear qko
      try clear qbH
      try clear qbG
      try clear qbF
      try clear qbE
      try clear qbD
      try clear qbC
      try clear qbB
      try clear qkn
      try clear qtn
      try clear qtm
      try clear qtl
      try clear qtk
      try clear qtj
      try clear qti
      try clear qcE
      try clear qcD
      try clear qdR
      try clear qdQ
      try clear qdP
      try clear qdO
      try clear qdN
      try clear qkm
      try clear qnY
      try clear qnX
      try clear qnW
      try clear qnV
      try clear qnU
      try clear qnT
      try clear qgr
      try clear ql2
      try clear ql1
      try clear ql0
      try clear qlZ
      try clear qlY
      try clear qlX
      try clear qb6
      try clear qde
      try clear qlV
      try clear qlU
      try clear qlT
      try clear qlS
      try clear qlR
      try clear Js
      try clear Zo
      try clear qaZ
      try clear qaY
      try clear qaX
      try clear qaW
      try clear qaV
      try clear qdM
      try clear qdL
      try clear qfK
      try clear qfJ
      try clear qfI
      try clear qfH
      try clear qfG
      try clear qcC
      try clear qhg
      try clear qhf
      try clear qhe
      try clear qhd
      try clear qhc
      try clear qhb
      try clear QM
      try clear JN
      try clear Xv
      try clear Xu
      try clear Xt
      try clear Xs
      try clear Xr
      try clear YS
      try clear Xq
      try clear qbv
      try clear qbu
      try clear qbt
      try clear qbs
      try clear qbr
      try clear qaG
      try clear qcp
      try clear qdK
      try clear qdJ
      try clear qdI
      try clear qdH
      try clear qdG
      try clear XT
      try clear qbq
      try clear qco
      try clear qcn
      try clear qcm
      try clear qcl
      try clear qck
      try clear qdE
      try clear qfE
      try clear qfD
      try clear qfC
      try clear qfB
      try clear qfA
      try clear qfz
      try clear qg7
      try clear qjH
      try clear qjG
      try clear qjF
      try clear qjE
      try clear qjD
      try clear qjC
      try clear qfy
      try clear qg4
      try clear qjz
      try clear qjy
      try clear qjx
      try clear qjw
      try clear qjv
      try clear qbp
      try clear qbo
      try clear qbn
      try clear qbm
      try clear qbl
      try clear qbk
      try clear qbj
      try clear qju
      try clear qrI
      try clear qrH
      try clear qrG
      try clear qrF
      try clear qrE
      try clear qrD
      try clear qcj
      try clear qci
      try clear qdB
      try clear qdA
      try clear qdz
      try clear qdy
      try clear qdx
      try clear qjt
      try clear qm6
      try clear qm5
      try clear qm4
      try clear qm3
      try clear qm2
      try clear qm1
      try clear qgn
      try clear qlP
      try clear qlO
      try clear qlN
      try clear qlM
      try clear qlL
      try clear qlK
      try clear qb3
      try clear qdc
      try clear qlI
      try clear qlH
      try clear qlG
      try clear qlF
      try clear qlE
      try clear Jr
      try clear Zn
      try clear qaU
      try clear qaT
      try clear qaS
      try clear qaR
      try clear qaQ
      try clear p2
      obtain ⟨kq, HA, qEJ, qc, HB⟩ := hcut
      cases kq with
      | zero => exact absurd HA.out (by simp [qX.j2])
      | succ qEx =>
       have H := HA.out
       clear HA
       simp only [qX.j2] at H
       by_cases c37 : qu = 6
       ·rw [if_pos c37] at H
        have c37b0 : (qu == 6) = true := beq_iff_eq.mpr c37
        have c37b1 : (qu != 6) = false := bne_eq_false_iff_eq.mpr c37
        clear c37
        by_cases c38 : (qo.length : Int) = 2
        ·rw [if_pos c38] at H
         have c38b0 : ((qo.length : Int) == 2) = true := beq_iff_eq.mpr c38
         have c38b1 : ((qo.length : Int) != 2) = false := bne_eq_false_iff_eq.mpr c38
         clear c38
         by_cases c39 : 0 < (qo.length : Int)
         ·rw [if_pos c39] at H
          have c39b0 : decide (0 < (qo.length : Int)) = true := decide_eq_true c39
          have c39b1 : decide (0 < qo.length) = true := decide_eq_true (by omega)
          clear c39
          by_cases c40 : (rd qo 0) < 0
          ·rw [if_pos c40] at H
           have c40b0 : decide ((rd qo 0) < 0) = true := decide_eq_true c40
           clear c40
           obtain rfl := Option.some.inj H
           obtain ⟨qCg, qCf, qCe, qCd, qCc, qCb, qCa, qzD, qzC, qzB, qzA, qzz, qzy, qzx⟩ := cells7 qc.out
           have yX : 0 ≤ (0 : Int) := (by omega)
           have yW : 0 < (qo.length : Int) := of_decide_eq_true (by first | (with_reducible assumption) | assumption)
           obtain ⟨YB, XL, zs⟩ := Kd.at_int Qd.out 0 yX yW
           cases XL
           have qie : (0 < qo.length) = True := eq_true (by omega)
           (try rw [show ((0 : Int)).toNat = 0 from rfl] at zs)
           (try rw [Addr.add_zero'] at zs)
           replace zs := hc_ HB.out zs
           replace yX := eq_true yX
           replace yW := eq_true yW
           go_wp2
           go_ret
           exact ⟨by first | rfl | (simp [errW_none, errW_some] <;> rfl) | (simp [*, errW_none, errW_some] <;> rfl), bw HB.out⟩
          ·rw [if_neg c40] at H
           have c40b0 : decide ((rd qo 0) < 0) = false := decide_eq_false c40
           clear c40
           by_cases c42 : (rd qo 0) ≥ 4294967296
           ·rw [if_pos c42] at H
            have c42b0 : decide (4294967296 ≤ (rd qo 0)) = true := decide_eq_true c42
            clear c42
            obtain rfl := Option.some.inj H
            obtain ⟨qs4, qs3, qs2, qs1, qs0, qsZ, qsY, qrp, qro, qrn, qrm, qrl, qrk, qrj⟩ := cells7 qc.out
            have yX : 0 ≤ (0 : Int) := (by omega)
            have yW : 0 < (qo.length : Int) := of_decide_eq_true (by first | (with_reducible assumption) | assumption)
            obtain ⟨YB, XL, zs⟩ := Kd.at_int Qd.out 0 yX yW
            cases XL
            have qie : (0 < qo.length) = True := eq_true (by omega)
            (try rw [show ((0 : Int)).toNat = 0 from rfl] at zs)
            (try rw [Addr.add_zero'] at zs)
            replace zs := hc_ HB.out zs
            replace yX := eq_true yX
            replace yW := eq_true yW
            have yk : 0 ≤ (0 : Int) := (by omega)
            have yj : 0 < (qo.length : Int) := of_decide_eq_true (by first | (with_reducible assumption) | assumption)
            obtain ⟨Yo, YM, zi⟩ := Kd.at_int Qd.out 0 yk yj
            obtain rfl : YB = Yo := (by injection YM)
            have qoo : (0 < qo.length) = True := eq_true (by omega)
            (try rw [show ((0 : Int)).toNat = 0 from rfl] at zi)
            (try rw [Addr.add_zero'] at zi)
            replace zi := hc_ HB.out zi
            replace yk := eq_true yk
            replace yj := eq_true yj
            go_wp2
            go_ret
            exact ⟨by first | rfl | (simp [errW_none, errW_some] <;> rfl) | (simp [*, errW_none, errW_some] <;> rfl), bw HB.out⟩
           ·rw [if_neg c42] at H
            have c42b0 : decide (4294967296 ≤ (rd qo 0)) = false := decide_eq_false c42
            clear c42
            by_cases c44 : 1 < (qo.length : Int)
            ·rw [if_pos c44] at H
             have c44b0 : decide (1 < (qo.length : Int)) = true := decide_eq_true c44
             have c44b1 : decide (1 < qo.length) = true := decide_eq_true (by omega)
             clear c44
             by_cases c45 : (rd qo 1) ≥ 0
             ·rw [if_pos c45] at H
              have c45b0 : decide (0 ≤ (rd qo 1)) = true := decide_eq_true c45
              clear c45
              obtain rfl := Option.some.inj H
              obtain ⟨qkd, qkc, qkb, qka, qj9, qj8, qj7, qjk, qjj, qji, qjh, qjg, qjf, qje⟩ := cells7 qc.out
              have yX : 0 ≤ (0 : Int) := (by omega)
              have yW : 0 < (qo.length : Int) := of_decide_eq_true (by first | (with_reducible assumption) | assumption)
              obtain ⟨YB, XL, zs⟩ := Kd.at_int Qd.out 0 yX yW
              cases XL
              have qie : (0 < qo.length) = True := eq_true (by omega)
              (try rw [show ((0 : Int)).toNat = 0 from rfl] at zs)
              (try rw [Addr.add_zero'] at zs)
              replace zs := hc_ HB.out zs
              replace yX := eq_true yX
              replace yW := eq_true yW
              have yk : 0 ≤ (0 : Int) := (by omega)
              have yj : 0 < (qo.length : Int) := of_decide_eq_true (by first | (with_reducible assumption) | assumption)
              obtain ⟨Yo, YM, zi⟩ := Kd.at_int Qd.out 0 yk yj
              obtain rfl : YB = Yo := (by injection YM)
              have qoo : (0 < qo.length) = True := eq_true (by omega)
              (try rw [show ((0 : Int)).toNat = 0 from rfl] at zi)
              (try rw [Addr.add_zero'] at zi)
              replace zi := hc_ HB.out zi
              replace yk := eq_true yk
              replace yj := eq_true yj
              have Qk : 0 ≤ (1 : Int) := (by omega)
              have Qj : 1 < (qo.length : Int) := of_decide_eq_true (by first | (with_reducible assumption) | assumption)
              obtain ⟨YA, XK, zZ⟩ := Kd.at_int Qd.out 1 Qk Qj
              obtain rfl : YB = YA := (by injection XK)
              (try simp only [show (1 : Int).toNat = 1 from rfl, Nat.reduceMul, Nat.reduceEqDiff, Go.Addr.add, ↓reduceIte] at zZ)
              have qpE : (1 < qo.length) = True := eq_true (by omega)
              (try rw [show ((1 : Int)).toNat = 1 from rfl] at zZ)
              replace zZ := hc_ HB.out zZ
              replace Qk := eq_true Qk
              replace Qj := eq_true Qj
              have XI : 0 ≤ (1 : Int) := (by omega)
              have XH : 1 < (qo.length : Int) := of_decide_eq_true (by first | (with_reducible assumption) | assumption)
              obtain ⟨qaK, qga, Yj⟩ := Kd.at_int Qd.out 1 XI XH
              obtain rfl : YB = qaK := (by injection qga)
              (try simp only [show (1 : Int).toNat = 1 from rfl, Nat.reduceMul, Nat.reduceEqDiff, Go.Addr.add, ↓reduceIte] at Yj)
              have quX : (1 < qo.length) = True := eq_true (by omega)
              (try rw [show ((1 : Int)).toNat = 1 from rfl] at Yj)
              replace Yj := hc_ HB.out Yj
              replace XI := eq_true XI
              replace XH := eq_true XH
              go_wp2
              go_ret
              exact ⟨by first | rfl | (simp [errW_none, errW_some] <;> rfl) | (simp [*, errW_none, errW_some] <;> rfl), bw HB.out⟩
             ·rw [if_neg c45] at H
              have c45b0 : decide (0 ≤ (rd qo 1)) = false := decide_eq_false c45
              clear c45
              obtain rfl := Option.some.inj H
              obtain ⟨qBV, qBU, qBT, qBS, qBR, qBQ, qBP, qzi, qzh, qzg, qzf, qze, qzd, qzc⟩ := cells7 qc.out
              have yX : 0 ≤ (0 : Int) := (by omega)
              have yW : 0 < (qo.length : Int) := of_decide_eq_true (by first | (with_reducible assumption) | assumption)
              obtain ⟨YB, XL, zs⟩ := Kd.at_int Qd.out 0 yX yW
              cases XL
              have qie : (0 < qo.length) = True := eq_true (by omega)
              (try rw [show ((0 : Int)).toNat = 0 from rfl] at zs)
              (try rw [Addr.add_zero'] at zs)
              replace zs := hc_ HB.out zs
              replace yX := eq_true yX
              replace yW := eq_true yW
              have yk : 0 ≤ (0 : Int) := (by omega)
              have yj : 0 < (qo.length : Int) := of_decide_eq_true (by first | (with_reducible assumption) | assumption)
              obtain ⟨Yo, YM, zi⟩ := Kd.at_int Qd.out 0 yk yj
              obtain rfl : YB = Yo := (by injection YM)
              have qoo : (0 < qo.length) = True := eq_true (by omega)
              (try rw [show ((0 : Int)).toNat = 0 from rfl] at zi)
              (try rw [Addr.add_zero'] at zi)
              replace zi := hc_ HB.out zi
              replace yk := eq_true yk
              replace yj := eq_true yj
              have Qk : 0 ≤ (1 : Int) := (by omega)
              have Qj : 1 < (qo.length : Int) := of_decide_eq_true (by first | (with_reducible assumption) | assumption)
              obtain ⟨YA, XK, zZ⟩ := Kd.at_int Qd.out 1 Qk Qj
              obtain rfl : YB = YA := (by injection XK)
              (try simp only [show (1 : Int).toNat = 1 from rfl, Nat.reduceMul, Nat.reduceEqDiff, Go.Addr.add, ↓reduceIte] at zZ)
              have qpE : (1 < qo.length) = True := eq_true (by omega)
              (try rw [show ((1 : Int)).toNat = 1 from rfl] at zZ)
              replace zZ := hc_ HB.out zZ
              replace Qk := eq_true Qk
              replace Qj := eq_true Qj
              go_wp2
              go_ret
              exact ⟨by first | rfl | (simp [errW_none, errW_some] <;> rfl) | (simp [*, errW_none, errW_some] <;> rfl), bw HB.out⟩
            ·rw [if_neg c44] at H
             exact absurd H (by simp)
         ·rw [if_neg c39] at H
          exact absurd H (by simp)
        ·rw [if_neg c38] at H
         have c38b0 : ((qo.length : Int) == 2) = false := beq_eq_false_iff_ne.mpr c38
         have c38b1 : ((qo.length : Int) != 2) = true := bne_iff_ne.mpr c38
         obtain rfl := Option.some.inj H
         obtain ⟨qj6, qj5, qj4, qj3, qj2, qj1, qj0, qjd, qjc, qjb, qja, qi9, qi8, qi7⟩ := cells7 qc.out
         go_wp2
         go_ret
         exact ⟨by first | rfl | (simp [errW_none, errW_some] <;> rfl) | (simp [*, errW_none, errW_some] <;> rfl), bw HB.out⟩
       ·rw [if_neg c37] at H
        have c37b0 : (qu == 6) = false := beq_eq_false_iff_ne.mpr c37
        have c37b1 : (qu != 6) = true := bne_iff_ne.mpr c37
        obtain rfl := Option.some.inj H
        obtain ⟨qBO, qBN, qBM, qBL, qBK, qBJ, qBI, qzb, qza, qy9, qy8, qy7, qy6, qy5⟩ := cells7 qc.out
        go_wp2
        go_ret
        exact ⟨by first | rfl | (simp [errW_none, errW_some] <;> rfl) | (simp [*, errW_none, errW_some] <;> rfl), bw HB.out⟩


/-! ### ZD: function 60 -/
def ZD.f (k : Nat) (qd : List (List Int)) (qu : Int) (qH : Int) (qF : Int) (qA : List (List Int)) (qt : List Int) (qo : List Int) : Option (Bool) := (jw.f k qd).bind fun qG => (if qG = true then ((QP.f qu).bind fun qx => (if qx = true then (if qH ≥ 0 then (if qH ≤ 100000 then ((qX.f k qd qu qH qF qA qt qo).bind fun qK => (some qK)) else (some false)) else (some false)) else (some false))) else (some false))
set_option maxHeartbeats 8000000 in
set_option maxRecDepth 100000 in
theorem ZD.calls (k : Nat) (qq : Option Addr) (qp : Nat) (qd : List (List Int)) (qu : Int) (qH : Int) (qF : Int) (jC : Option Addr) (jB : Nat) (qA : List (List Int)) (jK : Option Addr) (jJ : Nat) (qt : List Int) (jM : Option Addr) (jL : Nat) (qo : List Int) (r : Bool) (w : World) (jd : Kd.C (Kd.slice 5 (Kd.int .u8)) w qq qd.length qd) (jg : qd.length ≤ qp) (QF : Kd.C (Kd.slice 5 (Kd.int .u8)) w jC qA.length qA) (QI : qA.length ≤ jB) (QE : Kd.C (Kd.int .u8) w jK qt.length qt) (QH : qt.length ≤ jJ) (QD : Kd.C (Kd.int .i64) w jM qo.length qo) (QG : qo.length ≤ jL) (h : ZD.f k qd qu qH qF qA qt qo = some r) :
  Calls Try.prog 60 #[.agg #[.slice qq qd.length qp, .int .i64 qu, .int .i64 qH, .int .i64 qF, .slice jC qA.length jB, .slice jK qt.length jJ, .slice jM qo.length jL]] w fun e w' => e = .returned (.bool r) ∧ Below w.heap.size w w' := by
 have qak := Try.underlying33
 have Ys := Try.underlying31
 have qW := ak jd
 have jb := ak jg
 clear jd jg
 have Jo := ak QF
 have Jp := ak QI
 clear QF QI
 have ZF := ak QE
 have Yp := ak QH
 clear QE QH
 have Qd := ak QD
 have YP := ak QG
 clear QD QG
 have HB := ak (Below.refl w.heap.size w)
 have H : ((jw.f k qd).bind fun qG => (if qG = true then ((QP.f qu).bind fun qx => (if qx = true then (if qH ≥ 0 then (if qH ≤ 100000 then ((qX.f k qd qu qH qF qA qt qo).bind fun qK => (some qK)) else (some false)) else (some false)) else (some false))) else (some false))) = some r := h
 clear h
 replace H := Option.bind_eq_some_iff.mp H
 obtain ⟨qG, A20, H⟩ := H
 replace H : (if qG = true then ((QP.f qu).bind fun qx => (if qx = true then (if qH ≥ 0 then (if qH ≤ 100000 then ((qX.f k qd qu qH qF qA qt qo).bind fun qK => (some qK)) else (some false)) else (some false)) else (some false))) else (some false)) = some r := H
 have A2 := ak A20
 clear A20
 by_cases c3 : qG = true
 ·subst c3
  have H1 : ((QP.f qu).bind fun qx => (if qx = true then (if qH ≥ 0 then (if qH ≤ 100000 then ((qX.f k qd qu qH qF qA qt qo).bind fun qK => (some qK)) else (some false)) else (some false)) else (some false))) = some r := by rw [if_pos rfl] at H; exact H
  clear H
  have H := H1
  clear H1
  replace H := Option.bind_eq_some_iff.mp H
  obtain ⟨qx, A40, H⟩ := H
  replace H : (if qx = true then (if qH ≥ 0 then (if qH ≤ 100000 then ((qX.f k qd qu qH qF qA qt qo).bind fun qK => (some qK)) else (some false)) else (some false)) else (some false)) = some r := H
  have A4 := ak A40
  clear A40
  by_cases c5 : qx = true
  ·subst c5
   have H1 : (if qH ≥ 0 then (if qH ≤ 100000 then ((qX.f k qd qu qH qF qA qt qo).bind fun qK => (some qK)) else (some false)) else (some false)) = some r := by rw [if_pos rfl] at H; exact H
   clear H
   have H := H1
   clear H1
   by_cases c6 : qH ≥ 0
   ·rw [if_pos c6] at H
    have c6b0 : decide (0 ≤ qH) = true := decide_eq_true c6
    clear c6
    by_cases c7 : qH ≤ 100000
    ·rw [if_pos c7] at H
     have c7b0 : decide (qH ≤ 100000) = true := decide_eq_true c7
     clear c7
     replace H := Option.bind_eq_some_iff.mp H
     obtain ⟨qK, A80, H⟩ := H
     replace H : (some qK) = some r := H
     have A8 := ak A80
     clear A80
     obtain rfl := Option.some.inj H
     go_enter Try.func60, Try.ntmps60
     go_wp2_with (first | ((with_reducible refine gate_dst (N := 1) rfl ?_); refine boxed (N := 1) rfl rfl (cs := #[.slice qq qd.length qp, .int .i64 qu, .int .i64 qH, .int .i64 qF, .slice jC qA.length jB, .slice jK qt.length jJ, .slice jM qo.length jL]) (t := 33) HB.out (by first | (go_simp; done) | (go_simp; rfl)) ?_; clear HB; intro qi w9 hg HB qc qm hb; have jD := qm; clear hb hg; obtain ⟨qd2, qd1, qf3, qf2, qf1, qf0, qfZ, qdM, qdL, qfK, qfJ, qfI, qfH, qfG⟩ := cells7 qc.out) | ((with_reducible refine gate_callee (f := 76) rfl ?_); refine goesL_ (some 5) rfl rfl Try.func76 (by kernel_rfl) rfl #[.agg #[.slice qq qd.length qp]] rfl (by first | rfl | (simp only [List.map_toArray, List.map_cons, List.map_nil]; first | done | rfl)) ?_; (with_reducible refine (jw.calls k _ _ qd true _ ?qk ?qj A2.out).mono ?_); (case qk => exact cw qW.out HB.out); (case qj => exact jb.out); rintro e w11 ⟨rfl, hb⟩; refine ⟨_, rfl, ?_⟩; replace qc := ak (blk_below (bk qc.out) hb); replace HB := ak (below_step (bw HB.out) hb); (try clear hb); obtain ⟨qcX, qhz, qhy, qhx, qhw, qhv, qhu, qcC, qhg, qhf, qhe, qhd, qhc, qhb⟩ := cells7 qc.out) | (go_at_call 80; (with_reducible refine (QP.calls qu true _ A4.out).mono ?_); rintro e w' ⟨rfl, ⟨nd, rfl⟩⟩) | (go_at_call 134; (with_reducible refine (qX.calls k _ _ qd qu qH qF _ _ qA _ _ qt _ _ qo qK _ ?qk ?qj ?qw ?qy ?zK ?yz ?yy ?yx A8.out).mono ?_); (case qk => repeat (first | exact (Kd.C_below qW.out (bw HB.out)) | (with_reducible refine Kd.C_alloc ?_ _) | (with_reducible refine Kd.C_drewN ?_ _) | (with_reducible refine Kd.C_drew ?_))); (case qj => exact jb.out); (case qw => repeat (first | exact (Kd.C_below Jo.out (bw HB.out)) | (with_reducible refine Kd.C_alloc ?_ _) | (with_reducible refine Kd.C_drewN ?_ _) | (with_reducible refine Kd.C_drew ?_))); (case qy => exact Jp.out); (case zK => repeat (first | exact (Kd.C_below ZF.out (bw HB.out)) | (with_reducible refine Kd.C_alloc ?_ _) | (with_reducible refine Kd.C_drewN ?_ _) | (with_reducible refine Kd.C_drew ?_))); (case yz => exact Yp.out); (case yy => repeat (first | exact (Kd.C_below Qd.out (bw HB.out)) | (with_reducible refine Kd.C_alloc ?_ _) | (with_reducible refine Kd.C_drewN ?_ _) | (with_reducible refine Kd.C_drew ?_))); (case yx => exact YP.out); rintro e w13 ⟨rfl, hb⟩; replace qc := ak (blk_below (bk qc.out) hb); replace HB := ak (below_step (bw HB.out) hb); (try clear hb)))
     go_ret
     exact ⟨by first | rfl | (simp [errW_none, errW_some] <;> rfl) | (simp [*, errW_none, errW_some] <;> rfl), bw HB.out⟩
    ·rw [if_neg c7] at H
     have c7b0 : decide (qH ≤ 100000) = false := decide_eq_false c7
     clear c7
     obtain rfl := Option.some.inj H
     go_enter Try.func60, Try.ntmps60
     go_wp2_with (first | ((with_reducible refine gate_dst (N := 1) rfl ?_); refine boxed (N := 1) rfl rfl (cs := #[.slice qq qd.length qp, .int .i64 qu, .int .i64 qH, .int .i64 qF, .slice jC qA.length jB, .slice jK qt.length jJ, .slice jM qo.length jL]) (t := 33) HB.out (by first | (go_simp; done) | (go_simp; rfl)) ?_; clear HB; intro qi w14 hg HB qc qm hb; have jD := qm; clear hb hg; obtain ⟨qcR, qcQ, qkL, qkK, qkJ, qkI, qkH, qcw, qcv, qjS, qjR, qjQ, qjP, qjO⟩ := cells7 qc.out) | ((with_reducible refine gate_callee (f := 76) rfl ?_); refine goesL_ (some 5) rfl rfl Try.func76 (by kernel_rfl) rfl #[.agg #[.slice qq qd.length qp]] rfl (by first | rfl | (simp only [List.map_toArray, List.map_cons, List.map_nil]; first | done | rfl)) ?_; (with_reducible refine (jw.calls k _ _ qd true _ ?qk ?qj A2.out).mono ?_); (case qk => exact cw qW.out HB.out); (case qj => exact jb.out); rintro e w16 ⟨rfl, hb⟩; refine ⟨_, rfl, ?_⟩; replace qc := ak (blk_below (bk qc.out) hb); replace HB := ak (below_step (bw HB.out) hb); (try clear hb); obtain ⟨qkG, qoi, qtC, qtB, qtA, qtz, qty, qjN, qnq, qrX, qrW, qrV, qrU, qrT⟩ := cells7 qc.out) | (go_at_call 80; (with_reducible refine (QP.calls qu true _ A4.out).mono ?_); rintro e w' ⟨rfl, ⟨nd, rfl⟩⟩))
     go_ret
     exact ⟨by first | rfl | (simp [errW_none, errW_some] <;> rfl) | (simp [*, errW_none, errW_some] <;> rfl), bw HB.out⟩
   ·rw [if_neg c6] at H
    have c6b0 : decide (0 ≤ qH) = false := decide_eq_false c6
    clear c6
    obtain rfl := Option.some.inj H
    go_enter Try.func60, Try.ntmps60
    go_wp2_with (first | ((with_reducible refine gate_dst (N := 1) rfl ?_); refine boxed (N := 1) rfl rfl (cs := #[.slice qq qd.length qp, .int .i64 qu, .int .i64 qH, .int .i64 qF, .slice jC qA.length jB, .slice jK qt.length jJ, .slice jM qo.length jL]) (t := 33) HB.out (by first | (go_simp; done) | (go_simp; rfl)) ?_; clear HB; intro qi w18 hg HB qc qm hb; have jD := qm; clear hb hg; obtain ⟨qht, qoh, qtx, qtw, qtv, qtu, qtt, qha, qnp, qrS, qrR, qrQ, qrP, qrO⟩ := cells7 qc.out) | ((with_reducible refine gate_callee (f := 76) rfl ?_); refine goesL_ (some 5) rfl rfl Try.func76 (by kernel_rfl) rfl #[.agg #[.slice qq qd.length qp]] rfl (by first | rfl | (simp only [List.map_toArray, List.map_cons, List.map_nil]; first | done | rfl)) ?_; (with_reducible refine (jw.calls k _ _ qd true _ ?qk ?qj A2.out).mono ?_); (case qk => exact cw qW.out HB.out); (case qj => exact jb.out); rintro e w20 ⟨rfl, hb⟩; refine ⟨_, rfl, ?_⟩; replace qc := ak (blk_below (bk qc.out) hb); replace HB := ak (below_step (bw HB.out) hb); (try clear hb); obtain ⟨qog, qof, qts, qtr, qtq, qtp, qto, qno, qnn, qrN, qrM, qrL, qrK, qrJ⟩ := cells7 qc.out) | (go_at_call 80; (with_reducible refine (QP.calls qu true _ A4.out).mono ?_); rintro e w' ⟨rfl, ⟨nd, rfl⟩⟩))
    go_ret
    exact ⟨by first | rfl | (simp [errW_none, errW_some] <;> rfl) | (simp [*, errW_none, errW_some] <;> rfl), bw HB.out⟩
  ·replace c5 := Bool.eq_false_iff.mpr c5
   subst c5
   have H1 : (some false) = some r := by rw [if_neg (show ¬ (false = true) by decide)] at H; exact H
   clear H
   have H := H1
   clear H1
   obtain rfl := Option.some.inj H
   go_enter Try.func60, Try.ntmps60
   go_wp2_with (first | ((with_reducible refine gate_dst (N := 1) rfl ?_); refine boxed (N := 1) rfl rfl (cs := #[.slice qq qd.length qp, .int .i64 qu, .int .i64 qH, .int .i64 qF, .slice jC qA.length jB, .slice jK qt.length jJ, .slice jM qo.length jL]) (t := 33) HB.out (by first | (go_simp; done) | (go_simp; rfl)) ?_; clear HB; intro qi w22 hg HB qc qm hb; have jD := qm; clear hb hg; obtain ⟨qdV, qhs, qoe, qod, qoc, qob, qoa, qdF, qg9, qnm, qnl, qnk, qnj, qni⟩ := cells7 qc.out) | ((with_reducible refine gate_callee (f := 76) rfl ?_); refine goesL_ (some 5) rfl rfl Try.func76 (by kernel_rfl) rfl #[.agg #[.slice qq qd.length qp]] rfl (by first | rfl | (simp only [List.map_toArray, List.map_cons, List.map_nil]; first | done | rfl)) ?_; (with_reducible refine (jw.calls k _ _ qd true _ ?qk ?qj A2.out).mono ?_); (case qk => exact cw qW.out HB.out); (case qj => exact jb.out); rintro e w24 ⟨rfl, hb⟩; refine ⟨_, rfl, ?_⟩; replace qc := ak (blk_below (bk qc.out) hb); replace HB := ak (below_step (bw HB.out) hb); (try clear hb); obtain ⟨qdU, qfX, qfW, qfV, qfU, qfT, qfS, qdE, qfE, qfD, qfC, qfB, qfA, qfz⟩ := cells7 qc.out) | (go_at_call 80; (with_reducible refine (QP.calls qu false _ A4.out).mono ?_); rintro e w' ⟨rfl, ⟨nd, rfl⟩⟩))
   go_ret
   exact ⟨by first | rfl | (simp [errW_none, errW_some] <;> rfl) | (simp [*, errW_none, errW_some] <;> rfl), bw HB.out⟩
 ·replace c3 := Bool.eq_false_iff.mpr c3
  subst c3
  have H1 : (some false) = some r := by rw [if_neg (show ¬ (false = true) by decide)] at H; exact H
  clear H
  have H := H1
  clear H1
  obtain rfl := Option.some.inj H
  go_enter Try.func60, Try.ntmps60
  go_wp2_with (first | ((with_reducible refine gate_dst (N := 1) rfl ?_); refine boxed (N := 1) rfl rfl (cs := #[.slice qq qd.length qp, .int .i64 qu, .int .i64 qH, .int .i64 qF, .slice jC qA.length jB, .slice jK qt.length jJ, .slice jM qo.length jL]) (t := 33) HB.out (by first | (go_simp; done) | (go_simp; rfl)) ?_; clear HB; intro qi w26 hg HB qc qm hb; have jD := qm; clear hb hg; obtain ⟨qku, qkt, qn9, qn8, qn7, qn6, qn5, qjB, qjA, qnh, qng, qnf, qne, qnd⟩ := cells7 qc.out) | ((with_reducible refine gate_callee (f := 76) rfl ?_); refine goesL_ (some 5) rfl rfl Try.func76 (by kernel_rfl) rfl #[.agg #[.slice qq qd.length qp]] rfl (by first | rfl | (simp only [List.map_toArray, List.map_cons, List.map_nil]; first | done | rfl)) ?_; (with_reducible refine (jw.calls k _ _ qd false _ ?qk ?qj A2.out).mono ?_); (case qk => exact cw qW.out HB.out); (case qj => exact jb.out); rintro e w28 ⟨rfl, hb⟩; refine ⟨_, rfl, ?_⟩; replace qc := ak (blk_below (bk qc.out) hb); replace HB := ak (below_step (bw HB.out) hb); (try clear hb)))
  go_ret
  exact ⟨by first | rfl | (simp [errW_none, errW_some] <;> rfl) | (simp [*, errW_none, errW_some] <;> rfl), bw HB.out⟩


/-! ### zd: function 136 -/

def zd.v (a b : List Int) : Int := if Op.bytesLess (strOfNums a).toList (strOfNums b).toList = true then -1 else if ((strOfNums a).toList == (strOfNums b).toList) = true then 0 else 1
def zd.f (l0 : List Int) (l1 : List Int) : Option Int := some (zd.v l0 l1)
set_option maxHeartbeats 8000000 in
set_option maxRecDepth 100000 in
theorem zd.calls (A0 : Option Addr) (c0 : Nat) (l0 : List Int) (A1 : Option Addr) (c1 : Nat) (l1 : List Int) (r : Int) (w : World) (hr0 : Kd.C (Kd.int .u8) w A0 l0.length l0) (hc0 : l0.length ≤ c0) (hr1 : Kd.C (Kd.int .u8) w A1 l1.length l1) (hc1 : l1.length ≤ c1) (h : zd.f l0 l1 = some r) :
  Calls Try.prog 136 #[.slice A0 l0.length c0, .slice A1 l1.length c1] w fun e w' => e = .returned (.int .i64 r) ∧ Drawn0 w w' := by
 have h0 := Kd.C_string (P := Try.prog) (A := A0) (c := c0) Try.underlying25 Try.underlying5 Try.underlying9 hr0
 have h1 := Kd.C_string (P := Try.prog) (A := A1) (c := c1) Try.underlying25 Try.underlying5 Try.underlying9 hr1
 have hr : zd.v l0 l1 = r := Option.some.inj h
 subst hr
 clear h hr0 hr1
 unfold zd.v
 by_cases c1 : Op.bytesLess (strOfNums l0).toList (strOfNums l1).toList = true
 ·rw [if_pos c1]
  go_enter Try.func136, Try.ntmps136
  go_wp2
  go_ret
  exact ⟨rfl, Drawn0.refl _⟩
 ·rw [if_neg c1]
  have c1' : Op.bytesLess (strOfNums l0).toList (strOfNums l1).toList = false := by simpa using c1
  clear c1
  by_cases c2 : ((strOfNums l0).toList == (strOfNums l1).toList) = true
  ·rw [if_pos c2]
   go_enter Try.func136, Try.ntmps136
   go_wp2
   go_ret
   exact ⟨rfl, Drawn0.refl _⟩
  ·rw [if_neg c2]
   have c2' : ((strOfNums l0).toList == (strOfNums l1).toList) = false := by simpa using c2
   clear c2
   go_enter Try.func136, Try.ntmps136
   go_wp2
   go_ret
   exact ⟨rfl, Drawn0.refl _⟩


/-! ### jc: function 98 -/
mutual
def jc.l0 : Nat → Int → List (List Int) → List (List Int) → Option (Int)
 | 0, _, _, _ => none
 | k + 1, x5, qU, zH => if x5 ≤ (qU.length : Int) then (jc.j1 k x5 (decide (x5 ≤ (zH.length : Int))) qU zH) else (jc.j1 k x5 false qU zH)
def jc.j1 : Nat → Int → Bool → List (List Int) → List (List Int) → Option (Int)
 | 0, _, _, _, _ => none
 | k + 1, x5, x18, qU, zH => if x18 = true then (if 0 ≤ (wrap64 ((qU.length : Int) - x5)) then (if (wrap64 ((qU.length : Int) - x5)) < (qU.length : Int) then (if 0 ≤ (wrap64 ((zH.length : Int) - x5)) then (if (wrap64 ((zH.length : Int) - x5)) < (zH.length : Int) then ((zd.f (qP qU (wrap64 ((qU.length : Int) - x5))) (qP zH (wrap64 ((zH.length : Int) - x5)))).bind fun qS => (if qS = 0 then (jc.l0 k (wrap64 (x5 + 1)) qU zH) else (some qS))) else (none)) else (none)) else (none)) else (none)) else (if (qU.length : Int) = (zH.length : Int) then (some 0) else (if (qU.length : Int) < (zH.length : Int) then (some (-1)) else (some 1)))
end
def jc.f (k : Nat) (qd : List (List Int)) (qn : List (List Int)) : Option (Int) := jc.l0 k 1 qd qn
set_option maxHeartbeats 8000000 in
set_option maxRecDepth 100000 in
theorem jc.calls (k : Nat) (qq : Option Addr) (qp : Nat) (qd : List (List Int)) (jn : Option Addr) (jm : Nat) (qn : List (List Int)) (r : Int) (w : World) (jd : Kd.C (Kd.slice 5 (Kd.int .u8)) w qq qd.length qd) (jg : qd.length ≤ qp) (yA : Kd.C (Kd.slice 5 (Kd.int .u8)) w jn qn.length qn) (yS : qn.length ≤ jm) (h : jc.f k qd qn = some r) :
  Calls Try.prog 98 #[.agg #[.slice qq qd.length qp], .agg #[.slice jn qn.length jm]] w fun e w' => e = .returned (.int .i64 r) ∧ Below w.heap.size w w' := by
 have Ys := Try.underlying31
 have qW := ak jd
 have jb := ak jg
 clear jd jg
 have yo := ak yA
 have yE := ak yS
 clear yA yS
 have HB := ak (Below.refl w.heap.size w)
 have H : (jc.l0 k 1 qd qn) = some r := h
 clear h
 have H' := ak H
 clear H
 go_enter Try.func98, Try.ntmps98
 go_wp2_with (first | ((with_reducible refine gate_dst (N := 2) rfl ?_); (try (refine gate_guard (by rfl) ?_; dsimp only)); refine boxed (N := 2) rfl rfl (cs := #[.slice qq qd.length qp]) (t := 31) HB.out (by first | (go_simp; done) | (go_simp; rfl)) ?_; clear HB; intro qi w3 hg HB qc qm hb; have jD := qm; clear hb hg) | ((with_reducible refine gate_dst (N := 3) rfl ?_); (try (refine gate_guard (by rfl) ?_; dsimp only)); refine box_event ?hg (N := 3) ?hd (cs := #[.slice jn qn.length jm]) (t := 31) ?hr ?_; (case hd => rfl); (case hg => rfl); (case hr => first | (go_simp; done) | (go_simp; rfl)); intro qg hg w4 hbox hb; have qf := ak (hbox); have QS := ak ((by rw [hg]; exact (below_size (bw HB.out)) : w.heap.size ≤ qg)); have ji := ak ((by rw [hg]; exact (below_size (bw HB.out)) : w.heap.size ≤ qg)); replace HB := ak (below_step (bw HB.out) hb); have qO := ak ((by rw [hg]; exact Nat.ne_of_lt (blk_lt (bk qc.out)) : qi ≠ qg)); have qN := ak ((by rw [hg]; exact Nat.ne_of_gt (blk_lt (bk qc.out)) : qg ≠ qi)); replace qc := ak (blk_below (bk qc.out) hb); clear hb hbox hg))
 repeat (go_quiet (first | ((with_reducible refine gate_dst (N := 2) rfl ?_); (try (refine gate_guard (by rfl) ?_; dsimp only)); refine boxed (N := 2) rfl rfl (cs := #[.slice qq qd.length qp]) (t := 31) HB.out (by first | (go_simp; done) | (go_simp; rfl)) ?_; clear HB; intro qi w3 hg HB qc qm hb; have jD := qm; clear hb hg) | ((with_reducible refine gate_dst (N := 3) rfl ?_); (try (refine gate_guard (by rfl) ?_; dsimp only)); refine box_event ?hg (N := 3) ?hd (cs := #[.slice jn qn.length jm]) (t := 31) ?hr ?_; (case hd => rfl); (case hg => rfl); (case hr => first | (go_simp; done) | (go_simp; rfl)); intro qg hg w4 hbox hb; have qf := ak (hbox); have QS := ak ((by rw [hg]; exact (below_size (bw HB.out)) : w.heap.size ≤ qg)); have ji := ak ((by rw [hg]; exact (below_size (bw HB.out)) : w.heap.size ≤ qg)); replace HB := ak (below_step (bw HB.out) hb); have qO := ak ((by rw [hg]; exact Nat.ne_of_lt (blk_lt (bk qc.out)) : qi ≠ qg)); have qN := ak ((by rw [hg]; exact Nat.ne_of_gt (blk_lt (bk qc.out)) : qg ≠ qi)); replace qc := ak (blk_below (bk qc.out) hb); clear hb hbox hg)); try go_wp2_with (first | ((with_reducible refine gate_dst (N := 2) rfl ?_); (try (refine gate_guard (by rfl) ?_; dsimp only)); refine boxed (N := 2) rfl rfl (cs := #[.slice qq qd.length qp]) (t := 31) HB.out (by first | (go_simp; done) | (go_simp; rfl)) ?_; clear HB; intro qi w3 hg HB qc qm hb; have jD := qm; clear hb hg) | ((with_reducible refine gate_dst (N := 3) rfl ?_); (try (refine gate_guard (by rfl) ?_; dsimp only)); refine box_event ?hg (N := 3) ?hd (cs := #[.slice jn qn.length jm]) (t := 31) ?hr ?_; (case hd => rfl); (case hg => rfl); (case hr => first | (go_simp; done) | (go_simp; rfl)); intro qg hg w4 hbox hb; have qf := ak (hbox); have QS := ak ((by rw [hg]; exact (below_size (bw HB.out)) : w.heap.size ≤ qg)); have ji := ak ((by rw [hg]; exact (below_size (bw HB.out)) : w.heap.size ≤ qg)); replace HB := ak (below_step (bw HB.out) hb); have qO := ak ((by rw [hg]; exact Nat.ne_of_lt (blk_lt (bk qc.out)) : qi ≠ qg)); have qN := ak ((by rw [hg]; exact Nat.ne_of_gt (blk_lt (bk qc.out)) : qg ≠ qi)); replace qc := ak (blk_below (bk qc.out) hb); clear hb hbox hg)))
 go_loopg [5] k (fun kq v5 w' => ∃ (qh : Int), v5 = .int .i64 qh ∧ Aside0 (jc.l0 kq qh qd qn = some r) ∧ Aside0 (kq ≤ k) ∧ Aside0 (w'.heap[qi]? = some (.cells #[(.slice qq qd.length qp)] 31 (0, 0))) ∧ Aside0 (w'.heap[qg]? = some (.cells #[(.slice jn qn.length jm)] 31 (0, 0))) ∧ Aside0 (Below w.heap.size w w'))
 case atStart => exact ⟨(1), (by first | rfl | (simp; done) | (simp [*]; done)), H', ⟨Nat.le_refl _⟩, ⟨bk qc.out⟩, ⟨bk qf.out⟩, ⟨bw HB.out⟩⟩
 case round =>
  clear H'
  try clear c1
  try clear p2
  obtain ⟨qh, rfl, HA, HK1, qc, qf, HB⟩ := hrel
  cases gk with
  | zero => exact absurd HA.out (by simp [jc.l0])
  | succ k1 =>
   have H := HA.out
   clear HA
   simp only [jc.l0] at H
   have HC5 := ak H
   clear H
   go_upto_region 2 with (fail)
   repeat (go_quiet (fail); go_upto_region 2 with (fail))
   go_cut [18] (fun v18 wc => ∃ (kq : Nat) (qlc : Bool), v18 = .bool qlc ∧ Aside0 (jc.j1 kq qh qlc qd qn = some r) ∧ Aside0 (kq ≤ k1) ∧ Aside0 (wc.heap[qi]? = some (.cells #[(.slice qq qd.length qp)] 31 (0, 0))) ∧ Aside0 (wc.heap[qg]? = some (.cells #[(.slice jn qn.length jm)] 31 (0, 0))) ∧ Aside0 (Below w.heap.size w wc))
   case first =>
    have H := HC5.out
    clear HC5
    by_cases c6 : qh ≤ (qd.length : Int)
    ·rw [if_pos c6] at H
     have c6b0 : decide (qh ≤ (qd.length : Int)) = true := decide_eq_true c6
     clear c6
     (first | rw [c6b0] | (simp only [i64_w, i32_w]; rw [c6b0]) | skip)
     have H' := ak H
     clear H
     have qou := qO.out
     have qos := qN.out
     obtain ⟨qam, qal⟩ := cells1 qc.out
     obtain ⟨Js, Jr⟩ := cells1 qf.out
     go_wp2
     repeat (go_quiet (fail); try go_wp2)
     go_meet
     case rel => exact ⟨_, (decide (qh ≤ (qn.length : Int))), (by first | rfl | (simp; done) | (simp [*]; done)), H', ⟨by have := HK1.out; first | omega | exact Nat.le_refl _⟩, ⟨bk qc.out⟩, ⟨bk qf.out⟩, ⟨bw HB.out⟩⟩
    ·rw [if_neg c6] at H
     have c6b0 : decide (qh ≤ (qd.length : Int)) = false := decide_eq_false c6
     clear c6
     (first | rw [c6b0] | (simp only [i64_w, i32_w]; rw [c6b0]) | skip)
     have H' := ak H
     clear H
     have qpP := qO.out
     have qpM := qN.out
     obtain ⟨JZ, JY⟩ := cells1 qc.out
     go_wp2
     repeat (go_quiet (fail); try go_wp2)
     go_meet
     case rel => exact ⟨_, (false), (by first | rfl | (simp; done) | (simp [*]; done)), H', ⟨by have := HK1.out; first | omega | exact Nat.le_refl _⟩, ⟨bk qc.out⟩, ⟨bk qf.out⟩, ⟨bw HB.out⟩⟩
   case rest =>
    clear HC5
    try clear c1
    try clear p2
    try clear c6
    try clear c6b0
    try clear c7
    try clear c9
    try clear c10
    try clear JZ
    try clear qam
    try clear Js
    try clear JY
    try clear qal
    try clear Jr
    try clear p2
    obtain ⟨kq, qlc, rfl, HA, HJ4, qc, qf, HB⟩ := hcut
    cases kq with
    | zero => exact absurd HA.out (by simp [jc.j1])
    | succ kj4 =>
     have H := HA.out
     clear HA
     simp only [jc.j1] at H
     by_cases c12 : qlc = true
     ·subst c12
      have H1 : (if 0 ≤ (wrap64 ((qd.length : Int) - qh)) then (if (wrap64 ((qd.length : Int) - qh)) < (qd.length : Int) then (if 0 ≤ (wrap64 ((qn.length : Int) - qh)) then (if (wrap64 ((qn.length : Int) - qh)) < (qn.length : Int) then ((zd.f (qP qd (wrap64 ((qd.length : Int) - qh))) (qP qn (wrap64 ((qn.length : Int) - qh)))).bind fun qS => (if qS = 0 then (jc.l0 kj4 (wrap64 (qh + 1)) qd qn) else (some qS))) else (none)) else (none)) else (none)) else (none)) = some r := by rw [if_pos rfl] at H; exact H
      clear H
      have H := H1
      clear H1
      obtain ⟨Xi, qlh⟩ : ∃ j_ : Int, (wrap64 ((qd.length : Int) - qh)) = j_ := ⟨_, rfl⟩
      replace H : (if 0 ≤ (Xi) then (if (Xi) < (qd.length : Int) then (if 0 ≤ (wrap64 ((qn.length : Int) - qh)) then (if (wrap64 ((qn.length : Int) - qh)) < (qn.length : Int) then ((zd.f (qP qd (Xi)) (qP qn (wrap64 ((qn.length : Int) - qh)))).bind fun qS => (if qS = 0 then (jc.l0 kj4 (wrap64 (qh + 1)) qd qn) else (some qS))) else (none)) else (none)) else (none)) else (none)) = some r := by first | (rw [qlh] at H; exact H) | (simp only [qlh] at H ⊢; exact H)
      have hji13w : (IntKind.i64.wrap ((qd.length : Int) - qh)) = Xi := (i64_w _).trans qlh
      by_cases c14 : 0 ≤ (Xi)
      ·rw [if_pos c14] at H
       have c14b0 : decide (0 ≤ (Xi)) = true := decide_eq_true c14
       clear c14
       by_cases c15 : (Xi) < (qd.length : Int)
       ·rw [if_pos c15] at H
        have c15b0 : decide ((Xi) < (qd.length : Int)) = true := decide_eq_true c15
        clear c15
        obtain ⟨Xo, qlg⟩ : ∃ j_ : Int, (wrap64 ((qn.length : Int) - qh)) = j_ := ⟨_, rfl⟩
        replace H : (if 0 ≤ (Xo) then (if (Xo) < (qn.length : Int) then ((zd.f (qP qd (Xi)) (qP qn (Xo))).bind fun qS => (if qS = 0 then (jc.l0 kj4 (wrap64 (qh + 1)) qd qn) else (some qS))) else (none)) else (none)) = some r := by first | (rw [qlg] at H; exact H) | (simp only [qlg] at H ⊢; exact H)
        have hji16w : (IntKind.i64.wrap ((qn.length : Int) - qh)) = Xo := (i64_w _).trans qlg
        by_cases c17 : 0 ≤ (Xo)
        ·rw [if_pos c17] at H
         have c17b0 : decide (0 ≤ (Xo)) = true := decide_eq_true c17
         clear c17
         by_cases c18 : (Xo) < (qn.length : Int)
         ·rw [if_pos c18] at H
          have c18b0 : decide ((Xo) < (qn.length : Int)) = true := decide_eq_true c18
          clear c18
          replace H := Option.bind_eq_some_iff.mp H
          obtain ⟨qS, qgC, H⟩ := H
          replace H : (if qS = 0 then (jc.l0 kj4 (wrap64 (qh + 1)) qd qn) else (some qS)) = some r := H
          have A19 := ak qgC
          clear qgC
          by_cases c20 : qS = 0
          ·rw [if_pos c20] at H
           have c20b0 : (qS == 0) = true := beq_iff_eq.mpr c20
           have c20b1 : (qS != 0) = false := bne_eq_false_iff_eq.mpr c20
           clear c20
           have H' := ak H
           clear H
           have qvf := qO.out
           have qu7 := qN.out
           obtain ⟨XV, XT⟩ := cells1 qc.out
           have zv : 0 ≤ ((Xi) : Int) := of_decide_eq_true (by first | (with_reducible assumption) | assumption)
           have zt : (Xi) < (qd.length : Int) := of_decide_eq_true (by first | (with_reducible assumption) | assumption)
           obtain ⟨qJ, jz, jy, Zg, jP, ya, yb⟩ := Ju qW.out (Xi) zv zt
           cases Zg
           replace jP := hc_ HB.out jP
           have jk := ak yb
           have zk := ak ya
           clear yb ya
           replace zv := eq_true zv
           replace zt := eq_true zt
           obtain ⟨qdV, qdF⟩ := cells1 qf.out
           have yt : 0 ≤ ((Xo) : Int) := of_decide_eq_true (by first | (with_reducible assumption) | assumption)
           have yr : (Xo) < (qn.length : Int) := of_decide_eq_true (by first | (with_reducible assumption) | assumption)
           obtain ⟨zp, zR, zQ, Yt, zC, QY, Jh⟩ := Ju yo.out (Xo) yt yr
           cases Yt
           replace zC := hc_ HB.out zC
           have yc := ak Jh
           have yd := ak QY
           clear Jh QY
           replace yt := eq_true yt
           replace yr := eq_true yr
           go_wp2_with (first | (go_at_call 136; (with_reducible refine (zd.calls _ _ (qP qd (Xi)) _ _ (qP qn (Xo)) qS _ ?qk ?qj ?qw ?qy A19.out).mono ?_); (case qk => exact cw jk.out HB.out); (case qj => exact zk.out); (case qw => exact cw yc.out HB.out); (case qy => exact yd.out); rintro e w' ⟨rfl, ⟨nd, rfl⟩⟩; (try first | exact ⟨rfl, _, World.drewN_drewN _ _ _⟩ | exact ⟨rfl, _, Eq.trans (World.drewN_drewN _ _ _) (congrArg (World.drewN _) (Nat.add_assoc _ _ _))⟩)))
           repeat (go_quiet (first | (go_at_call 136; (with_reducible refine (zd.calls _ _ (qP qd (Xi)) _ _ (qP qn (Xo)) qS _ ?qk ?qj ?qw ?qy A19.out).mono ?_); (case qk => exact cw jk.out HB.out); (case qj => exact zk.out); (case qw => exact cw yc.out HB.out); (case qy => exact yd.out); rintro e w' ⟨rfl, ⟨nd, rfl⟩⟩; (try first | exact ⟨rfl, _, World.drewN_drewN _ _ _⟩ | exact ⟨rfl, _, Eq.trans (World.drewN_drewN _ _ _) (congrArg (World.drewN _) (Nat.add_assoc _ _ _))⟩))); try go_wp2_with (first | (go_at_call 136; (with_reducible refine (zd.calls _ _ (qP qd (Xi)) _ _ (qP qn (Xo)) qS _ ?qk ?qj ?qw ?qy A19.out).mono ?_); (case qk => exact cw jk.out HB.out); (case qj => exact zk.out); (case qw => exact cw yc.out HB.out); (case qy => exact yd.out); rintro e w' ⟨rfl, ⟨nd, rfl⟩⟩; (try first | exact ⟨rfl, _, World.drewN_drewN _ _ _⟩ | exact ⟨rfl, _, Eq.trans (World.drewN_drewN _ _ _) (congrArg (World.drewN _) (Nat.add_assoc _ _ _))⟩))))
           go_roundg kj4
           case measure => have := HK1.out; have := HJ4.out; omega
           case rel => exact ⟨(wrap64 (qh + 1)), (by first | rfl | (simp; done) | (simp [*]; done)), H', ⟨by have := HK1.out; have := HJ4.out; omega⟩, ⟨bk qc.out⟩, ⟨bk qf.out⟩, ⟨bw HB.out⟩⟩
          ·rw [if_neg c20] at H
           have c20b0 : (qS == 0) = false := beq_eq_false_iff_ne.mpr c20
           have c20b1 : (qS != 0) = true := bne_iff_ne.mpr c20
           obtain rfl := Option.some.inj H
           have qve := qO.out
           have qu6 := qN.out
           obtain ⟨qdU, qdE⟩ := cells1 qc.out
           have zv : 0 ≤ ((Xi) : Int) := of_decide_eq_true (by first | (with_reducible assumption) | assumption)
           have zt : (Xi) < (qd.length : Int) := of_decide_eq_true (by first | (with_reducible assumption) | assumption)
           obtain ⟨qJ, jz, jy, Zg, jP, ya, yb⟩ := Ju qW.out (Xi) zv zt
           cases Zg
           replace jP := hc_ HB.out jP
           have jk := ak yb
           have zk := ak ya
           clear yb ya
           replace zv := eq_true zv
           replace zt := eq_true zt
           obtain ⟨qhq, qg7⟩ := cells1 qf.out
           have yt : 0 ≤ ((Xo) : Int) := of_decide_eq_true (by first | (with_reducible assumption) | assumption)
           have yr : (Xo) < (qn.length : Int) := of_decide_eq_true (by first | (with_reducible assumption) | assumption)
           obtain ⟨zp, zR, zQ, Yt, zC, QY, Jh⟩ := Ju yo.out (Xo) yt yr
           cases Yt
           replace zC := hc_ HB.out zC
           have yc := ak Jh
           have yd := ak QY
           clear Jh QY
           replace yt := eq_true yt
           replace yr := eq_true yr
           go_wp2_with (first | (go_at_call 136; (with_reducible refine (zd.calls _ _ (qP qd (Xi)) _ _ (qP qn (Xo)) qS _ ?qk ?qj ?qw ?qy A19.out).mono ?_); (case qk => exact cw jk.out HB.out); (case qj => exact zk.out); (case qw => exact cw yc.out HB.out); (case qy => exact yd.out); rintro e w' ⟨rfl, ⟨nd, rfl⟩⟩; (try first | exact ⟨rfl, _, World.drewN_drewN _ _ _⟩ | exact ⟨rfl, _, Eq.trans (World.drewN_drewN _ _ _) (congrArg (World.drewN _) (Nat.add_assoc _ _ _))⟩)))
           repeat (go_quiet (first | (go_at_call 136; (with_reducible refine (zd.calls _ _ (qP qd (Xi)) _ _ (qP qn (Xo)) qS _ ?qk ?qj ?qw ?qy A19.out).mono ?_); (case qk => exact cw jk.out HB.out); (case qj => exact zk.out); (case qw => exact cw yc.out HB.out); (case qy => exact yd.out); rintro e w' ⟨rfl, ⟨nd, rfl⟩⟩; (try first | exact ⟨rfl, _, World.drewN_drewN _ _ _⟩ | exact ⟨rfl, _, Eq.trans (World.drewN_drewN _ _ _) (congrArg (World.drewN _) (Nat.add_assoc _ _ _))⟩))); try go_wp2_with (first | (go_at_call 136; (with_reducible refine (zd.calls _ _ (qP qd (Xi)) _ _ (qP qn (Xo)) qS _ ?qk ?qj ?qw ?qy A19.out).mono ?_); (case qk => exact cw jk.out HB.out); (case qj => exact zk.out); (case qw => exact cw yc.out HB.out); (case qy => exact yd.out); rintro e w' ⟨rfl, ⟨nd, rfl⟩⟩; (try first | exact ⟨rfl, _, World.drewN_drewN _ _ _⟩ | exact ⟨rfl, _, Eq.trans (World.drewN_drewN _ _ _) (congrArg (World.drewN _) (Nat.add_assoc _ _ _))⟩))))
           go_ret
           exact ⟨by first | rfl | (simp [errW_none, errW_some] <;> rfl) | (simp only [← qlh, ← qlg]; first | rfl | (simp [errW_none, errW_some] <;> rfl)) | (simp [*, errW_none, errW_some] <;> rfl), bw HB.out⟩
         ·rw [if_neg c18] at H
          exact absurd H (by simp)
        ·rw [if_neg c17] at H
         exact absurd H (by simp)
       ·rw [if_neg c15] at H
        exact absurd H (by simp)
      ·rw [if_neg c14] at H
       exact absurd H (by simp)
     ·replace c12 := Bool.eq_false_iff.mpr c12
      subst c12
      have H1 : (if (qd.length : Int) = (qn.length : Int) then (some 0) else (if (qd.length : Int) < (qn.length : Int) then (some (-1)) else (some 1))) = some r := by rw [if_neg (show ¬ (false = true) by decide)] at H; exact H
      clear H
      have H := H1
      clear H1
      by_cases c27 : (qd.length : Int) = (qn.length : Int)
      ·rw [if_pos c27] at H
       have c27b0 : ((qd.length : Int) == (qn.length : Int)) = true := beq_iff_eq.mpr c27
       have c27b1 : ((qd.length : Int) != (qn.length : Int)) = false := bne_eq_false_iff_eq.mpr c27
       have c27b2 : (qd.length == qn.length) = true := by first | simpa using c27 | (simp at c27 ⊢; omega)
       clear c27
       obtain rfl := Option.some.inj H
       have qEa := qO.out
       have qDI := qN.out
       obtain ⟨qfR, qfy⟩ := cells1 qc.out
       obtain ⟨qfQ, qfx⟩ := cells1 qf.out
       go_wp2
       repeat (go_quiet (fail); try go_wp2)
       go_ret
       exact ⟨by first | rfl | (simp [errW_none, errW_some] <;> rfl) | (simp [*, errW_none, errW_some] <;> rfl), bw HB.out⟩
      ·rw [if_neg c27] at H
       have c27b0 : ((qd.length : Int) == (qn.length : Int)) = false := beq_eq_false_iff_ne.mpr c27
       have c27b1 : ((qd.length : Int) != (qn.length : Int)) = true := bne_iff_ne.mpr c27
       have c27b2 : (qd.length == qn.length) = false := by first | simpa using c27 | (simp at c27 ⊢; omega)
       by_cases c31 : (qd.length : Int) < (qn.length : Int)
       ·rw [if_pos c31] at H
        have c31b0 : decide ((qd.length : Int) < (qn.length : Int)) = true := decide_eq_true c31
        have c31b1 : decide (qd.length < qn.length) = true := decide_eq_true (Int.ofNat_lt.mp c31)
        clear c31
        obtain rfl := Option.some.inj H
        have qvc := qO.out
        have qu4 := qN.out
        obtain ⟨qkn, qju⟩ := cells1 qc.out
        obtain ⟨qnZ, qm7⟩ := cells1 qf.out
        go_wp2
        repeat (go_quiet (fail); try go_wp2)
        go_ret
        exact ⟨by first | rfl | (simp [errW_none, errW_some] <;> rfl) | (simp [*, errW_none, errW_some] <;> rfl), bw HB.out⟩
       ·rw [if_neg c31] at H
        have c31b0 : decide ((qd.length : Int) < (qn.length : Int)) = false := decide_eq_false c31
        have c31b1 : decide (qd.length < qn.length) = false := decide_eq_false (fun h => c31 (Int.ofNat_lt.mpr h))
        clear c31
        obtain rfl := Option.some.inj H
        have qD7 := qO.out
        have qDF := qN.out
        obtain ⟨qkm, qjt⟩ := cells1 qc.out
        obtain ⟨qCh, qzE⟩ := cells1 qf.out
        go_wp2
        repeat (go_quiet (fail); try go_wp2)
        go_ret
        exact ⟨by first | rfl | (simp [errW_none, errW_some] <;> rfl) | (simp [*, errW_none, errW_some] <;> rfl), bw HB.out⟩


/-! ### Yz: function 135 -/
def Yz.f (a0 : Int) (a1 : Int) : Option (Int) := if a0 < a1 then (some (-1)) else (if a0 > a1 then (some 1) else (some 0))
set_option maxHeartbeats 8000000 in
set_option maxRecDepth 100000 in
theorem Yz.calls (a0 : Int) (a1 : Int) (r : Int) (w : World) (h : Yz.f a0 a1 = some r) :
  Calls Try.prog 135 #[.int .i64 a0, .int .i64 a1] w fun e w' => e = .returned (.int .i64 r) ∧ Drawn0 w w' := by
 have H : (if a0 < a1 then (some (-1)) else (if a0 > a1 then (some 1) else (some 0))) = some r := h
 clear h
 by_cases c3 : a0 < a1
 ·rw [if_pos c3] at H
  have c3b0 : decide (a0 < a1) = true := decide_eq_true c3
  clear c3
  obtain rfl := Option.some.inj H
  go_enter Try.func135, Try.ntmps135
  go_wp2
  go_ret
  exact ⟨by first | rfl | (simp; done) | (simp [*]; done), by repeat (first | exact Drawn0.refl _ | apply Drawn0.step)⟩
 ·rw [if_neg c3] at H
  have c3b0 : decide (a0 < a1) = false := decide_eq_false c3
  clear c3
  by_cases c4 : a0 > a1
  ·rw [if_pos c4] at H
   have c4b0 : decide (a1 < a0) = true := decide_eq_true c4
   clear c4
   obtain rfl := Option.some.inj H
   go_enter Try.func135, Try.ntmps135
   go_wp2
   go_ret
   exact ⟨by first | rfl | (simp; done) | (simp [*]; done), by repeat (first | exact Drawn0.refl _ | apply Drawn0.step)⟩
  ·rw [if_neg c4] at H
   have c4b0 : decide (a1 < a0) = false := decide_eq_false c4
   clear c4
   obtain rfl := Option.some.inj H
   go_enter Try.func135, Try.ntmps135
   go_wp2
   go_ret
   exact ⟨by first | rfl | (simp; done) | (simp [*]; done), by repeat (first | exact Drawn0.refl _ | apply Drawn0.step)⟩


/-! ### qQ: function 77 -/

attribute [local go_sem ↓] Go.wp_at_zero Go.wp_at_succ
/-- The labels of a name as they stand in messages, without the end. -/
def qQ.w : List (List Int) → List Int
 | [] => []
 | x :: l => ((x.length : Int) % 256) :: (x ++ qQ.w l)
theorem qQ.w_snoc (l : List (List Int)) (x : List Int) : qQ.w (l ++ [x]) = qQ.w l ++ [(x.length : Int) % 256] ++ x := by
 induction l with
 | nil => simp [qQ.w]
 | cons y l ih => simp [qQ.w, ih]
theorem qQ.w_take (l : List (List Int)) : ∀ k, (qQ.w (l.take k)).length ≤ (qQ.w l).length := by
 induction l with
 | nil => intro k; simp
 | cons y l ih =>
  intro k
  cases k with
  | zero => simp [qQ.w]
  | succ k => have := ih k; simp only [List.take_succ_cons, qQ.w, List.length_cons, List.length_append]; omega
def qQ.f (l0 : List Int) (qn : List (List Int)) : Option (List Int) := if l0.length + (qQ.w qn).length + 1 < 140737488355328 then some (l0 ++ qQ.w qn ++ [0]) else none
theorem qQ.inner {w : World} {S : Nat → Prop} {A : Option Addr} {l : List (List Int)} (h : ∀ W', Kept w W' S → Kd.C (Kd.slice 5 (Kd.int .u8)) W' A l.length l) (i : Nat) (hi : i < l.length) :
  ∃ ad A0 c0, A = some ad ∧ (∀ W', Kept w W' S → W'.cell? (ad.add i) = some (.slice A0 (qP l (i : Int)).length c0)) ∧ (qP l (i : Int)).length ≤ c0 ∧ ∀ W', Kept w W' S → (Kd.int .u8).C W' A0 (qP l (i : Int)).length (qP l (i : Int)) := by
 obtain ⟨ad, A0, c0, rfl, hx, hl, hc⟩ := Ju (h w (Kept.refl w S)) (i : Int) (by omega) (by omega)
 rw [show ((i : Int)).toNat = i from by omega] at hx
 have hn := Kd.foot_neS h (by omega) (show 0 < (Kd.slice 5 (Kd.int .u8)).sz from by decide)
 have hcell : ∀ W', Kept w W' S → W'.cell? (ad.add i) = some (.slice A0 (qP l (i : Int)).length c0) := fun W' hk => cell_kept hx hk (by rw [add_block]; exact hn)
 refine ⟨ad, A0, c0, rfl, hcell, hl, fun W' hk => ?_⟩
 obtain ⟨ad2, A2, c2, e, hx2, _, hc2⟩ := Ju (h W' hk) (i : Int) (by omega) (by omega)
 injection e with e
 subst e
 rw [show ((i : Int)).toNat = i from by omega, hcell W' hk] at hx2
 injection hx2 with hx2
 injection hx2 with e1 e2 e3
 subst e1
 exact hc2
theorem qQ.swap (W : World) (o : Obj) : (W.alloc o).drew = (W.drew).alloc o := rfl
theorem qQ.step {c : Prop} [Decidable c] {A B E : Prop} (hc : c) (h : if c then A else B) : if c then A else E := by rw [if_pos hc] at h ⊢; exact h
set_option maxHeartbeats 8000000 in
set_option maxRecDepth 100000 in
theorem qQ.calls (P0_ : Nat → Prop) (qlr : Value) (l0 : List Int) (jn : Option Addr) (jm : Nat) (qn : List (List Int)) (r : List Int) (w0 w : World) (hB : Below w0.heap.size w0 w) (ho0 : Kd.R (Kd.int .u8) 5 w w0.heap.size P0_ qlr l0) (yA : ∀ W_, Kept w W_ (fun k_ => P0_ k_) → Kd.C (Kd.slice 5 (Kd.int .u8)) W_ jn qn.length qn) (yS : qn.length ≤ jm) (h : qQ.f l0 qn = some r) :
  Calls Try.prog 77 #[qlr, .agg #[.slice jn qn.length jm]] w fun e w' => ∃ v0_ : Value, e = .returned (v0_) ∧ Kd.R (Kd.int .u8) 5 w' w0.heap.size (fun k_ => (P0_ k_ ∨ w.heap.size ≤ k_)) v0_ r ∧ Below w0.heap.size w0 w' ∧ Kept w w' (fun k_ => P0_ k_) := by
 have HO0 := ak (show Kd.R (Kd.int .u8) 5 w w0.heap.size (fun k_ => (P0_ k_ ∨ w.heap.size ≤ k_)) qlr l0 from Kd.R_mono ho0 (fun k_ hk => (.inl hk)))
 have HK := ak (Kept.refl w (fun k_ => P0_ k_))
 have HB := ak hB
 have HI := ak (qQ.inner yA)
 have hbig : qn.length ≤ 9223372036854775807 := (yA w (Kept.refl _ _)).2.1
 have HLM : Aside0 (l0.length + (qQ.w qn).length + 1 < 140737488355328) := by
  unfold qQ.f at h; split at h
  ·exact ⟨by assumption⟩
  ·cases h
 have hr : l0 ++ qQ.w qn ++ [0] = r := by
  unfold qQ.f at h; rw [if_pos HLM.out] at h; exact Option.some.inj h
 subst hr
 clear yA yS h hB ho0
 go_enter Try.func77, Try.ntmps77
 go_wp2_with (first | ((with_reducible refine gate_dst (N := 3) rfl ?_); refine box_event ?hg (N := 3) ?hd (cs := #[.slice jn qn.length jm]) (t := 31) ?hr ?_; (case hd => rfl); (case hg => rfl); (case hr => first | (go_simp; done) | (go_simp; rfl)); intro qi hg w2 hbox hb; replace HB := ak (below_step (bw HB.out) hb); have qc := ak (hbox); replace HK := ak (Kept.below (by repeat (first | (with_reducible first | exact HK.out | apply Kept.alloc | apply Kept.drewN | apply Kept.drew) | exact HK.out)) hb); have HO := ak (Kd.R_below HO0.out hb); clear HO0; clear hb hbox hg))
 go_loopg [0, 5] qn.length (fun gg s0 s5 w' => ∃ kk : Nat, kk ≤ qn.length ∧ qn.length - kk ≤ gg ∧ s5 = .int .i64 kk ∧ Aside0 (Kd.R (Kd.int .u8) 5 w' w0.heap.size (fun k_ => (P0_ k_ ∨ w.heap.size ≤ k_)) s0 (l0 ++ qQ.w (qn.take kk))) ∧ Aside0 (w'.heap[qi]? = some (.cells #[(.slice jn qn.length jm)] 31 (0, 0))) ∧ Aside0 (Below w0.heap.size w0 w') ∧ Aside0 (Kept w w' (fun k_ => P0_ k_)))
 case atStart => exact ⟨0, Nat.zero_le _, by omega, rfl, ⟨by simpa [qQ.w] using HO.out⟩, qc, HB, HK⟩
 case round =>
  clear HO qc HB HK
  obtain ⟨kk, hkk, hg, rfl, HO, BK, HB, HK⟩ := hrel
  have hcz := ak ((blk_cell BK.out 0).trans rfl : wr.cell? ⟨qi, 0, none⟩ = some (.slice jn qn.length jm))
  have hfz := blk_frozen BK.out 0
  by_cases hlt : kk < qn.length
  ·obtain ⟨ad, A2, c2, rfl, hcell, hc2, hC⟩ := HI.out kk hlt
   have hx : Aside0 (l0 ++ qQ.w (qn.take (kk + 1)) = l0 ++ qQ.w (qn.take kk) ++ [((qP qn (kk : Int)).length : Int) % 256] ++ qP qn (kk : Int)) := ⟨by
    rw [List.take_succ_eq_append_getElem hlt, qQ.w_snoc]; simp [qP, List.getD_eq_getElem?_getD, hlt]⟩
   have HLL : Aside0 ((l0 ++ qQ.w (qn.take kk)).length + 1 + (qP qn (kk : Int)).length < 140737488355328) := ⟨by
    have h1 := congrArg List.length hx.out
    have h2 := qQ.w_take qn (kk + 1)
    have h3 := HLM.out
    simp only [List.length_append, List.length_singleton] at h1 ⊢
    omega⟩
   have HCE := ak hcell
   have HCC := ak hC
   have hcn := hcell wr HK.out
   have hczn := hcz.out
   clear hcell hC hcz HI
   generalize qP qn (kk : Int) = x1 at hx HLL HCE HCC hc2 hcn
   generalize l0 ++ qQ.w (qn.take kk) = acc at HO hx HLL
   have hltz : (kk : Int) < (qn.length : Int) := by omega
   have qEz : (0 : Int) ≤ (kk : Int) := by omega
   go_wp2
   go_region_held3 (fun w' => w'.cell? ⟨qi, 0, none⟩ = some (.slice (some ad) qn.length jm) ∧ w'.cell? (ad.add kk) = some (.slice A2 x1.length c2)) (first | exact ⟨(blk_cell BK.out 0).trans rfl, HCE.out _ HK.out⟩ | go_keep)
    (first
     | (rw [qQ.swap]; refine qQ.step (by simp [Region.wanted]) (Kd.R_append_step (Kd.int .u8) (w0 := w0) w0.heap.size (by simp [Region.wanted]) (.tmp 13) (.tmp 21) 25 5 (.int .u8 0) 1 (by rfl) Try.underlying25 XJ rfl (by decide) (by omega) _ acc ((x1.length : Int) % 256) [.int .u8 ((x1.length : Int) % 256)] (fun k_ => (P0_ k_ ∨ w.heap.size ≤ k_)) (fun _ => False) (by rfl) (by rfl) rfl (fun _ hk => hk.elim) (fun k hk => .inr (Nat.le_trans HK.out.1 (Nat.le_trans (by simp) hk))) (rw_ HO.out) (bw HB.out) (below_size (bw HB.out)) (by have := HLL.out; omega) ?_); intro v1 w1 ho hb hg hat; have n0_ := ak (blk_grown (bk BK.out) hg (Kd.R_ne HO.out BK.out (by decide))); have n1_ := ak hb; have n2_ := ak ho; have n3_ := ak (Kept.of_grown (w := w) (S := fun k_ => P0_ k_) hg (by repeat (first | (with_reducible first | exact HK.out | apply Kept.alloc | apply Kept.drewN | apply Kept.drew) | exact HK.out)) (fun k hk => HO.out.1 k hk)); clear HB HO HK BK ho hb hg hat; have BK := n0_; have HB := n1_; have HO := n2_; have HK := n3_; clear n0_ n1_ n2_ n3_)
     | (refine qQ.step (by simp [Region.wanted]) (Kd.R_append_rows_step (Kd.int .u8) (w0 := w0) w0.heap.size (by simp [Region.wanted]) (.tmp 22) (.tmp 27) 25 5 (.int .u8 0) 1 (by rfl) Try.underlying25 XJ rfl (by decide) (by omega) _ (acc ++ [(x1.length : Int) % 256]) x1 _ _ _ (fun k_ => (P0_ k_ ∨ w.heap.size ≤ k_)) (fun _ => False) (by rfl) (by rfl) (rw_ HO.out) (HCC.out _ (by repeat (first | (with_reducible first | exact HK.out | apply Kept.alloc | apply Kept.drewN | apply Kept.drew) | exact HK.out))) (fun _ _ h => h) (fun _ h => h.elim) (fun k hk => .inr (Nat.le_trans HK.out.1 (Nat.le_trans (by simp) hk))) (bw HB.out) (below_size (bw HB.out)) (by have := HLL.out; simp only [List.length_append, List.length_singleton]; omega) ?_); intro v1 w1 ho hb hg hat; have n0_ := ak (blk_grown (bk BK.out) hg (Kd.R_ne HO.out BK.out (by decide))); have n1_ := ak hb; have n2_ := ak ho; have n3_ := ak (Kept.of_grown (w := w) (S := fun k_ => P0_ k_) hg (by repeat (first | (with_reducible first | exact HK.out | apply Kept.alloc | apply Kept.drewN | apply Kept.drew) | exact HK.out)) (fun k hk => HO.out.1 k hk)); clear HB HO HK BK ho hb hg hat; have BK := n0_; have HB := n1_; have HO := n2_; have HK := n3_; clear n0_ n1_ n2_ n3_))
   go_wp2
   go_roundg (qn.length - (kk + 1))
   case measure => omega
   case rel => exact ⟨kk + 1, by omega, by omega, by go_num, ⟨by rw [hx.out]; exact HO.out⟩, BK, HB, HK⟩
  ·have : kk = qn.length := by omega
   subst this
   rw [List.take_of_length_le (Nat.le_refl _)] at HO
   have hczn := hcz.out
   clear hcz
   have hltz : ¬ (qn.length : Int) < (qn.length : Int) := by omega
   go_wp2_with (first | ((with_reducible refine gate_builtin (b := .append) (xs := #[.tmp 29, .tmp 30]) rfl ?_); at_builtin; refine Kd.R_append (Kd.int .u8) (w0 := w0) w0.heap.size rfl (.tmp 29) (.tmp 30) 25 5 (.int .u8 0) 1 rfl Try.underlying25 XJ rfl (by decide) (by omega) _ (l0 ++ qQ.w qn) 0 [.int .u8 0] (fun k_ => (P0_ k_ ∨ w.heap.size ≤ k_)) (fun _ => False) rfl rfl ?aP (fun _ hk => hk.elim) ?aF ?aO ?aB ?aS ?aL ?_; (case aP => exact rfl); (case aB => exact (bw HB.out)); (case aF => exact (fun k hk => .inr (Nat.le_trans HK.out.1 (Nat.le_trans (by simp) hk)))); (case aO => exact (rw_ HO.out)); (case aS => exact (below_size (bw HB.out))); (case aL => have := HLM.out; simp only [List.length_append]; omega); intro qlq w14 ho hb hg hat; have n1_ := ak hb; have n2_ := ak ho; have n3_ := ak (Kept.of_grown (w := w) (S := fun k_ => P0_ k_) hg (by repeat (first | (with_reducible first | exact HK.out | apply Kept.alloc | apply Kept.drewN | apply Kept.drew) | exact HK.out)) (fun k hk => HO.out.1 k hk)); clear HB HO HK ho hb hg hat; have HB := n1_; have HO := n2_; have HK := n3_; clear n1_ n2_ n3_))
   go_ret
   exact ⟨qlq, rfl, by have := HO.out; simpa only [List.append_assoc] using this, HB.out, HK.out⟩


/-! ### yP: function 206 -/
def yP.f (l0 : List Int) (a1 : Int) : Option (List Int) := (some (([] : List Int) : List Int)).bind fun ZH => (if ZH.length + l0.length < 140737488355328 then ((some (ZH ++ l0 : List Int)).bind fun Yw => (if a1 < 0 then (some Yw) else (if a1 ≥ 4294967296 then (some Yw) else ((some (([(a1 / 16777216) % 256, (a1 / 65536) % 256, (a1 / 256) % 256, (a1) % 256] : List Int) : List Int)).bind fun Xn => (if Yw.length + Xn.length < 140737488355328 then (some (Yw ++ Xn)) else (none)))))) else (none))
set_option maxHeartbeats 8000000 in
set_option maxRecDepth 100000 in
theorem yP.calls (A0 : Option Addr) (c0 : Nat) (l0 : List Int) (a1 : Int) (r : List Int) (w : World) (hr0 : Kd.C (Kd.int .u8) w A0 l0.length l0) (hc0 : l0.length ≤ c0) (h : yP.f l0 a1 = some r) :
  Calls Try.prog 206 #[.slice A0 l0.length c0, .int .i64 a1] w fun e w' => ∃ v0_ : Value, e = .returned (v0_) ∧ Kd.R (Kd.int .u8) 5 w' w.heap.size (fun _ => True) v0_ r ∧ Below w.heap.size w w' := by
 have HR0 := ak hr0
 have HC0 := ak hc0
 clear hr0 hc0
 have HB := ak (Below.refl w.heap.size w)
 have H : ((some (([] : List Int) : List Int)).bind fun ZH => (if ZH.length + l0.length < 140737488355328 then ((some (ZH ++ l0 : List Int)).bind fun Yw => (if a1 < 0 then (some Yw) else (if a1 ≥ 4294967296 then (some Yw) else ((some (([(a1 / 16777216) % 256, (a1 / 65536) % 256, (a1 / 256) % 256, (a1) % 256] : List Int) : List Int)).bind fun Xn => (if Yw.length + Xn.length < 140737488355328 then (some (Yw ++ Xn)) else (none)))))) else (none))) = some r := h
 clear h
 obtain ⟨ZH, yQ⟩ : ∃ y_ : List Int, y_ = (([] : List Int)) := ⟨_, rfl⟩
 replace H : (if ZH.length + l0.length < 140737488355328 then ((some (ZH ++ l0 : List Int)).bind fun Yw => (if a1 < 0 then (some Yw) else (if a1 ≥ 4294967296 then (some Yw) else ((some (([(a1 / 16777216) % 256, (a1 / 65536) % 256, (a1 / 256) % 256, (a1) % 256] : List Int) : List Int)).bind fun Xn => (if Yw.length + Xn.length < 140737488355328 then (some (Yw ++ Xn)) else (none)))))) else (none)) = some r := by first | (rw [yQ]; with_reducible exact H) | (have H2_ := (Option.bind_some _ _).symm.trans H; rw [yQ]; with_reducible exact H2_) | (have H2_ := (Option.bind_some _ _).symm.trans H; with_reducible exact H2_) | with_reducible exact H | (rw [yQ]; exact H) | exact H
 have Ya := ak yQ
 clear yQ
 by_cases c3 : ZH.length + l0.length < 140737488355328
 ·rw [if_pos c3] at H
  have qps := ak c3
  clear c3
  obtain ⟨Yw, qin⟩ : ∃ y_ : List Int, y_ = (ZH ++ l0) := ⟨_, rfl⟩
  replace H : (if a1 < 0 then (some Yw) else (if a1 ≥ 4294967296 then (some Yw) else ((some (([(a1 / 16777216) % 256, (a1 / 65536) % 256, (a1 / 256) % 256, (a1) % 256] : List Int) : List Int)).bind fun Xn => (if Yw.length + Xn.length < 140737488355328 then (some (Yw ++ Xn)) else (none))))) = some r := by first | (rw [qin]; with_reducible exact H) | (have H2_ := (Option.bind_some _ _).symm.trans H; rw [qin]; with_reducible exact H2_) | (have H2_ := (Option.bind_some _ _).symm.trans H; with_reducible exact H2_) | with_reducible exact H | (rw [qin]; exact H) | exact H
  have qoE := ak qin
  clear qin
  by_cases c4 : a1 < 0
  ·rw [if_pos c4] at H
   have c4b0 : decide (a1 < 0) = true := decide_eq_true c4
   clear c4
   obtain rfl := Option.some.inj H
   go_enter Try.func206, Try.ntmps206
   go_wp2_with (first | ((with_reducible refine gate_dst (N := 6) rfl ?_); refine Kd.R_lit (Kd.int .u8) _ 5 ?hg (N := 6) ?hd (xs := ([] : List Int)) (inner := []) (ok := fun _ => True) (okp := fun _ => True) ?hr ?hp (fun _ hk => hk) trivial (Below.refl _ _) (Nat.le_refl _) (by simp) ?_; (case hd => rfl); (case hg => rfl); (case hr => first | (go_simp; done) | (go_simp; rfl)); (case hp => exact (Reps.none _ _)); intro qaP w5 ho6 hb hg_ hnew_; clear hg_ hnew_; (first | rw [← Ya.out] at ho6 | (simp only [Int.reduceToNat] at ho6; rw [← Ya.out] at ho6)); have Zu := ak (Kd.R_lower ho6 (below_size (bw HB.out))); replace HB := ak (below_step (bw HB.out) hb); clear hb ho6) | ((with_reducible refine gate_builtin (b := .append) (xs := #[.tmp 6, .tmp 7]) rfl ?_); at_builtin; refine Kd.R_append_rows (Kd.int .u8) (w0 := w) w.heap.size rfl (.tmp 6) (.tmp 7) 25 5 (.int .u8 0) 1 rfl Try.underlying25 XJ rfl (by decide) (by omega) qaP ZH l0 _ _ _ (fun _ => True) (fun _ => False) rfl rfl ?aO ?aR (fun _ _ h => h) (fun _ h => h.elim) ?aF ?aB ?aS ?aL ?_; (case aR => exact cw HR0.out HB.out); (case aB => exact (bw HB.out)); (case aF => exact (fun _ _ => trivial)); (case aO => exact (rw_ Zu.out)); (case aS => exact (below_size (bw HB.out))); (case aL => have := qps.out; omega); intro qh2 w7 ho hb hg hat; rw [← qoE.out] at ho; replace HB := ak (hb); have Qf := ak (ho); clear Zu; clear ho hb hg hat))
   go_ret
   exact ⟨_, by first | rfl | (simp [errW_none, errW_some] <;> rfl) | (simp [*, errW_none, errW_some] <;> rfl), rw_ Qf.out, bw HB.out⟩
  ·rw [if_neg c4] at H
   have c4b0 : decide (a1 < 0) = false := decide_eq_false c4
   clear c4
   by_cases c8 : a1 ≥ 4294967296
   ·rw [if_pos c8] at H
    have c8b0 : decide (4294967296 ≤ a1) = true := decide_eq_true c8
    clear c8
    obtain rfl := Option.some.inj H
    go_enter Try.func206, Try.ntmps206
    go_wp2_with (first | ((with_reducible refine gate_dst (N := 6) rfl ?_); refine Kd.R_lit (Kd.int .u8) _ 5 ?hg (N := 6) ?hd (xs := ([] : List Int)) (inner := []) (ok := fun _ => True) (okp := fun _ => True) ?hr ?hp (fun _ hk => hk) trivial (Below.refl _ _) (Nat.le_refl _) (by simp) ?_; (case hd => rfl); (case hg => rfl); (case hr => first | (go_simp; done) | (go_simp; rfl)); (case hp => exact (Reps.none _ _)); intro qaP w9 qlB hb hg_ hnew_; clear hg_ hnew_; (first | rw [← Ya.out] at qlB | (simp only [Int.reduceToNat] at qlB; rw [← Ya.out] at qlB)); have Zu := ak (Kd.R_lower qlB (below_size (bw HB.out))); replace HB := ak (below_step (bw HB.out) hb); clear hb qlB) | ((with_reducible refine gate_builtin (b := .append) (xs := #[.tmp 6, .tmp 7]) rfl ?_); at_builtin; refine Kd.R_append_rows (Kd.int .u8) (w0 := w) w.heap.size rfl (.tmp 6) (.tmp 7) 25 5 (.int .u8 0) 1 rfl Try.underlying25 XJ rfl (by decide) (by omega) qaP ZH l0 _ _ _ (fun _ => True) (fun _ => False) rfl rfl ?aO ?aR (fun _ _ h => h) (fun _ h => h.elim) ?aF ?aB ?aS ?aL ?_; (case aR => exact cw HR0.out HB.out); (case aB => exact (bw HB.out)); (case aF => exact (fun _ _ => trivial)); (case aO => exact (rw_ Zu.out)); (case aS => exact (below_size (bw HB.out))); (case aL => have := qps.out; omega); intro qh2 w11 ho hb hg hat; rw [← qoE.out] at ho; replace HB := ak (hb); have Qf := ak (ho); clear Zu; clear ho hb hg hat))
    go_ret
    exact ⟨_, by first | rfl | (simp [errW_none, errW_some] <;> rfl) | (simp [*, errW_none, errW_some] <;> rfl), rw_ Qf.out, bw HB.out⟩
   ·rw [if_neg c8] at H
    have c8b0 : decide (4294967296 ≤ a1) = false := decide_eq_false c8
    clear c8
    obtain ⟨Xn, qbZ⟩ : ∃ y_ : List Int, y_ = (([(a1 / 16777216) % 256, (a1 / 65536) % 256, (a1 / 256) % 256, (a1) % 256] : List Int)) := ⟨_, rfl⟩
    replace H : (if Yw.length + Xn.length < 140737488355328 then (some (Yw ++ Xn)) else (none)) = some r := by first | (rw [qbZ]; with_reducible exact H) | (have H2_ := (Option.bind_some _ _).symm.trans H; rw [qbZ]; with_reducible exact H2_) | (have H2_ := (Option.bind_some _ _).symm.trans H; with_reducible exact H2_) | with_reducible exact H | (rw [qbZ]; exact H) | exact H
    have qlm := ak qbZ
    clear qbZ
    by_cases c12 : Yw.length + Xn.length < 140737488355328
    ·rw [if_pos c12] at H
     have qvx := ak c12
     clear c12
     obtain ⟨qvF, qil⟩ : ∃ y_ : List Int, y_ = (Yw ++ Xn) := ⟨_, rfl⟩
     replace H : (some qvF) = some r := by first | (rw [qil]; with_reducible exact H) | (have H2_ := (Option.bind_some _ _).symm.trans H; rw [qil]; with_reducible exact H2_) | (have H2_ := (Option.bind_some _ _).symm.trans H; with_reducible exact H2_) | with_reducible exact H | (rw [qil]; exact H) | exact H
     have qvq := ak qil
     clear qil
     obtain rfl := Option.some.inj H
     go_enter Try.func206, Try.ntmps206
     go_wp2_with (first | ((with_reducible refine gate_dst (N := 6) rfl ?_); refine Kd.R_lit (Kd.int .u8) _ 5 ?hg (N := 6) ?hd (xs := ([] : List Int)) (inner := []) (ok := fun _ => True) (okp := fun _ => True) ?hr ?hp (fun _ hk => hk) trivial (Below.refl _ _) (Nat.le_refl _) (by simp) ?_; (case hd => rfl); (case hg => rfl); (case hr => first | (go_simp; done) | (go_simp; rfl)); (case hp => exact (Reps.none _ _)); intro qaP w13 qlA hb hg_ hnew_; clear hg_ hnew_; (first | rw [← Ya.out] at qlA | (simp only [Int.reduceToNat] at qlA; rw [← Ya.out] at qlA)); have Zu := ak (Kd.R_lower qlA (below_size (bw HB.out))); replace HB := ak (below_step (bw HB.out) hb); clear hb qlA) | ((with_reducible refine gate_builtin (b := .append) (xs := #[.tmp 6, .tmp 7]) rfl ?_); at_builtin; refine Kd.R_append_rows (Kd.int .u8) (w0 := w) w.heap.size rfl (.tmp 6) (.tmp 7) 25 5 (.int .u8 0) 1 rfl Try.underlying25 XJ rfl (by decide) (by omega) qaP ZH l0 _ _ _ (fun _ => True) (fun _ => False) rfl rfl ?aO ?aR (fun _ _ h => h) (fun _ h => h.elim) ?aF ?aB ?aS ?aL ?_; (case aR => exact cw HR0.out HB.out); (case aB => exact (bw HB.out)); (case aF => exact (fun _ _ => trivial)); (case aO => exact (rw_ Zu.out)); (case aS => exact (below_size (bw HB.out))); (case aL => have := qps.out; omega); intro qh2 w15 ho hb hg hat; rw [← qoE.out] at ho; replace HB := ak (hb); have Qf := ak (ho); clear Zu; clear ho hb hg hat) | ((with_reducible refine gate_dst (N := 28) rfl ?_); refine Kd.R_lit (Kd.int .u8) _ 5 ?hg (N := 28) ?hd (xs := ([(a1 / 16777216) % 256, (a1 / 65536) % 256, (a1 / 256) % 256, (a1) % 256] : List Int)) (inner := [.int .u8 ((a1 / 16777216) % 256), .int .u8 ((a1 / 65536) % 256), .int .u8 ((a1 / 256) % 256), .int .u8 ((a1) % 256)]) (ok := fun _ => True) (okp := fun _ => True) ?hr ?hp (fun _ hk => hk) trivial (Below.refl _ _) (Nat.le_refl _) (by simp) ?_; (case hd => rfl); (case hg => rfl); (case hr => first | (go_simp; done) | (go_simp; rfl)); (case hp => exact (Reps.one (show Kd.M (Kd.int .u8) _ _ _ ((a1 / 16777216) % 256) [.int .u8 ((a1 / 16777216) % 256)] from rfl) (Reps.one (show Kd.M (Kd.int .u8) _ _ _ ((a1 / 65536) % 256) [.int .u8 ((a1 / 65536) % 256)] from rfl) (Reps.one (show Kd.M (Kd.int .u8) _ _ _ ((a1 / 256) % 256) [.int .u8 ((a1 / 256) % 256)] from rfl) (Reps.one (show Kd.M (Kd.int .u8) _ _ _ ((a1) % 256) [.int .u8 ((a1) % 256)] from rfl) (Reps.none _ _)))))); intro qpc w16 qiY hb hg_ hnew_; clear hg_ hnew_; (first | rw [← qlm.out] at qiY | (simp only [Int.reduceToNat] at qiY; rw [← qlm.out] at qiY)); have Xd := ak (Kd.R_lower (Kd.R_new' qiY (Kd.R_lt (rw_ Qf.out))) (below_size (bw HB.out))); replace Qf := ak (Kd.R_elder' (rw_ Qf.out) (Kd.R_base qiY) hb); replace HB := ak (below_step (bw HB.out) hb); clear hb qiY; obtain ⟨qmc, ql9, qh5⟩ := Kd.R_slice Xd.out; subst qh5) | ((with_reducible refine gate_builtin (b := .append) (xs := #[.tmp 16, .tmp 28]) rfl ?_); at_builtin; refine Kd.R_append_rows (Kd.int .u8) (w0 := w) w.heap.size rfl (.tmp 16) (.tmp 28) 25 5 (.int .u8 0) 1 rfl Try.underlying25 XJ rfl (by decide) (by omega) qh2 Yw Xn _ _ _ (fun k_ => some k_ ≠ (.slice qmc Xn.length ql9 : Value).ownBlock) (fun _ => False) rfl rfl ?aO ?aR (fun _ _ h => h) (fun _ h => h.elim) ?aF ?aB ?aS ?aL ?_; (case aR => repeat (first | exact (Kd.R_reads' Xd.out).2.2 | (with_reducible refine Kd.C_alloc ?_ _) | (with_reducible refine Kd.C_drewN ?_ _) | (with_reducible refine Kd.C_drew ?_))); (case aB => exact (bw HB.out)); (case aF => exact (fun k_ hk => Kd.fresh' (Kd.R_lt (rw_ Xd.out)) k_ hk)); (case aO => exact (by (with_reducible repeat (first | apply Kd.R_alloc | apply Kd.R_drewN | apply Kd.R_drew)); exact Kd.R_mono Qf.out (fun _ hk => hk.2))); (case aS => exact (below_size (bw HB.out))); (case aL => have := qvx.out; omega); intro qpa w18 ho hb hg hat; rw [← qvq.out] at ho; replace Xd := ak (Kd.R_after (ok := (fun _ => True)) (rw_ Xd.out) hg hat); replace HB := ak (hb); have Qe := ak (ho); clear Qf; clear ho hb hg hat))
     go_ret
     exact ⟨_, by first | rfl | (simp [errW_none, errW_some] <;> rfl) | (simp [*, errW_none, errW_some] <;> rfl), by (with_reducible repeat (first | apply Kd.R_alloc | apply Kd.R_drewN | apply Kd.R_drew)); exact Kd.R_mono Qe.out (fun _ hk => trivial), bw HB.out⟩
    ·rw [if_neg c12] at H
     exact absurd H (by simp)
 ·rw [if_neg c3] at H
  exact absurd H (by simp)


/-! ### yw: function 137 -/
def yw.f (qd : List (List Int)) (qu : Int) (qH : Int) (qF : Int) (qA : List (List Int)) (qt : List Int) (qo : List Int) : Option (List Int) := if qu = 1 then ((yP.f ([] : List Int) qF).bind fun qG => (some qG)) else (if qu = 6 then ((qQ.f ([] : List Int) qA).bind fun qS => (if 0 < (qo.length : Int) then ((yP.f qS (rd qo 0)).bind fun zq => (if 1 < (qo.length : Int) then ((yP.f zq (rd qo 1)).bind fun yV => (some yV)) else (none))) else (none))) else ((Jq.f qu).bind fun qiW => (if qiW = true then ((qQ.f ([] : List Int) qA).bind fun JC => (some JC)) else ((some (([((qt.length : Int)) % 256] : List Int) : List Int)).bind fun Xf => (if Xf.length + qt.length < 140737488355328 then (some (Xf ++ qt)) else (none))))))
def yw.T4 : Bool × List (List Nat × List Nat) := (true, [([], []), ([0], [0]), ([1], [1]), ([], []), ([3], [3]), ([4], [4]), ([5], [5]), ([2, 6, 2], [2, 6]), ([], []), ([8], [8]), ([9], [9]), ([10], [10]), ([7, 11, 7], [7, 11]), ([12, 12, 0, 1, 2, 3, 4, 5, 6, 7, 8, 9, 10, 11, 12], [12])])
def yw.B4 : List Nat := [0, 1, 3, 0, 8, 24, 56, 127, 0, 256, 768, 1792, 4095, 8191]
theorem yw.tab4 : rtab .any (opsOf Try.f137 4) = yw.T4 := by kernel_rfl
theorem yw.bits4 : waitsOk yw.T4.2 yw.B4 = true := by kernel_rfl
set_option maxHeartbeats 8000000 in
set_option maxRecDepth 100000 in
theorem yw.calls (qq : Option Addr) (qp : Nat) (qd : List (List Int)) (qu : Int) (qH : Int) (qF : Int) (jC : Option Addr) (jB : Nat) (qA : List (List Int)) (jK : Option Addr) (jJ : Nat) (qt : List Int) (jM : Option Addr) (jL : Nat) (qo : List Int) (r : List Int) (w : World) (jd : Kd.C (Kd.slice 5 (Kd.int .u8)) w qq qd.length qd) (jg : qd.length ≤ qp) (QF : Kd.C (Kd.slice 5 (Kd.int .u8)) w jC qA.length qA) (QI : qA.length ≤ jB) (QE : Kd.C (Kd.int .u8) w jK qt.length qt) (QH : qt.length ≤ jJ) (QD : Kd.C (Kd.int .i64) w jM qo.length qo) (QG : qo.length ≤ jL) (h : yw.f qd qu qH qF qA qt qo = some r) :
  Calls Try.prog 137 #[.agg #[.slice qq qd.length qp, .int .i64 qu, .int .i64 qH, .int .i64 qF, .slice jC qA.length jB, .slice jK qt.length jJ, .slice jM qo.length jL]] w fun e w' => ∃ v0_ : Value, e = .returned (v0_) ∧ Kd.R (Kd.int .u8) 5 w' w.heap.size (fun _ => True) v0_ r ∧ Below w.heap.size w w' := by
 have qak := Try.underlying33
 have Ys := Try.underlying31
 have qW := ak jd
 have jb := ak jg
 clear jd jg
 have Jo := ak QF
 have Jp := ak QI
 clear QF QI
 have ZF := ak QE
 have Yp := ak QH
 clear QE QH
 have Qd := ak QD
 have YP := ak QG
 clear QD QG
 have HB := ak (Below.refl w.heap.size w)
 have H : (if qu = 1 then ((yP.f ([] : List Int) qF).bind fun qG => (some qG)) else (if qu = 6 then ((qQ.f ([] : List Int) qA).bind fun qS => (if 0 < (qo.length : Int) then ((yP.f qS (rd qo 0)).bind fun zq => (if 1 < (qo.length : Int) then ((yP.f zq (rd qo 1)).bind fun yV => (some yV)) else (none))) else (none))) else ((Jq.f qu).bind fun qiW => (if qiW = true then ((qQ.f ([] : List Int) qA).bind fun JC => (some JC)) else ((some (([((qt.length : Int)) % 256] : List Int) : List Int)).bind fun Xf => (if Xf.length + qt.length < 140737488355328 then (some (Xf ++ qt)) else (none))))))) = some r := h
 clear h
 by_cases c2 : qu = 1
 ·rw [if_pos c2] at H
  have c2b0 : (qu == 1) = true := beq_iff_eq.mpr c2
  have c2b1 : (qu != 1) = false := bne_eq_false_iff_eq.mpr c2
  clear c2
  replace H := Option.bind_eq_some_iff.mp H
  obtain ⟨qG, A30, H⟩ := H
  replace H : (some qG) = some r := H
  have A3 := ak A30
  clear A30
  obtain rfl := Option.some.inj H
  go_enter Try.func137, Try.ntmps137
  go_wp2_with (first | ((with_reducible refine gate_dst (N := 1) rfl ?_); refine boxed (N := 1) rfl rfl (cs := #[.slice qq qd.length qp, .int .i64 qu, .int .i64 qH, .int .i64 qF, .slice jC qA.length jB, .slice jK qt.length jJ, .slice jM qo.length jL]) (t := 33) HB.out (by first | (go_simp; done) | (go_simp; rfl)) ?_; clear HB; intro qi w4 hg HB qc qm hb; have jD := qm; clear hb hg; obtain ⟨qgq, qlW, qo3, qo2, qo1, qo0, qoZ, qgm, qlJ, qoX, qoW, qoV, qoU, qoT⟩ := cells7 qc.out) | ((with_reducible refine gate_callee (f := 206) rfl ?_); refine goesL_ (some 9) rfl rfl Try.func206 (by kernel_rfl) rfl #[.slice none 0 0, .int .i64 qF] rfl (by first | rfl | (simp only [List.map_toArray, List.map_cons, List.map_nil]; first | done | rfl)) ?_; (refine (yP.calls _ _ ([] : List Int) qF qG _ ?qk ?qj A3.out).mono ?_); (case qk => exact Kd.C_nil _ _); (case qj => exact Nat.le_refl _); rintro e w6 ⟨qtP, rfl, ho0, hb⟩; refine ⟨_, rfl, ?_⟩; have qiy := ak (Kd.R_lower ho0 (below_size (bw HB.out))); replace qc := ak (blk_below (bk qc.out) hb); replace HB := ak (below_step (bw HB.out) hb); (try clear hb); (try clear ho0)))
  go_ret
  exact ⟨_, by first | rfl | (simp [errW_none, errW_some] <;> rfl) | (simp [*, errW_none, errW_some] <;> rfl), rw_ qiy.out, bw HB.out⟩
 ·rw [if_neg c2] at H
  have c2b0 : (qu == 1) = false := beq_eq_false_iff_ne.mpr c2
  have c2b1 : (qu != 1) = true := bne_iff_ne.mpr c2
  by_cases c7 : qu = 6
  ·rw [if_pos c7] at H
   have c7b0 : (qu == 6) = true := beq_iff_eq.mpr c7
   have c7b1 : (qu != 6) = false := bne_eq_false_iff_eq.mpr c7
   clear c7
   replace H := Option.bind_eq_some_iff.mp H
   obtain ⟨qS, A80, H⟩ := H
   replace H : (if 0 < (qo.length : Int) then ((yP.f qS (rd qo 0)).bind fun zq => (if 1 < (qo.length : Int) then ((yP.f zq (rd qo 1)).bind fun yV => (some yV)) else (none))) else (none)) = some r := H
   have A8 := ak A80
   clear A80
   by_cases c9 : 0 < (qo.length : Int)
   ·rw [if_pos c9] at H
    have c9b0 : decide (0 < (qo.length : Int)) = true := decide_eq_true c9
    have c9b1 : decide (0 < qo.length) = true := decide_eq_true (by omega)
    clear c9
    replace H := Option.bind_eq_some_iff.mp H
    obtain ⟨zq, qen, H⟩ := H
    replace H : (if 1 < (qo.length : Int) then ((yP.f zq (rd qo 1)).bind fun yV => (some yV)) else (none)) = some r := H
    have A10 := ak qen
    clear qen
    by_cases c11 : 1 < (qo.length : Int)
    ·rw [if_pos c11] at H
     have c11b0 : decide (1 < (qo.length : Int)) = true := decide_eq_true c11
     have c11b1 : decide (1 < qo.length) = true := decide_eq_true (by omega)
     clear c11
     replace H := Option.bind_eq_some_iff.mp H
     obtain ⟨yV, qej, H⟩ := H
     replace H : (some yV) = some r := H
     have A12 := ak qej
     clear qej
     obtain rfl := Option.some.inj H
     go_enter Try.func137, Try.ntmps137
     try go_wp2_with (first | ((with_reducible refine gate_dst (N := 1) rfl ?_); refine boxed (N := 1) rfl rfl (cs := #[.slice qq qd.length qp, .int .i64 qu, .int .i64 qH, .int .i64 qF, .slice jC qA.length jB, .slice jK qt.length jJ, .slice jM qo.length jL]) (t := 33) HB.out (by first | (go_simp; done) | (go_simp; rfl)) ?_; clear HB; intro qi w13 hg HB qc qm hb; have jD := qm; clear hb hg; obtain ⟨XW, qaJ, qcW, qcV, qcU, qcT, qcS, XU, qaH, qcB, qcA, qcz, qcy, qcx⟩ := cells7 qc.out))
     have n0_ := ak (blk_drew qc.out)
     have n1_ := ak (below_drew1 HB.out)
     clear qc
     clear HB
     have qc := n0_
     have HB := n1_
     clear n0_ n1_
     have XI : 0 ≤ (0 : Int) := (by omega)
     have XH : 0 < (qo.length : Int) := of_decide_eq_true (by first | (with_reducible assumption) | assumption)
     obtain ⟨qaK, qga, Yj⟩ := Kd.at_int Qd.out 0 XI XH
     have qch := Yj
     (try rw [show ((0 : Int)).toNat = 0 from rfl] at qch)
     (try rw [show 0 * 1 = 0 from rfl] at qch)
     (try rw [Addr.add_zero'] at qch)
     cases qga
     have quX : (0 < qo.length) = True := eq_true (by omega)
     (try rw [show ((0 : Int)).toNat = 0 from rfl] at Yj)
     (try rw [Addr.add_zero'] at Yj)
     replace Yj := hc_ HB.out Yj
     replace XI := eq_true XI
     replace XH := eq_true XH
     have qpi : 0 ≤ (1 : Int) := (by omega)
     have qpg : 1 < (qo.length : Int) := of_decide_eq_true (by first | (with_reducible assumption) | assumption)
     obtain ⟨qvl, qv4, qdp⟩ := Kd.at_int Qd.out 1 qpi qpg
     have qcg := qdp
     (try rw [show ((1 : Int)).toNat = 1 from rfl] at qcg)
     (try rw [show 1 * 1 = 1 from rfl] at qcg)
     (try simp only [Nat.reduceMul, Nat.reduceEqDiff, Go.Addr.add, ↓reduceIte] at qcg)
     obtain rfl : qaK = qvl := (by injection qv4)
     (try simp only [show (1 : Int).toNat = 1 from rfl, Nat.reduceMul, Nat.reduceEqDiff, Go.Addr.add, ↓reduceIte] at qdp)
     have qDo : (1 < qo.length) = True := eq_true (by omega)
     (try rw [show ((1 : Int)).toNat = 1 from rfl] at qdp)
     replace qdp := hc_ HB.out qdp
     replace qpi := eq_true qpi
     replace qpg := eq_true qpg
     refine start_ (n := 14) (S := fun w' => w'.cell? ⟨qi, 0, none⟩ = some (.slice qq qd.length qp) ∧ w'.cell? ⟨qi, 1, none⟩ = some (.int .i64 qu) ∧ w'.cell? ⟨qi, 2, none⟩ = some (.int .i64 qH) ∧ w'.cell? ⟨qi, 3, none⟩ = some (.int .i64 qF) ∧ w'.cell? ⟨qi, 4, none⟩ = some (.slice jC qA.length jB) ∧ w'.cell? ⟨qi, 5, none⟩ = some (.slice jK qt.length jJ) ∧ w'.cell? ⟨qi, 6, none⟩ = some (.slice (some qaK) qo.length jL) ∧ w'.cell? qaK = some (.int .i64 (rd qo 0)) ∧ w'.cell? ⟨qaK.block, qaK.off + 1, none⟩ = some (.int .i64 (rd qo 1))) (ds := []) (bA 14 0) (by kernel_rfl) rfl rfl ⟨(blk_cell qc.out 0).trans rfl, (blk_cell qc.out 1).trans rfl, (blk_cell qc.out 2).trans rfl, (blk_cell qc.out 3).trans rfl, (blk_cell qc.out 4).trans rfl, (blk_cell qc.out 5).trans rfl, (blk_cell qc.out 6).trans rfl, (hc_ HB.out qch), (hc_ HB.out qcg)⟩ (fun hHeld => ?_); refine with_tabW yw.tab4 yw.bits4 (fun HT_ HW_ => ?_)
     generalize w13.drew = w15 at qc HB Yj qdp hHeld ⊢
     refine pu_ HT_ 0 14 (bA 14 1) (v := ?_) (a' := ?_) rfl rfl (by kernel_rfl) (fun _ _ _ h => h) (by rfl) ?_ ?_ ?_; rotate_left; intro w'; go_simp; with_reducible rfl; rotate_left; go_simp; rfl
     refine pu_ HT_ 3 17 (bA 14 9) (v := ?_) (a' := ?_) rfl rfl (by kernel_rfl) (fun _ _ _ h => h) (by rfl) ?_ ?_ ?_; rotate_left; intro w'; go_simp; with_reducible rfl; rotate_left; go_simp; rfl
     refine pu_ HT_ 8 22 (bA 14 265) (v := ?_) (a' := ?_) rfl rfl (by kernel_rfl) (fun _ _ _ h => h) (by rfl) ?_ ?_ ?_; rotate_left; intro w'; go_simp; with_reducible rfl; rotate_left; go_simp; rfl
     refine take_ (i := 1) (N := some 15) (v := ?_) (a' := ?_) (bA 14 267) rfl rfl (take_ofW HT_.out HW_.out (by kernel_rfl)) (fun _ _ _ h => h) (Or.inl ⟨by rfl, ?_⟩) hHeld ?_ ?_
     rotate_left; rintro w' ⟨s0, s1, s2, s3, s4, s5, s6, s7, s8⟩; go_simp; with_reducible rfl; rotate_left; go_simp; rfl
     refine take_ (i := 4) (N := some 18) (v := ?_) (a' := ?_) (bA 14 283) rfl rfl (take_ofW HT_.out HW_.out (by kernel_rfl)) (fun _ _ _ h => h) (Or.inl ⟨by rfl, ?_⟩) hHeld ?_ ?_
     rotate_left; rintro w' ⟨s0, s1, s2, s3, s4, s5, s6, s7, s8⟩; go_simp; with_reducible rfl; rotate_left; go_simp; rfl
     refine pu_ HT_ 5 19 (bA 14 315) (v := ?_) (a' := ?_) rfl rfl (by kernel_rfl) (fun _ _ _ h => h) (by rfl) ?_ ?_ ?_; rotate_left; intro w'; go_simp; with_reducible rfl; rotate_left; go_simp; rfl
     refine take_ (i := 6) (N := some 20) (v := ?_) (a' := ?_) (bA 14 379) rfl rfl (take_ofW HT_.out HW_.out (by kernel_rfl)) (fun _ _ _ h => h) (Or.inl ⟨by rfl, ?_⟩) hHeld ?_ ?_
     rotate_left; rintro w' ⟨s0, s1, s2, s3, s4, s5, s6, s7, s8⟩; go_simp; with_reducible rfl; rotate_left; go_simp; rfl
     refine take_ (i := 9) (N := some 23) (v := ?_) (a' := ?_) (bA 14 891) rfl rfl (take_ofW HT_.out HW_.out (by kernel_rfl)) (fun _ _ _ h => h) (Or.inl ⟨by rfl, ?_⟩) hHeld ?_ ?_
     rotate_left; rintro w' ⟨s0, s1, s2, s3, s4, s5, s6, s7, s8⟩; go_simp; with_reducible rfl; rotate_left; go_simp; rfl
     refine pu_ HT_ 10 24 (bA 14 1915) (v := ?_) (a' := ?_) rfl rfl (by kernel_rfl) (fun _ _ _ h => h) (by rfl) ?_ ?_ ?_; rotate_left; intro w'; go_simp; with_reducible rfl; rotate_left; go_simp; rfl
     refine take_ (i := 11) (N := some 25) (v := ?_) (a' := ?_) (bA 14 3963) rfl rfl (take_ofW HT_.out HW_.out (by kernel_rfl)) (fun _ _ _ h => h) (Or.inl ⟨by rfl, ?_⟩) hHeld ?_ ?_
     rotate_left; rintro w' ⟨s0, s1, s2, s3, s4, s5, s6, s7, s8⟩; go_simp; with_reducible rfl; rotate_left; go_simp; rfl
     refine one_ (i := 2) (N := some 16) (bA 14 3967) rfl rfl (one_of HT_.out (by kernel_rfl)) (by decide) (fun K hK => ?_)
     refine goes_ Try.func77 (by kernel_rfl) rfl #[.slice none 0 0, .agg #[.slice jC qA.length jB]] (by rfl) rfl rfl (by first | rfl | (simp only [List.map_toArray, List.map_cons, List.map_nil]; first | done | rfl)) ?_
     refine (qQ.calls (fun k_ => some k_ = (.slice none 0 0 : Value).ownBlock) (.slice none 0 0) ([] : List Int) _ _ qA qS w _ ?qk ?qj ?qw ?qy A8.out).mono ?_
     (case qk => repeat (first | (with_reducible first | exact HB.out | apply below_alloc | apply pw_below_drewN | apply below_drew1 | refine below_set ?_ qm.out) | exact HB.out))
     (case qj => exact Kd.R_nil _ _ _ _ _)
     (case qw => exact Kd.C_kept_came (Kd.heap_slice 5 (Kd.heap_int .u8)) Jo.out (bw HB.out) (fun k_ hs_ => (fun e_ => by simp [Value.ownBlock] at e_) hs_))
     (case qy => exact Jp.out)
     rintro e w16 ⟨qd5, rfl, ho0, hb, hkp⟩
     refine ⟨_, rfl, ?_⟩
     have n0_ := ak (blk_kept (bk qc.out) hkp (fun hs_ => (fun e_ => by simp [Value.ownBlock] at e_) hs_))
     have n1_ := ak (Kd.R_mono (ok' := fun k_ => True) ho0 (fun k_ hk_ => trivial))
     have n2_ := ak (hb)
     clear qc
     clear HB
     have qc := n0_
     have yp := n1_
     have HB := n2_
     clear n0_ n1_ n2_
     (try clear hb)
     (try clear hkp)
     (try clear ho0)
     obtain ⟨qwu, qwd, qux⟩ := Kd.R_slice yp.out
     (first | subst qux | (injection qux with f1_ f2_ f3_; have f4_ := f1_.symm; have f5_ := f3_.symm; clear f1_ f2_ f3_; subst f4_; subst f5_))
     refine hK.out _ _ ⟨(blk_cell qc.out 0).trans rfl, (blk_cell qc.out 1).trans rfl, (blk_cell qc.out 2).trans rfl, (blk_cell qc.out 3).trans rfl, (blk_cell qc.out 4).trans rfl, (blk_cell qc.out 5).trans rfl, (blk_cell qc.out 6).trans rfl, (hc_ HB.out qch), (hc_ HB.out qcg)⟩ (fun hHeld => ?_)
     clear hK K
     refine norm_ (a' := ?_) ?_ ?_; rotate_left; go_simp; rfl
     refine one_ (i := 7) (N := some 21) (bA 14 4095) rfl rfl (one_of HT_.out (by kernel_rfl)) (by decide) (fun K hK => ?_)
     refine goes_ Try.func206 (by kernel_rfl) rfl #[.slice qwu qS.length qwd, .int .i64 (rd qo 0)] (by rfl) rfl rfl (by first | rfl | (simp only [List.map_toArray, List.map_cons, List.map_nil]; first | done | rfl)) ?_
     with_reducible refine (yP.calls _ _ qS (rd qo 0) zq _ ?qk ?qj A10.out).mono ?_
     (case qk => repeat (first | exact (Kd.R_reads' yp.out).2.2 | (with_reducible refine Kd.C_alloc ?_ _) | (with_reducible refine Kd.C_drewN ?_ _) | (with_reducible refine Kd.C_drew ?_)))
     (case qj => exact (Kd.R_reads' yp.out).2.1)
     rintro e w18 ⟨qpb, rfl, ho0, hb⟩
     refine ⟨_, rfl, ?_⟩
     have n0_ := ak (Kd.R_elder' (rw_ yp.out) (Kd.R_base ho0) hb)
     have n1_ := ak (Kd.R_lower (Kd.R_new' ho0 (Kd.R_lt (rw_ yp.out))) (below_size (bw HB.out)))
     have n2_ := ak (blk_below (bk qc.out) hb)
     have n3_ := ak (below_step (bw HB.out) hb)
     clear yp
     clear qc
     clear HB
     have yp := n0_
     have qaL := n1_
     have qc := n2_
     have HB := n3_
     clear n0_ n1_ n2_ n3_
     (try clear hb)
     (try clear hb2)
     (try clear hk)
     (try clear hi)
     (try clear ho0)
     obtain ⟨qmc, ql9, qh5⟩ := Kd.R_slice qaL.out
     (first | subst qh5 | (injection qh5 with f1_ f2_ f3_; have f4_ := f1_.symm; have f5_ := f3_.symm; clear f1_ f2_ f3_; subst f4_; subst f5_))
     refine hK.out _ _ ⟨(blk_cell qc.out 0).trans rfl, (blk_cell qc.out 1).trans rfl, (blk_cell qc.out 2).trans rfl, (blk_cell qc.out 3).trans rfl, (blk_cell qc.out 4).trans rfl, (blk_cell qc.out 5).trans rfl, (blk_cell qc.out 6).trans rfl, (hc_ HB.out qch), (hc_ HB.out qcg)⟩ (fun hHeld => ?_)
     clear hK K
     refine norm_ (a' := ?_) ?_ ?_; rotate_left; go_simp; rfl
     refine one_ (i := 12) (N := some 26) (bA 14 8191) rfl rfl (one_of HT_.out (by kernel_rfl)) (by decide) (fun K hK => ?_)
     refine goes_ Try.func206 (by kernel_rfl) rfl #[.slice qmc zq.length ql9, .int .i64 (rd qo 1)] (by rfl) rfl rfl (by first | rfl | (simp only [List.map_toArray, List.map_cons, List.map_nil]; first | done | rfl)) ?_
     with_reducible refine (yP.calls _ _ zq (rd qo 1) yV _ ?qk ?qj A12.out).mono ?_
     (case qk => repeat (first | exact (Kd.R_reads' qaL.out).2.2 | (with_reducible refine Kd.C_alloc ?_ _) | (with_reducible refine Kd.C_drewN ?_ _) | (with_reducible refine Kd.C_drew ?_)))
     (case qj => exact (Kd.R_reads' qaL.out).2.1)
     rintro e w20 ⟨qo9, rfl, ho0, hb⟩
     refine ⟨_, rfl, ?_⟩
     have n0_ := ak (Kd.R_elder' (rw_ yp.out) (Kd.R_base ho0) hb)
     have n1_ := ak (Kd.R_elder' (rw_ qaL.out) (Kd.R_base ho0) hb)
     have n2_ := ak (Kd.R_lower (Kd.R_new' (Kd.R_new' ho0 (Kd.R_lt (rw_ yp.out))) (Kd.R_lt (rw_ qaL.out))) (below_size (bw HB.out)))
     have n3_ := ak (blk_below (bk qc.out) hb)
     have n4_ := ak (below_step (bw HB.out) hb)
     clear yp
     clear qaL
     clear qc
     clear HB
     have yp := n0_
     have qaL := n1_
     have JT := n2_
     have qc := n3_
     have HB := n4_
     clear n0_ n1_ n2_ n3_ n4_
     (try clear hb)
     (try clear hb2)
     (try clear hk)
     (try clear hi)
     (try clear ho0)
     refine hK.out _ _ ⟨(blk_cell qc.out 0).trans rfl, (blk_cell qc.out 1).trans rfl, (blk_cell qc.out 2).trans rfl, (blk_cell qc.out 3).trans rfl, (blk_cell qc.out 4).trans rfl, (blk_cell qc.out 5).trans rfl, (blk_cell qc.out 6).trans rfl, (hc_ HB.out qch), (hc_ HB.out qcg)⟩ (fun hHeld => ?_)
     clear hK K
     refine norm_ (a' := ?_) ?_ ?_; rotate_left; go_simp; rfl
     refine pu_ HT_ 13 2 (bA 14 16383) (v := ?_) (a' := ?_) rfl rfl (by kernel_rfl) (fun _ _ _ h => h) (by rfl) ?_ ?_ ?_; rotate_left; intro w'; go_simp; with_reducible rfl; rotate_left; go_simp; rfl
     refine done_ (done_of HT_.out (by kernel_rfl)) ?_
     try go_wp2
     go_ret
     exact ⟨_, by first | rfl | (simp [errW_none, errW_some] <;> rfl) | (simp [*, errW_none, errW_some] <;> rfl), by (with_reducible repeat (first | apply Kd.R_alloc | apply Kd.R_drewN | apply Kd.R_drew)); exact Kd.R_mono JT.out (fun _ hk => trivial), bw HB.out⟩
    ·rw [if_neg c11] at H
     exact absurd H (by simp)
   ·rw [if_neg c9] at H
    exact absurd H (by simp)
  ·rw [if_neg c7] at H
   have c7b0 : (qu == 6) = false := beq_eq_false_iff_ne.mpr c7
   have c7b1 : (qu != 6) = true := bne_iff_ne.mpr c7
   replace H := Option.bind_eq_some_iff.mp H
   obtain ⟨qiW, qgB, H⟩ := H
   replace H : (if qiW = true then ((qQ.f ([] : List Int) qA).bind fun JC => (some JC)) else ((some (([((qt.length : Int)) % 256] : List Int) : List Int)).bind fun Xf => (if Xf.length + qt.length < 140737488355328 then (some (Xf ++ qt)) else (none)))) = some r := H
   have A21 := ak qgB
   clear qgB
   by_cases c22 : qiW = true
   ·subst c22
    have H1 : ((qQ.f ([] : List Int) qA).bind fun JC => (some JC)) = some r := by rw [if_pos rfl] at H; exact H
    clear H
    have H := H1
    clear H1
    replace H := Option.bind_eq_some_iff.mp H
    obtain ⟨JC, qme, H⟩ := H
    replace H : (some JC) = some r := H
    have A23 := ak qme
    clear qme
    obtain rfl := Option.some.inj H
    go_enter Try.func137, Try.ntmps137
    go_wp2_with (first | ((with_reducible refine gate_dst (N := 1) rfl ?_); refine boxed (N := 1) rfl rfl (cs := #[.slice qq qd.length qp, .int .i64 qu, .int .i64 qH, .int .i64 qF, .slice jC qA.length jB, .slice jK qt.length jJ, .slice jM qo.length jL]) (t := 33) HB.out (by first | (go_simp; done) | (go_simp; rfl)) ?_; clear HB; intro qi w24 hg HB qc qm hb; have jD := qm; clear hb hg; obtain ⟨qdU, qfX, qfW, qfV, qfU, qfT, qfS, qdE, qfE, qfD, qfC, qfB, qfA, qfz⟩ := cells7 qc.out) | ((with_reducible refine gate_callee (f := 159) rfl ?_); refine goesL_ (some 30) rfl rfl Try.func159 (by kernel_rfl) rfl #[.int .i64 qu] rfl (by first | rfl | (simp only [List.map_toArray, List.map_cons, List.map_nil]; first | done | rfl)) ?_; (with_reducible refine (Jq.calls qu true _ A21.out).mono ?_); rintro e w' ⟨rfl, ⟨nd, rfl⟩⟩; refine ⟨_, rfl, ?_⟩) | ((with_reducible refine gate_callee (f := 77) rfl ?_); refine goesL_ (some 33) rfl rfl Try.func77 (by kernel_rfl) rfl #[.slice none 0 0, .agg #[.slice jC qA.length jB]] rfl (by first | rfl | (simp only [List.map_toArray, List.map_cons, List.map_nil]; first | done | rfl)) ?_; (refine (qQ.calls (fun k_ => some k_ = (.slice none 0 0 : Value).ownBlock) (.slice none 0 0) ([] : List Int) _ _ qA JC w _ ?qk ?qj ?qw ?qy A23.out).mono ?_); (case qk => repeat (first | (with_reducible first | exact HB.out | apply below_alloc | apply pw_below_drewN | apply below_drew1 | refine below_set ?_ qm.out) | exact HB.out)); (case qj => exact Kd.R_nil _ _ _ _ _); (case qw => exact Kd.C_kept_came (Kd.heap_slice 5 (Kd.heap_int .u8)) Jo.out (bw HB.out) (fun k_ hs_ => (fun e_ => by simp [Value.ownBlock] at e_) hs_)); (case qy => exact Jp.out); rintro e w26 ⟨qok, rfl, ho0, hb, hkp⟩; refine ⟨_, rfl, ?_⟩; replace qc := ak (blk_kept (bk qc.out) hkp (fun hs_ => (fun e_ => by simp [Value.ownBlock] at e_) hs_)); have qhJ := ak (Kd.R_mono (ok' := fun k_ => True) ho0 (fun k_ hk_ => trivial)); replace HB := ak (hb); (try clear hb); (try clear hkp); (try clear ho0)))
    go_ret
    exact ⟨_, by first | rfl | (simp [errW_none, errW_some] <;> rfl) | (simp [*, errW_none, errW_some] <;> rfl), rw_ qhJ.out, bw HB.out⟩
   ·replace c22 := Bool.eq_false_iff.mpr c22
    subst c22
    have H1 : ((some (([((qt.length : Int)) % 256] : List Int) : List Int)).bind fun Xf => (if Xf.length + qt.length < 140737488355328 then (some (Xf ++ qt)) else (none))) = some r := by rw [if_neg (show ¬ (false = true) by decide)] at H; exact H
    clear H
    have H := H1
    clear H1
    obtain ⟨Xf, qbX⟩ : ∃ y_ : List Int, y_ = (([((qt.length : Int)) % 256] : List Int)) := ⟨_, rfl⟩
    replace H : (if Xf.length + qt.length < 140737488355328 then (some (Xf ++ qt)) else (none)) = some r := by first | (rw [qbX]; with_reducible exact H) | (have H2_ := (Option.bind_some _ _).symm.trans H; rw [qbX]; with_reducible exact H2_) | (have H2_ := (Option.bind_some _ _).symm.trans H; with_reducible exact H2_) | with_reducible exact H | (rw [qbX]; exact H) | exact H
    have qll := ak qbX
    clear qbX
    by_cases c27 : Xf.length + qt.length < 140737488355328
    ·rw [if_pos c27] at H
     have qoF := ak c27
     clear c27
     obtain ⟨qvD, qig⟩ : ∃ y_ : List Int, y_ = (Xf ++ qt) := ⟨_, rfl⟩
     replace H : (some qvD) = some r := by first | (rw [qig]; with_reducible exact H) | (have H2_ := (Option.bind_some _ _).symm.trans H; rw [qig]; with_reducible exact H2_) | (have H2_ := (Option.bind_some _ _).symm.trans H; with_reducible exact H2_) | with_reducible exact H | (rw [qig]; exact H) | exact H
     have qvm := ak qig
     clear qig
     obtain rfl := Option.some.inj H
     go_enter Try.func137, Try.ntmps137
     go_wp2_with (first | ((with_reducible refine gate_dst (N := 1) rfl ?_); refine boxed (N := 1) rfl rfl (cs := #[.slice qq qd.length qp, .int .i64 qu, .int .i64 qH, .int .i64 qF, .slice jC qA.length jB, .slice jK qt.length jJ, .slice jM qo.length jL]) (t := 33) HB.out (by first | (go_simp; done) | (go_simp; rfl)) ?_; clear HB; intro qi w28 hg HB qc qm hb; have jD := qm; clear hb hg; obtain ⟨qfR, qhn, qks, qkr, qkq, qkp, qko, qfy, qg4, qjz, qjy, qjx, qjw, qjv⟩ := cells7 qc.out) | ((with_reducible refine gate_callee (f := 159) rfl ?_); refine goesL_ (some 30) rfl rfl Try.func159 (by kernel_rfl) rfl #[.int .i64 qu] rfl (by first | rfl | (simp only [List.map_toArray, List.map_cons, List.map_nil]; first | done | rfl)) ?_; (with_reducible refine (Jq.calls qu false _ A21.out).mono ?_); rintro e w' ⟨rfl, ⟨nd, rfl⟩⟩; refine ⟨_, rfl, ?_⟩) | ((with_reducible refine gate_dst (N := 38) rfl ?_); refine Kd.R_lit (Kd.int .u8) _ 5 ?hg (N := 38) ?hd (xs := ([((qt.length : Int)) % 256] : List Int)) (inner := [.int .u8 (((qt.length : Int)) % 256)]) (ok := fun _ => True) (okp := fun _ => True) ?hr ?hp (fun _ hk => hk) trivial (Below.refl _ _) (Nat.le_refl _) (by simp) ?_; (case hd => rfl); (case hg => rfl); (case hr => first | (go_simp; done) | (go_simp; rfl)); (case hp => exact (Reps.one (show Kd.M (Kd.int .u8) _ _ _ (((qt.length : Int)) % 256) [.int .u8 (((qt.length : Int)) % 256)] from rfl) (Reps.none _ _))); intro qvG w30 qlx hb hg_ hnew_; clear hg_ hnew_; (first | rw [← qll.out] at qlx | (simp only [Int.reduceToNat] at qlx; rw [← qll.out] at qlx)); have qoN := ak (Kd.R_lower qlx (below_size (bw HB.out))); replace qc := ak (blk_below (bk qc.out) hb); replace HB := ak (below_step (bw HB.out) hb); clear hb qlx; obtain ⟨qbH, qbG, qbF, qbE, qbD, qbC, qbB, qbp, qbo, qbn, qbm, qbl, qbk, qbj⟩ := cells7 qc.out) | ((with_reducible refine gate_builtin (b := .append) (xs := #[.tmp 38, .tmp 40]) rfl ?_); at_builtin; refine Kd.R_append_rows (Kd.int .u8) (w0 := w) w.heap.size rfl (.tmp 38) (.tmp 40) 25 5 (.int .u8 0) 1 rfl Try.underlying25 XJ rfl (by decide) (by omega) qvG Xf qt _ _ _ (fun _ => True) (fun _ => False) rfl rfl ?aO ?aR (fun _ _ h => h) (fun _ h => h.elim) ?aF ?aB ?aS ?aL ?_; (case aR => exact cw ZF.out HB.out); (case aB => exact (bw HB.out)); (case aF => exact (fun _ _ => trivial)); (case aO => exact (rw_ qoN.out)); (case aS => exact (below_size (bw HB.out))); (case aL => have := qoF.out; omega); intro qEr w33 ho hb hg hat; rw [← qvm.out] at ho; replace qc := ak (blk_grown (bk qc.out) hg (Kd.R_ne qoN.out qc.out (by decide))); replace HB := ak (hb); have qvA := ak (ho); clear qoN; clear ho hb hg hat))
     go_ret
     exact ⟨_, by first | rfl | (simp [errW_none, errW_some] <;> rfl) | (simp [*, errW_none, errW_some] <;> rfl), rw_ qvA.out, bw HB.out⟩
    ·rw [if_neg c27] at H
     exact absurd H (by simp)


/-! ### zr: function 61 -/
def zr.j0 : Nat → Int → List (List Int) → Int → Int → Int → List (List Int) → List Int → List Int → List (List Int) → Int → Int → Int → List (List Int) → List Int → List Int → Option (Int)
 | 0, _, _, _, _, _, _, _, _, _, _, _, _, _, _, _ => none
 | k + 1, x5, qU, qB, QL, yY, yG, yF, zB, zH, qp7, qp6, qp5, qp4, qp3, qp2 => if x5 = 0 then ((yw.f qU qB QL yY yG yF zB).bind fun qS => ((yw.f zH qp7 qp6 qp5 qp4 qp3 qp2).bind fun jQ => ((zd.f qS jQ).bind fun zb => (some zb)))) else (some x5)
def zr.f (k : Nat) (qd : List (List Int)) (qu : Int) (qH : Int) (qF : Int) (qA : List (List Int)) (qt : List Int) (qo : List Int) (qn : List (List Int)) (zO : Int) (yv : Int) (yu : Int) (zG : List (List Int)) (zF : List Int) (zE : List Int) : Option (Int) := (jc.f k qd qn).bind fun qx => (if qx = 0 then ((Yz.f qu zO).bind fun qK => (zr.j0 k qK qd qu qH qF qA qt qo qn zO yv yu zG zF zE)) else (zr.j0 k qx qd qu qH qF qA qt qo qn zO yv yu zG zF zE))
set_option maxHeartbeats 8000000 in
set_option maxRecDepth 100000 in
theorem zr.calls (k : Nat) (qq : Option Addr) (qp : Nat) (qd : List (List Int)) (qu : Int) (qH : Int) (qF : Int) (jC : Option Addr) (jB : Nat) (qA : List (List Int)) (jK : Option Addr) (jJ : Nat) (qt : List Int) (jM : Option Addr) (jL : Nat) (qo : List Int) (jn : Option Addr) (jm : Nat) (qn : List (List Int)) (zO : Int) (yv : Int) (yu : Int) (ZY : Option Addr) (ZX : Nat) (zG : List (List Int)) (Yh : Option Addr) (Yc : Nat) (zF : List Int) (Yv : Option Addr) (Yu : Nat) (zE : List Int) (r : Int) (w : World) (jd : Kd.C (Kd.slice 5 (Kd.int .u8)) w qq qd.length qd) (jg : qd.length ≤ qp) (QF : Kd.C (Kd.slice 5 (Kd.int .u8)) w jC qA.length qA) (QI : qA.length ≤ jB) (QE : Kd.C (Kd.int .u8) w jK qt.length qt) (QH : qt.length ≤ jJ) (QD : Kd.C (Kd.int .i64) w jM qo.length qo) (QG : qo.length ≤ jL) (yA : Kd.C (Kd.slice 5 (Kd.int .u8)) w jn qn.length qn) (yS : qn.length ≤ jm) (qeq : Kd.C (Kd.slice 5 (Kd.int .u8)) w ZY zG.length zG) (qet : zG.length ≤ ZX) (qep : Kd.C (Kd.int .u8) w Yh zF.length zF) (qes : zF.length ≤ Yc) (qeo : Kd.C (Kd.int .i64) w Yv zE.length zE) (qer : zE.length ≤ Yu) (h : zr.f k qd qu qH qF qA qt qo qn zO yv yu zG zF zE = some r) :
  Calls Try.prog 61 #[.agg #[.slice qq qd.length qp, .int .i64 qu, .int .i64 qH, .int .i64 qF, .slice jC qA.length jB, .slice jK qt.length jJ, .slice jM qo.length jL], .agg #[.slice jn qn.length jm, .int .i64 zO, .int .i64 yv, .int .i64 yu, .slice ZY zG.length ZX, .slice Yh zF.length Yc, .slice Yv zE.length Yu]] w fun e w' => e = .returned (.int .i64 r) ∧ Below w.heap.size w w' := by
 have qak := Try.underlying33
 have Ys := Try.underlying31
 have qW := ak jd
 have jb := ak jg
 clear jd jg
 have Jo := ak QF
 have Jp := ak QI
 clear QF QI
 have ZF := ak QE
 have Yp := ak QH
 clear QE QH
 have Qd := ak QD
 have YP := ak QG
 clear QD QG
 have yo := ak yA
 have yE := ak yS
 clear yA yS
 have qew := ak qeq
 have qey := ak qet
 clear qeq qet
 have qgd := ak qep
 have qge := ak qes
 clear qep qes
 have qhD := ak qeo
 have qhS := ak qer
 clear qeo qer
 have HB := ak (Below.refl w.heap.size w)
 have H : ((jc.f k qd qn).bind fun qx => (if qx = 0 then ((Yz.f qu zO).bind fun qK => (zr.j0 k qK qd qu qH qF qA qt qo qn zO yv yu zG zF zE)) else (zr.j0 k qx qd qu qH qF qA qt qo qn zO yv yu zG zF zE))) = some r := h
 clear h
 replace H := Option.bind_eq_some_iff.mp H
 obtain ⟨qx, A30, H⟩ := H
 replace H : (if qx = 0 then ((Yz.f qu zO).bind fun qK => (zr.j0 k qK qd qu qH qF qA qt qo qn zO yv yu zG zF zE)) else (zr.j0 k qx qd qu qH qF qA qt qo qn zO yv yu zG zF zE)) = some r := H
 have A3 := ak A30
 clear A30
 have HC4 := ak H
 clear H
 go_enter Try.func61, Try.ntmps61
 go_upto_if 12 with (first | ((with_reducible refine gate_dst (N := 2) rfl ?_); refine boxed (N := 2) rfl rfl (cs := #[.slice qq qd.length qp, .int .i64 qu, .int .i64 qH, .int .i64 qF, .slice jC qA.length jB, .slice jK qt.length jJ, .slice jM qo.length jL]) (t := 33) HB.out (by first | (go_simp; done) | (go_simp; rfl)) ?_; clear HB; intro qi w5 hg HB qc qm hb; have jD := qm; clear hb hg) | ((with_reducible refine gate_dst (N := 3) rfl ?_); refine box_event ?hg (N := 3) ?hd (cs := #[.slice jn qn.length jm, .int .i64 zO, .int .i64 yv, .int .i64 yu, .slice ZY zG.length ZX, .slice Yh zF.length Yc, .slice Yv zE.length Yu]) (t := 33) ?hr ?_; (case hd => rfl); (case hg => rfl); (case hr => first | (go_simp; done) | (go_simp; rfl)); intro qg hg w6 hbox hb; have qf := ak (hbox); have QS := ak ((by rw [hg]; exact (below_size (bw HB.out)) : w.heap.size ≤ qg)); have ji := ak ((by rw [hg]; exact (below_size (bw HB.out)) : w.heap.size ≤ qg)); replace HB := ak (below_step (bw HB.out) hb); have qO := ak ((by rw [hg]; exact Nat.ne_of_lt (blk_lt (bk qc.out)) : qi ≠ qg)); have qN := ak ((by rw [hg]; exact Nat.ne_of_gt (blk_lt (bk qc.out)) : qg ≠ qi)); replace qc := ak (blk_below (bk qc.out) hb); clear hb hbox hg; have qou := qO.out; have qos := qN.out; obtain ⟨qam, qgo, quj, qui, quh, qug, quf, qal, qgk, qt8, qt7, qt6, qt5, qt4⟩ := cells7 qc.out; obtain ⟨Js, Zo, qaZ, qaY, qaX, qaW, qaV, Jr, Zn, qaU, qaT, qaS, qaR, qaQ⟩ := cells7 qf.out) | ((with_reducible refine gate_callee (f := 98) rfl ?_); refine goesL_ (some 10) rfl rfl Try.func98 (by kernel_rfl) rfl #[.agg #[.slice qq qd.length qp], .agg #[.slice jn qn.length jm]] rfl (by first | rfl | (simp only [List.map_toArray, List.map_cons, List.map_nil]; first | done | rfl)) ?_; (with_reducible refine (jc.calls k _ _ qd _ _ qn qx _ ?qk ?qj ?qw ?qy A3.out).mono ?_); (case qk => exact cw qW.out HB.out); (case qj => exact jb.out); (case qw => exact cw yo.out HB.out); (case qy => exact yE.out); rintro e w10 ⟨rfl, hb⟩; refine ⟨_, rfl, ?_⟩; replace qc := ak (blk_below (bk qc.out) hb); replace qf := ak (blk_below (bk qf.out) hb); replace HB := ak (below_step (bw HB.out) hb); (try clear hb)))
 (try simp only [Act.put, List.setIfInBounds_toArray, List.set_cons_zero, List.set_cons_succ])
 go_cut [5] (fun v5 wc => ∃ (kq : Nat) (qgh : Int), v5 = .int .i64 qgh ∧ Aside0 (zr.j0 kq qgh qd qu qH qF qA qt qo qn zO yv yu zG zF zE = some r) ∧ Aside0 (kq ≤ k) ∧ Aside0 (wc.heap[qi]? = some (.cells #[(.slice qq qd.length qp), .int .i64 qu, .int .i64 qH, .int .i64 qF, (.slice jC qA.length jB), (.slice jK qt.length jJ), (.slice jM qo.length jL)] 33 (0, 0))) ∧ Aside0 (wc.heap[qg]? = some (.cells #[(.slice jn qn.length jm), .int .i64 zO, .int .i64 yv, .int .i64 yu, (.slice ZY zG.length ZX), (.slice Yh zF.length Yc), (.slice Yv zE.length Yu)] 33 (0, 0))) ∧ Aside0 (Below w.heap.size w wc))
 case first =>
  have H := HC4.out
  clear HC4
  by_cases c11 : qx = 0
  ·rw [if_pos c11] at H
   have c11b0 : (qx == 0) = true := beq_iff_eq.mpr c11
   have c11b1 : (qx != 0) = false := bne_eq_false_iff_eq.mpr c11
   clear c11
   (first | rw [c11b0] | (simp only [i64_w, i32_w]; rw [c11b0]) | skip)
   replace H := Option.bind_eq_some_iff.mp H
   obtain ⟨qK, qej, H⟩ := H
   replace H : (zr.j0 k qK qd qu qH qF qA qt qo qn zO yv yu zG zF zE) = some r := H
   have A12 := ak qej
   clear qej
   have H' := ak H
   clear H
   have qEj := qO.out
   have qDR := qN.out
   obtain ⟨XW, qaJ, qcW, qcV, qcU, qcT, qcS, XU, qaH, qcB, qcA, qcz, qcy, qcx⟩ := cells7 qc.out
   obtain ⟨qcR, qcQ, qkL, qkK, qkJ, qkI, qkH, qcw, qcv, qjS, qjR, qjQ, qjP, qjO⟩ := cells7 qf.out
   go_wp2_with (first | ((with_reducible refine gate_callee (f := 135) rfl ?_); refine goesL_ (some 17) rfl rfl Try.func135 (by kernel_rfl) rfl #[.int .i64 qu, .int .i64 zO] rfl (by first | rfl | (simp only [List.map_toArray, List.map_cons, List.map_nil]; first | done | rfl)) ?_; (with_reducible refine (Yz.calls qu zO qK _ A12.out).mono ?_); rintro e w' ⟨rfl, ⟨nd, rfl⟩⟩; refine ⟨_, rfl, ?_⟩))
   go_meet
   case rel => exact ⟨_, (qK), (by first | rfl | (simp; done) | (simp [*]; done)), H', ⟨by first | omega | exact Nat.le_refl _⟩, ⟨bk qc.out⟩, ⟨bk qf.out⟩, ⟨bw HB.out⟩⟩
  ·rw [if_neg c11] at H
   have c11b0 : (qx == 0) = false := beq_eq_false_iff_ne.mpr c11
   have c11b1 : (qx != 0) = true := bne_iff_ne.mpr c11
   (first | rw [c11b0] | (simp only [i64_w, i32_w]; rw [c11b0]) | skip)
   have H' := ak H
   clear H
   go_wp2
   go_meet
   case rel => exact ⟨_, (qx), (by first | rfl | (simp; done) | (simp [*]; done)), H', ⟨by first | omega | exact Nat.le_refl _⟩, ⟨bk qc.out⟩, ⟨bk qf.out⟩, ⟨bw HB.out⟩⟩
 case rest =>
  clear HC4
  try clear c1
  try clear p2
  try clear c6
  try clear c7
  try clear c9
  try clear c11
  try clear c11b0
  try clear c11b1
  try clear c13
  try clear XW
  try clear qaJ
  try clear qcW
  try clear qcV
  try clear qcU
  try clear qcT
  try clear qcS
  try clear qcR
  try clear qcQ
  try clear qkL
  try clear qkK
  try clear qkJ
  try clear qkI
  try clear qkH
  try clear qam
  try clear qgo
  try clear quj
  try clear qui
  try clear quh
  try clear qug
  try clear quf
  try clear Js
  try clear Zo
  try clear qaZ
  try clear qaY
  try clear qaX
  try clear qaW
  try clear qaV
  try clear XU
  try clear qaH
  try clear qcB
  try clear qcA
  try clear qcz
  try clear qcy
  try clear qcx
  try clear qcw
  try clear qcv
  try clear qjS
  try clear qjR
  try clear qjQ
  try clear qjP
  try clear qjO
  try clear qal
  try clear qgk
  try clear qt8
  try clear qt7
  try clear qt6
  try clear qt5
  try clear qt4
  try clear Jr
  try clear Zn
  try clear qaU
  try clear qaT
  try clear qaS
  try clear qaR
  try clear qaQ
  obtain ⟨kq, qgh, rfl, HA, HJ3, qc, qf, HB⟩ := hcut
  cases kq with
  | zero => exact absurd HA.out (by simp [zr.j0])
  | succ kj3 =>
   have H := HA.out
   clear HA
   simp only [zr.j0] at H
   by_cases c16 : qgh = 0
   ·rw [if_pos c16] at H
    have c16b0 : (qgh == 0) = true := beq_iff_eq.mpr c16
    have c16b1 : (qgh != 0) = false := bne_eq_false_iff_eq.mpr c16
    clear c16
    replace H := Option.bind_eq_some_iff.mp H
    obtain ⟨qS, qmg, H⟩ := H
    replace H : ((yw.f qn zO yv yu zG zF zE).bind fun jQ => ((zd.f qS jQ).bind fun zb => (some zb))) = some r := H
    have A17 := ak qmg
    clear qmg
    replace H := Option.bind_eq_some_iff.mp H
    obtain ⟨jQ, qmf, H⟩ := H
    replace H : ((zd.f qS jQ).bind fun zb => (some zb)) = some r := H
    have A18 := ak qmf
    clear qmf
    replace H := Option.bind_eq_some_iff.mp H
    obtain ⟨zb, qgC, H⟩ := H
    replace H : (some zb) = some r := H
    have A19 := ak qgC
    clear qgC
    obtain rfl := Option.some.inj H
    try go_wp2
    have n0_ := ak (blk_drew qc.out)
    have n1_ := ak (blk_drew qf.out)
    have n2_ := ak (below_drew1 HB.out)
    clear qc
    clear qf
    clear HB
    have qc := n0_
    have qf := n1_
    have HB := n2_
    clear n0_ n1_ n2_
    refine start_ (n := 6) (S := fun w' => w'.cell? ⟨qi, 0, none⟩ = some (.slice qq qd.length qp) ∧ w'.cell? ⟨qi, 1, none⟩ = some (.int .i64 qu) ∧ w'.cell? ⟨qi, 2, none⟩ = some (.int .i64 qH) ∧ w'.cell? ⟨qi, 3, none⟩ = some (.int .i64 qF) ∧ w'.cell? ⟨qi, 4, none⟩ = some (.slice jC qA.length jB) ∧ w'.cell? ⟨qi, 5, none⟩ = some (.slice jK qt.length jJ) ∧ w'.cell? ⟨qi, 6, none⟩ = some (.slice jM qo.length jL) ∧ w'.cell? ⟨qg, 0, none⟩ = some (.slice jn qn.length jm) ∧ w'.cell? ⟨qg, 1, none⟩ = some (.int .i64 zO) ∧ w'.cell? ⟨qg, 2, none⟩ = some (.int .i64 yv) ∧ w'.cell? ⟨qg, 3, none⟩ = some (.int .i64 yu) ∧ w'.cell? ⟨qg, 4, none⟩ = some (.slice ZY zG.length ZX) ∧ w'.cell? ⟨qg, 5, none⟩ = some (.slice Yh zF.length Yc) ∧ w'.cell? ⟨qg, 6, none⟩ = some (.slice Yv zE.length Yu)) (ds := []) (bA 6 0) (by kernel_rfl) rfl rfl ⟨(blk_cell qc.out 0).trans rfl, (blk_cell qc.out 1).trans rfl, (blk_cell qc.out 2).trans rfl, (blk_cell qc.out 3).trans rfl, (blk_cell qc.out 4).trans rfl, (blk_cell qc.out 5).trans rfl, (blk_cell qc.out 6).trans rfl, (blk_cell qf.out 0).trans rfl, (blk_cell qf.out 1).trans rfl, (blk_cell qf.out 2).trans rfl, (blk_cell qf.out 3).trans rfl, (blk_cell qf.out 4).trans rfl, (blk_cell qf.out 5).trans rfl, (blk_cell qf.out 6).trans rfl⟩ (fun hHeld => ?_)
    generalize wc.drew = w20 at qc qf HB hHeld ⊢
    refine take_ (i := 0) (N := some 20) (v := ?_) (a' := ?_) (bA 6 1) rfl rfl (by kernel_rfl) (fun _ _ _ h => h) (Or.inl ⟨by rfl, ?_⟩) hHeld ?_ ?_
    rotate_left; rintro w' ⟨s0, s1, s2, s3, s4, s5, s6, s7, s8, s9, s10, s11, s12, s13⟩; go_simp; with_reducible rfl; rotate_left; go_simp; rfl
    refine take_ (i := 2) (N := some 22) (v := ?_) (a' := ?_) (bA 6 5) rfl rfl (by kernel_rfl) (fun _ _ _ h => h) (Or.inl ⟨by rfl, ?_⟩) hHeld ?_ ?_
    rotate_left; rintro w' ⟨s0, s1, s2, s3, s4, s5, s6, s7, s8, s9, s10, s11, s12, s13⟩; go_simp; with_reducible rfl; rotate_left; go_simp; rfl
    refine one_ (i := 1) (N := some 21) (bA 6 7) rfl rfl (by kernel_rfl) (by decide) (fun K hK => ?_)
    refine goes_ Try.func137 (by kernel_rfl) rfl #[.agg #[.slice qq qd.length qp, .int .i64 qu, .int .i64 qH, .int .i64 qF, .slice jC qA.length jB, .slice jK qt.length jJ, .slice jM qo.length jL]] (by rfl) rfl rfl (by first | rfl | (simp only [List.map_toArray, List.map_cons, List.map_nil]; first | done | rfl)) ?_
    with_reducible refine (yw.calls _ _ qd qu qH qF _ _ qA _ _ qt _ _ qo qS _ ?qk ?qj ?qw ?qy ?zK ?yz ?yy ?yx A17.out).mono ?_
    (case qk => exact cw qW.out HB.out)
    (case qj => exact jb.out)
    (case qw => exact cw Jo.out HB.out)
    (case qy => exact Jp.out)
    (case zK => exact cw ZF.out HB.out)
    (case yz => exact Yp.out)
    (case yy => exact cw Qd.out HB.out)
    (case yx => exact YP.out)
    rintro e w21 ⟨qd5, rfl, ho0, hb⟩
    refine ⟨_, rfl, ?_⟩
    have n0_ := ak (Kd.R_lower ho0 (below_size (bw HB.out)))
    have n1_ := ak (blk_below (bk qc.out) hb)
    have n2_ := ak (blk_below (bk qf.out) hb)
    have n3_ := ak (below_step (bw HB.out) hb)
    clear qc
    clear qf
    clear HB
    have yp := n0_
    have qc := n1_
    have qf := n2_
    have HB := n3_
    clear n0_ n1_ n2_ n3_
    (try clear hb)
    (try clear hb2)
    (try clear hk)
    (try clear hi)
    (try clear ho0)
    refine hK.out _ _ ⟨(blk_cell qc.out 0).trans rfl, (blk_cell qc.out 1).trans rfl, (blk_cell qc.out 2).trans rfl, (blk_cell qc.out 3).trans rfl, (blk_cell qc.out 4).trans rfl, (blk_cell qc.out 5).trans rfl, (blk_cell qc.out 6).trans rfl, (blk_cell qf.out 0).trans rfl, (blk_cell qf.out 1).trans rfl, (blk_cell qf.out 2).trans rfl, (blk_cell qf.out 3).trans rfl, (blk_cell qf.out 4).trans rfl, (blk_cell qf.out 5).trans rfl, (blk_cell qf.out 6).trans rfl⟩ (fun hHeld => ?_)
    clear hK K
    refine norm_ (a' := ?_) ?_ ?_; rotate_left; go_simp; rfl
    refine one_ (i := 3) (N := some 23) (bA 6 15) rfl rfl (by kernel_rfl) (by decide) (fun K hK => ?_)
    refine goes_ Try.func137 (by kernel_rfl) rfl #[.agg #[.slice jn qn.length jm, .int .i64 zO, .int .i64 yv, .int .i64 yu, .slice ZY zG.length ZX, .slice Yh zF.length Yc, .slice Yv zE.length Yu]] (by rfl) rfl rfl (by first | rfl | (simp only [List.map_toArray, List.map_cons, List.map_nil]; first | done | rfl)) ?_
    with_reducible refine (yw.calls _ _ qn zO yv yu _ _ zG _ _ zF _ _ zE jQ _ ?qk ?qj ?qw ?qy ?zK ?yz ?yy ?yx A18.out).mono ?_
    (case qk => exact cw yo.out HB.out)
    (case qj => exact yE.out)
    (case qw => exact cw qew.out HB.out)
    (case qy => exact qey.out)
    (case zK => exact cw qgd.out HB.out)
    (case yz => exact qge.out)
    (case yy => exact cw qhD.out HB.out)
    (case yx => exact qhS.out)
    rintro e w22 ⟨qvI, rfl, ho0, hb⟩
    refine ⟨_, rfl, ?_⟩
    have n0_ := ak (Kd.R_elder' (rw_ yp.out) (Kd.R_base ho0) hb)
    have n1_ := ak (Kd.R_lower (Kd.R_new' ho0 (Kd.R_lt (rw_ yp.out))) (below_size (bw HB.out)))
    have n2_ := ak (blk_below (bk qc.out) hb)
    have n3_ := ak (blk_below (bk qf.out) hb)
    have n4_ := ak (below_step (bw HB.out) hb)
    clear yp
    clear qc
    clear qf
    clear HB
    have yp := n0_
    have qdb := n1_
    have qc := n2_
    have qf := n3_
    have HB := n4_
    clear n0_ n1_ n2_ n3_ n4_
    (try clear hb)
    (try clear hb2)
    (try clear hk)
    (try clear hi)
    (try clear ho0)
    obtain ⟨qws, qwb, quw⟩ := Kd.R_slice yp.out
    (first | subst quw | (injection quw with f1_ f2_ f3_; have f4_ := f1_.symm; have f5_ := f3_.symm; clear f1_ f2_ f3_; subst f4_; subst f5_))
    obtain ⟨qwr, qwa, quv⟩ := Kd.R_slice qdb.out
    (first | subst quv | (injection quv with f1_ f2_ f3_; have f4_ := f1_.symm; have f5_ := f3_.symm; clear f1_ f2_ f3_; subst f4_; subst f5_))
    refine hK.out _ _ ⟨(blk_cell qc.out 0).trans rfl, (blk_cell qc.out 1).trans rfl, (blk_cell qc.out 2).trans rfl, (blk_cell qc.out 3).trans rfl, (blk_cell qc.out 4).trans rfl, (blk_cell qc.out 5).trans rfl, (blk_cell qc.out 6).trans rfl, (blk_cell qf.out 0).trans rfl, (blk_cell qf.out 1).trans rfl, (blk_cell qf.out 2).trans rfl, (blk_cell qf.out 3).trans rfl, (blk_cell qf.out 4).trans rfl, (blk_cell qf.out 5).trans rfl, (blk_cell qf.out 6).trans rfl⟩ (fun hHeld => ?_)
    clear hK K
    refine norm_ (a' := ?_) ?_ ?_; rotate_left; go_simp; rfl
    refine one_ (i := 4) (N := some 24) (bA 6 31) rfl rfl (by kernel_rfl) (by decide) (fun K hK => ?_)
    refine goes_ Try.func136 (by kernel_rfl) rfl #[.slice qws qS.length qwb, .slice qwr jQ.length qwa] (by rfl) rfl rfl (by first | rfl | (simp only [List.map_toArray, List.map_cons, List.map_nil]; first | done | rfl)) ?_
    with_reducible refine (zd.calls _ _ qS _ _ jQ zb _ ?qk ?qj ?qw ?qy A19.out).mono ?_
    (case qk => repeat (first | exact (Kd.R_reads' yp.out).2.2 | (with_reducible refine Kd.C_alloc ?_ _) | (with_reducible refine Kd.C_drewN ?_ _) | (with_reducible refine Kd.C_drew ?_)))
    (case qj => exact (Kd.R_reads' yp.out).2.1)
    (case qw => repeat (first | exact (Kd.R_reads' qdb.out).2.2 | (with_reducible refine Kd.C_alloc ?_ _) | (with_reducible refine Kd.C_drewN ?_ _) | (with_reducible refine Kd.C_drew ?_)))
    (case qy => exact (Kd.R_reads' qdb.out).2.1)
    rintro e w' ⟨rfl, ⟨nd, rfl⟩⟩
    refine ⟨_, rfl, ?_⟩
    refine hK.out _ _ ⟨(blk_cell qc.out 0).trans rfl, (blk_cell qc.out 1).trans rfl, (blk_cell qc.out 2).trans rfl, (blk_cell qc.out 3).trans rfl, (blk_cell qc.out 4).trans rfl, (blk_cell qc.out 5).trans rfl, (blk_cell qc.out 6).trans rfl, (blk_cell qf.out 0).trans rfl, (blk_cell qf.out 1).trans rfl, (blk_cell qf.out 2).trans rfl, (blk_cell qf.out 3).trans rfl, (blk_cell qf.out 4).trans rfl, (blk_cell qf.out 5).trans rfl, (blk_cell qf.out 6).trans rfl⟩ (fun hHeld => ?_)
    clear hK K
    refine norm_ (a' := ?_) ?_ ?_; rotate_left; go_simp; rfl
    refine pure_ (i := 5) (N := some 5) (v := ?_) (a' := ?_) (bA 6 63) rfl rfl (by kernel_rfl) (fun _ _ _ h => h) (Or.inl ⟨by rfl, ?_⟩) ?_ ?_
    rotate_left; intro w'; go_simp; with_reducible rfl; rotate_left; go_simp; rfl
    refine done_ (by kernel_rfl) ?_
    try go_wp2
    go_ret
    exact ⟨by first | rfl | (simp [errW_none, errW_some] <;> rfl) | (simp [*, errW_none, errW_some] <;> rfl), bw HB.out⟩
   ·rw [if_neg c16] at H
    have c16b0 : (qgh == 0) = false := beq_eq_false_iff_ne.mpr c16
    have c16b1 : (qgh != 0) = true := bne_iff_ne.mpr c16
    obtain rfl := Option.some.inj H
    go_wp2
    go_ret
    exact ⟨by first | rfl | (simp [errW_none, errW_some] <;> rfl) | (simp [*, errW_none, errW_some] <;> rfl), bw HB.out⟩


/-! ### zc: function 96 -/
def zc.f (k : Nat) (qd : List (List Int)) (qn : List (List Int)) : Option (Bool) := if (wrap64 ((qd.length : Int) - (qn.length : Int))) ≥ 0 then (if 0 ≤ (wrap64 ((qd.length : Int) - (qn.length : Int))) then (if (wrap64 ((qd.length : Int) - (qn.length : Int))) ≤ (qd.length : Int) then ((jc.f k (qd.drop ((wrap64 ((qd.length : Int) - (qn.length : Int))) : Int).toNat) qn).bind fun zN => (some (zN == 0))) else (none)) else (none)) else (some false)
def zc.T2 : Bool × List (List Nat × List Nat) := (true, [([], []), ([0], [0]), ([1], [1]), ([2], [2]), ([3, 2], [2, 3]), ([2], [2]), ([4, 5, 2], [2, 4, 5]), ([6, 2], [2, 6]), ([2], [2]), ([7, 8, 2, 2], [2, 7, 8]), ([9, 2], [2, 9]), ([2, 10], [2, 10]), ([11, 9, 0, 1, 2, 3, 4, 5, 6, 7, 8, 9, 10, 11], [11])])
def zc.B2 : List Nat := [0, 1, 3, 7, 15, 7, 63, 127, 7, 511, 1023, 2047, 4095]
theorem zc.tab2 : rtab .any (opsOf Try.f96 2) = zc.T2 := by kernel_rfl
theorem zc.bits2 : waitsOk zc.T2.2 zc.B2 = true := by kernel_rfl
set_option maxHeartbeats 8000000 in
set_option maxRecDepth 100000 in
theorem zc.calls (k : Nat) (qq : Option Addr) (qp : Nat) (qd : List (List Int)) (jn : Option Addr) (jm : Nat) (qn : List (List Int)) (r : Bool) (w : World) (jd : Kd.C (Kd.slice 5 (Kd.int .u8)) w qq qd.length qd) (jg : qd.length ≤ qp) (yA : Kd.C (Kd.slice 5 (Kd.int .u8)) w jn qn.length qn) (yS : qn.length ≤ jm) (h : zc.f k qd qn = some r) :
  Calls Try.prog 96 #[.agg #[.slice qq qd.length qp], .agg #[.slice jn qn.length jm]] w fun e w' => e = .returned (.bool r) ∧ Below w.heap.size w w' := by
 have Ys := Try.underlying31
 have qW := ak jd
 have jb := ak jg
 clear jd jg
 have yo := ak yA
 have yE := ak yS
 clear yA yS
 have HB := ak (Below.refl w.heap.size w)
 have H : (if (wrap64 ((qd.length : Int) - (qn.length : Int))) ≥ 0 then (if 0 ≤ (wrap64 ((qd.length : Int) - (qn.length : Int))) then (if (wrap64 ((qd.length : Int) - (qn.length : Int))) ≤ (qd.length : Int) then ((jc.f k (qd.drop ((wrap64 ((qd.length : Int) - (qn.length : Int))) : Int).toNat) qn).bind fun zN => (some (zN == 0))) else (none)) else (none)) else (some false)) = some r := h
 clear h
 by_cases c3 : (wrap64 ((qd.length : Int) - (qn.length : Int))) ≥ 0
 ·rw [if_pos c3] at H
  have c3b0 : decide (0 ≤ (wrap64 ((qd.length : Int) - (qn.length : Int)))) = true := decide_eq_true c3
  clear c3
  obtain ⟨ji4, qlD⟩ : ∃ j_ : Int, (wrap64 ((qd.length : Int) - (qn.length : Int))) = j_ := ⟨_, rfl⟩
  replace H : (if 0 ≤ (ji4) then (if (ji4) ≤ (qd.length : Int) then ((jc.f k (qd.drop ((ji4) : Int).toNat) qn).bind fun zN => (some (zN == 0))) else (none)) else (none)) = some r := by first | (rw [qlD] at H; exact H) | (simp only [qlD] at H ⊢; exact H)
  (try rw [qlD] at c3b0)
  have hji4w : (IntKind.i64.wrap ((qd.length : Int) - (qn.length : Int))) = ji4 := (i64_w _).trans qlD
  by_cases c5 : 0 ≤ (ji4)
  ·rw [if_pos c5] at H
   have c5b0 := eq_true c5
   have c5b1 : decide (0 ≤ (ji4)) = true := decide_eq_true c5
   clear c5
   by_cases c6 : (ji4) ≤ (qd.length : Int)
   ·rw [if_pos c6] at H
    have c6b0 := eq_true c6
    have c6b1 : decide ((ji4) ≤ (qd.length : Int)) = true := decide_eq_true c6
    clear c6
    obtain ⟨qd4, qb2⟩ : ∃ y_ : List (List Int), y_ = (qd.drop ((ji4) : Int).toNat) := ⟨_, rfl⟩
    replace H : ((jc.f k qd4 qn).bind fun zN => (some (zN == 0))) = some r := by first | (rw [qb2]; with_reducible exact H) | (have H2_ := (Option.bind_some _ _).symm.trans H; rw [qb2]; with_reducible exact H2_) | (have H2_ := (Option.bind_some _ _).symm.trans H; with_reducible exact H2_) | with_reducible exact H | (rw [qb2]; exact H) | exact H
    have qix := ak qb2
    clear qb2
    replace H := Option.bind_eq_some_iff.mp H
    obtain ⟨zN, A70, H⟩ := H
    replace H : (some (zN == 0)) = some r := H
    have A7 := ak A70
    clear A70
    obtain rfl := Option.some.inj H
    go_enter Try.func96, Try.ntmps96
    try go_wp2_with (first | ((with_reducible refine gate_dst (N := 2) rfl ?_); refine boxed (N := 2) rfl rfl (cs := #[.slice qq qd.length qp]) (t := 31) HB.out (by first | (go_simp; done) | (go_simp; rfl)) ?_; clear HB; intro qi w8 hg HB qc qm hb; have jD := qm; clear hb hg) | ((with_reducible refine gate_dst (N := 3) rfl ?_); refine box_event ?hg (N := 3) ?hd (cs := #[.slice jn qn.length jm]) (t := 31) ?hr ?_; (case hd => rfl); (case hg => rfl); (case hr => first | (go_simp; done) | (go_simp; rfl)); intro qg hg w9 hbox hb; have qf := ak (hbox); have QS := ak ((by rw [hg]; exact (below_size (bw HB.out)) : w.heap.size ≤ qg)); have ji := ak ((by rw [hg]; exact (below_size (bw HB.out)) : w.heap.size ≤ qg)); replace HB := ak (below_step (bw HB.out) hb); have qO := ak ((by rw [hg]; exact Nat.ne_of_lt (blk_lt (bk qc.out)) : qi ≠ qg)); have qN := ak ((by rw [hg]; exact Nat.ne_of_gt (blk_lt (bk qc.out)) : qg ≠ qi)); replace qc := ak (blk_below (bk qc.out) hb); clear hb hbox hg; have qpP := qO.out; have qpM := qN.out; obtain ⟨JZ, JY⟩ := cells1 qc.out; obtain ⟨qcX, qcC⟩ := cells1 qf.out))
    have n0_ := ak (blk_drew qc.out)
    have n1_ := ak (blk_drew qf.out)
    have n2_ := ak (below_drew1 HB.out)
    clear qc
    clear qf
    clear HB
    have qc := n0_
    have qf := n1_
    have HB := n2_
    clear n0_ n1_ n2_
    have q14 : ((ji4) : Int) ≤ ((qd.length : Int) : Int) := of_decide_eq_true (by first | (with_reducible assumption) | assumption)
    obtain ⟨qEy, qpQ, _, qpI, _⟩ := info_parts qlt
    have hroom14 : qd.length ≤ qp := jb.out
    have quq : Kd.C (Kd.slice 5 (Kd.int .u8)) _ qq qd.length qd := qW.out
    have qvJ : (0 : Int) ≤ ((ji4) : Int) := of_decide_eq_true (by first | (with_reducible assumption) | assumption)
    have quk := cut_from (P := Try.prog) 22 25 .i64 Try.underlying22 qpQ 1 qpI qq qd.length qp (ji4) qvJ q14
    have qlw := Kd.C_drop (m := ((ji4) : Int).toNat) (c := qp) quq (by omega) hroom14
    obtain ⟨A14, qoy⟩ : ∃ A1, A1 = (if qp = ((ji4) : Int).toNat then qq else (qq : Option Addr).map (·.add (((ji4) : Int).toNat * 1))) := ⟨_, rfl⟩
    obtain ⟨c14, qpl⟩ : ∃ c1, c1 = qp - ((ji4) : Int).toNat := ⟨_, rfl⟩
    have qop : qd4.length = qd.length - ((ji4) : Int).toNat := (by rw [qix.out, List.length_drop] <;> omega)
    rw [show (qd).drop ((ji4) : Int).toNat = qd4 from qix.out.symm] at qlw
    replace qlw : Kd.C (Kd.slice 5 (Kd.int .u8)) _ A14 qd4.length qd4 := (by rw [qoy]; exact qlw)
    rw [← qop, ← qoy, ← qpl] at quk
    have qpW := ak qlw
    have qvC := ak (show qd4.length ≤ c14 from by rw [qop, qpl]; exact Nat.sub_le_sub_right hroom14 _)
    clear qlw quq hroom14 qpQ qpI qpl
    have qEG := ak qop
    have qEH := ak qoy
    clear qop qoy
    replace q14 := eq_true q14
    refine start_ (n := 13) (S := fun w' => w'.cell? ⟨qi, 0, none⟩ = some (.slice qq qd.length qp) ∧ w'.cell? ⟨qg, 0, none⟩ = some (.slice jn qn.length jm)) (ds := []) (bA 13 0) (by kernel_rfl) rfl rfl ⟨(blk_cell qc.out 0).trans rfl, (blk_cell qf.out 0).trans rfl⟩ (fun hHeld => ?_); refine with_tabW zc.tab2 zc.bits2 (fun HT_ HW_ => ?_)
    generalize w9.drew = w13 at qc qf HB qpW hHeld ⊢
    refine pu_ HT_ 0 13 (bA 13 1) (v := ?_) (a' := ?_) rfl rfl (by kernel_rfl) (fun _ _ _ h => h) (by rfl) ?_ ?_ ?_; rotate_left; intro w'; go_simp; with_reducible rfl; rotate_left; go_simp; rfl
    refine pu_ HT_ 1 14 (bA 13 3) (v := ?_) (a' := ?_) rfl rfl (by kernel_rfl) (fun _ _ _ h => h) (by rfl) ?_ ?_ ?_; rotate_left; intro w'; go_simp; with_reducible rfl; rotate_left; go_simp; rfl
    refine pu_ HT_ 2 15 (bA 13 7) (v := ?_) (a' := ?_) rfl rfl (by kernel_rfl) (fun _ _ _ h => h) (by rfl) ?_ ?_ ?_; rotate_left; intro w'; go_simp; with_reducible rfl; rotate_left; go_simp; rfl
    refine pu_ HT_ 3 16 (bA 13 15) (v := ?_) (a' := ?_) rfl rfl (by kernel_rfl) (fun _ _ _ h => h) (by rfl) ?_ ?_ ?_; rotate_left; intro w'; go_simp; with_reducible rfl; rotate_left; go_simp; rfl
    refine pu_ HT_ 5 18 (bA 13 47) (v := ?_) (a' := ?_) rfl rfl (by kernel_rfl) (fun _ _ _ h => h) (by rfl) ?_ ?_ ?_; rotate_left; intro w'; go_simp; with_reducible rfl; rotate_left; go_simp; rfl
    refine take_ (i := 4) (N := some 17) (v := ?_) (a' := ?_) (bA 13 63) rfl rfl (take_ofW HT_.out HW_.out (by kernel_rfl)) (fun _ _ _ h => h) (Or.inl ⟨by rfl, ?_⟩) hHeld ?_ ?_
    rotate_left; rintro w' ⟨s0, s1⟩; go_simp; with_reducible rfl; rotate_left; go_simp; rfl
    refine pu_ HT_ 6 19 (bA 13 127) (v := ?_) (a' := ?_) rfl rfl (by kernel_rfl) (fun _ _ _ h => h) (by rfl) ?_ ?_ ?_; rotate_left; intro w'; go_simp; with_reducible rfl; rotate_left; go_simp; rfl
    refine pu_ HT_ 7 20 (bA 13 255) (v := ?_) (a' := ?_) rfl rfl (by kernel_rfl) (fun _ _ _ h => h) (by rfl) ?_ ?_ ?_; rotate_left; intro w'; go_simp; with_reducible rfl; rotate_left; go_simp; rfl
    refine take_ (i := 8) (N := some 21) (v := ?_) (a' := ?_) (bA 13 511) rfl rfl (take_ofW HT_.out HW_.out (by kernel_rfl)) (fun _ _ _ h => h) (Or.inl ⟨by rfl, ?_⟩) hHeld ?_ ?_
    rotate_left; rintro w' ⟨s0, s1⟩; go_simp; with_reducible rfl; rotate_left; go_simp; rfl
    refine one_ (i := 9) (N := some 22) (bA 13 1023) rfl rfl (one_of HT_.out (by kernel_rfl)) (by decide) (fun K hK => ?_)
    refine goes_ Try.func98 (by kernel_rfl) rfl #[.agg #[.slice A14 qd4.length c14], .agg #[.slice jn qn.length jm]] (by rfl) rfl rfl (by first | rfl | (simp only [List.map_toArray, List.map_cons, List.map_nil]; first | done | rfl)) ?_
    with_reducible refine (jc.calls k _ _ qd4 _ _ qn zN _ ?qk ?qj ?qw ?qy A7.out).mono ?_
    (case qk => exact cw qpW.out HB.out)
    (case qj => exact qvC.out)
    (case qw => exact cw yo.out HB.out)
    (case qy => exact yE.out)
    rintro e w15 ⟨rfl, hb⟩
    refine ⟨_, rfl, ?_⟩
    have n0_ := ak (blk_below (bk qc.out) hb)
    have n1_ := ak (blk_below (bk qf.out) hb)
    have n2_ := ak (below_step (bw HB.out) hb)
    clear qc
    clear qf
    clear HB
    have qc := n0_
    have qf := n1_
    have HB := n2_
    clear n0_ n1_ n2_
    (try clear hb)
    (try clear hb2)
    (try clear hk)
    (try clear hi)
    refine hK.out _ _ ⟨(blk_cell qc.out 0).trans rfl, (blk_cell qf.out 0).trans rfl⟩ (fun hHeld => ?_)
    clear hK K
    refine norm_ (a' := ?_) ?_ ?_; rotate_left; go_simp; rfl
    refine pu_ HT_ 10 23 (bA 13 2047) (v := ?_) (a' := ?_) rfl rfl (by kernel_rfl) (fun _ _ _ h => h) (by rfl) ?_ ?_ ?_; rotate_left; intro w'; go_simp; with_reducible rfl; rotate_left; go_simp; rfl
    refine pu_ HT_ 11 24 (bA 13 4095) (v := ?_) (a' := ?_) rfl rfl (by kernel_rfl) (fun _ _ _ h => h) (by rfl) ?_ ?_ ?_; rotate_left; intro w'; go_simp; with_reducible rfl; rotate_left; go_simp; rfl
    refine pu_ HT_ 12 4 (bA 13 8191) (v := ?_) (a' := ?_) rfl rfl (by kernel_rfl) (fun _ _ _ h => h) (by rfl) ?_ ?_ ?_; rotate_left; intro w'; go_simp; with_reducible rfl; rotate_left; go_simp; rfl
    refine done_ (done_of HT_.out (by kernel_rfl)) ?_
    try go_wp2
    go_ret
    exact ⟨by first | rfl | (simp [errW_none, errW_some] <;> rfl) | (simp only [← qlD]; first | rfl | (simp [errW_none, errW_some] <;> rfl)) | (simp [*, errW_none, errW_some] <;> rfl), bw HB.out⟩
   ·rw [if_neg c6] at H
    exact absurd H (by simp)
  ·rw [if_neg c5] at H
   exact absurd H (by simp)
 ·rw [if_neg c3] at H
  have c3b0 : decide (0 ≤ (wrap64 ((qd.length : Int) - (qn.length : Int)))) = false := decide_eq_false c3
  clear c3
  obtain rfl := Option.some.inj H
  go_enter Try.func96, Try.ntmps96
  try go_wp2_with (first | ((with_reducible refine gate_dst (N := 2) rfl ?_); refine boxed (N := 2) rfl rfl (cs := #[.slice qq qd.length qp]) (t := 31) HB.out (by first | (go_simp; done) | (go_simp; rfl)) ?_; clear HB; intro qi w16 hg HB qc qm hb; have jD := qm; clear hb hg) | ((with_reducible refine gate_dst (N := 3) rfl ?_); refine box_event ?hg (N := 3) ?hd (cs := #[.slice jn qn.length jm]) (t := 31) ?hr ?_; (case hd => rfl); (case hg => rfl); (case hr => first | (go_simp; done) | (go_simp; rfl)); intro qg hg w17 hbox hb; have qf := ak (hbox); have QS := ak ((by rw [hg]; exact (below_size (bw HB.out)) : w.heap.size ≤ qg)); have ji := ak ((by rw [hg]; exact (below_size (bw HB.out)) : w.heap.size ≤ qg)); replace HB := ak (below_step (bw HB.out) hb); have qO := ak ((by rw [hg]; exact Nat.ne_of_lt (blk_lt (bk qc.out)) : qi ≠ qg)); have qN := ak ((by rw [hg]; exact Nat.ne_of_gt (blk_lt (bk qc.out)) : qg ≠ qi)); replace qc := ak (blk_below (bk qc.out) hb); clear hb hbox hg; have qov := qO.out; have qot := qN.out; obtain ⟨qht, qha⟩ := cells1 qc.out; obtain ⟨qaI, qaG⟩ := cells1 qf.out))
  have n0_ := ak (blk_drew qc.out)
  have n1_ := ak (blk_drew qf.out)
  have n2_ := ak (below_drew1 HB.out)
  clear qc
  clear qf
  clear HB
  have qc := n0_
  have qf := n1_
  have HB := n2_
  clear n0_ n1_ n2_
  refine start_ (n := 13) (S := fun w' => True) (ds := []) (bA 13 0) (by kernel_rfl) rfl rfl trivial (fun hHeld => ?_); refine with_tabW zc.tab2 zc.bits2 (fun HT_ HW_ => ?_)
  generalize w17.drew = w21 at qc qf HB hHeld ⊢
  refine pu_ HT_ 0 13 (bA 13 1) (v := ?_) (a' := ?_) rfl rfl (by kernel_rfl) (fun _ _ _ h => h) (by rfl) ?_ ?_ ?_; rotate_left; intro w'; go_simp; with_reducible rfl; rotate_left; go_simp; rfl
  refine pu_ HT_ 1 14 (bA 13 3) (v := ?_) (a' := ?_) rfl rfl (by kernel_rfl) (fun _ _ _ h => h) (by rfl) ?_ ?_ ?_; rotate_left; intro w'; go_simp; with_reducible rfl; rotate_left; go_simp; rfl
  refine pu_ HT_ 2 15 (bA 13 7) (v := ?_) (a' := ?_) rfl rfl (by kernel_rfl) (fun _ _ _ h => h) (by rfl) ?_ ?_ ?_; rotate_left; intro w'; go_simp; with_reducible rfl; rotate_left; go_simp; rfl
  refine sk_ HT_ 3 16 (bA 13 15) (a' := ?_) rfl rfl (by kernel_rfl) (fun _ _ _ h => h) (by rfl) ?_ ?_; rotate_left; go_simp; rfl
  refine sk_ HT_ 4 17 (bA 13 31) (a' := ?_) rfl rfl (by kernel_rfl) (fun _ _ _ h => h) (by rfl) ?_ ?_; rotate_left; go_simp; rfl
  refine sk_ HT_ 5 18 (bA 13 63) (a' := ?_) rfl rfl (by kernel_rfl) (fun _ _ _ h => h) (by rfl) ?_ ?_; rotate_left; go_simp; rfl
  refine sk_ HT_ 6 19 (bA 13 127) (a' := ?_) rfl rfl (by kernel_rfl) (fun _ _ _ h => h) (by rfl) ?_ ?_; rotate_left; go_simp; rfl
  refine sk_ HT_ 7 20 (bA 13 255) (a' := ?_) rfl rfl (by kernel_rfl) (fun _ _ _ h => h) (by rfl) ?_ ?_; rotate_left; go_simp; rfl
  refine sk_ HT_ 8 21 (bA 13 511) (a' := ?_) rfl rfl (by kernel_rfl) (fun _ _ _ h => h) (by rfl) ?_ ?_; rotate_left; go_simp; rfl
  refine sk_ HT_ 9 22 (bA 13 1023) (a' := ?_) rfl rfl (by kernel_rfl) (fun _ _ _ h => h) (by rfl) ?_ ?_; rotate_left; go_simp; rfl
  refine sk_ HT_ 10 23 (bA 13 2047) (a' := ?_) rfl rfl (by kernel_rfl) (fun _ _ _ h => h) (by rfl) ?_ ?_; rotate_left; go_simp; rfl
  refine pu_ HT_ 11 24 (bA 13 4095) (v := ?_) (a' := ?_) rfl rfl (by kernel_rfl) (fun _ _ _ h => h) (by rfl) ?_ ?_ ?_; rotate_left; intro w'; go_simp; with_reducible rfl; rotate_left; go_simp; rfl
  refine pu_ HT_ 12 4 (bA 13 8191) (v := ?_) (a' := ?_) rfl rfl (by kernel_rfl) (fun _ _ _ h => h) (by rfl) ?_ ?_ ?_; rotate_left; intro w'; go_simp; with_reducible rfl; rotate_left; go_simp; rfl
  refine done_ (done_of HT_.out (by kernel_rfl)) ?_
  try go_wp2
  go_ret
  exact ⟨by first | rfl | (simp [errW_none, errW_some] <;> rfl) | (simp [*, errW_none, errW_some] <;> rfl), bw HB.out⟩


/-! ### qL: function 97 -/
mutual
def qL.l0 : Nat → List (S33) → Int → Int → Option (Bool)
 | 0, _, _, _ => none
 | k + 1, x0, x1, x5 => if x5 < (x0.length : Int) then (if x5 = x1 then (qL.j1 k x0 x1 x5 false) else (if 0 ≤ x5 then (if 0 ≤ x1 then (if x1 < (x0.length : Int) then ((jc.f k ((qa x0 x5).f0.f0) ((qa x0 x1).f0.f0)).bind fun qK => (qL.j1 k x0 x1 x5 (qK == 0))) else (none)) else (none)) else (none))) else (some true)
def qL.j1 : Nat → List (S33) → Int → Int → Bool → Option (Bool)
 | 0, _, _, _, _ => none
 | k + 1, x0, x1, x5, x34 => if x34 = true then (some false) else (qL.l0 k x0 x1 (wrap64 (x5 + 1)))
end
def qL.f (k : Nat) (l0 : List (S33)) (a1 : Int) : Option (Bool) := if 0 ≤ a1 then (if a1 < (l0.length : Int) then (if ((qa l0 a1).f1) = 5 then (qL.l0 k l0 a1 0) else (some true)) else (none)) else (none)
def qL.T6 : Bool × List (List Nat × List Nat) := (true, [([], []), ([], []), ([0, 1], [0, 1]), ([2], [2]), ([3], [3]), ([3], [3]), ([4, 5, 3], [3, 4, 5]), ([6, 3], [3, 6]), ([7, 3], [3, 7]), ([3], [3]), ([3], [3]), ([9, 10, 3], [3, 9, 10]), ([11, 3], [3, 11]), ([12, 3], [3, 12]), ([8, 13, 3, 3], [3, 8, 13]), ([14, 3], [3, 14]), ([3, 15], [3, 15])])
def qL.B6 : List Nat := [0, 0, 3, 7, 15, 15, 63, 127, 255, 15, 15, 1551, 3599, 7695, 16383, 32767, 65535]
theorem qL.tab6 : rtab .any (opsOf Try.f97 6) = qL.T6 := by kernel_rfl
theorem qL.bits6 : waitsOk qL.T6.2 qL.B6 = true := by kernel_rfl
set_option maxHeartbeats 8000000 in
set_option maxRecDepth 100000 in
theorem qL.calls (k : Nat) (A0 : Option Addr) (c0 : Nat) (l0 : List (S33)) (a1 : Int) (r : Bool) (w : World) (hr0 : Kd.C k33 w A0 l0.length l0) (hc0 : l0.length ≤ c0) (h : qL.f k l0 a1 = some r) :
  Calls Try.prog 97 #[.slice A0 l0.length c0, .int .i64 a1] w fun e w' => e = .returned (.bool r) ∧ Below w.heap.size w w' := by
 have Ys := Try.underlying31
 have HR0 := ak hr0
 have HC0 := ak hc0
 clear hr0 hc0
 have HB := ak (Below.refl w.heap.size w)
 have H : (if 0 ≤ a1 then (if a1 < (l0.length : Int) then (if ((qa l0 a1).f1) = 5 then (qL.l0 k l0 a1 0) else (some true)) else (none)) else (none)) = some r := h
 clear h
 by_cases c3 : 0 ≤ a1
 ·rw [if_pos c3] at H
  have c3b0 : decide (0 ≤ a1) = true := decide_eq_true c3
  clear c3
  by_cases c4 : a1 < (l0.length : Int)
  ·rw [if_pos c4] at H
   have c4b0 : decide (a1 < (l0.length : Int)) = true := decide_eq_true c4
   clear c4
   by_cases c5 : ((qa l0 a1).f1) = 5
   ·rw [if_pos c5] at H
    have c5b0 : (((qa l0 a1).f1) == 5) = true := beq_iff_eq.mpr c5
    have c5b1 : (((qa l0 a1).f1) != 5) = false := bne_eq_false_iff_eq.mpr c5
    clear c5
    have H' := ak H
    clear H
    have ju : 0 ≤ (a1 : Int) := of_decide_eq_true (by first | (with_reducible assumption) | assumption)
    have jt : a1 < (l0.length : Int) := of_decide_eq_true (by first | (with_reducible assumption) | assumption)
    obtain ⟨ja, Yi, Yd, qav, qaq, qau, qap, qat, qao, yl, zj, JI, JH, JG, JF, JE, JD, ym, yn, Zj, Zm, Zi, Zl, Zh, Zk⟩ := Qi HR0.out a1 ju jt
    cases yl
    have Qt := ak yn
    have QQ := ak ym
    clear yn ym
    have XE := ak Zm
    have qaO := ak Zj
    clear Zm Zj
    have XD := ak Zl
    have qaN := ak Zi
    clear Zl Zi
    have XC := ak Zk
    have qaM := ak Zh
    clear Zk Zh
    replace ju := eq_true ju
    replace jt := eq_true jt
    go_enter Try.func97, Try.ntmps97
    go_wp2
    go_loopg [5] k (fun kq v5 w' => ∃ (qh : Int), v5 = .int .i64 qh ∧ Aside0 (qL.l0 kq l0 a1 qh = some r) ∧ Aside0 (kq ≤ k) ∧ Aside0 (Below w.heap.size w w'))
    case atStart => exact ⟨(0), (by first | rfl | (simp; done) | (simp [*]; done)), H', ⟨Nat.le_refl _⟩, ⟨bw HB.out⟩⟩
    case round =>
     clear H'
     try clear c1
     try clear p1
     try clear q1
     try clear hx1
     try clear p2
     try clear c3
     try clear c3b0
     try clear c4
     try clear c4b0
     try clear c5
     try clear c5b0
     try clear c5b1
     try clear zj
     try clear JI
     try clear JH
     try clear JG
     try clear JF
     try clear JE
     try clear JD
     try clear ju
     try clear jt
     obtain ⟨qh, rfl, HA, HK1, HB⟩ := hrel
     cases gk with
     | zero => exact absurd HA.out (by simp [qL.l0])
     | succ k1 =>
      have H := HA.out
      clear HA
      simp only [qL.l0] at H
      by_cases c6 : qh < (l0.length : Int)
      ·rw [if_pos c6] at H
       have c6b0 : decide (qh < (l0.length : Int)) = true := decide_eq_true c6
       clear c6
       have HC7 := ak H
       clear H
       go_upto_region 6 with (fail)
       go_cut [34] (fun v34 wc => ∃ (kq : Nat) (qk9 : Bool), v34 = .bool qk9 ∧ Aside0 (qL.j1 kq l0 a1 qh qk9 = some r) ∧ Aside0 (kq ≤ k1) ∧ Aside0 (Below w.heap.size w wc))
       case first =>
        have H := HC7.out
        clear HC7
        by_cases c8 : qh = a1
        ·rw [if_pos c8] at H
         have c8b0 : (qh == a1) = true := beq_iff_eq.mpr c8
         have c8b1 : (qh != a1) = false := bne_eq_false_iff_eq.mpr c8
         clear c8
         (first | rw [c8b0] | (simp only [i64_w, i32_w]; rw [c8b0]) | skip)
         have H' := ak H
         clear H
         try go_wp2
         have n0_ := ak (below_drew1 HB.out)
         clear HB
         have HB := n0_
         clear n0_
         refine start_ (n := 17) (S := fun w' => True) (ds := []) (bA 17 0) (by kernel_rfl) rfl rfl trivial (fun hHeld => ?_); refine with_tabW qL.tab6 qL.bits6 (fun HT_ HW_ => ?_)
         generalize wr.drew = w9 at HB hHeld ⊢
         refine pu_ HT_ 0 18 (bA 17 1) (v := ?_) (a' := ?_) rfl rfl (by kernel_rfl) (fun _ _ _ h => h) (by rfl) ?_ ?_ ?_; rotate_left; intro w'; go_simp; with_reducible rfl; rotate_left; go_simp; rfl
         refine pu_ HT_ 1 19 (bA 17 3) (v := ?_) (a' := ?_) rfl rfl (by kernel_rfl) (fun _ _ _ h => h) (by rfl) ?_ ?_ ?_; rotate_left; intro w'; go_simp; with_reducible rfl; rotate_left; go_simp; rfl
         refine pu_ HT_ 2 20 (bA 17 7) (v := ?_) (a' := ?_) rfl rfl (by kernel_rfl) (fun _ _ _ h => h) (by rfl) ?_ ?_ ?_; rotate_left; intro w'; go_simp; with_reducible rfl; rotate_left; go_simp; rfl
         refine pu_ HT_ 3 21 (bA 17 15) (v := ?_) (a' := ?_) rfl rfl (by kernel_rfl) (fun _ _ _ h => h) (by rfl) ?_ ?_ ?_; rotate_left; intro w'; go_simp; with_reducible rfl; rotate_left; go_simp; rfl
         refine sk_ HT_ 4 22 (bA 17 31) (a' := ?_) rfl rfl (by kernel_rfl) (fun _ _ _ h => h) (by rfl) ?_ ?_; rotate_left; go_simp; rfl
         refine sk_ HT_ 5 23 (bA 17 63) (a' := ?_) rfl rfl (by kernel_rfl) (fun _ _ _ h => h) (by rfl) ?_ ?_; rotate_left; go_simp; rfl
         refine sk_ HT_ 6 24 (bA 17 127) (a' := ?_) rfl rfl (by kernel_rfl) (fun _ _ _ h => h) (by rfl) ?_ ?_; rotate_left; go_simp; rfl
         refine sk_ HT_ 7 25 (bA 17 255) (a' := ?_) rfl rfl (by kernel_rfl) (fun _ _ _ h => h) (by rfl) ?_ ?_; rotate_left; go_simp; rfl
         refine sk_ HT_ 8 26 (bA 17 511) (a' := ?_) rfl rfl (by kernel_rfl) (fun _ _ _ h => h) (by rfl) ?_ ?_; rotate_left; go_simp; rfl
         refine sk_ HT_ 9 27 (bA 17 1023) (a' := ?_) rfl rfl (by kernel_rfl) (fun _ _ _ h => h) (by rfl) ?_ ?_; rotate_left; go_simp; rfl
         refine sk_ HT_ 10 28 (bA 17 2047) (a' := ?_) rfl rfl (by kernel_rfl) (fun _ _ _ h => h) (by rfl) ?_ ?_; rotate_left; go_simp; rfl
         refine sk_ HT_ 11 29 (bA 17 4095) (a' := ?_) rfl rfl (by kernel_rfl) (fun _ _ _ h => h) (by rfl) ?_ ?_; rotate_left; go_simp; rfl
         refine sk_ HT_ 12 30 (bA 17 8191) (a' := ?_) rfl rfl (by kernel_rfl) (fun _ _ _ h => h) (by rfl) ?_ ?_; rotate_left; go_simp; rfl
         refine sk_ HT_ 13 31 (bA 17 16383) (a' := ?_) rfl rfl (by kernel_rfl) (fun _ _ _ h => h) (by rfl) ?_ ?_; rotate_left; go_simp; rfl
         refine sk_ HT_ 14 32 (bA 17 32767) (a' := ?_) rfl rfl (by kernel_rfl) (fun _ _ _ h => h) (by rfl) ?_ ?_; rotate_left; go_simp; rfl
         refine sk_ HT_ 15 33 (bA 17 65535) (a' := ?_) rfl rfl (by kernel_rfl) (fun _ _ _ h => h) (by rfl) ?_ ?_; rotate_left; go_simp; rfl
         refine pu_ HT_ 16 34 (bA 17 131071) (v := ?_) (a' := ?_) rfl rfl (by kernel_rfl) (fun _ _ _ h => h) (by rfl) ?_ ?_ ?_; rotate_left; intro w'; go_simp; with_reducible rfl; rotate_left; go_simp; rfl
         refine done_ (done_of HT_.out (by kernel_rfl)) ?_
         try go_wp2
         go_meet
         case rel => exact ⟨_, (false), (by first | rfl | (simp; done) | (simp [*]; done)), H', ⟨by have := HK1.out; first | omega | exact Nat.le_refl _⟩, ⟨bw HB.out⟩⟩
        ·rw [if_neg c8] at H
         have c8b0 : (qh == a1) = false := beq_eq_false_iff_ne.mpr c8
         have c8b1 : (qh != a1) = true := bne_iff_ne.mpr c8
         (first | rw [c8b0] | (simp only [i64_w, i32_w]; rw [c8b0]) | skip)
         by_cases c10 : 0 ≤ qh
         ·rw [if_pos c10] at H
          have c10b0 : decide (0 ≤ qh) = true := decide_eq_true c10
          clear c10
          by_cases c11 : 0 ≤ a1
          ·rw [if_pos c11] at H
           have c11b0 : decide (0 ≤ a1) = true := decide_eq_true c11
           clear c11
           by_cases c12 : a1 < (l0.length : Int)
           ·rw [if_pos c12] at H
            have c12b0 : decide (a1 < (l0.length : Int)) = true := decide_eq_true c12
            clear c12
            replace H := Option.bind_eq_some_iff.mp H
            obtain ⟨qK, qei, H⟩ := H
            replace H : (qL.j1 k1 l0 a1 qh (qK == 0)) = some r := H
            have A13 := ak qei
            clear qei
            have H' := ak H
            clear H
            try go_wp2
            have n0_ := ak (below_drew1 HB.out)
            clear HB
            have HB := n0_
            clear n0_
            have zw : 0 ≤ (qh : Int) := of_decide_eq_true (by first | (with_reducible assumption) | assumption)
            have zu : qh < (l0.length : Int) := of_decide_eq_true (by first | (with_reducible assumption) | assumption)
            obtain ⟨zM, Xe, Xb, qem, qed, qel, qec, qek, qeb, JU, zS, ZS, ZR, ZQ, ZP, ZO, ZN, Jc, Jl, qbf, qbi, qbe, qbh, qbd, qbg⟩ := Qi HR0.out qh zw zu
            have qa6 := ZN
            have qa7 := ZO
            have qa8 := ZP
            have qa9 := ZQ
            have qba := ZR
            have qbb := ZS
            have qbc := zS
            obtain rfl : ja = zM := (by injection JU)
            replace zS := hc_ HB.out zS
            replace ZS := hc_ HB.out ZS
            replace ZR := hc_ HB.out ZR
            replace ZQ := hc_ HB.out ZQ
            replace ZP := hc_ HB.out ZP
            replace ZO := hc_ HB.out ZO
            replace ZN := hc_ HB.out ZN
            have Jm := ak Jl
            have Zq := ak Jc
            clear Jl Jc
            have qc5 := ak qbi
            have qhY := ak qbf
            clear qbi qbf
            have qc4 := ak qbh
            have qhX := ak qbe
            clear qbh qbe
            have qc3 := ak qbg
            have qhW := ak qbd
            clear qbg qbd
            replace zw := eq_true zw
            replace zu := eq_true zu
            have zv : 0 ≤ (a1 : Int) := of_decide_eq_true (by first | (with_reducible assumption) | assumption)
            have zt : a1 < (l0.length : Int) := of_decide_eq_true (by first | (with_reducible assumption) | assumption)
            obtain ⟨qJ, jz, jy, za, jY, jZ, jX, zf, jW, Zg, jP, yO, yN, yM, yi, yh, yg, ya, yb, Jb, Jk, Ja, Jj, QZ, Ji⟩ := Qi HR0.out a1 zv zt
            have qeQ := yg
            have qeR := yh
            have qeS := yi
            have qeT := yM
            have qeU := yN
            have qeV := yO
            have qeW := jP
            obtain rfl : ja = qJ := (by injection Zg)
            replace jP := hc_ HB.out jP
            replace yO := hc_ HB.out yO
            replace yN := hc_ HB.out yN
            replace yM := hc_ HB.out yM
            replace yi := hc_ HB.out yi
            replace yh := hc_ HB.out yh
            replace yg := hc_ HB.out yg
            have jk := ak yb
            have zk := ak ya
            clear yb ya
            have zJ := ak Jk
            have YK := ak Jb
            clear Jk Jb
            have zI := ak Jj
            have YJ := ak Ja
            clear Jj Ja
            have zD := ak Ji
            have YI := ak QZ
            clear Ji QZ
            replace zv := eq_true zv
            replace zt := eq_true zt
            refine start_ (n := 17) (S := fun w' => w'.cell? (ja.add ((qh).toNat * 7)) = some (.slice Xe ((qa l0 qh).f0.f0).length Xb) ∧ w'.cell? ⟨(ja.add ((qh).toNat * 7)).block, (ja.add ((qh).toNat * 7)).off + 1, none⟩ = some (.int .i64 ((qa l0 qh).f1)) ∧ w'.cell? ⟨(ja.add ((qh).toNat * 7)).block, (ja.add ((qh).toNat * 7)).off + 2, none⟩ = some (.int .i64 ((qa l0 qh).f2)) ∧ w'.cell? ⟨(ja.add ((qh).toNat * 7)).block, (ja.add ((qh).toNat * 7)).off + 3, none⟩ = some (.int .i64 ((qa l0 qh).f3)) ∧ w'.cell? ⟨(ja.add ((qh).toNat * 7)).block, (ja.add ((qh).toNat * 7)).off + 4, none⟩ = some (.slice qem ((qa l0 qh).f4.f0).length qed) ∧ w'.cell? ⟨(ja.add ((qh).toNat * 7)).block, (ja.add ((qh).toNat * 7)).off + 5, none⟩ = some (.slice qel ((qa l0 qh).f5).length qec) ∧ w'.cell? ⟨(ja.add ((qh).toNat * 7)).block, (ja.add ((qh).toNat * 7)).off + 6, none⟩ = some (.slice qek ((qa l0 qh).f6).length qeb) ∧ w'.cell? (ja.add ((a1).toNat * 7)) = some (.slice jz ((qa l0 a1).f0.f0).length jy) ∧ w'.cell? ⟨(ja.add ((a1).toNat * 7)).block, (ja.add ((a1).toNat * 7)).off + 1, none⟩ = some (.int .i64 ((qa l0 a1).f1)) ∧ w'.cell? ⟨(ja.add ((a1).toNat * 7)).block, (ja.add ((a1).toNat * 7)).off + 2, none⟩ = some (.int .i64 ((qa l0 a1).f2)) ∧ w'.cell? ⟨(ja.add ((a1).toNat * 7)).block, (ja.add ((a1).toNat * 7)).off + 3, none⟩ = some (.int .i64 ((qa l0 a1).f3)) ∧ w'.cell? ⟨(ja.add ((a1).toNat * 7)).block, (ja.add ((a1).toNat * 7)).off + 4, none⟩ = some (.slice za ((qa l0 a1).f4.f0).length jY) ∧ w'.cell? ⟨(ja.add ((a1).toNat * 7)).block, (ja.add ((a1).toNat * 7)).off + 5, none⟩ = some (.slice jZ ((qa l0 a1).f5).length jX) ∧ w'.cell? ⟨(ja.add ((a1).toNat * 7)).block, (ja.add ((a1).toNat * 7)).off + 6, none⟩ = some (.slice zf ((qa l0 a1).f6).length jW)) (ds := []) (bA 17 0) (by kernel_rfl) rfl rfl ⟨(hc_ HB.out qbc), (hc_ HB.out qbb), (hc_ HB.out qba), (hc_ HB.out qa9), (hc_ HB.out qa8), (hc_ HB.out qa7), (hc_ HB.out qa6), (hc_ HB.out qeW), (hc_ HB.out qeV), (hc_ HB.out qeU), (hc_ HB.out qeT), (hc_ HB.out qeS), (hc_ HB.out qeR), (hc_ HB.out qeQ)⟩ (fun hHeld => ?_); refine with_tabW qL.tab6 qL.bits6 (fun HT_ HW_ => ?_)
            generalize wr.drew = w14 at HB Jm qc5 qc4 qc3 jk zJ zI zD zS ZS ZR ZQ ZP ZO ZN jP yO yN yM yi yh yg hHeld ⊢
            refine pu_ HT_ 0 18 (bA 17 1) (v := ?_) (a' := ?_) rfl rfl (by kernel_rfl) (fun _ _ _ h => h) (by rfl) ?_ ?_ ?_; rotate_left; intro w'; go_simp; with_reducible rfl; rotate_left; go_simp; rfl
            refine pu_ HT_ 1 19 (bA 17 3) (v := ?_) (a' := ?_) rfl rfl (by kernel_rfl) (fun _ _ _ h => h) (by rfl) ?_ ?_ ?_; rotate_left; intro w'; go_simp; with_reducible rfl; rotate_left; go_simp; rfl
            refine pu_ HT_ 2 20 (bA 17 7) (v := ?_) (a' := ?_) rfl rfl (by kernel_rfl) (fun _ _ _ h => h) (by rfl) ?_ ?_ ?_; rotate_left; intro w'; go_simp; with_reducible rfl; rotate_left; go_simp; rfl
            refine pu_ HT_ 3 21 (bA 17 15) (v := ?_) (a' := ?_) rfl rfl (by kernel_rfl) (fun _ _ _ h => h) (by rfl) ?_ ?_ ?_; rotate_left; intro w'; go_simp; with_reducible rfl; rotate_left; go_simp; rfl
            refine pu_ HT_ 4 22 (bA 17 31) (v := ?_) (a' := ?_) rfl rfl (by kernel_rfl) (fun _ _ _ h => h) (by rfl) ?_ ?_ ?_; rotate_left; intro w'; go_simp; with_reducible rfl; rotate_left; go_simp; rfl
            refine pu_ HT_ 5 23 (bA 17 63) (v := ?_) (a' := ?_) rfl rfl (by kernel_rfl) (fun _ _ _ h => h) (by rfl) ?_ ?_ ?_; rotate_left; intro w'; go_simp; with_reducible rfl; rotate_left; go_simp; rfl
            refine pu_ HT_ 6 24 (bA 17 127) (v := ?_) (a' := ?_) rfl rfl (by kernel_rfl) (fun _ _ _ h => h) (by rfl) ?_ ?_ ?_; rotate_left; intro w'; go_simp; with_reducible rfl; rotate_left; go_simp; rfl
            refine pu_ HT_ 7 25 (bA 17 255) (v := ?_) (a' := ?_) rfl rfl (by kernel_rfl) (fun _ _ _ h => h) (by rfl) ?_ ?_ ?_; rotate_left; intro w'; go_simp; with_reducible rfl; rotate_left; go_simp; rfl
            refine pu_ HT_ 9 27 (bA 17 767) (v := ?_) (a' := ?_) rfl rfl (by kernel_rfl) (fun _ _ _ h => h) (by rfl) ?_ ?_ ?_; rotate_left; intro w'; go_simp; with_reducible rfl; rotate_left; go_simp; rfl
            refine pu_ HT_ 10 28 (bA 17 1791) (v := ?_) (a' := ?_) rfl rfl (by kernel_rfl) (fun _ _ _ h => h) (by rfl) ?_ ?_ ?_; rotate_left; intro w'; go_simp; with_reducible rfl; rotate_left; go_simp; rfl
            refine pu_ HT_ 11 29 (bA 17 3839) (v := ?_) (a' := ?_) rfl rfl (by kernel_rfl) (fun _ _ _ h => h) (by rfl) ?_ ?_ ?_; rotate_left; intro w'; go_simp; with_reducible rfl; rotate_left; go_simp; rfl
            refine pu_ HT_ 12 30 (bA 17 7935) (v := ?_) (a' := ?_) rfl rfl (by kernel_rfl) (fun _ _ _ h => h) (by rfl) ?_ ?_ ?_; rotate_left; intro w'; go_simp; with_reducible rfl; rotate_left; go_simp; rfl
            refine take_ (i := 8) (N := some 26) (v := ?_) (a' := ?_) (bA 17 8191) rfl rfl (take_ofW HT_.out HW_.out (by kernel_rfl)) (fun _ _ _ h => h) (Or.inl ⟨by rfl, ?_⟩) hHeld ?_ ?_
            rotate_left; rintro w' ⟨s0, s1, s2, s3, s4, s5, s6, s7, s8, s9, s10, s11, s12, s13⟩; go_simp; with_reducible rfl; rotate_left; go_simp; rfl
            refine take_ (i := 13) (N := some 31) (v := ?_) (a' := ?_) (bA 17 16383) rfl rfl (take_ofW HT_.out HW_.out (by kernel_rfl)) (fun _ _ _ h => h) (Or.inl ⟨by rfl, ?_⟩) hHeld ?_ ?_
            rotate_left; rintro w' ⟨s0, s1, s2, s3, s4, s5, s6, s7, s8, s9, s10, s11, s12, s13⟩; go_simp; with_reducible rfl; rotate_left; go_simp; rfl
            refine one_ (i := 14) (N := some 32) (bA 17 32767) rfl rfl (one_of HT_.out (by kernel_rfl)) (by decide) (fun K hK => ?_)
            refine goes_ Try.func98 (by kernel_rfl) rfl #[.agg #[.slice Xe ((qa l0 qh).f0.f0).length Xb], .agg #[.slice jz ((qa l0 a1).f0.f0).length jy]] (by rfl) rfl rfl (by first | rfl | (simp only [List.map_toArray, List.map_cons, List.map_nil]; first | done | rfl)) ?_
            with_reducible refine (jc.calls k1 _ _ ((qa l0 qh).f0.f0) _ _ ((qa l0 a1).f0.f0) qK _ ?qk ?qj ?qw ?qy A13.out).mono ?_
            (case qk => exact cw Jm.out HB.out)
            (case qj => exact Zq.out)
            (case qw => exact cw jk.out HB.out)
            (case qy => exact zk.out)
            rintro e w15 ⟨rfl, hb⟩
            refine ⟨_, rfl, ?_⟩
            have n0_ := ak (below_step (bw HB.out) hb)
            clear HB
            have HB := n0_
            clear n0_
            (try clear hb)
            (try clear hb2)
            (try clear hk)
            (try clear hi)
            refine hK.out _ _ ⟨(hc_ HB.out qbc), (hc_ HB.out qbb), (hc_ HB.out qba), (hc_ HB.out qa9), (hc_ HB.out qa8), (hc_ HB.out qa7), (hc_ HB.out qa6), (hc_ HB.out qeW), (hc_ HB.out qeV), (hc_ HB.out qeU), (hc_ HB.out qeT), (hc_ HB.out qeS), (hc_ HB.out qeR), (hc_ HB.out qeQ)⟩ (fun hHeld => ?_)
            clear hK K
            refine norm_ (a' := ?_) ?_ ?_; rotate_left; go_simp; rfl
            refine pu_ HT_ 15 33 (bA 17 65535) (v := ?_) (a' := ?_) rfl rfl (by kernel_rfl) (fun _ _ _ h => h) (by rfl) ?_ ?_ ?_; rotate_left; intro w'; go_simp; with_reducible rfl; rotate_left; go_simp; rfl
            refine pu_ HT_ 16 34 (bA 17 131071) (v := ?_) (a' := ?_) rfl rfl (by kernel_rfl) (fun _ _ _ h => h) (by rfl) ?_ ?_ ?_; rotate_left; intro w'; go_simp; with_reducible rfl; rotate_left; go_simp; rfl
            refine done_ (done_of HT_.out (by kernel_rfl)) ?_
            try go_wp2
            go_meet
            case rel => exact ⟨_, ((qK == 0)), (by first | rfl | (simp; done) | (simp [*]; done)), H', ⟨by have := HK1.out; first | omega | exact Nat.le_refl _⟩, ⟨bw HB.out⟩⟩
           ·rw [if_neg c12] at H
            exact absurd H (by simp)
          ·rw [if_neg c11] at H
           exact absurd H (by simp)
         ·rw [if_neg c10] at H
          exact absurd H (by simp)
       case rest =>
        clear HC7
        try clear c1
        try clear p1
        try clear q1
        try clear hx1
        try clear p2
        try clear c3
        try clear c3b0
        try clear c4
        try clear c4b0
        try clear c5
        try clear c5b0
        try clear c5b1
        try clear c6
        try clear c6b0
        try clear c8
        try clear c8b0
        try clear c8b1
        try clear c9
        try clear c10
        try clear c10b0
        try clear p10
        try clear q10
        try clear qoq
        try clear c11
        try clear c11b0
        try clear c12
        try clear c12b0
        try clear zj
        try clear JI
        try clear JH
        try clear JG
        try clear JF
        try clear JE
        try clear JD
        try clear zS
        try clear ZS
        try clear ZR
        try clear ZQ
        try clear ZP
        try clear ZO
        try clear ZN
        try clear jP
        try clear yO
        try clear yN
        try clear yM
        try clear yi
        try clear yh
        try clear yg
        try clear p1
        try clear ju
        try clear zw
        try clear zv
        try clear p2
        try clear q1
        try clear jt
        try clear zu
        try clear zt
        obtain ⟨kq, qk9, rfl, HA, HJ6, HB⟩ := hcut
        cases kq with
        | zero => exact absurd HA.out (by simp [qL.j1])
        | succ kj6 =>
         have H := HA.out
         clear HA
         simp only [qL.j1] at H
         by_cases c16 : qk9 = true
         ·subst c16
          have H1 : (some false) = some r := by rw [if_pos rfl] at H; exact H
          clear H
          have H := H1
          clear H1
          obtain rfl := Option.some.inj H
          go_wp2
          go_ret
          exact ⟨by first | rfl | (simp [errW_none, errW_some] <;> rfl) | (simp [*, errW_none, errW_some] <;> rfl), bw HB.out⟩
         ·replace c16 := Bool.eq_false_iff.mpr c16
          subst c16
          have H1 : (qL.l0 kj6 l0 a1 (wrap64 (qh + 1))) = some r := by rw [if_neg (show ¬ (false = true) by decide)] at H; exact H
          clear H
          have H := H1
          clear H1
          have H' := ak H
          clear H
          go_wp2
          go_roundg kj6
          case measure => have := HK1.out; have := HJ6.out; omega
          case rel => exact ⟨(wrap64 (qh + 1)), (by first | rfl | (simp; done) | (simp [*]; done)), H', ⟨by have := HK1.out; have := HJ6.out; omega⟩, ⟨bw HB.out⟩⟩
      ·rw [if_neg c6] at H
       have c6b0 : decide (qh < (l0.length : Int)) = false := decide_eq_false c6
       clear c6
       obtain rfl := Option.some.inj H
       go_wp2
       go_ret
       exact ⟨by first | rfl | (simp [errW_none, errW_some] <;> rfl) | (simp [*, errW_none, errW_some] <;> rfl), bw HB.out⟩
   ·rw [if_neg c5] at H
    have c5b0 : (((qa l0 a1).f1) == 5) = false := beq_eq_false_iff_ne.mpr c5
    have c5b1 : (((qa l0 a1).f1) != 5) = true := bne_iff_ne.mpr c5
    obtain rfl := Option.some.inj H
    have ju : 0 ≤ (a1 : Int) := of_decide_eq_true (by first | (with_reducible assumption) | assumption)
    have jt : a1 < (l0.length : Int) := of_decide_eq_true (by first | (with_reducible assumption) | assumption)
    obtain ⟨ja, Yi, Yd, qav, qaq, qau, qap, qat, qao, yl, zj, JI, JH, JG, JF, JE, JD, ym, yn, Zj, Zm, Zi, Zl, Zh, Zk⟩ := Qi HR0.out a1 ju jt
    cases yl
    have Qt := ak yn
    have QQ := ak ym
    clear yn ym
    have XE := ak Zm
    have qaO := ak Zj
    clear Zm Zj
    have XD := ak Zl
    have qaN := ak Zi
    clear Zl Zi
    have XC := ak Zk
    have qaM := ak Zh
    clear Zk Zh
    replace ju := eq_true ju
    replace jt := eq_true jt
    go_enter Try.func97, Try.ntmps97
    go_wp2
    go_ret
    exact ⟨by first | rfl | (simp [errW_none, errW_some] <;> rfl) | (simp [*, errW_none, errW_some] <;> rfl), bw HB.out⟩
  ·rw [if_neg c4] at H
   exact absurd H (by simp)
 ·rw [if_neg c3] at H
  exact absurd H (by simp)


end Go.Proofs.Ytagedmajlppohaa.Q
