/- Printed by a program of this session (wip/myprint.py), which drives the kit's printer: functions and what their calls do. -/
import Derived.Test.YtagedmajlppohaaZFnExactSerial0
import Derived.Test.YtagedmajlppohaaZFnExactSerial1
namespace Go.Proofs.Ytagedmajlppohaa.Q
open Go.RowKit Go Go.Proofs.YtagedmajlppohaaW.PrintWords Go.Proofs.YtagedmajlppohaaW.PrintLast Go.Proofs.YtagedmajlppohaaW.PrintMore
attribute [local go_sem] max2_int min2_int max_two min_two max_three min_three max_four min_four
set_option linter.unusedVariables false
set_option linter.unusedSimpArgs false

/-! ### qv: function 35 -/
mutual
def qv.j0 : Nat → Bool → List (List Int) → List (S33) → Option (Bool)
 | 0, _, _, _ => none
 | k + 1, x15, qU, qB => if x15 = true then (some false) else (qv.l0 k 0 0 qU qB)
def qv.l0 : Nat → Int → Int → List (List Int) → List (S33) → Option (Bool)
 | 0, _, _, _, _ => none
 | k + 1, x3, x4, qU, qB => if x4 < (qB.length : Int) then (if 0 ≤ x4 then ((ZD.f k ((qa qB x4).f0.f0) ((qa qB x4).f1) ((qa qB x4).f2) ((qa qB x4).f3) ((qa qB x4).f4.f0) ((qa qB x4).f5) ((qa qB x4).f6)).bind fun qS => (if qS = true then ((zc.f k ((qa qB x4).f0.f0) qU).bind fun zy => (if zy = true then (if x4 > 0 then (if 0 ≤ (wrap64 (x4 - 1)) then (if (wrap64 (x4 - 1)) < (qB.length : Int) then ((zr.f k ((qa qB (wrap64 (x4 - 1))).f0.f0) ((qa qB (wrap64 (x4 - 1))).f1) ((qa qB (wrap64 (x4 - 1))).f2) ((qa qB (wrap64 (x4 - 1))).f3) ((qa qB (wrap64 (x4 - 1))).f4.f0) ((qa qB (wrap64 (x4 - 1))).f5) ((qa qB (wrap64 (x4 - 1))).f6) ((qa qB x4).f0.f0) ((qa qB x4).f1) ((qa qB x4).f2) ((qa qB x4).f3) ((qa qB x4).f4.f0) ((qa qB x4).f5) ((qa qB x4).f6)).bind fun jQ => (if jQ ≥ 0 then (qv.j2 k x3 x4 true qU qB ((qa qB x4).f0.f0) ((qa qB x4).f1) ((qa qB x4).f2) ((qa qB x4).f3) ((qa qB x4).f4.f0) ((qa qB x4).f5) ((qa qB x4).f6)) else ((qL.f k qB x4).bind fun zq => (qv.j2 k x3 x4 (!zq) qU qB ((qa qB x4).f0.f0) ((qa qB x4).f1) ((qa qB x4).f2) ((qa qB x4).f3) ((qa qB x4).f4.f0) ((qa qB x4).f5) ((qa qB x4).f6))))) else (none)) else (none)) else ((qL.f k qB x4).bind fun jS => (qv.j2 k x3 x4 (!jS) qU qB ((qa qB x4).f0.f0) ((qa qB x4).f1) ((qa qB x4).f2) ((qa qB x4).f3) ((qa qB x4).f4.f0) ((qa qB x4).f5) ((qa qB x4).f6)))) else (qv.j2 k x3 x4 true qU qB ((qa qB x4).f0.f0) ((qa qB x4).f1) ((qa qB x4).f2) ((qa qB x4).f3) ((qa qB x4).f4.f0) ((qa qB x4).f5) ((qa qB x4).f6)))) else (qv.j2 k x3 x4 true qU qB ((qa qB x4).f0.f0) ((qa qB x4).f1) ((qa qB x4).f2) ((qa qB x4).f3) ((qa qB x4).f4.f0) ((qa qB x4).f5) ((qa qB x4).f6)))) else (none)) else (some (x3 == 1))
def qv.j2 : Nat → Int → Int → Bool → List (List Int) → List (S33) → List (List Int) → Int → Int → Int → List (List Int) → List Int → List Int → Option (Bool)
 | 0, _, _, _, _, _, _, _, _, _, _, _, _ => none
 | k + 1, x3, x4, x60, qU, qB, qp1, qp0, qwF, qwE, qwD, qwC, qwB => if x60 = true then (some false) else (if qp0 = 6 then ((jc.f k qp1 qU).bind fun zb => (if zb = 0 then (qv.l0 k (wrap64 (x3 + 1)) (wrap64 (x4 + 1)) qU qB) else (some false))) else (qv.l0 k x3 (wrap64 (x4 + 1)) qU qB))
end
def qv.f (k : Nat) (qd : List (List Int)) (qb : List (S33)) : Option (Bool) := (jw.f k qd).bind fun qG => (if qG = true then (qv.j0 k (decide ((qb.length : Int) > 60)) qd qb) else (qv.j0 k true qd qb))
def qv.T8 : Bool × List (List Nat × List Nat) := (true, [([], []), ([0], [0]), ([1], [1]), ([2, 1], [2]), ([3], [3]), ([4, 3], [3, 4]), ([3], [3]), ([6, 3], [3, 6]), ([5, 7, 3, 3], [3, 5, 7]), ([8, 3], [3, 8]), ([3, 9], [3, 9]), ([10, 8], [10]), ([11], [11]), ([12, 11], [11, 12]), ([13, 11, 11], [11, 13]), ([14], [14]), ([15, 14], [14, 15]), ([14], [14]), ([17, 14], [14, 17]), ([16, 18, 14], [14, 16, 18]), ([19, 14], [14, 19]), ([14], [14]), ([20, 21, 14, 14], [14, 20, 21]), ([22, 14], [14, 22]), ([14, 23, 11], [11, 14, 23]), ([11, 24], [11, 24]), ([25, 22], [25]), ([26], [26]), ([27, 26], [26, 27]), ([26], [26]), ([28, 29, 26, 26], [26, 28, 29]), ([30, 26], [26, 30]), ([26, 31], [26, 31])])
def qv.B8 : List Nat := [0, 1, 3, 7, 15, 31, 15, 79, 255, 511, 1023, 2047, 4095, 8191, 16383, 32767, 65535, 32767, 163839, 524287, 1048575, 32767, 4194303, 8388607, 16777215, 33554431, 67108863, 134217727, 268435455, 134217727, 1073741823, 2147483647, 4294967295]
theorem qv.tab8 : rtab .any (opsOf Try.f35 8) = qv.T8 := by kernel_rfl
theorem qv.bits8 : waitsOk qv.T8.2 qv.B8 = true := by kernel_rfl
set_option maxHeartbeats 8000000 in
set_option maxRecDepth 100000 in
theorem qv.calls (k : Nat) (qq : Option Addr) (qp : Nat) (qd : List (List Int)) (jA : Option Addr) (je : Nat) (qb : List (S33)) (r : Bool) (w : World) (jd : Kd.C (Kd.slice 5 (Kd.int .u8)) w qq qd.length qd) (jg : qd.length ≤ qp) (QR : Kd.C k33 w jA qb.length qb) (Jn : qb.length ≤ je) (h : qv.f k qd qb = some r) :
  Calls Try.prog 35 #[.agg #[.slice qq qd.length qp, .slice jA qb.length je]] w fun e w' => e = .returned (.bool r) ∧ Below w.heap.size w w' := by
 have qez := Try.underlying59
 have Ys := Try.underlying31
 have qak := Try.underlying33
 have qW := ak jd
 have jb := ak jg
 clear jd jg
 have yB := ak QR
 have QJ := ak Jn
 clear QR Jn
 have HB := ak (Below.refl w.heap.size w)
 have H : ((jw.f k qd).bind fun qG => (if qG = true then (qv.j0 k (decide ((qb.length : Int) > 60)) qd qb) else (qv.j0 k true qd qb))) = some r := h
 clear h
 have HC2 := ak H
 clear H
 go_enter Try.func35, Try.ntmps35
 go_upto_region 1 with (first | ((with_reducible refine gate_dst (N := 1) rfl ?_); (try (refine gate_guard (by rfl) ?_; dsimp only)); refine boxed (N := 1) rfl rfl (cs := #[.slice qq qd.length qp, .slice jA qb.length je]) (t := 59) HB.out (by first | (go_simp; done) | (go_simp; rfl)) ?_; clear HB; intro qi w3 hg HB qc qm hb; have jD := qm; clear hb hg))
 (try simp only [Act.put, List.setIfInBounds_toArray, List.set_cons_zero, List.set_cons_succ])
 go_cut [15] (fun v15 wc => ∃ (kq : Nat) (qld : Bool), v15 = .bool qld ∧ Aside0 (qv.j0 kq qld qd qb = some r) ∧ Aside0 (kq ≤ k) ∧ Aside0 (wc.heap[qi]? = some (.cells #[(.slice qq qd.length qp), (.slice jA qb.length je)] 59 (0, 0))) ∧ Aside0 (Below w.heap.size w wc))
 case first =>
  have H := HC2.out
  clear HC2
  replace H := Option.bind_eq_some_iff.mp H
  obtain ⟨qG, A40, H⟩ := H
  replace H : (if qG = true then (qv.j0 k (decide ((qb.length : Int) > 60)) qd qb) else (qv.j0 k true qd qb)) = some r := H
  have A4 := ak A40
  clear A40
  by_cases c5 : qG = true
  ·subst c5
   have H1 : (qv.j0 k (decide ((qb.length : Int) > 60)) qd qb) = some r := by rw [if_pos rfl] at H; exact H
   clear H
   have H := H1
   clear H1
   have H' := ak H
   clear H
   obtain ⟨qdf, qgp, qdd, qgl⟩ := cells2 qc.out
   go_wp2_with (first | ((with_reducible refine gate_callee (f := 76) rfl ?_); refine goesL_ (some 8) rfl rfl Try.func76 (by kernel_rfl) rfl #[.agg #[.slice qq qd.length qp]] rfl (by first | rfl | (simp only [List.map_toArray, List.map_cons, List.map_nil]; first | done | rfl)) ?_; (with_reducible refine (jw.calls k _ _ qd true _ ?qk ?qj A4.out).mono ?_); (case qk => exact cw qW.out HB.out); (case qj => exact jb.out); rintro e w7 ⟨rfl, hb⟩; refine ⟨_, rfl, ?_⟩; replace qc := ak (blk_below (bk qc.out) hb); replace HB := ak (below_step (by repeat (first | exact bw HB.out | refine below_set ?_ qm.out)) hb); (try clear hb); obtain ⟨qam, qgo, qal, qgk⟩ := cells2 qc.out))
   go_meet
   case rel => exact ⟨_, (decide ((qb.length : Int) > 60)), (by first | rfl | (simp; done) | (simp [*]; done)), H', ⟨by first | omega | exact Nat.le_refl _⟩, ⟨bk qc.out⟩, ⟨by repeat (first | exact bw HB.out | refine below_set ?_ qm.out)⟩⟩
  ·replace c5 := Bool.eq_false_iff.mpr c5
   subst c5
   have H1 : (qv.j0 k true qd qb) = some r := by rw [if_neg (show ¬ (false = true) by decide)] at H; exact H
   clear H
   have H := H1
   clear H1
   have H' := ak H
   clear H
   obtain ⟨Js, Zo, Jr, Zn⟩ := cells2 qc.out
   go_wp2_with (first | ((with_reducible refine gate_callee (f := 76) rfl ?_); refine goesL_ (some 8) rfl rfl Try.func76 (by kernel_rfl) rfl #[.agg #[.slice qq qd.length qp]] rfl (by first | rfl | (simp only [List.map_toArray, List.map_cons, List.map_nil]; first | done | rfl)) ?_; (with_reducible refine (jw.calls k _ _ qd false _ ?qk ?qj A4.out).mono ?_); (case qk => exact cw qW.out HB.out); (case qj => exact jb.out); rintro e w10 ⟨rfl, hb⟩; refine ⟨_, rfl, ?_⟩; replace qc := ak (blk_below (bk qc.out) hb); replace HB := ak (below_step (by repeat (first | exact bw HB.out | refine below_set ?_ qm.out)) hb); (try clear hb)))
   go_meet
   case rel => exact ⟨_, (true), (by first | rfl | (simp; done) | (simp [*]; done)), H', ⟨by first | omega | exact Nat.le_refl _⟩, ⟨bk qc.out⟩, ⟨by repeat (first | exact bw HB.out | refine below_set ?_ qm.out)⟩⟩
 case rest =>
  clear HC2
  try clear p2
  try clear c3
  try clear c5
  try clear c7
  try clear qdf
  try clear qgp
  try clear qam
  try clear qgo
  try clear Js
  try clear Zo
  try clear qdd
  try clear qgl
  try clear qal
  try clear qgk
  try clear Jr
  try clear Zn
  obtain ⟨kq, qld, rfl, HA, HJ1, qc, HB⟩ := hcut
  cases kq with
  | zero => exact absurd HA.out (by simp [qv.j0])
  | succ kj1 =>
   have H := HA.out
   clear HA
   simp only [qv.j0] at H
   by_cases c11 : qld = true
   ·subst c11
    have H1 : (some false) = some r := by rw [if_pos rfl] at H; exact H
    clear H
    have H := H1
    clear H1
    obtain rfl := Option.some.inj H
    go_wp2
    go_ret
    exact ⟨by first | rfl | (simp [errW_none, errW_some] <;> rfl) | (simp [*, errW_none, errW_some] <;> rfl), by repeat (first | exact bw HB.out | refine below_set ?_ qm.out)⟩
   ·replace c11 := Bool.eq_false_iff.mpr c11
    subst c11
    have H1 : (qv.l0 kj1 0 0 qd qb) = some r := by rw [if_neg (show ¬ (false = true) by decide)] at H; exact H
    clear H
    have H := H1
    clear H1
    have H' := ak H
    clear H
    go_wp2
    go_loopg [3, 4] kj1 (fun kq v3 v4 w' => ∃ (qD : Int) (qe : Int), v3 = .int .i64 qD ∧ v4 = .int .i64 qe ∧ Aside0 (qv.l0 kq qD qe qd qb = some r) ∧ Aside0 (kq ≤ kj1) ∧ Aside0 (w'.heap[qi]? = some (.cells #[(.slice qq qd.length qp), (.slice jA qb.length je)] 59 (0, 0))) ∧ Aside0 (Below w.heap.size w w'))
    case atStart => exact ⟨(0), (0), (by first | rfl | (simp; done) | (simp [*]; done)), (by first | rfl | (simp; done) | (simp [*]; done)), H', ⟨Nat.le_refl _⟩, ⟨bk qc.out⟩, ⟨by repeat (first | exact bw HB.out | refine below_set ?_ qm.out)⟩⟩
    case round =>
     clear H'
     try clear c1
     try clear p2
     try clear c3
     try clear c5
     try clear c7
     try clear c11
     try clear qdf
     try clear qgp
     try clear qam
     try clear qgo
     try clear Js
     try clear Zo
     try clear qdd
     try clear qgl
     try clear qal
     try clear qgk
     try clear Jr
     try clear Zn
     try clear p2
     obtain ⟨qD, qe, rfl, rfl, HA, HK2, qc, HB⟩ := hrel
     cases gk with
     | zero => exact absurd HA.out (by simp [qv.l0])
     | succ k2 =>
      have H := HA.out
      clear HA
      simp only [qv.l0] at H
      by_cases c12 : qe < (qb.length : Int)
      ·rw [if_pos c12] at H
       have c12b0 : decide (qe < (qb.length : Int)) = true := decide_eq_true c12
       clear c12
       by_cases c13 : 0 ≤ qe
       ·rw [if_pos c13] at H
        have c13b0 : decide (0 ≤ qe) = true := decide_eq_true c13
        clear c13
        have qpA := ak H
        clear H
        obtain ⟨qcR, qcQ, qcw, qcv⟩ := cells2 qc.out
        have zv : 0 ≤ (qe : Int) := of_decide_eq_true (by first | (with_reducible assumption) | assumption)
        have zt : qe < (qb.length : Int) := of_decide_eq_true (by first | (with_reducible assumption) | assumption)
        obtain ⟨qJ, jz, jy, za, jY, jZ, jX, zf, jW, Zg, jP, yO, yN, yM, yi, yh, yg, ya, yb, Jb, Jk, Ja, Jj, QZ, Ji⟩ := Qi yB.out qe zv zt
        cases Zg
        replace jP := hc_ HB.out jP
        replace yO := hc_ HB.out yO
        replace yN := hc_ HB.out yN
        replace yM := hc_ HB.out yM
        replace yi := hc_ HB.out yi
        replace yh := hc_ HB.out yh
        replace yg := hc_ HB.out yg
        have jk := ak yb
        have zk := ak ya
        clear yb ya
        have zJ := ak Jk
        have YK := ak Jb
        clear Jk Jb
        have zI := ak Jj
        have YJ := ak Ja
        clear Jj Ja
        have zD := ak Ji
        have YI := ak QZ
        clear Ji QZ
        replace zv := eq_true zv
        replace zt := eq_true zt
        go_upto_region 8 with (first | ((with_reducible refine gate_dst (N := 5) rfl ?_); (try (refine gate_guard (by rfl) ?_; dsimp only)); refine box_event ?hg (N := 5) ?hd (cs := #[.slice none 0 0, .int .i64 0, .int .i64 0, .int .i64 0, .slice none 0 0, .slice none 0 0, .slice none 0 0]) (t := 33) ?hr ?_; (case hd => rfl); (case hg => rfl); (case hr => first | (go_simp; done) | (go_simp; rfl)); intro qE hg w16 hbox hb; have qz := ak (hbox); have qEq := ak ((by rw [hg]; exact (below_size (by repeat (first | exact bw HB.out | refine below_set ?_ qm.out))) : w.heap.size ≤ qE)); have QT := ak ((by rw [hg]; exact (below_size (by repeat (first | exact bw HB.out | refine below_set ?_ qm.out))) : w.heap.size ≤ qE)); replace HB := ak (below_step (by repeat (first | exact bw HB.out | refine below_set ?_ qm.out)) hb); have Xc := ak ((by rw [hg]; exact Nat.ne_of_lt (blk_lt (bk qc.out)) : qi ≠ qE)); have qev := ak ((by rw [hg]; exact Nat.ne_of_gt (blk_lt (bk qc.out)) : qE ≠ qi)); replace qc := ak (blk_below (bk qc.out) hb); clear hb hbox hg; have qEf := qev.out; have qDN := Xc.out; obtain ⟨YU, YT, qcP, qcO, qcN, qcM, qcL, YR, YQ, qcu, qct, qcs, qcr, qcq⟩ := cells7 qz.out))
        (try simp only [Act.put, List.setIfInBounds_toArray, List.set_cons_zero, List.set_cons_succ])
        go_cut [60] (fun v60 wc => ∃ (kq : Nat) (qic : Bool), v60 = .bool qic ∧ Aside0 (qv.j2 kq qD qe qic qd qb ((qa qb qe).f0.f0) ((qa qb qe).f1) ((qa qb qe).f2) ((qa qb qe).f3) ((qa qb qe).f4.f0) ((qa qb qe).f5) ((qa qb qe).f6) = some r) ∧ Aside0 (kq ≤ k2) ∧ Aside0 (wc.heap[qi]? = some (.cells #[(.slice qq qd.length qp), (.slice (some qJ) qb.length je)] 59 (0, 0))) ∧ Aside0 (wc.heap[qE]? = some (.cells #[(.slice jz ((qa qb qe).f0.f0).length jy), .int .i64 ((qa qb qe).f1), .int .i64 ((qa qb qe).f2), .int .i64 ((qa qb qe).f3), (.slice za ((qa qb qe).f4.f0).length jY), (.slice jZ ((qa qb qe).f5).length jX), (.slice zf ((qa qb qe).f6).length jW)] 33 (0, 0))) ∧ Aside0 (Below w.heap.size w wc))
        case first =>
         have H := qpA.out
         clear qpA
         replace H := Option.bind_eq_some_iff.mp H
         obtain ⟨qS, qgC, H⟩ := H
         replace H : (if qS = true then ((zc.f k2 ((qa qb qe).f0.f0) qd).bind fun zy => (if zy = true then (if qe > 0 then (if 0 ≤ (wrap64 (qe - 1)) then (if (wrap64 (qe - 1)) < (qb.length : Int) then ((zr.f k2 ((qa qb (wrap64 (qe - 1))).f0.f0) ((qa qb (wrap64 (qe - 1))).f1) ((qa qb (wrap64 (qe - 1))).f2) ((qa qb (wrap64 (qe - 1))).f3) ((qa qb (wrap64 (qe - 1))).f4.f0) ((qa qb (wrap64 (qe - 1))).f5) ((qa qb (wrap64 (qe - 1))).f6) ((qa qb qe).f0.f0) ((qa qb qe).f1) ((qa qb qe).f2) ((qa qb qe).f3) ((qa qb qe).f4.f0) ((qa qb qe).f5) ((qa qb qe).f6)).bind fun jQ => (if jQ ≥ 0 then (qv.j2 k2 qD qe true qd qb ((qa qb qe).f0.f0) ((qa qb qe).f1) ((qa qb qe).f2) ((qa qb qe).f3) ((qa qb qe).f4.f0) ((qa qb qe).f5) ((qa qb qe).f6)) else ((qL.f k2 qb qe).bind fun zq => (qv.j2 k2 qD qe (!zq) qd qb ((qa qb qe).f0.f0) ((qa qb qe).f1) ((qa qb qe).f2) ((qa qb qe).f3) ((qa qb qe).f4.f0) ((qa qb qe).f5) ((qa qb qe).f6))))) else (none)) else (none)) else ((qL.f k2 qb qe).bind fun jS => (qv.j2 k2 qD qe (!jS) qd qb ((qa qb qe).f0.f0) ((qa qb qe).f1) ((qa qb qe).f2) ((qa qb qe).f3) ((qa qb qe).f4.f0) ((qa qb qe).f5) ((qa qb qe).f6)))) else (qv.j2 k2 qD qe true qd qb ((qa qb qe).f0.f0) ((qa qb qe).f1) ((qa qb qe).f2) ((qa qb qe).f3) ((qa qb qe).f4.f0) ((qa qb qe).f5) ((qa qb qe).f6)))) else (qv.j2 k2 qD qe true qd qb ((qa qb qe).f0.f0) ((qa qb qe).f1) ((qa qb qe).f2) ((qa qb qe).f3) ((qa qb qe).f4.f0) ((qa qb qe).f5) ((qa qb qe).f6))) = some r := H
         have A19 := ak qgC
         clear qgC
         by_cases c20 : qS = true
         ·subst c20
          have H1 : ((zc.f k2 ((qa qb qe).f0.f0) qd).bind fun zy => (if zy = true then (if qe > 0 then (if 0 ≤ (wrap64 (qe - 1)) then (if (wrap64 (qe - 1)) < (qb.length : Int) then ((zr.f k2 ((qa qb (wrap64 (qe - 1))).f0.f0) ((qa qb (wrap64 (qe - 1))).f1) ((qa qb (wrap64 (qe - 1))).f2) ((qa qb (wrap64 (qe - 1))).f3) ((qa qb (wrap64 (qe - 1))).f4.f0) ((qa qb (wrap64 (qe - 1))).f5) ((qa qb (wrap64 (qe - 1))).f6) ((qa qb qe).f0.f0) ((qa qb qe).f1) ((qa qb qe).f2) ((qa qb qe).f3) ((qa qb qe).f4.f0) ((qa qb qe).f5) ((qa qb qe).f6)).bind fun jQ => (if jQ ≥ 0 then (qv.j2 k2 qD qe true qd qb ((qa qb qe).f0.f0) ((qa qb qe).f1) ((qa qb qe).f2) ((qa qb qe).f3) ((qa qb qe).f4.f0) ((qa qb qe).f5) ((qa qb qe).f6)) else ((qL.f k2 qb qe).bind fun zq => (qv.j2 k2 qD qe (!zq) qd qb ((qa qb qe).f0.f0) ((qa qb qe).f1) ((qa qb qe).f2) ((qa qb qe).f3) ((qa qb qe).f4.f0) ((qa qb qe).f5) ((qa qb qe).f6))))) else (none)) else (none)) else ((qL.f k2 qb qe).bind fun jS => (qv.j2 k2 qD qe (!jS) qd qb ((qa qb qe).f0.f0) ((qa qb qe).f1) ((qa qb qe).f2) ((qa qb qe).f3) ((qa qb qe).f4.f0) ((qa qb qe).f5) ((qa qb qe).f6)))) else (qv.j2 k2 qD qe true qd qb ((qa qb qe).f0.f0) ((qa qb qe).f1) ((qa qb qe).f2) ((qa qb qe).f3) ((qa qb qe).f4.f0) ((qa qb qe).f5) ((qa qb qe).f6)))) = some r := by rw [if_pos rfl] at H; exact H
          clear H
          have H := H1
          clear H1
          replace H := Option.bind_eq_some_iff.mp H
          obtain ⟨zy, qgB, H⟩ := H
          replace H : (if zy = true then (if qe > 0 then (if 0 ≤ (wrap64 (qe - 1)) then (if (wrap64 (qe - 1)) < (qb.length : Int) then ((zr.f k2 ((qa qb (wrap64 (qe - 1))).f0.f0) ((qa qb (wrap64 (qe - 1))).f1) ((qa qb (wrap64 (qe - 1))).f2) ((qa qb (wrap64 (qe - 1))).f3) ((qa qb (wrap64 (qe - 1))).f4.f0) ((qa qb (wrap64 (qe - 1))).f5) ((qa qb (wrap64 (qe - 1))).f6) ((qa qb qe).f0.f0) ((qa qb qe).f1) ((qa qb qe).f2) ((qa qb qe).f3) ((qa qb qe).f4.f0) ((qa qb qe).f5) ((qa qb qe).f6)).bind fun jQ => (if jQ ≥ 0 then (qv.j2 k2 qD qe true qd qb ((qa qb qe).f0.f0) ((qa qb qe).f1) ((qa qb qe).f2) ((qa qb qe).f3) ((qa qb qe).f4.f0) ((qa qb qe).f5) ((qa qb qe).f6)) else ((qL.f k2 qb qe).bind fun zq => (qv.j2 k2 qD qe (!zq) qd qb ((qa qb qe).f0.f0) ((qa qb qe).f1) ((qa qb qe).f2) ((qa qb qe).f3) ((qa qb qe).f4.f0) ((qa qb qe).f5) ((qa qb qe).f6))))) else (none)) else (none)) else ((qL.f k2 qb qe).bind fun jS => (qv.j2 k2 qD qe (!jS) qd qb ((qa qb qe).f0.f0) ((qa qb qe).f1) ((qa qb qe).f2) ((qa qb qe).f3) ((qa qb qe).f4.f0) ((qa qb qe).f5) ((qa qb qe).f6)))) else (qv.j2 k2 qD qe true qd qb ((qa qb qe).f0.f0) ((qa qb qe).f1) ((qa qb qe).f2) ((qa qb qe).f3) ((qa qb qe).f4.f0) ((qa qb qe).f5) ((qa qb qe).f6))) = some r := H
          have A21 := ak qgB
          clear qgB
          by_cases c22 : zy = true
          ·subst c22
           have H1 : (if qe > 0 then (if 0 ≤ (wrap64 (qe - 1)) then (if (wrap64 (qe - 1)) < (qb.length : Int) then ((zr.f k2 ((qa qb (wrap64 (qe - 1))).f0.f0) ((qa qb (wrap64 (qe - 1))).f1) ((qa qb (wrap64 (qe - 1))).f2) ((qa qb (wrap64 (qe - 1))).f3) ((qa qb (wrap64 (qe - 1))).f4.f0) ((qa qb (wrap64 (qe - 1))).f5) ((qa qb (wrap64 (qe - 1))).f6) ((qa qb qe).f0.f0) ((qa qb qe).f1) ((qa qb qe).f2) ((qa qb qe).f3) ((qa qb qe).f4.f0) ((qa qb qe).f5) ((qa qb qe).f6)).bind fun jQ => (if jQ ≥ 0 then (qv.j2 k2 qD qe true qd qb ((qa qb qe).f0.f0) ((qa qb qe).f1) ((qa qb qe).f2) ((qa qb qe).f3) ((qa qb qe).f4.f0) ((qa qb qe).f5) ((qa qb qe).f6)) else ((qL.f k2 qb qe).bind fun zq => (qv.j2 k2 qD qe (!zq) qd qb ((qa qb qe).f0.f0) ((qa qb qe).f1) ((qa qb qe).f2) ((qa qb qe).f3) ((qa qb qe).f4.f0) ((qa qb qe).f5) ((qa qb qe).f6))))) else (none)) else (none)) else ((qL.f k2 qb qe).bind fun jS => (qv.j2 k2 qD qe (!jS) qd qb ((qa qb qe).f0.f0) ((qa qb qe).f1) ((qa qb qe).f2) ((qa qb qe).f3) ((qa qb qe).f4.f0) ((qa qb qe).f5) ((qa qb qe).f6)))) = some r := by rw [if_pos rfl] at H; exact H
           clear H
           have H := H1
           clear H1
           by_cases c23 : qe > 0
           ·rw [if_pos c23] at H
            have c23b0 : decide (0 < qe) = true := decide_eq_true c23
            clear c23
            (first | rw [c23b0] | (simp only [i64_w, i32_w]; rw [c23b0]) | skip)
            obtain ⟨jI, qf8⟩ : ∃ j_ : Int, (wrap64 (qe - 1)) = j_ := ⟨_, rfl⟩
            replace H : (if 0 ≤ (jI) then (if (jI) < (qb.length : Int) then ((zr.f k2 ((qa qb (jI)).f0.f0) ((qa qb (jI)).f1) ((qa qb (jI)).f2) ((qa qb (jI)).f3) ((qa qb (jI)).f4.f0) ((qa qb (jI)).f5) ((qa qb (jI)).f6) ((qa qb qe).f0.f0) ((qa qb qe).f1) ((qa qb qe).f2) ((qa qb qe).f3) ((qa qb qe).f4.f0) ((qa qb qe).f5) ((qa qb qe).f6)).bind fun jQ => (if jQ ≥ 0 then (qv.j2 k2 qD qe true qd qb ((qa qb qe).f0.f0) ((qa qb qe).f1) ((qa qb qe).f2) ((qa qb qe).f3) ((qa qb qe).f4.f0) ((qa qb qe).f5) ((qa qb qe).f6)) else ((qL.f k2 qb qe).bind fun zq => (qv.j2 k2 qD qe (!zq) qd qb ((qa qb qe).f0.f0) ((qa qb qe).f1) ((qa qb qe).f2) ((qa qb qe).f3) ((qa qb qe).f4.f0) ((qa qb qe).f5) ((qa qb qe).f6))))) else (none)) else (none)) = some r := by first | (rw [qf8] at H; exact H) | (simp only [qf8] at H ⊢; exact H)
            (try rw [qf8] at A19)
            (try rw [qf8] at A21)
            have hji24w : (IntKind.i64.wrap (qe - 1)) = jI := (i64_w _).trans qf8
            by_cases c25 : 0 ≤ (jI)
            ·rw [if_pos c25] at H
             have c25b0 : decide (0 ≤ (jI)) = true := decide_eq_true c25
             clear c25
             by_cases c26 : (jI) < (qb.length : Int)
             ·rw [if_pos c26] at H
              have c26b0 : decide ((jI) < (qb.length : Int)) = true := decide_eq_true c26
              clear c26
              replace H := Option.bind_eq_some_iff.mp H
              obtain ⟨jQ, qmd, H⟩ := H
              replace H : (if jQ ≥ 0 then (qv.j2 k2 qD qe true qd qb ((qa qb qe).f0.f0) ((qa qb qe).f1) ((qa qb qe).f2) ((qa qb qe).f3) ((qa qb qe).f4.f0) ((qa qb qe).f5) ((qa qb qe).f6)) else ((qL.f k2 qb qe).bind fun zq => (qv.j2 k2 qD qe (!zq) qd qb ((qa qb qe).f0.f0) ((qa qb qe).f1) ((qa qb qe).f2) ((qa qb qe).f3) ((qa qb qe).f4.f0) ((qa qb qe).f5) ((qa qb qe).f6)))) = some r := H
              have A27 := ak qmd
              clear qmd
              by_cases c28 : jQ ≥ 0
              ·rw [if_pos c28] at H
               have c28b0 : decide (0 ≤ jQ) = true := decide_eq_true c28
               clear c28
               have H' := ak H
               clear H
               try go_wp2
               have n0_ : Aside0 ((((((((w16.setCell ⟨qE, 0, none⟩ (.slice jz ((qa qb qe).f0.f0).length jy)).setCell ⟨qE, 1, none⟩ (.int .i64 ((qa qb qe).f1))).setCell ⟨qE, 2, none⟩ (.int .i64 ((qa qb qe).f2))).setCell ⟨qE, 3, none⟩ (.int .i64 ((qa qb qe).f3))).setCell ⟨qE, 4, none⟩ (.slice za ((qa qb qe).f4.f0).length jY)).setCell ⟨qE, 5, none⟩ (.slice jZ ((qa qb qe).f5).length jX)).setCell ⟨qE, 6, none⟩ (.slice zf ((qa qb qe).f6).length jW)).heap[qi]? = some (.cells #[.slice qq qd.length qp, .slice (some qJ) qb.length je] 59 (0, 0))) := ⟨Xm Xc.out qc.out⟩
               have n1_ : Aside0 ((((((((w16.setCell ⟨qE, 0, none⟩ (.slice jz ((qa qb qe).f0.f0).length jy)).setCell ⟨qE, 1, none⟩ (.int .i64 ((qa qb qe).f1))).setCell ⟨qE, 2, none⟩ (.int .i64 ((qa qb qe).f2))).setCell ⟨qE, 3, none⟩ (.int .i64 ((qa qb qe).f3))).setCell ⟨qE, 4, none⟩ (.slice za ((qa qb qe).f4.f0).length jY)).setCell ⟨qE, 5, none⟩ (.slice jZ ((qa qb qe).f5).length jX)).setCell ⟨qE, 6, none⟩ (.slice zf ((qa qb qe).f6).length jW)).heap[qE]? = some (.cells #[.slice jz ((qa qb qe).f0.f0).length jy, .int .i64 ((qa qb qe).f1), .int .i64 ((qa qb qe).f2), .int .i64 ((qa qb qe).f3), .slice za ((qa qb qe).f4.f0).length jY, .slice jZ ((qa qb qe).f5).length jX, .slice zf ((qa qb qe).f6).length jW] 33 (0, 0))) := ⟨qa1 qz.out⟩
               have n2_ : Aside0 (Below w.heap.size w (((((((w16.setCell ⟨qE, 0, none⟩ (.slice jz ((qa qb qe).f0.f0).length jy)).setCell ⟨qE, 1, none⟩ (.int .i64 ((qa qb qe).f1))).setCell ⟨qE, 2, none⟩ (.int .i64 ((qa qb qe).f2))).setCell ⟨qE, 3, none⟩ (.int .i64 ((qa qb qe).f3))).setCell ⟨qE, 4, none⟩ (.slice za ((qa qb qe).f4.f0).length jY)).setCell ⟨qE, 5, none⟩ (.slice jZ ((qa qb qe).f5).length jX)).setCell ⟨qE, 6, none⟩ (.slice zf ((qa qb qe).f6).length jW))) := ⟨by repeat (first | exact bw HB.out | refine below_set ?_ qm.out | refine below_set ?_ QT.out)⟩
               (try clear qc)
               (try clear qz)
               (try clear HB)
               generalize (((((((w16.setCell ⟨qE, 0, none⟩ (.slice jz ((qa qb qe).f0.f0).length jy)).setCell ⟨qE, 1, none⟩ (.int .i64 ((qa qb qe).f1))).setCell ⟨qE, 2, none⟩ (.int .i64 ((qa qb qe).f2))).setCell ⟨qE, 3, none⟩ (.int .i64 ((qa qb qe).f3))).setCell ⟨qE, 4, none⟩ (.slice za ((qa qb qe).f4.f0).length jY)).setCell ⟨qE, 5, none⟩ (.slice jZ ((qa qb qe).f5).length jX)).setCell ⟨qE, 6, none⟩ (.slice zf ((qa qb qe).f6).length jW)) = w29 at n0_ n1_ n2_ ⊢
               have qc := n0_
               have qz := n1_
               have HB := n2_
               clear n0_ n1_ n2_
               have n0_ := ak (blk_drew qc.out)
               have n1_ := ak (blk_drew qz.out)
               have n2_ := ak (below_drew1 HB.out)
               clear qc
               clear qz
               clear HB
               have qc := n0_
               have qz := n1_
               have HB := n2_
               clear n0_ n1_ n2_
               have Qk : 0 ≤ ((jI) : Int) := of_decide_eq_true (by first | (with_reducible assumption) | assumption)
               have Qj : (jI) < (qb.length : Int) := of_decide_eq_true (by first | (with_reducible assumption) | assumption)
               obtain ⟨YA, qgG, qgx, qgF, qgw, qgE, qgv, qgD, qgu, XK, zZ, qaB, qaA, qaz, qay, qax, qaw, qfb, qfn, qfa, qfm, qe9, qfl, qe8, qfk⟩ := Qi yB.out (jI) Qk Qj
               have XM := qaw
               have XN := qax
               have XO := qay
               have XP := qaz
               have XQ := qaA
               have XR := qaB
               have XS := zZ
               obtain rfl : qJ = YA := (by injection XK)
               replace zZ := hc_ HB.out zZ
               replace qaB := hc_ HB.out qaB
               replace qaA := hc_ HB.out qaA
               replace qaz := hc_ HB.out qaz
               replace qay := hc_ HB.out qay
               replace qax := hc_ HB.out qax
               replace qaw := hc_ HB.out qaw
               have qf7 := ak qfn
               have qk6 := ak qfb
               clear qfn qfb
               have qf6 := ak qfm
               have qk5 := ak qfa
               clear qfm qfa
               have qf5 := ak qfl
               have qk4 := ak qe9
               clear qfl qe9
               have qf4 := ak qfk
               have qk3 := ak qe8
               clear qfk qe8
               replace Qk := eq_true Qk
               replace Qj := eq_true Qj
               refine start_ (n := 33) (S := fun w' => w'.cell? ⟨qE, 0, none⟩ = some (.slice jz ((qa qb qe).f0.f0).length jy) ∧ w'.cell? ⟨qE, 1, none⟩ = some (.int .i64 ((qa qb qe).f1)) ∧ w'.cell? ⟨qE, 2, none⟩ = some (.int .i64 ((qa qb qe).f2)) ∧ w'.cell? ⟨qE, 3, none⟩ = some (.int .i64 ((qa qb qe).f3)) ∧ w'.cell? ⟨qE, 4, none⟩ = some (.slice za ((qa qb qe).f4.f0).length jY) ∧ w'.cell? ⟨qE, 5, none⟩ = some (.slice jZ ((qa qb qe).f5).length jX) ∧ w'.cell? ⟨qE, 6, none⟩ = some (.slice zf ((qa qb qe).f6).length jW) ∧ w'.cell? ⟨qi, 0, none⟩ = some (.slice qq qd.length qp) ∧ w'.cell? ⟨qi, 1, none⟩ = some (.slice (some qJ) qb.length je) ∧ w'.cell? (qJ.add (((jI)).toNat * 7)) = some (.slice qgG ((qa qb (jI)).f0.f0).length qgx) ∧ w'.cell? ⟨(qJ.add (((jI)).toNat * 7)).block, (qJ.add (((jI)).toNat * 7)).off + 1, none⟩ = some (.int .i64 ((qa qb (jI)).f1)) ∧ w'.cell? ⟨(qJ.add (((jI)).toNat * 7)).block, (qJ.add (((jI)).toNat * 7)).off + 2, none⟩ = some (.int .i64 ((qa qb (jI)).f2)) ∧ w'.cell? ⟨(qJ.add (((jI)).toNat * 7)).block, (qJ.add (((jI)).toNat * 7)).off + 3, none⟩ = some (.int .i64 ((qa qb (jI)).f3)) ∧ w'.cell? ⟨(qJ.add (((jI)).toNat * 7)).block, (qJ.add (((jI)).toNat * 7)).off + 4, none⟩ = some (.slice qgF ((qa qb (jI)).f4.f0).length qgw) ∧ w'.cell? ⟨(qJ.add (((jI)).toNat * 7)).block, (qJ.add (((jI)).toNat * 7)).off + 5, none⟩ = some (.slice qgE ((qa qb (jI)).f5).length qgv) ∧ w'.cell? ⟨(qJ.add (((jI)).toNat * 7)).block, (qJ.add (((jI)).toNat * 7)).off + 6, none⟩ = some (.slice qgD ((qa qb (jI)).f6).length qgu)) (ds := []) (bA 33 0) (by kernel_rfl) rfl rfl ⟨(blk_cell qz.out 0).trans rfl, (blk_cell qz.out 1).trans rfl, (blk_cell qz.out 2).trans rfl, (blk_cell qz.out 3).trans rfl, (blk_cell qz.out 4).trans rfl, (blk_cell qz.out 5).trans rfl, (blk_cell qz.out 6).trans rfl, (blk_cell qc.out 0).trans rfl, (blk_cell qc.out 1).trans rfl, (hc_ HB.out XS), (hc_ HB.out XR), (hc_ HB.out XQ), (hc_ HB.out XP), (hc_ HB.out XO), (hc_ HB.out XN), (hc_ HB.out XM)⟩ (fun hHeld => ?_); refine with_tabW qv.tab8 qv.bits8 (fun HT_ HW_ => ?_)
               generalize w29.drew = w30 at qc qz HB qf7 qf6 qf5 qf4 zZ qaB qaA qaz qay qax qaw hHeld ⊢
               refine take_ (i := 0) (N := some 28) (v := ?_) (a' := ?_) (bA 33 1) rfl rfl (take_ofW HT_.out HW_.out (by kernel_rfl)) (fun _ _ _ h => h) (Or.inl ⟨by rfl, ?_⟩) hHeld ?_ ?_
               rotate_left; rintro w' ⟨s0, s1, s2, s3, s4, s5, s6, s7, s8, s9, s10, s11, s12, s13, s14, s15⟩; go_simp; with_reducible rfl; rotate_left; go_simp; rfl
               refine one_ (i := 1) (N := some 29) (bA 33 3) rfl rfl (one_of HT_.out (by kernel_rfl)) (by decide) (fun K hK => ?_)
               refine goes_ Try.func60 (by kernel_rfl) rfl #[.agg #[.slice jz ((qa qb qe).f0.f0).length jy, .int .i64 ((qa qb qe).f1), .int .i64 ((qa qb qe).f2), .int .i64 ((qa qb qe).f3), .slice za ((qa qb qe).f4.f0).length jY, .slice jZ ((qa qb qe).f5).length jX, .slice zf ((qa qb qe).f6).length jW]] (by rfl) rfl rfl (by first | rfl | (simp only [List.map_toArray, List.map_cons, List.map_nil]; first | done | rfl)) ?_
               with_reducible refine (ZD.calls k2 _ _ ((qa qb qe).f0.f0) ((qa qb qe).f1) ((qa qb qe).f2) ((qa qb qe).f3) _ _ ((qa qb qe).f4.f0) _ _ ((qa qb qe).f5) _ _ ((qa qb qe).f6) true _ ?qk ?qj ?qw ?qy ?zK ?yz ?yy ?yx A19.out).mono ?_
               (case qk => exact cw jk.out HB.out)
               (case qj => exact zk.out)
               (case qw => exact cw zJ.out HB.out)
               (case qy => exact YK.out)
               (case zK => exact cw zI.out HB.out)
               (case yz => exact YJ.out)
               (case yy => exact cw zD.out HB.out)
               (case yx => exact YI.out)
               rintro e w31 ⟨rfl, hb⟩
               refine ⟨_, rfl, ?_⟩
               have n0_ := ak (blk_below (bk qc.out) hb)
               have n1_ := ak (blk_below (bk qz.out) hb)
               have n2_ := ak (below_step (by repeat (first | exact bw HB.out | refine below_set ?_ qm.out | refine below_set ?_ QT.out)) hb)
               clear qc
               clear qz
               clear HB
               have qc := n0_
               have qz := n1_
               have HB := n2_
               clear n0_ n1_ n2_
               (try clear hb)
               (try clear hb2)
               (try clear hk)
               (try clear hi)
               refine hK.out _ _ ⟨(blk_cell qz.out 0).trans rfl, (blk_cell qz.out 1).trans rfl, (blk_cell qz.out 2).trans rfl, (blk_cell qz.out 3).trans rfl, (blk_cell qz.out 4).trans rfl, (blk_cell qz.out 5).trans rfl, (blk_cell qz.out 6).trans rfl, (blk_cell qc.out 0).trans rfl, (blk_cell qc.out 1).trans rfl, (hc_ HB.out XS), (hc_ HB.out XR), (hc_ HB.out XQ), (hc_ HB.out XP), (hc_ HB.out XO), (hc_ HB.out XN), (hc_ HB.out XM)⟩ (fun hHeld => ?_)
               clear hK K
               refine norm_ (a' := ?_) ?_ ?_; rotate_left; go_simp; rfl
               refine pu_ HT_ 2 30 (bA 33 7) (v := ?_) (a' := ?_) rfl rfl (by kernel_rfl) (fun _ _ _ h => h) (by rfl) ?_ ?_ ?_; rotate_left; intro w'; go_simp; with_reducible rfl; rotate_left; go_simp; rfl
               refine pu_ HT_ 3 31 (bA 33 15) (v := ?_) (a' := ?_) rfl rfl (by kernel_rfl) (fun _ _ _ h => h) (by rfl) ?_ ?_ ?_; rotate_left; intro w'; go_simp; with_reducible rfl; rotate_left; go_simp; rfl
               refine pu_ HT_ 4 32 (bA 33 31) (v := ?_) (a' := ?_) rfl rfl (by kernel_rfl) (fun _ _ _ h => h) (by rfl) ?_ ?_ ?_; rotate_left; intro w'; go_simp; with_reducible rfl; rotate_left; go_simp; rfl
               refine pu_ HT_ 6 34 (bA 33 95) (v := ?_) (a' := ?_) rfl rfl (by kernel_rfl) (fun _ _ _ h => h) (by rfl) ?_ ?_ ?_; rotate_left; intro w'; go_simp; with_reducible rfl; rotate_left; go_simp; rfl
               refine take_ (i := 5) (N := some 33) (v := ?_) (a' := ?_) (bA 33 127) rfl rfl (take_ofW HT_.out HW_.out (by kernel_rfl)) (fun _ _ _ h => h) (Or.inl ⟨by rfl, ?_⟩) hHeld ?_ ?_
               rotate_left; rintro w' ⟨s0, s1, s2, s3, s4, s5, s6, s7, s8, s9, s10, s11, s12, s13, s14, s15⟩; go_simp; with_reducible rfl; rotate_left; go_simp; rfl
               refine take_ (i := 7) (N := some 35) (v := ?_) (a' := ?_) (bA 33 255) rfl rfl (take_ofW HT_.out HW_.out (by kernel_rfl)) (fun _ _ _ h => h) (Or.inl ⟨by rfl, ?_⟩) hHeld ?_ ?_
               rotate_left; rintro w' ⟨s0, s1, s2, s3, s4, s5, s6, s7, s8, s9, s10, s11, s12, s13, s14, s15⟩; go_simp; with_reducible rfl; rotate_left; go_simp; rfl
               refine one_ (i := 8) (N := some 36) (bA 33 511) rfl rfl (one_of HT_.out (by kernel_rfl)) (by decide) (fun K hK => ?_)
               refine goes_ Try.func96 (by kernel_rfl) rfl #[.agg #[.slice jz ((qa qb qe).f0.f0).length jy], .agg #[.slice qq qd.length qp]] (by rfl) rfl rfl (by first | rfl | (simp only [List.map_toArray, List.map_cons, List.map_nil]; first | done | rfl)) ?_
               with_reducible refine (zc.calls k2 _ _ ((qa qb qe).f0.f0) _ _ qd true _ ?qk ?qj ?qw ?qy A21.out).mono ?_
               (case qk => exact cw jk.out HB.out)
               (case qj => exact zk.out)
               (case qw => exact cw qW.out HB.out)
               (case qy => exact jb.out)
               rintro e w32 ⟨rfl, hb⟩
               refine ⟨_, rfl, ?_⟩
               have n0_ := ak (blk_below (bk qc.out) hb)
               have n1_ := ak (blk_below (bk qz.out) hb)
               have n2_ := ak (below_step (by repeat (first | exact bw HB.out | refine below_set ?_ qm.out | refine below_set ?_ QT.out)) hb)
               clear qc
               clear qz
               clear HB
               have qc := n0_
               have qz := n1_
               have HB := n2_
               clear n0_ n1_ n2_
               (try clear hb)
               (try clear hb2)
               (try clear hk)
               (try clear hi)
               refine hK.out _ _ ⟨(blk_cell qz.out 0).trans rfl, (blk_cell qz.out 1).trans rfl, (blk_cell qz.out 2).trans rfl, (blk_cell qz.out 3).trans rfl, (blk_cell qz.out 4).trans rfl, (blk_cell qz.out 5).trans rfl, (blk_cell qz.out 6).trans rfl, (blk_cell qc.out 0).trans rfl, (blk_cell qc.out 1).trans rfl, (hc_ HB.out XS), (hc_ HB.out XR), (hc_ HB.out XQ), (hc_ HB.out XP), (hc_ HB.out XO), (hc_ HB.out XN), (hc_ HB.out XM)⟩ (fun hHeld => ?_)
               clear hK K
               refine norm_ (a' := ?_) ?_ ?_; rotate_left; go_simp; rfl
               refine pu_ HT_ 9 37 (bA 33 1023) (v := ?_) (a' := ?_) rfl rfl (by kernel_rfl) (fun _ _ _ h => h) (by rfl) ?_ ?_ ?_; rotate_left; intro w'; go_simp; with_reducible rfl; rotate_left; go_simp; rfl
               refine pu_ HT_ 10 38 (bA 33 2047) (v := ?_) (a' := ?_) rfl rfl (by kernel_rfl) (fun _ _ _ h => h) (by rfl) ?_ ?_ ?_; rotate_left; intro w'; go_simp; with_reducible rfl; rotate_left; go_simp; rfl
               refine pu_ HT_ 11 39 (bA 33 4095) (v := ?_) (a' := ?_) rfl rfl (by kernel_rfl) (fun _ _ _ h => h) (by rfl) ?_ ?_ ?_; rotate_left; intro w'; go_simp; with_reducible rfl; rotate_left; go_simp; rfl
               refine pu_ HT_ 12 40 (bA 33 8191) (v := ?_) (a' := ?_) rfl rfl (by kernel_rfl) (fun _ _ _ h => h) (by rfl) ?_ ?_ ?_; rotate_left; intro w'; go_simp; with_reducible rfl; rotate_left; go_simp; rfl
               refine pu_ HT_ 13 41 (bA 33 16383) (v := ?_) (a' := ?_) rfl rfl (by kernel_rfl) (fun _ _ _ h => h) (by rfl) ?_ ?_ ?_; rotate_left; intro w'; go_simp; with_reducible rfl; rotate_left; go_simp; rfl
               refine pu_ HT_ 14 42 (bA 33 32767) (v := ?_) (a' := ?_) rfl rfl (by kernel_rfl) (fun _ _ _ h => h) (by rfl) ?_ ?_ ?_; rotate_left; intro w'; go_simp; with_reducible rfl; rotate_left; go_simp; rfl
               refine pu_ HT_ 15 43 (bA 33 65535) (v := ?_) (a' := ?_) rfl rfl (by kernel_rfl) (fun _ _ _ h => h) (by rfl) ?_ ?_ ?_; rotate_left; intro w'; go_simp; with_reducible rfl; rotate_left; go_simp; rfl
               refine pu_ HT_ 17 45 (bA 33 196607) (v := ?_) (a' := ?_) rfl rfl (by kernel_rfl) (fun _ _ _ h => h) (by rfl) ?_ ?_ ?_; rotate_left; intro w'; go_simp; with_reducible rfl; rotate_left; go_simp; rfl
               refine pu_ HT_ 18 46 (bA 33 458751) (v := ?_) (a' := ?_) rfl rfl (by kernel_rfl) (fun _ _ _ h => h) (by rfl) ?_ ?_ ?_; rotate_left; intro w'; go_simp; with_reducible rfl; rotate_left; go_simp; rfl
               refine take_ (i := 16) (N := some 44) (v := ?_) (a' := ?_) (bA 33 524287) rfl rfl (take_ofW HT_.out HW_.out (by kernel_rfl)) (fun _ _ _ h => h) (Or.inl ⟨by rfl, ?_⟩) hHeld ?_ ?_
               rotate_left; rintro w' ⟨s0, s1, s2, s3, s4, s5, s6, s7, s8, s9, s10, s11, s12, s13, s14, s15⟩; go_simp; with_reducible rfl; rotate_left; go_simp; rfl
               refine pu_ HT_ 19 47 (bA 33 1048575) (v := ?_) (a' := ?_) rfl rfl (by kernel_rfl) (fun _ _ _ h => h) (by rfl) ?_ ?_ ?_; rotate_left; intro w'; go_simp; with_reducible rfl; rotate_left; go_simp; rfl
               refine take_ (i := 20) (N := some 48) (v := ?_) (a' := ?_) (bA 33 2097151) rfl rfl (take_ofW HT_.out HW_.out (by kernel_rfl)) (fun _ _ _ h => h) (Or.inl ⟨by rfl, ?_⟩) hHeld ?_ ?_
               rotate_left; rintro w' ⟨s0, s1, s2, s3, s4, s5, s6, s7, s8, s9, s10, s11, s12, s13, s14, s15⟩; go_simp; with_reducible rfl; rotate_left; go_simp; rfl
               refine take_ (i := 21) (N := some 49) (v := ?_) (a' := ?_) (bA 33 4194303) rfl rfl (take_ofW HT_.out HW_.out (by kernel_rfl)) (fun _ _ _ h => h) (Or.inl ⟨by rfl, ?_⟩) hHeld ?_ ?_
               rotate_left; rintro w' ⟨s0, s1, s2, s3, s4, s5, s6, s7, s8, s9, s10, s11, s12, s13, s14, s15⟩; go_simp; with_reducible rfl; rotate_left; go_simp; rfl
               refine one_ (i := 22) (N := some 50) (bA 33 8388607) rfl rfl (one_of HT_.out (by kernel_rfl)) (by decide) (fun K hK => ?_)
               refine goes_ Try.func61 (by kernel_rfl) rfl #[.agg #[.slice qgG ((qa qb (jI)).f0.f0).length qgx, .int .i64 ((qa qb (jI)).f1), .int .i64 ((qa qb (jI)).f2), .int .i64 ((qa qb (jI)).f3), .slice qgF ((qa qb (jI)).f4.f0).length qgw, .slice qgE ((qa qb (jI)).f5).length qgv, .slice qgD ((qa qb (jI)).f6).length qgu], .agg #[.slice jz ((qa qb qe).f0.f0).length jy, .int .i64 ((qa qb qe).f1), .int .i64 ((qa qb qe).f2), .int .i64 ((qa qb qe).f3), .slice za ((qa qb qe).f4.f0).length jY, .slice jZ ((qa qb qe).f5).length jX, .slice zf ((qa qb qe).f6).length jW]] (by rfl) rfl rfl (by (try simp only [List.map_toArray, List.map_cons, List.map_nil]); first | done | (simp only [qf8]; rfl) | rfl | (simp only [List.length_drop, List.length_take]; rfl)) ?_
               with_reducible refine (zr.calls k2 _ _ ((qa qb (jI)).f0.f0) ((qa qb (jI)).f1) ((qa qb (jI)).f2) ((qa qb (jI)).f3) _ _ ((qa qb (jI)).f4.f0) _ _ ((qa qb (jI)).f5) _ _ ((qa qb (jI)).f6) _ _ ((qa qb qe).f0.f0) ((qa qb qe).f1) ((qa qb qe).f2) ((qa qb qe).f3) _ _ ((qa qb qe).f4.f0) _ _ ((qa qb qe).f5) _ _ ((qa qb qe).f6) jQ _ ?qk ?qj ?qw ?qy ?zK ?yz ?yy ?yx ?qbW ?qah ?qag ?qaf ?qae ?qad ?qac ?qab A27.out).mono ?_
               (case qk => exact cw qf7.out HB.out)
               (case qj => exact qk6.out)
               (case qw => exact cw qf6.out HB.out)
               (case qy => exact qk5.out)
               (case zK => exact cw qf5.out HB.out)
               (case yz => exact qk4.out)
               (case yy => exact cw qf4.out HB.out)
               (case yx => exact qk3.out)
               (case qbW => exact cw jk.out HB.out)
               (case qah => exact zk.out)
               (case qag => exact cw zJ.out HB.out)
               (case qaf => exact YK.out)
               (case qae => exact cw zI.out HB.out)
               (case qad => exact YJ.out)
               (case qac => exact cw zD.out HB.out)
               (case qab => exact YI.out)
               rintro e w33 ⟨rfl, hb⟩
               refine ⟨_, rfl, ?_⟩
               have n0_ := ak (blk_below (bk qc.out) hb)
               have n1_ := ak (blk_below (bk qz.out) hb)
               have n2_ := ak (below_step (by repeat (first | exact bw HB.out | refine below_set ?_ qm.out | refine below_set ?_ QT.out)) hb)
               clear qc
               clear qz
               clear HB
               have qc := n0_
               have qz := n1_
               have HB := n2_
               clear n0_ n1_ n2_
               (try clear hb)
               (try clear hb2)
               (try clear hk)
               (try clear hi)
               refine hK.out _ _ ⟨(blk_cell qz.out 0).trans rfl, (blk_cell qz.out 1).trans rfl, (blk_cell qz.out 2).trans rfl, (blk_cell qz.out 3).trans rfl, (blk_cell qz.out 4).trans rfl, (blk_cell qz.out 5).trans rfl, (blk_cell qz.out 6).trans rfl, (blk_cell qc.out 0).trans rfl, (blk_cell qc.out 1).trans rfl, (hc_ HB.out XS), (hc_ HB.out XR), (hc_ HB.out XQ), (hc_ HB.out XP), (hc_ HB.out XO), (hc_ HB.out XN), (hc_ HB.out XM)⟩ (fun hHeld => ?_)
               clear hK K
               refine norm_ (a' := ?_) ?_ ?_; rotate_left; go_simp; rfl
               refine pu_ HT_ 23 51 (bA 33 16777215) (v := ?_) (a' := ?_) rfl rfl (by kernel_rfl) (fun _ _ _ h => h) (by rfl) ?_ ?_ ?_; rotate_left; intro w'; go_simp; with_reducible rfl; rotate_left; go_simp; rfl
               refine pu_ HT_ 24 52 (bA 33 33554431) (v := ?_) (a' := ?_) rfl rfl (by kernel_rfl) (fun _ _ _ h => h) (by rfl) ?_ ?_ ?_; rotate_left; intro w'; go_simp; with_reducible rfl; rotate_left; go_simp; rfl
               refine pu_ HT_ 25 53 (bA 33 67108863) (v := ?_) (a' := ?_) rfl rfl (by kernel_rfl) (fun _ _ _ h => h) (by rfl) ?_ ?_ ?_; rotate_left; intro w'; go_simp; with_reducible rfl; rotate_left; go_simp; rfl
               refine pu_ HT_ 26 54 (bA 33 134217727) (v := ?_) (a' := ?_) rfl rfl (by kernel_rfl) (fun _ _ _ h => h) (by rfl) ?_ ?_ ?_; rotate_left; intro w'; go_simp; with_reducible rfl; rotate_left; go_simp; rfl
               refine sk_ HT_ 27 55 (bA 33 268435455) (a' := ?_) rfl rfl (by kernel_rfl) (fun _ _ _ h => h) (by rfl) ?_ ?_; rotate_left; go_simp; rfl
               refine sk_ HT_ 28 56 (bA 33 536870911) (a' := ?_) rfl rfl (by kernel_rfl) (fun _ _ _ h => h) (by rfl) ?_ ?_; rotate_left; go_simp; rfl
               refine sk_ HT_ 29 57 (bA 33 1073741823) (a' := ?_) rfl rfl (by kernel_rfl) (fun _ _ _ h => h) (by rfl) ?_ ?_; rotate_left; go_simp; rfl
               refine sk_ HT_ 30 58 (bA 33 2147483647) (a' := ?_) rfl rfl (by kernel_rfl) (fun _ _ _ h => h) (by rfl) ?_ ?_; rotate_left; go_simp; rfl
               refine sk_ HT_ 31 59 (bA 33 4294967295) (a' := ?_) rfl rfl (by kernel_rfl) (fun _ _ _ h => h) (by rfl) ?_ ?_; rotate_left; go_simp; rfl
               refine pu_ HT_ 32 60 (bA 33 8589934591) (v := ?_) (a' := ?_) rfl rfl (by kernel_rfl) (fun _ _ _ h => h) (by rfl) ?_ ?_ ?_; rotate_left; intro w'; go_simp; with_reducible rfl; rotate_left; go_simp; rfl
               refine done_ (done_of HT_.out (by kernel_rfl)) ?_
               try go_wp2
               go_meet
               case rel => exact ⟨_, (true), (by first | rfl | (simp; done) | (simp [*]; done)), H', ⟨by have := HJ1.out; have := HK2.out; first | omega | exact Nat.le_refl _⟩, ⟨bk qc.out⟩, ⟨bk qz.out⟩, ⟨by repeat (first | exact bw HB.out | refine below_set ?_ qm.out | refine below_set ?_ QT.out)⟩⟩
              ·rw [if_neg c28] at H
               have c28b0 : decide (0 ≤ jQ) = false := decide_eq_false c28
               clear c28
               replace H := Option.bind_eq_some_iff.mp H
               obtain ⟨zq, quO, H⟩ := H
               replace H : (qv.j2 k2 qD qe (!zq) qd qb ((qa qb qe).f0.f0) ((qa qb qe).f1) ((qa qb qe).f2) ((qa qb qe).f3) ((qa qb qe).f4.f0) ((qa qb qe).f5) ((qa qb qe).f6)) = some r := H
               have A34 := ak quO
               clear quO
               have H' := ak H
               clear H
               try go_wp2
               have n0_ : Aside0 ((((((((w16.setCell ⟨qE, 0, none⟩ (.slice jz ((qa qb qe).f0.f0).length jy)).setCell ⟨qE, 1, none⟩ (.int .i64 ((qa qb qe).f1))).setCell ⟨qE, 2, none⟩ (.int .i64 ((qa qb qe).f2))).setCell ⟨qE, 3, none⟩ (.int .i64 ((qa qb qe).f3))).setCell ⟨qE, 4, none⟩ (.slice za ((qa qb qe).f4.f0).length jY)).setCell ⟨qE, 5, none⟩ (.slice jZ ((qa qb qe).f5).length jX)).setCell ⟨qE, 6, none⟩ (.slice zf ((qa qb qe).f6).length jW)).heap[qi]? = some (.cells #[.slice qq qd.length qp, .slice (some qJ) qb.length je] 59 (0, 0))) := ⟨Xm Xc.out qc.out⟩
               have n1_ : Aside0 ((((((((w16.setCell ⟨qE, 0, none⟩ (.slice jz ((qa qb qe).f0.f0).length jy)).setCell ⟨qE, 1, none⟩ (.int .i64 ((qa qb qe).f1))).setCell ⟨qE, 2, none⟩ (.int .i64 ((qa qb qe).f2))).setCell ⟨qE, 3, none⟩ (.int .i64 ((qa qb qe).f3))).setCell ⟨qE, 4, none⟩ (.slice za ((qa qb qe).f4.f0).length jY)).setCell ⟨qE, 5, none⟩ (.slice jZ ((qa qb qe).f5).length jX)).setCell ⟨qE, 6, none⟩ (.slice zf ((qa qb qe).f6).length jW)).heap[qE]? = some (.cells #[.slice jz ((qa qb qe).f0.f0).length jy, .int .i64 ((qa qb qe).f1), .int .i64 ((qa qb qe).f2), .int .i64 ((qa qb qe).f3), .slice za ((qa qb qe).f4.f0).length jY, .slice jZ ((qa qb qe).f5).length jX, .slice zf ((qa qb qe).f6).length jW] 33 (0, 0))) := ⟨qa1 qz.out⟩
               have n2_ : Aside0 (Below w.heap.size w (((((((w16.setCell ⟨qE, 0, none⟩ (.slice jz ((qa qb qe).f0.f0).length jy)).setCell ⟨qE, 1, none⟩ (.int .i64 ((qa qb qe).f1))).setCell ⟨qE, 2, none⟩ (.int .i64 ((qa qb qe).f2))).setCell ⟨qE, 3, none⟩ (.int .i64 ((qa qb qe).f3))).setCell ⟨qE, 4, none⟩ (.slice za ((qa qb qe).f4.f0).length jY)).setCell ⟨qE, 5, none⟩ (.slice jZ ((qa qb qe).f5).length jX)).setCell ⟨qE, 6, none⟩ (.slice zf ((qa qb qe).f6).length jW))) := ⟨by repeat (first | exact bw HB.out | refine below_set ?_ qm.out | refine below_set ?_ QT.out)⟩
               (try clear qc)
               (try clear qz)
               (try clear HB)
               generalize (((((((w16.setCell ⟨qE, 0, none⟩ (.slice jz ((qa qb qe).f0.f0).length jy)).setCell ⟨qE, 1, none⟩ (.int .i64 ((qa qb qe).f1))).setCell ⟨qE, 2, none⟩ (.int .i64 ((qa qb qe).f2))).setCell ⟨qE, 3, none⟩ (.int .i64 ((qa qb qe).f3))).setCell ⟨qE, 4, none⟩ (.slice za ((qa qb qe).f4.f0).length jY)).setCell ⟨qE, 5, none⟩ (.slice jZ ((qa qb qe).f5).length jX)).setCell ⟨qE, 6, none⟩ (.slice zf ((qa qb qe).f6).length jW)) = w35 at n0_ n1_ n2_ ⊢
               have qc := n0_
               have qz := n1_
               have HB := n2_
               clear n0_ n1_ n2_
               have n0_ := ak (blk_drew qc.out)
               have n1_ := ak (blk_drew qz.out)
               have n2_ := ak (below_drew1 HB.out)
               clear qc
               clear qz
               clear HB
               have qc := n0_
               have qz := n1_
               have HB := n2_
               clear n0_ n1_ n2_
               have Qk : 0 ≤ ((jI) : Int) := of_decide_eq_true (by first | (with_reducible assumption) | assumption)
               have Qj : (jI) < (qb.length : Int) := of_decide_eq_true (by first | (with_reducible assumption) | assumption)
               obtain ⟨YA, qgG, qgx, qgF, qgw, qgE, qgv, qgD, qgu, XK, zZ, qaB, qaA, qaz, qay, qax, qaw, qfb, qfn, qfa, qfm, qe9, qfl, qe8, qfk⟩ := Qi yB.out (jI) Qk Qj
               have XM := qaw
               have XN := qax
               have XO := qay
               have XP := qaz
               have XQ := qaA
               have XR := qaB
               have XS := zZ
               obtain rfl : qJ = YA := (by injection XK)
               replace zZ := hc_ HB.out zZ
               replace qaB := hc_ HB.out qaB
               replace qaA := hc_ HB.out qaA
               replace qaz := hc_ HB.out qaz
               replace qay := hc_ HB.out qay
               replace qax := hc_ HB.out qax
               replace qaw := hc_ HB.out qaw
               have qf7 := ak qfn
               have qk6 := ak qfb
               clear qfn qfb
               have qf6 := ak qfm
               have qk5 := ak qfa
               clear qfm qfa
               have qf5 := ak qfl
               have qk4 := ak qe9
               clear qfl qe9
               have qf4 := ak qfk
               have qk3 := ak qe8
               clear qfk qe8
               replace Qk := eq_true Qk
               replace Qj := eq_true Qj
               refine start_ (n := 33) (S := fun w' => w'.cell? ⟨qE, 0, none⟩ = some (.slice jz ((qa qb qe).f0.f0).length jy) ∧ w'.cell? ⟨qE, 1, none⟩ = some (.int .i64 ((qa qb qe).f1)) ∧ w'.cell? ⟨qE, 2, none⟩ = some (.int .i64 ((qa qb qe).f2)) ∧ w'.cell? ⟨qE, 3, none⟩ = some (.int .i64 ((qa qb qe).f3)) ∧ w'.cell? ⟨qE, 4, none⟩ = some (.slice za ((qa qb qe).f4.f0).length jY) ∧ w'.cell? ⟨qE, 5, none⟩ = some (.slice jZ ((qa qb qe).f5).length jX) ∧ w'.cell? ⟨qE, 6, none⟩ = some (.slice zf ((qa qb qe).f6).length jW) ∧ w'.cell? ⟨qi, 0, none⟩ = some (.slice qq qd.length qp) ∧ w'.cell? ⟨qi, 1, none⟩ = some (.slice (some qJ) qb.length je) ∧ w'.cell? (qJ.add (((jI)).toNat * 7)) = some (.slice qgG ((qa qb (jI)).f0.f0).length qgx) ∧ w'.cell? ⟨(qJ.add (((jI)).toNat * 7)).block, (qJ.add (((jI)).toNat * 7)).off + 1, none⟩ = some (.int .i64 ((qa qb (jI)).f1)) ∧ w'.cell? ⟨(qJ.add (((jI)).toNat * 7)).block, (qJ.add (((jI)).toNat * 7)).off + 2, none⟩ = some (.int .i64 ((qa qb (jI)).f2)) ∧ w'.cell? ⟨(qJ.add (((jI)).toNat * 7)).block, (qJ.add (((jI)).toNat * 7)).off + 3, none⟩ = some (.int .i64 ((qa qb (jI)).f3)) ∧ w'.cell? ⟨(qJ.add (((jI)).toNat * 7)).block, (qJ.add (((jI)).toNat * 7)).off + 4, none⟩ = some (.slice qgF ((qa qb (jI)).f4.f0).length qgw) ∧ w'.cell? ⟨(qJ.add (((jI)).toNat * 7)).block, (qJ.add (((jI)).toNat * 7)).off + 5, none⟩ = some (.slice qgE ((qa qb (jI)).f5).length qgv) ∧ w'.cell? ⟨(qJ.add (((jI)).toNat * 7)).block, (qJ.add (((jI)).toNat * 7)).off + 6, none⟩ = some (.slice qgD ((qa qb (jI)).f6).length qgu)) (ds := []) (bA 33 0) (by kernel_rfl) rfl rfl ⟨(blk_cell qz.out 0).trans rfl, (blk_cell qz.out 1).trans rfl, (blk_cell qz.out 2).trans rfl, (blk_cell qz.out 3).trans rfl, (blk_cell qz.out 4).trans rfl, (blk_cell qz.out 5).trans rfl, (blk_cell qz.out 6).trans rfl, (blk_cell qc.out 0).trans rfl, (blk_cell qc.out 1).trans rfl, (hc_ HB.out XS), (hc_ HB.out XR), (hc_ HB.out XQ), (hc_ HB.out XP), (hc_ HB.out XO), (hc_ HB.out XN), (hc_ HB.out XM)⟩ (fun hHeld => ?_); refine with_tabW qv.tab8 qv.bits8 (fun HT_ HW_ => ?_)
               generalize w35.drew = w36 at qc qz HB qf7 qf6 qf5 qf4 zZ qaB qaA qaz qay qax qaw hHeld ⊢
               refine take_ (i := 0) (N := some 28) (v := ?_) (a' := ?_) (bA 33 1) rfl rfl (take_ofW HT_.out HW_.out (by kernel_rfl)) (fun _ _ _ h => h) (Or.inl ⟨by rfl, ?_⟩) hHeld ?_ ?_
               rotate_left; rintro w' ⟨s0, s1, s2, s3, s4, s5, s6, s7, s8, s9, s10, s11, s12, s13, s14, s15⟩; go_simp; with_reducible rfl; rotate_left; go_simp; rfl
               refine one_ (i := 1) (N := some 29) (bA 33 3) rfl rfl (one_of HT_.out (by kernel_rfl)) (by decide) (fun K hK => ?_)
               refine goes_ Try.func60 (by kernel_rfl) rfl #[.agg #[.slice jz ((qa qb qe).f0.f0).length jy, .int .i64 ((qa qb qe).f1), .int .i64 ((qa qb qe).f2), .int .i64 ((qa qb qe).f3), .slice za ((qa qb qe).f4.f0).length jY, .slice jZ ((qa qb qe).f5).length jX, .slice zf ((qa qb qe).f6).length jW]] (by rfl) rfl rfl (by first | rfl | (simp only [List.map_toArray, List.map_cons, List.map_nil]; first | done | rfl)) ?_
               with_reducible refine (ZD.calls k2 _ _ ((qa qb qe).f0.f0) ((qa qb qe).f1) ((qa qb qe).f2) ((qa qb qe).f3) _ _ ((qa qb qe).f4.f0) _ _ ((qa qb qe).f5) _ _ ((qa qb qe).f6) true _ ?qk ?qj ?qw ?qy ?zK ?yz ?yy ?yx A19.out).mono ?_
               (case qk => exact cw jk.out HB.out)
               (case qj => exact zk.out)
               (case qw => exact cw zJ.out HB.out)
               (case qy => exact YK.out)
               (case zK => exact cw zI.out HB.out)
               (case yz => exact YJ.out)
               (case yy => exact cw zD.out HB.out)
               (case yx => exact YI.out)
               rintro e w37 ⟨rfl, hb⟩
               refine ⟨_, rfl, ?_⟩
               have n0_ := ak (blk_below (bk qc.out) hb)
               have n1_ := ak (blk_below (bk qz.out) hb)
               have n2_ := ak (below_step (by repeat (first | exact bw HB.out | refine below_set ?_ qm.out | refine below_set ?_ QT.out)) hb)
               clear qc
               clear qz
               clear HB
               have qc := n0_
               have qz := n1_
               have HB := n2_
               clear n0_ n1_ n2_
               (try clear hb)
               (try clear hb2)
               (try clear hk)
               (try clear hi)
               refine hK.out _ _ ⟨(blk_cell qz.out 0).trans rfl, (blk_cell qz.out 1).trans rfl, (blk_cell qz.out 2).trans rfl, (blk_cell qz.out 3).trans rfl, (blk_cell qz.out 4).trans rfl, (blk_cell qz.out 5).trans rfl, (blk_cell qz.out 6).trans rfl, (blk_cell qc.out 0).trans rfl, (blk_cell qc.out 1).trans rfl, (hc_ HB.out XS), (hc_ HB.out XR), (hc_ HB.out XQ), (hc_ HB.out XP), (hc_ HB.out XO), (hc_ HB.out XN), (hc_ HB.out XM)⟩ (fun hHeld => ?_)
               clear hK K
               refine norm_ (a' := ?_) ?_ ?_; rotate_left; go_simp; rfl
               refine pu_ HT_ 2 30 (bA 33 7) (v := ?_) (a' := ?_) rfl rfl (by kernel_rfl) (fun _ _ _ h => h) (by rfl) ?_ ?_ ?_; rotate_left; intro w'; go_simp; with_reducible rfl; rotate_left; go_simp; rfl
               refine pu_ HT_ 3 31 (bA 33 15) (v := ?_) (a' := ?_) rfl rfl (by kernel_rfl) (fun _ _ _ h => h) (by rfl) ?_ ?_ ?_; rotate_left; intro w'; go_simp; with_reducible rfl; rotate_left; go_simp; rfl
               refine pu_ HT_ 4 32 (bA 33 31) (v := ?_) (a' := ?_) rfl rfl (by kernel_rfl) (fun _ _ _ h => h) (by rfl) ?_ ?_ ?_; rotate_left; intro w'; go_simp; with_reducible rfl; rotate_left; go_simp; rfl
               refine pu_ HT_ 6 34 (bA 33 95) (v := ?_) (a' := ?_) rfl rfl (by kernel_rfl) (fun _ _ _ h => h) (by rfl) ?_ ?_ ?_; rotate_left; intro w'; go_simp; with_reducible rfl; rotate_left; go_simp; rfl
               refine take_ (i := 5) (N := some 33) (v := ?_) (a' := ?_) (bA 33 127) rfl rfl (take_ofW HT_.out HW_.out (by kernel_rfl)) (fun _ _ _ h => h) (Or.inl ⟨by rfl, ?_⟩) hHeld ?_ ?_
               rotate_left; rintro w' ⟨s0, s1, s2, s3, s4, s5, s6, s7, s8, s9, s10, s11, s12, s13, s14, s15⟩; go_simp; with_reducible rfl; rotate_left; go_simp; rfl
               refine take_ (i := 7) (N := some 35) (v := ?_) (a' := ?_) (bA 33 255) rfl rfl (take_ofW HT_.out HW_.out (by kernel_rfl)) (fun _ _ _ h => h) (Or.inl ⟨by rfl, ?_⟩) hHeld ?_ ?_
               rotate_left; rintro w' ⟨s0, s1, s2, s3, s4, s5, s6, s7, s8, s9, s10, s11, s12, s13, s14, s15⟩; go_simp; with_reducible rfl; rotate_left; go_simp; rfl
               refine one_ (i := 8) (N := some 36) (bA 33 511) rfl rfl (one_of HT_.out (by kernel_rfl)) (by decide) (fun K hK => ?_)
               refine goes_ Try.func96 (by kernel_rfl) rfl #[.agg #[.slice jz ((qa qb qe).f0.f0).length jy], .agg #[.slice qq qd.length qp]] (by rfl) rfl rfl (by first | rfl | (simp only [List.map_toArray, List.map_cons, List.map_nil]; first | done | rfl)) ?_
               with_reducible refine (zc.calls k2 _ _ ((qa qb qe).f0.f0) _ _ qd true _ ?qk ?qj ?qw ?qy A21.out).mono ?_
               (case qk => exact cw jk.out HB.out)
               (case qj => exact zk.out)
               (case qw => exact cw qW.out HB.out)
               (case qy => exact jb.out)
               rintro e w38 ⟨rfl, hb⟩
               refine ⟨_, rfl, ?_⟩
               have n0_ := ak (blk_below (bk qc.out) hb)
               have n1_ := ak (blk_below (bk qz.out) hb)
               have n2_ := ak (below_step (by repeat (first | exact bw HB.out | refine below_set ?_ qm.out | refine below_set ?_ QT.out)) hb)
               clear qc
               clear qz
               clear HB
               have qc := n0_
               have qz := n1_
               have HB := n2_
               clear n0_ n1_ n2_
               (try clear hb)
               (try clear hb2)
               (try clear hk)
               (try clear hi)
               refine hK.out _ _ ⟨(blk_cell qz.out 0).trans rfl, (blk_cell qz.out 1).trans rfl, (blk_cell qz.out 2).trans rfl, (blk_cell qz.out 3).trans rfl, (blk_cell qz.out 4).trans rfl, (blk_cell qz.out 5).trans rfl, (blk_cell qz.out 6).trans rfl, (blk_cell qc.out 0).trans rfl, (blk_cell qc.out 1).trans rfl, (hc_ HB.out XS), (hc_ HB.out XR), (hc_ HB.out XQ), (hc_ HB.out XP), (hc_ HB.out XO), (hc_ HB.out XN), (hc_ HB.out XM)⟩ (fun hHeld => ?_)
               clear hK K
               refine norm_ (a' := ?_) ?_ ?_; rotate_left; go_simp; rfl
               refine pu_ HT_ 9 37 (bA 33 1023) (v := ?_) (a' := ?_) rfl rfl (by kernel_rfl) (fun _ _ _ h => h) (by rfl) ?_ ?_ ?_; rotate_left; intro w'; go_simp; with_reducible rfl; rotate_left; go_simp; rfl
               refine pu_ HT_ 10 38 (bA 33 2047) (v := ?_) (a' := ?_) rfl rfl (by kernel_rfl) (fun _ _ _ h => h) (by rfl) ?_ ?_ ?_; rotate_left; intro w'; go_simp; with_reducible rfl; rotate_left; go_simp; rfl
               refine pu_ HT_ 11 39 (bA 33 4095) (v := ?_) (a' := ?_) rfl rfl (by kernel_rfl) (fun _ _ _ h => h) (by rfl) ?_ ?_ ?_; rotate_left; intro w'; go_simp; with_reducible rfl; rotate_left; go_simp; rfl
               refine pu_ HT_ 12 40 (bA 33 8191) (v := ?_) (a' := ?_) rfl rfl (by kernel_rfl) (fun _ _ _ h => h) (by rfl) ?_ ?_ ?_; rotate_left; intro w'; go_simp; with_reducible rfl; rotate_left; go_simp; rfl
               refine pu_ HT_ 13 41 (bA 33 16383) (v := ?_) (a' := ?_) rfl rfl (by kernel_rfl) (fun _ _ _ h => h) (by rfl) ?_ ?_ ?_; rotate_left; intro w'; go_simp; with_reducible rfl; rotate_left; go_simp; rfl
               refine pu_ HT_ 14 42 (bA 33 32767) (v := ?_) (a' := ?_) rfl rfl (by kernel_rfl) (fun _ _ _ h => h) (by rfl) ?_ ?_ ?_; rotate_left; intro w'; go_simp; with_reducible rfl; rotate_left; go_simp; rfl
               refine pu_ HT_ 15 43 (bA 33 65535) (v := ?_) (a' := ?_) rfl rfl (by kernel_rfl) (fun _ _ _ h => h) (by rfl) ?_ ?_ ?_; rotate_left; intro w'; go_simp; with_reducible rfl; rotate_left; go_simp; rfl
               refine pu_ HT_ 17 45 (bA 33 196607) (v := ?_) (a' := ?_) rfl rfl (by kernel_rfl) (fun _ _ _ h => h) (by rfl) ?_ ?_ ?_; rotate_left; intro w'; go_simp; with_reducible rfl; rotate_left; go_simp; rfl
               refine pu_ HT_ 18 46 (bA 33 458751) (v := ?_) (a' := ?_) rfl rfl (by kernel_rfl) (fun _ _ _ h => h) (by rfl) ?_ ?_ ?_; rotate_left; intro w'; go_simp; with_reducible rfl; rotate_left; go_simp; rfl
               refine take_ (i := 16) (N := some 44) (v := ?_) (a' := ?_) (bA 33 524287) rfl rfl (take_ofW HT_.out HW_.out (by kernel_rfl)) (fun _ _ _ h => h) (Or.inl ⟨by rfl, ?_⟩) hHeld ?_ ?_
               rotate_left; rintro w' ⟨s0, s1, s2, s3, s4, s5, s6, s7, s8, s9, s10, s11, s12, s13, s14, s15⟩; go_simp; with_reducible rfl; rotate_left; go_simp; rfl
               refine pu_ HT_ 19 47 (bA 33 1048575) (v := ?_) (a' := ?_) rfl rfl (by kernel_rfl) (fun _ _ _ h => h) (by rfl) ?_ ?_ ?_; rotate_left; intro w'; go_simp; with_reducible rfl; rotate_left; go_simp; rfl
               refine take_ (i := 20) (N := some 48) (v := ?_) (a' := ?_) (bA 33 2097151) rfl rfl (take_ofW HT_.out HW_.out (by kernel_rfl)) (fun _ _ _ h => h) (Or.inl ⟨by rfl, ?_⟩) hHeld ?_ ?_
               rotate_left; rintro w' ⟨s0, s1, s2, s3, s4, s5, s6, s7, s8, s9, s10, s11, s12, s13, s14, s15⟩; go_simp; with_reducible rfl; rotate_left; go_simp; rfl
               refine take_ (i := 21) (N := some 49) (v := ?_) (a' := ?_) (bA 33 4194303) rfl rfl (take_ofW HT_.out HW_.out (by kernel_rfl)) (fun _ _ _ h => h) (Or.inl ⟨by rfl, ?_⟩) hHeld ?_ ?_
               rotate_left; rintro w' ⟨s0, s1, s2, s3, s4, s5, s6, s7, s8, s9, s10, s11, s12, s13, s14, s15⟩; go_simp; with_reducible rfl; rotate_left; go_simp; rfl
               refine one_ (i := 22) (N := some 50) (bA 33 8388607) rfl rfl (one_of HT_.out (by kernel_rfl)) (by decide) (fun K hK => ?_)
               refine goes_ Try.func61 (by kernel_rfl) rfl #[.agg #[.slice qgG ((qa qb (jI)).f0.f0).length qgx, .int .i64 ((qa qb (jI)).f1), .int .i64 ((qa qb (jI)).f2), .int .i64 ((qa qb (jI)).f3), .slice qgF ((qa qb (jI)).f4.f0).length qgw, .slice qgE ((qa qb (jI)).f5).length qgv, .slice qgD ((qa qb (jI)).f6).length qgu], .agg #[.slice jz ((qa qb qe).f0.f0).length jy, .int .i64 ((qa qb qe).f1), .int .i64 ((qa qb qe).f2), .int .i64 ((qa qb qe).f3), .slice za ((qa qb qe).f4.f0).length jY, .slice jZ ((qa qb qe).f5).length jX, .slice zf ((qa qb qe).f6).length jW]] (by rfl) rfl rfl (by (try simp only [List.map_toArray, List.map_cons, List.map_nil]); first | done | (simp only [qf8]; rfl) | rfl | (simp only [List.length_drop, List.length_take]; rfl)) ?_
               with_reducible refine (zr.calls k2 _ _ ((qa qb (jI)).f0.f0) ((qa qb (jI)).f1) ((qa qb (jI)).f2) ((qa qb (jI)).f3) _ _ ((qa qb (jI)).f4.f0) _ _ ((qa qb (jI)).f5) _ _ ((qa qb (jI)).f6) _ _ ((qa qb qe).f0.f0) ((qa qb qe).f1) ((qa qb qe).f2) ((qa qb qe).f3) _ _ ((qa qb qe).f4.f0) _ _ ((qa qb qe).f5) _ _ ((qa qb qe).f6) jQ _ ?qk ?qj ?qw ?qy ?zK ?yz ?yy ?yx ?qbW ?qah ?qag ?qaf ?qae ?qad ?qac ?qab A27.out).mono ?_
               (case qk => exact cw qf7.out HB.out)
               (case qj => exact qk6.out)
               (case qw => exact cw qf6.out HB.out)
               (case qy => exact qk5.out)
               (case zK => exact cw qf5.out HB.out)
               (case yz => exact qk4.out)
               (case yy => exact cw qf4.out HB.out)
               (case yx => exact qk3.out)
               (case qbW => exact cw jk.out HB.out)
               (case qah => exact zk.out)
               (case qag => exact cw zJ.out HB.out)
               (case qaf => exact YK.out)
               (case qae => exact cw zI.out HB.out)
               (case qad => exact YJ.out)
               (case qac => exact cw zD.out HB.out)
               (case qab => exact YI.out)
               rintro e w39 ⟨rfl, hb⟩
               refine ⟨_, rfl, ?_⟩
               have n0_ := ak (blk_below (bk qc.out) hb)
               have n1_ := ak (blk_below (bk qz.out) hb)
               have n2_ := ak (below_step (by repeat (first | exact bw HB.out | refine below_set ?_ qm.out | refine below_set ?_ QT.out)) hb)
               clear qc
               clear qz
               clear HB
               have qc := n0_
               have qz := n1_
               have HB := n2_
               clear n0_ n1_ n2_
               (try clear hb)
               (try clear hb2)
               (try clear hk)
               (try clear hi)
               refine hK.out _ _ ⟨(blk_cell qz.out 0).trans rfl, (blk_cell qz.out 1).trans rfl, (blk_cell qz.out 2).trans rfl, (blk_cell qz.out 3).trans rfl, (blk_cell qz.out 4).trans rfl, (blk_cell qz.out 5).trans rfl, (blk_cell qz.out 6).trans rfl, (blk_cell qc.out 0).trans rfl, (blk_cell qc.out 1).trans rfl, (hc_ HB.out XS), (hc_ HB.out XR), (hc_ HB.out XQ), (hc_ HB.out XP), (hc_ HB.out XO), (hc_ HB.out XN), (hc_ HB.out XM)⟩ (fun hHeld => ?_)
               clear hK K
               refine norm_ (a' := ?_) ?_ ?_; rotate_left; go_simp; rfl
               refine pu_ HT_ 23 51 (bA 33 16777215) (v := ?_) (a' := ?_) rfl rfl (by kernel_rfl) (fun _ _ _ h => h) (by rfl) ?_ ?_ ?_; rotate_left; intro w'; go_simp; with_reducible rfl; rotate_left; go_simp; rfl
               refine pu_ HT_ 24 52 (bA 33 33554431) (v := ?_) (a' := ?_) rfl rfl (by kernel_rfl) (fun _ _ _ h => h) (by rfl) ?_ ?_ ?_; rotate_left; intro w'; go_simp; with_reducible rfl; rotate_left; go_simp; rfl
               refine pu_ HT_ 25 53 (bA 33 67108863) (v := ?_) (a' := ?_) rfl rfl (by kernel_rfl) (fun _ _ _ h => h) (by rfl) ?_ ?_ ?_; rotate_left; intro w'; go_simp; with_reducible rfl; rotate_left; go_simp; rfl
               refine pu_ HT_ 26 54 (bA 33 134217727) (v := ?_) (a' := ?_) rfl rfl (by kernel_rfl) (fun _ _ _ h => h) (by rfl) ?_ ?_ ?_; rotate_left; intro w'; go_simp; with_reducible rfl; rotate_left; go_simp; rfl
               refine pu_ HT_ 27 55 (bA 33 268435455) (v := ?_) (a' := ?_) rfl rfl (by kernel_rfl) (fun _ _ _ h => h) (by rfl) ?_ ?_ ?_; rotate_left; intro w'; go_simp; with_reducible rfl; rotate_left; go_simp; rfl
               refine pu_ HT_ 29 57 (bA 33 805306367) (v := ?_) (a' := ?_) rfl rfl (by kernel_rfl) (fun _ _ _ h => h) (by rfl) ?_ ?_ ?_; rotate_left; intro w'; go_simp; with_reducible rfl; rotate_left; go_simp; rfl
               refine take_ (i := 28) (N := some 56) (v := ?_) (a' := ?_) (bA 33 1073741823) rfl rfl (take_ofW HT_.out HW_.out (by kernel_rfl)) (fun _ _ _ h => h) (Or.inl ⟨by rfl, ?_⟩) hHeld ?_ ?_
               rotate_left; rintro w' ⟨s0, s1, s2, s3, s4, s5, s6, s7, s8, s9, s10, s11, s12, s13, s14, s15⟩; go_simp; with_reducible rfl; rotate_left; go_simp; rfl
               refine one_ (i := 30) (N := some 58) (bA 33 2147483647) rfl rfl (one_of HT_.out (by kernel_rfl)) (by decide) (fun K hK => ?_)
               refine goes_ Try.func97 (by kernel_rfl) rfl #[.slice (some qJ) qb.length je, .int .i64 qe] (by rfl) rfl rfl (by first | rfl | (simp only [List.map_toArray, List.map_cons, List.map_nil]; first | done | rfl)) ?_
               with_reducible refine (qL.calls k2 _ _ qb qe zq _ ?qk ?qj A34.out).mono ?_
               (case qk => exact cw yB.out HB.out)
               (case qj => exact QJ.out)
               rintro e w40 ⟨rfl, hb⟩
               refine ⟨_, rfl, ?_⟩
               have n0_ := ak (blk_below (bk qc.out) hb)
               have n1_ := ak (blk_below (bk qz.out) hb)
               have n2_ := ak (below_step (by repeat (first | exact bw HB.out | refine below_set ?_ qm.out | refine below_set ?_ QT.out)) hb)
               clear qc
               clear qz
               clear HB
               have qc := n0_
               have qz := n1_
               have HB := n2_
               clear n0_ n1_ n2_
               (try clear hb)
               (try clear hb2)
               (try clear hk)
               (try clear hi)
               refine hK.out _ _ ⟨(blk_cell qz.out 0).trans rfl, (blk_cell qz.out 1).trans rfl, (blk_cell qz.out 2).trans rfl, (blk_cell qz.out 3).trans rfl, (blk_cell qz.out 4).trans rfl, (blk_cell qz.out 5).trans rfl, (blk_cell qz.out 6).trans rfl, (blk_cell qc.out 0).trans rfl, (blk_cell qc.out 1).trans rfl, (hc_ HB.out XS), (hc_ HB.out XR), (hc_ HB.out XQ), (hc_ HB.out XP), (hc_ HB.out XO), (hc_ HB.out XN), (hc_ HB.out XM)⟩ (fun hHeld => ?_)
               clear hK K
               refine norm_ (a' := ?_) ?_ ?_; rotate_left; go_simp; rfl
               refine pu_ HT_ 31 59 (bA 33 4294967295) (v := ?_) (a' := ?_) rfl rfl (by kernel_rfl) (fun _ _ _ h => h) (by rfl) ?_ ?_ ?_; rotate_left; intro w'; go_simp; with_reducible rfl; rotate_left; go_simp; rfl
               refine pu_ HT_ 32 60 (bA 33 8589934591) (v := ?_) (a' := ?_) rfl rfl (by kernel_rfl) (fun _ _ _ h => h) (by rfl) ?_ ?_ ?_; rotate_left; intro w'; go_simp; with_reducible rfl; rotate_left; go_simp; rfl
               refine done_ (done_of HT_.out (by kernel_rfl)) ?_
               try go_wp2
               go_meet
               case rel => exact ⟨_, (!zq), (by first | rfl | (simp; done) | (simp [*]; done)), H', ⟨by have := HJ1.out; have := HK2.out; first | omega | exact Nat.le_refl _⟩, ⟨bk qc.out⟩, ⟨bk qz.out⟩, ⟨by repeat (first | exact bw HB.out | refine below_set ?_ qm.out | refine below_set ?_ QT.out)⟩⟩
             ·rw [if_neg c26] at H
              exact absurd H (by simp)
            ·rw [if_neg c25] at H
             exact absurd H (by simp)
           ·rw [if_neg c23] at H
            have c23b0 : decide (0 < qe) = false := decide_eq_false c23
            clear c23
            (first | rw [c23b0] | (simp only [i64_w, i32_w]; rw [c23b0]) | skip)
            replace H := Option.bind_eq_some_iff.mp H
            obtain ⟨jS, quK, H⟩ := H
            replace H : (qv.j2 k2 qD qe (!jS) qd qb ((qa qb qe).f0.f0) ((qa qb qe).f1) ((qa qb qe).f2) ((qa qb qe).f3) ((qa qb qe).f4.f0) ((qa qb qe).f5) ((qa qb qe).f6)) = some r := H
            have A41 := ak quK
            clear quK
            have H' := ak H
            clear H
            try go_wp2
            have n0_ : Aside0 ((((((((w16.setCell ⟨qE, 0, none⟩ (.slice jz ((qa qb qe).f0.f0).length jy)).setCell ⟨qE, 1, none⟩ (.int .i64 ((qa qb qe).f1))).setCell ⟨qE, 2, none⟩ (.int .i64 ((qa qb qe).f2))).setCell ⟨qE, 3, none⟩ (.int .i64 ((qa qb qe).f3))).setCell ⟨qE, 4, none⟩ (.slice za ((qa qb qe).f4.f0).length jY)).setCell ⟨qE, 5, none⟩ (.slice jZ ((qa qb qe).f5).length jX)).setCell ⟨qE, 6, none⟩ (.slice zf ((qa qb qe).f6).length jW)).heap[qi]? = some (.cells #[.slice qq qd.length qp, .slice (some qJ) qb.length je] 59 (0, 0))) := ⟨Xm Xc.out qc.out⟩
            have n1_ : Aside0 ((((((((w16.setCell ⟨qE, 0, none⟩ (.slice jz ((qa qb qe).f0.f0).length jy)).setCell ⟨qE, 1, none⟩ (.int .i64 ((qa qb qe).f1))).setCell ⟨qE, 2, none⟩ (.int .i64 ((qa qb qe).f2))).setCell ⟨qE, 3, none⟩ (.int .i64 ((qa qb qe).f3))).setCell ⟨qE, 4, none⟩ (.slice za ((qa qb qe).f4.f0).length jY)).setCell ⟨qE, 5, none⟩ (.slice jZ ((qa qb qe).f5).length jX)).setCell ⟨qE, 6, none⟩ (.slice zf ((qa qb qe).f6).length jW)).heap[qE]? = some (.cells #[.slice jz ((qa qb qe).f0.f0).length jy, .int .i64 ((qa qb qe).f1), .int .i64 ((qa qb qe).f2), .int .i64 ((qa qb qe).f3), .slice za ((qa qb qe).f4.f0).length jY, .slice jZ ((qa qb qe).f5).length jX, .slice zf ((qa qb qe).f6).length jW] 33 (0, 0))) := ⟨qa1 qz.out⟩
            have n2_ : Aside0 (Below w.heap.size w (((((((w16.setCell ⟨qE, 0, none⟩ (.slice jz ((qa qb qe).f0.f0).length jy)).setCell ⟨qE, 1, none⟩ (.int .i64 ((qa qb qe).f1))).setCell ⟨qE, 2, none⟩ (.int .i64 ((qa qb qe).f2))).setCell ⟨qE, 3, none⟩ (.int .i64 ((qa qb qe).f3))).setCell ⟨qE, 4, none⟩ (.slice za ((qa qb qe).f4.f0).length jY)).setCell ⟨qE, 5, none⟩ (.slice jZ ((qa qb qe).f5).length jX)).setCell ⟨qE, 6, none⟩ (.slice zf ((qa qb qe).f6).length jW))) := ⟨by repeat (first | exact bw HB.out | refine below_set ?_ qm.out | refine below_set ?_ QT.out)⟩
            (try clear qc)
            (try clear qz)
            (try clear HB)
            generalize (((((((w16.setCell ⟨qE, 0, none⟩ (.slice jz ((qa qb qe).f0.f0).length jy)).setCell ⟨qE, 1, none⟩ (.int .i64 ((qa qb qe).f1))).setCell ⟨qE, 2, none⟩ (.int .i64 ((qa qb qe).f2))).setCell ⟨qE, 3, none⟩ (.int .i64 ((qa qb qe).f3))).setCell ⟨qE, 4, none⟩ (.slice za ((qa qb qe).f4.f0).length jY)).setCell ⟨qE, 5, none⟩ (.slice jZ ((qa qb qe).f5).length jX)).setCell ⟨qE, 6, none⟩ (.slice zf ((qa qb qe).f6).length jW)) = w42 at n0_ n1_ n2_ ⊢
            have qc := n0_
            have qz := n1_
            have HB := n2_
            clear n0_ n1_ n2_
            have n0_ := ak (blk_drew qc.out)
            have n1_ := ak (blk_drew qz.out)
            have n2_ := ak (below_drew1 HB.out)
            clear qc
            clear qz
            clear HB
            have qc := n0_
            have qz := n1_
            have HB := n2_
            clear n0_ n1_ n2_
            refine start_ (n := 33) (S := fun w' => w'.cell? ⟨qE, 0, none⟩ = some (.slice jz ((qa qb qe).f0.f0).length jy) ∧ w'.cell? ⟨qE, 1, none⟩ = some (.int .i64 ((qa qb qe).f1)) ∧ w'.cell? ⟨qE, 2, none⟩ = some (.int .i64 ((qa qb qe).f2)) ∧ w'.cell? ⟨qE, 3, none⟩ = some (.int .i64 ((qa qb qe).f3)) ∧ w'.cell? ⟨qE, 4, none⟩ = some (.slice za ((qa qb qe).f4.f0).length jY) ∧ w'.cell? ⟨qE, 5, none⟩ = some (.slice jZ ((qa qb qe).f5).length jX) ∧ w'.cell? ⟨qE, 6, none⟩ = some (.slice zf ((qa qb qe).f6).length jW) ∧ w'.cell? ⟨qi, 0, none⟩ = some (.slice qq qd.length qp) ∧ w'.cell? ⟨qi, 1, none⟩ = some (.slice (some qJ) qb.length je)) (ds := []) (bA 33 0) (by kernel_rfl) rfl rfl ⟨(blk_cell qz.out 0).trans rfl, (blk_cell qz.out 1).trans rfl, (blk_cell qz.out 2).trans rfl, (blk_cell qz.out 3).trans rfl, (blk_cell qz.out 4).trans rfl, (blk_cell qz.out 5).trans rfl, (blk_cell qz.out 6).trans rfl, (blk_cell qc.out 0).trans rfl, (blk_cell qc.out 1).trans rfl⟩ (fun hHeld => ?_); refine with_tabW qv.tab8 qv.bits8 (fun HT_ HW_ => ?_)
            generalize w42.drew = w43 at qc qz HB hHeld ⊢
            refine take_ (i := 0) (N := some 28) (v := ?_) (a' := ?_) (bA 33 1) rfl rfl (take_ofW HT_.out HW_.out (by kernel_rfl)) (fun _ _ _ h => h) (Or.inl ⟨by rfl, ?_⟩) hHeld ?_ ?_
            rotate_left; rintro w' ⟨s0, s1, s2, s3, s4, s5, s6, s7, s8⟩; go_simp; with_reducible rfl; rotate_left; go_simp; rfl
            refine one_ (i := 1) (N := some 29) (bA 33 3) rfl rfl (one_of HT_.out (by kernel_rfl)) (by decide) (fun K hK => ?_)
            refine goes_ Try.func60 (by kernel_rfl) rfl #[.agg #[.slice jz ((qa qb qe).f0.f0).length jy, .int .i64 ((qa qb qe).f1), .int .i64 ((qa qb qe).f2), .int .i64 ((qa qb qe).f3), .slice za ((qa qb qe).f4.f0).length jY, .slice jZ ((qa qb qe).f5).length jX, .slice zf ((qa qb qe).f6).length jW]] (by rfl) rfl rfl (by first | rfl | (simp only [List.map_toArray, List.map_cons, List.map_nil]; first | done | rfl)) ?_
            with_reducible refine (ZD.calls k2 _ _ ((qa qb qe).f0.f0) ((qa qb qe).f1) ((qa qb qe).f2) ((qa qb qe).f3) _ _ ((qa qb qe).f4.f0) _ _ ((qa qb qe).f5) _ _ ((qa qb qe).f6) true _ ?qk ?qj ?qw ?qy ?zK ?yz ?yy ?yx A19.out).mono ?_
            (case qk => exact cw jk.out HB.out)
            (case qj => exact zk.out)
            (case qw => exact cw zJ.out HB.out)
            (case qy => exact YK.out)
            (case zK => exact cw zI.out HB.out)
            (case yz => exact YJ.out)
            (case yy => exact cw zD.out HB.out)
            (case yx => exact YI.out)
            rintro e w44 ⟨rfl, hb⟩
            refine ⟨_, rfl, ?_⟩
            have n0_ := ak (blk_below (bk qc.out) hb)
            have n1_ := ak (blk_below (bk qz.out) hb)
            have n2_ := ak (below_step (by repeat (first | exact bw HB.out | refine below_set ?_ qm.out | refine below_set ?_ QT.out)) hb)
            clear qc
            clear qz
            clear HB
            have qc := n0_
            have qz := n1_
            have HB := n2_
            clear n0_ n1_ n2_
            (try clear hb)
            (try clear hb2)
            (try clear hk)
            (try clear hi)
            refine hK.out _ _ ⟨(blk_cell qz.out 0).trans rfl, (blk_cell qz.out 1).trans rfl, (blk_cell qz.out 2).trans rfl, (blk_cell qz.out 3).trans rfl, (blk_cell qz.out 4).trans rfl, (blk_cell qz.out 5).trans rfl, (blk_cell qz.out 6).trans rfl, (blk_cell qc.out 0).trans rfl, (blk_cell qc.out 1).trans rfl⟩ (fun hHeld => ?_)
            clear hK K
            refine norm_ (a' := ?_) ?_ ?_; rotate_left; go_simp; rfl
            refine pu_ HT_ 2 30 (bA 33 7) (v := ?_) (a' := ?_) rfl rfl (by kernel_rfl) (fun _ _ _ h => h) (by rfl) ?_ ?_ ?_; rotate_left; intro w'; go_simp; with_reducible rfl; rotate_left; go_simp; rfl
            refine pu_ HT_ 3 31 (bA 33 15) (v := ?_) (a' := ?_) rfl rfl (by kernel_rfl) (fun _ _ _ h => h) (by rfl) ?_ ?_ ?_; rotate_left; intro w'; go_simp; with_reducible rfl; rotate_left; go_simp; rfl
            refine pu_ HT_ 4 32 (bA 33 31) (v := ?_) (a' := ?_) rfl rfl (by kernel_rfl) (fun _ _ _ h => h) (by rfl) ?_ ?_ ?_; rotate_left; intro w'; go_simp; with_reducible rfl; rotate_left; go_simp; rfl
            refine pu_ HT_ 6 34 (bA 33 95) (v := ?_) (a' := ?_) rfl rfl (by kernel_rfl) (fun _ _ _ h => h) (by rfl) ?_ ?_ ?_; rotate_left; intro w'; go_simp; with_reducible rfl; rotate_left; go_simp; rfl
            refine take_ (i := 5) (N := some 33) (v := ?_) (a' := ?_) (bA 33 127) rfl rfl (take_ofW HT_.out HW_.out (by kernel_rfl)) (fun _ _ _ h => h) (Or.inl ⟨by rfl, ?_⟩) hHeld ?_ ?_
            rotate_left; rintro w' ⟨s0, s1, s2, s3, s4, s5, s6, s7, s8⟩; go_simp; with_reducible rfl; rotate_left; go_simp; rfl
            refine take_ (i := 7) (N := some 35) (v := ?_) (a' := ?_) (bA 33 255) rfl rfl (take_ofW HT_.out HW_.out (by kernel_rfl)) (fun _ _ _ h => h) (Or.inl ⟨by rfl, ?_⟩) hHeld ?_ ?_
            rotate_left; rintro w' ⟨s0, s1, s2, s3, s4, s5, s6, s7, s8⟩; go_simp; with_reducible rfl; rotate_left; go_simp; rfl
            refine one_ (i := 8) (N := some 36) (bA 33 511) rfl rfl (one_of HT_.out (by kernel_rfl)) (by decide) (fun K hK => ?_)
            refine goes_ Try.func96 (by kernel_rfl) rfl #[.agg #[.slice jz ((qa qb qe).f0.f0).length jy], .agg #[.slice qq qd.length qp]] (by rfl) rfl rfl (by first | rfl | (simp only [List.map_toArray, List.map_cons, List.map_nil]; first | done | rfl)) ?_
            with_reducible refine (zc.calls k2 _ _ ((qa qb qe).f0.f0) _ _ qd true _ ?qk ?qj ?qw ?qy A21.out).mono ?_
            (case qk => exact cw jk.out HB.out)
            (case qj => exact zk.out)
            (case qw => exact cw qW.out HB.out)
            (case qy => exact jb.out)
            rintro e w45 ⟨rfl, hb⟩
            refine ⟨_, rfl, ?_⟩
            have n0_ := ak (blk_below (bk qc.out) hb)
            have n1_ := ak (blk_below (bk qz.out) hb)
            have n2_ := ak (below_step (by repeat (first | exact bw HB.out | refine below_set ?_ qm.out | refine below_set ?_ QT.out)) hb)
            clear qc
            clear qz
            clear HB
            have qc := n0_
            have qz := n1_
            have HB := n2_
            clear n0_ n1_ n2_
            (try clear hb)
            (try clear hb2)
            (try clear hk)
            (try clear hi)
            refine hK.out _ _ ⟨(blk_cell qz.out 0).trans rfl, (blk_cell qz.out 1).trans rfl, (blk_cell qz.out 2).trans rfl, (blk_cell qz.out 3).trans rfl, (blk_cell qz.out 4).trans rfl, (blk_cell qz.out 5).trans rfl, (blk_cell qz.out 6).trans rfl, (blk_cell qc.out 0).trans rfl, (blk_cell qc.out 1).trans rfl⟩ (fun hHeld => ?_)
            clear hK K
            refine norm_ (a' := ?_) ?_ ?_; rotate_left; go_simp; rfl
            refine pu_ HT_ 9 37 (bA 33 1023) (v := ?_) (a' := ?_) rfl rfl (by kernel_rfl) (fun _ _ _ h => h) (by rfl) ?_ ?_ ?_; rotate_left; intro w'; go_simp; with_reducible rfl; rotate_left; go_simp; rfl
            refine pu_ HT_ 10 38 (bA 33 2047) (v := ?_) (a' := ?_) rfl rfl (by kernel_rfl) (fun _ _ _ h => h) (by rfl) ?_ ?_ ?_; rotate_left; intro w'; go_simp; with_reducible rfl; rotate_left; go_simp; rfl
            refine pu_ HT_ 11 39 (bA 33 4095) (v := ?_) (a' := ?_) rfl rfl (by kernel_rfl) (fun _ _ _ h => h) (by rfl) ?_ ?_ ?_; rotate_left; intro w'; go_simp; with_reducible rfl; rotate_left; go_simp; rfl
            refine pu_ HT_ 12 40 (bA 33 8191) (v := ?_) (a' := ?_) rfl rfl (by kernel_rfl) (fun _ _ _ h => h) (by rfl) ?_ ?_ ?_; rotate_left; intro w'; go_simp; with_reducible rfl; rotate_left; go_simp; rfl
            refine pu_ HT_ 13 41 (bA 33 16383) (v := ?_) (a' := ?_) rfl rfl (by kernel_rfl) (fun _ _ _ h => h) (by rfl) ?_ ?_ ?_; rotate_left; intro w'; go_simp; with_reducible rfl; rotate_left; go_simp; rfl
            refine pu_ HT_ 14 42 (bA 33 32767) (v := ?_) (a' := ?_) rfl rfl (by kernel_rfl) (fun _ _ _ h => h) (by rfl) ?_ ?_ ?_; rotate_left; intro w'; go_simp; with_reducible rfl; rotate_left; go_simp; rfl
            refine sk_ HT_ 15 43 (bA 33 65535) (a' := ?_) rfl rfl (by kernel_rfl) (fun _ _ _ h => h) (by rfl) ?_ ?_; rotate_left; go_simp; rfl
            refine sk_ HT_ 16 44 (bA 33 131071) (a' := ?_) rfl rfl (by kernel_rfl) (fun _ _ _ h => h) (by rfl) ?_ ?_; rotate_left; go_simp; rfl
            refine sk_ HT_ 17 45 (bA 33 262143) (a' := ?_) rfl rfl (by kernel_rfl) (fun _ _ _ h => h) (by rfl) ?_ ?_; rotate_left; go_simp; rfl
            refine sk_ HT_ 18 46 (bA 33 524287) (a' := ?_) rfl rfl (by kernel_rfl) (fun _ _ _ h => h) (by rfl) ?_ ?_; rotate_left; go_simp; rfl
            refine sk_ HT_ 19 47 (bA 33 1048575) (a' := ?_) rfl rfl (by kernel_rfl) (fun _ _ _ h => h) (by rfl) ?_ ?_; rotate_left; go_simp; rfl
            refine sk_ HT_ 20 48 (bA 33 2097151) (a' := ?_) rfl rfl (by kernel_rfl) (fun _ _ _ h => h) (by rfl) ?_ ?_; rotate_left; go_simp; rfl
            refine sk_ HT_ 21 49 (bA 33 4194303) (a' := ?_) rfl rfl (by kernel_rfl) (fun _ _ _ h => h) (by rfl) ?_ ?_; rotate_left; go_simp; rfl
            refine sk_ HT_ 22 50 (bA 33 8388607) (a' := ?_) rfl rfl (by kernel_rfl) (fun _ _ _ h => h) (by rfl) ?_ ?_; rotate_left; go_simp; rfl
            refine sk_ HT_ 23 51 (bA 33 16777215) (a' := ?_) rfl rfl (by kernel_rfl) (fun _ _ _ h => h) (by rfl) ?_ ?_; rotate_left; go_simp; rfl
            refine pu_ HT_ 24 52 (bA 33 33554431) (v := ?_) (a' := ?_) rfl rfl (by kernel_rfl) (fun _ _ _ h => h) (by rfl) ?_ ?_ ?_; rotate_left; intro w'; go_simp; with_reducible rfl; rotate_left; go_simp; rfl
            refine pu_ HT_ 25 53 (bA 33 67108863) (v := ?_) (a' := ?_) rfl rfl (by kernel_rfl) (fun _ _ _ h => h) (by rfl) ?_ ?_ ?_; rotate_left; intro w'; go_simp; with_reducible rfl; rotate_left; go_simp; rfl
            refine pu_ HT_ 26 54 (bA 33 134217727) (v := ?_) (a' := ?_) rfl rfl (by kernel_rfl) (fun _ _ _ h => h) (by rfl) ?_ ?_ ?_; rotate_left; intro w'; go_simp; with_reducible rfl; rotate_left; go_simp; rfl
            refine pu_ HT_ 27 55 (bA 33 268435455) (v := ?_) (a' := ?_) rfl rfl (by kernel_rfl) (fun _ _ _ h => h) (by rfl) ?_ ?_ ?_; rotate_left; intro w'; go_simp; with_reducible rfl; rotate_left; go_simp; rfl
            refine pu_ HT_ 29 57 (bA 33 805306367) (v := ?_) (a' := ?_) rfl rfl (by kernel_rfl) (fun _ _ _ h => h) (by rfl) ?_ ?_ ?_; rotate_left; intro w'; go_simp; with_reducible rfl; rotate_left; go_simp; rfl
            refine take_ (i := 28) (N := some 56) (v := ?_) (a' := ?_) (bA 33 1073741823) rfl rfl (take_ofW HT_.out HW_.out (by kernel_rfl)) (fun _ _ _ h => h) (Or.inl ⟨by rfl, ?_⟩) hHeld ?_ ?_
            rotate_left; rintro w' ⟨s0, s1, s2, s3, s4, s5, s6, s7, s8⟩; go_simp; with_reducible rfl; rotate_left; go_simp; rfl
            refine one_ (i := 30) (N := some 58) (bA 33 2147483647) rfl rfl (one_of HT_.out (by kernel_rfl)) (by decide) (fun K hK => ?_)
            refine goes_ Try.func97 (by kernel_rfl) rfl #[.slice (some qJ) qb.length je, .int .i64 qe] (by rfl) rfl rfl (by first | rfl | (simp only [List.map_toArray, List.map_cons, List.map_nil]; first | done | rfl)) ?_
            with_reducible refine (qL.calls k2 _ _ qb qe jS _ ?qk ?qj A41.out).mono ?_
            (case qk => exact cw yB.out HB.out)
            (case qj => exact QJ.out)
            rintro e w46 ⟨rfl, hb⟩
            refine ⟨_, rfl, ?_⟩
            have n0_ := ak (blk_below (bk qc.out) hb)
            have n1_ := ak (blk_below (bk qz.out) hb)
            have n2_ := ak (below_step (by repeat (first | exact bw HB.out | refine below_set ?_ qm.out | refine below_set ?_ QT.out)) hb)
            clear qc
            clear qz
            clear HB
            have qc := n0_
            have qz := n1_
            have HB := n2_
            clear n0_ n1_ n2_
            (try clear hb)
            (try clear hb2)
            (try clear hk)
            (try clear hi)
            refine hK.out _ _ ⟨(blk_cell qz.out 0).trans rfl, (blk_cell qz.out 1).trans rfl, (blk_cell qz.out 2).trans rfl, (blk_cell qz.out 3).trans rfl, (blk_cell qz.out 4).trans rfl, (blk_cell qz.out 5).trans rfl, (blk_cell qz.out 6).trans rfl, (blk_cell qc.out 0).trans rfl, (blk_cell qc.out 1).trans rfl⟩ (fun hHeld => ?_)
            clear hK K
            refine norm_ (a' := ?_) ?_ ?_; rotate_left; go_simp; rfl
            refine pu_ HT_ 31 59 (bA 33 4294967295) (v := ?_) (a' := ?_) rfl rfl (by kernel_rfl) (fun _ _ _ h => h) (by rfl) ?_ ?_ ?_; rotate_left; intro w'; go_simp; with_reducible rfl; rotate_left; go_simp; rfl
            refine pu_ HT_ 32 60 (bA 33 8589934591) (v := ?_) (a' := ?_) rfl rfl (by kernel_rfl) (fun _ _ _ h => h) (by rfl) ?_ ?_ ?_; rotate_left; intro w'; go_simp; with_reducible rfl; rotate_left; go_simp; rfl
            refine done_ (done_of HT_.out (by kernel_rfl)) ?_
            try go_wp2
            go_meet
            case rel => exact ⟨_, (!jS), (by first | rfl | (simp; done) | (simp [*]; done)), H', ⟨by have := HJ1.out; have := HK2.out; first | omega | exact Nat.le_refl _⟩, ⟨bk qc.out⟩, ⟨bk qz.out⟩, ⟨by repeat (first | exact bw HB.out | refine below_set ?_ qm.out | refine below_set ?_ QT.out)⟩⟩
          ·replace c22 := Bool.eq_false_iff.mpr c22
           subst c22
           have H1 : (qv.j2 k2 qD qe true qd qb ((qa qb qe).f0.f0) ((qa qb qe).f1) ((qa qb qe).f2) ((qa qb qe).f3) ((qa qb qe).f4.f0) ((qa qb qe).f5) ((qa qb qe).f6)) = some r := by rw [if_neg (show ¬ (false = true) by decide)] at H; exact H
           clear H
           have H := H1
           clear H1
           have H' := ak H
           clear H
           try go_wp2
           have n0_ : Aside0 ((((((((w16.setCell ⟨qE, 0, none⟩ (.slice jz ((qa qb qe).f0.f0).length jy)).setCell ⟨qE, 1, none⟩ (.int .i64 ((qa qb qe).f1))).setCell ⟨qE, 2, none⟩ (.int .i64 ((qa qb qe).f2))).setCell ⟨qE, 3, none⟩ (.int .i64 ((qa qb qe).f3))).setCell ⟨qE, 4, none⟩ (.slice za ((qa qb qe).f4.f0).length jY)).setCell ⟨qE, 5, none⟩ (.slice jZ ((qa qb qe).f5).length jX)).setCell ⟨qE, 6, none⟩ (.slice zf ((qa qb qe).f6).length jW)).heap[qi]? = some (.cells #[.slice qq qd.length qp, .slice (some qJ) qb.length je] 59 (0, 0))) := ⟨Xm Xc.out qc.out⟩
           have n1_ : Aside0 ((((((((w16.setCell ⟨qE, 0, none⟩ (.slice jz ((qa qb qe).f0.f0).length jy)).setCell ⟨qE, 1, none⟩ (.int .i64 ((qa qb qe).f1))).setCell ⟨qE, 2, none⟩ (.int .i64 ((qa qb qe).f2))).setCell ⟨qE, 3, none⟩ (.int .i64 ((qa qb qe).f3))).setCell ⟨qE, 4, none⟩ (.slice za ((qa qb qe).f4.f0).length jY)).setCell ⟨qE, 5, none⟩ (.slice jZ ((qa qb qe).f5).length jX)).setCell ⟨qE, 6, none⟩ (.slice zf ((qa qb qe).f6).length jW)).heap[qE]? = some (.cells #[.slice jz ((qa qb qe).f0.f0).length jy, .int .i64 ((qa qb qe).f1), .int .i64 ((qa qb qe).f2), .int .i64 ((qa qb qe).f3), .slice za ((qa qb qe).f4.f0).length jY, .slice jZ ((qa qb qe).f5).length jX, .slice zf ((qa qb qe).f6).length jW] 33 (0, 0))) := ⟨qa1 qz.out⟩
           have n2_ : Aside0 (Below w.heap.size w (((((((w16.setCell ⟨qE, 0, none⟩ (.slice jz ((qa qb qe).f0.f0).length jy)).setCell ⟨qE, 1, none⟩ (.int .i64 ((qa qb qe).f1))).setCell ⟨qE, 2, none⟩ (.int .i64 ((qa qb qe).f2))).setCell ⟨qE, 3, none⟩ (.int .i64 ((qa qb qe).f3))).setCell ⟨qE, 4, none⟩ (.slice za ((qa qb qe).f4.f0).length jY)).setCell ⟨qE, 5, none⟩ (.slice jZ ((qa qb qe).f5).length jX)).setCell ⟨qE, 6, none⟩ (.slice zf ((qa qb qe).f6).length jW))) := ⟨by repeat (first | exact bw HB.out | refine below_set ?_ qm.out | refine below_set ?_ QT.out)⟩
           (try clear qc)
           (try clear qz)
           (try clear HB)
           generalize (((((((w16.setCell ⟨qE, 0, none⟩ (.slice jz ((qa qb qe).f0.f0).length jy)).setCell ⟨qE, 1, none⟩ (.int .i64 ((qa qb qe).f1))).setCell ⟨qE, 2, none⟩ (.int .i64 ((qa qb qe).f2))).setCell ⟨qE, 3, none⟩ (.int .i64 ((qa qb qe).f3))).setCell ⟨qE, 4, none⟩ (.slice za ((qa qb qe).f4.f0).length jY)).setCell ⟨qE, 5, none⟩ (.slice jZ ((qa qb qe).f5).length jX)).setCell ⟨qE, 6, none⟩ (.slice zf ((qa qb qe).f6).length jW)) = w47 at n0_ n1_ n2_ ⊢
           have qc := n0_
           have qz := n1_
           have HB := n2_
           clear n0_ n1_ n2_
           have n0_ := ak (blk_drew qc.out)
           have n1_ := ak (blk_drew qz.out)
           have n2_ := ak (below_drew1 HB.out)
           clear qc
           clear qz
           clear HB
           have qc := n0_
           have qz := n1_
           have HB := n2_
           clear n0_ n1_ n2_
           refine start_ (n := 33) (S := fun w' => w'.cell? ⟨qE, 0, none⟩ = some (.slice jz ((qa qb qe).f0.f0).length jy) ∧ w'.cell? ⟨qE, 1, none⟩ = some (.int .i64 ((qa qb qe).f1)) ∧ w'.cell? ⟨qE, 2, none⟩ = some (.int .i64 ((qa qb qe).f2)) ∧ w'.cell? ⟨qE, 3, none⟩ = some (.int .i64 ((qa qb qe).f3)) ∧ w'.cell? ⟨qE, 4, none⟩ = some (.slice za ((qa qb qe).f4.f0).length jY) ∧ w'.cell? ⟨qE, 5, none⟩ = some (.slice jZ ((qa qb qe).f5).length jX) ∧ w'.cell? ⟨qE, 6, none⟩ = some (.slice zf ((qa qb qe).f6).length jW) ∧ w'.cell? ⟨qi, 0, none⟩ = some (.slice qq qd.length qp) ∧ w'.cell? ⟨qi, 1, none⟩ = some (.slice (some qJ) qb.length je)) (ds := []) (bA 33 0) (by kernel_rfl) rfl rfl ⟨(blk_cell qz.out 0).trans rfl, (blk_cell qz.out 1).trans rfl, (blk_cell qz.out 2).trans rfl, (blk_cell qz.out 3).trans rfl, (blk_cell qz.out 4).trans rfl, (blk_cell qz.out 5).trans rfl, (blk_cell qz.out 6).trans rfl, (blk_cell qc.out 0).trans rfl, (blk_cell qc.out 1).trans rfl⟩ (fun hHeld => ?_); refine with_tabW qv.tab8 qv.bits8 (fun HT_ HW_ => ?_)
           generalize w47.drew = w48 at qc qz HB hHeld ⊢
           refine take_ (i := 0) (N := some 28) (v := ?_) (a' := ?_) (bA 33 1) rfl rfl (take_ofW HT_.out HW_.out (by kernel_rfl)) (fun _ _ _ h => h) (Or.inl ⟨by rfl, ?_⟩) hHeld ?_ ?_
           rotate_left; rintro w' ⟨s0, s1, s2, s3, s4, s5, s6, s7, s8⟩; go_simp; with_reducible rfl; rotate_left; go_simp; rfl
           refine one_ (i := 1) (N := some 29) (bA 33 3) rfl rfl (one_of HT_.out (by kernel_rfl)) (by decide) (fun K hK => ?_)
           refine goes_ Try.func60 (by kernel_rfl) rfl #[.agg #[.slice jz ((qa qb qe).f0.f0).length jy, .int .i64 ((qa qb qe).f1), .int .i64 ((qa qb qe).f2), .int .i64 ((qa qb qe).f3), .slice za ((qa qb qe).f4.f0).length jY, .slice jZ ((qa qb qe).f5).length jX, .slice zf ((qa qb qe).f6).length jW]] (by rfl) rfl rfl (by first | rfl | (simp only [List.map_toArray, List.map_cons, List.map_nil]; first | done | rfl)) ?_
           with_reducible refine (ZD.calls k2 _ _ ((qa qb qe).f0.f0) ((qa qb qe).f1) ((qa qb qe).f2) ((qa qb qe).f3) _ _ ((qa qb qe).f4.f0) _ _ ((qa qb qe).f5) _ _ ((qa qb qe).f6) true _ ?qk ?qj ?qw ?qy ?zK ?yz ?yy ?yx A19.out).mono ?_
           (case qk => exact cw jk.out HB.out)
           (case qj => exact zk.out)
           (case qw => exact cw zJ.out HB.out)
           (case qy => exact YK.out)
           (case zK => exact cw zI.out HB.out)
           (case yz => exact YJ.out)
           (case yy => exact cw zD.out HB.out)
           (case yx => exact YI.out)
           rintro e w49 ⟨rfl, hb⟩
           refine ⟨_, rfl, ?_⟩
           have n0_ := ak (blk_below (bk qc.out) hb)
           have n1_ := ak (blk_below (bk qz.out) hb)
           have n2_ := ak (below_step (by repeat (first | exact bw HB.out | refine below_set ?_ qm.out | refine below_set ?_ QT.out)) hb)
           clear qc
           clear qz
           clear HB
           have qc := n0_
           have qz := n1_
           have HB := n2_
           clear n0_ n1_ n2_
           (try clear hb)
           (try clear hb2)
           (try clear hk)
           (try clear hi)
           refine hK.out _ _ ⟨(blk_cell qz.out 0).trans rfl, (blk_cell qz.out 1).trans rfl, (blk_cell qz.out 2).trans rfl, (blk_cell qz.out 3).trans rfl, (blk_cell qz.out 4).trans rfl, (blk_cell qz.out 5).trans rfl, (blk_cell qz.out 6).trans rfl, (blk_cell qc.out 0).trans rfl, (blk_cell qc.out 1).trans rfl⟩ (fun hHeld => ?_)
           clear hK K
           refine norm_ (a' := ?_) ?_ ?_; rotate_left; go_simp; rfl
           refine pu_ HT_ 2 30 (bA 33 7) (v := ?_) (a' := ?_) rfl rfl (by kernel_rfl) (fun _ _ _ h => h) (by rfl) ?_ ?_ ?_; rotate_left; intro w'; go_simp; with_reducible rfl; rotate_left; go_simp; rfl
           refine pu_ HT_ 3 31 (bA 33 15) (v := ?_) (a' := ?_) rfl rfl (by kernel_rfl) (fun _ _ _ h => h) (by rfl) ?_ ?_ ?_; rotate_left; intro w'; go_simp; with_reducible rfl; rotate_left; go_simp; rfl
           refine pu_ HT_ 4 32 (bA 33 31) (v := ?_) (a' := ?_) rfl rfl (by kernel_rfl) (fun _ _ _ h => h) (by rfl) ?_ ?_ ?_; rotate_left; intro w'; go_simp; with_reducible rfl; rotate_left; go_simp; rfl
           refine pu_ HT_ 6 34 (bA 33 95) (v := ?_) (a' := ?_) rfl rfl (by kernel_rfl) (fun _ _ _ h => h) (by rfl) ?_ ?_ ?_; rotate_left; intro w'; go_simp; with_reducible rfl; rotate_left; go_simp; rfl
           refine take_ (i := 5) (N := some 33) (v := ?_) (a' := ?_) (bA 33 127) rfl rfl (take_ofW HT_.out HW_.out (by kernel_rfl)) (fun _ _ _ h => h) (Or.inl ⟨by rfl, ?_⟩) hHeld ?_ ?_
           rotate_left; rintro w' ⟨s0, s1, s2, s3, s4, s5, s6, s7, s8⟩; go_simp; with_reducible rfl; rotate_left; go_simp; rfl
           refine take_ (i := 7) (N := some 35) (v := ?_) (a' := ?_) (bA 33 255) rfl rfl (take_ofW HT_.out HW_.out (by kernel_rfl)) (fun _ _ _ h => h) (Or.inl ⟨by rfl, ?_⟩) hHeld ?_ ?_
           rotate_left; rintro w' ⟨s0, s1, s2, s3, s4, s5, s6, s7, s8⟩; go_simp; with_reducible rfl; rotate_left; go_simp; rfl
           refine one_ (i := 8) (N := some 36) (bA 33 511) rfl rfl (one_of HT_.out (by kernel_rfl)) (by decide) (fun K hK => ?_)
           refine goes_ Try.func96 (by kernel_rfl) rfl #[.agg #[.slice jz ((qa qb qe).f0.f0).length jy], .agg #[.slice qq qd.length qp]] (by rfl) rfl rfl (by first | rfl | (simp only [List.map_toArray, List.map_cons, List.map_nil]; first | done | rfl)) ?_
           with_reducible refine (zc.calls k2 _ _ ((qa qb qe).f0.f0) _ _ qd false _ ?qk ?qj ?qw ?qy A21.out).mono ?_
           (case qk => exact cw jk.out HB.out)
           (case qj => exact zk.out)
           (case qw => exact cw qW.out HB.out)
           (case qy => exact jb.out)
           rintro e w50 ⟨rfl, hb⟩
           refine ⟨_, rfl, ?_⟩
           have n0_ := ak (blk_below (bk qc.out) hb)
           have n1_ := ak (blk_below (bk qz.out) hb)
           have n2_ := ak (below_step (by repeat (first | exact bw HB.out | refine below_set ?_ qm.out | refine below_set ?_ QT.out)) hb)
           clear qc
           clear qz
           clear HB
           have qc := n0_
           have qz := n1_
           have HB := n2_
           clear n0_ n1_ n2_
           (try clear hb)
           (try clear hb2)
           (try clear hk)
           (try clear hi)
           refine hK.out _ _ ⟨(blk_cell qz.out 0).trans rfl, (blk_cell qz.out 1).trans rfl, (blk_cell qz.out 2).trans rfl, (blk_cell qz.out 3).trans rfl, (blk_cell qz.out 4).trans rfl, (blk_cell qz.out 5).trans rfl, (blk_cell qz.out 6).trans rfl, (blk_cell qc.out 0).trans rfl, (blk_cell qc.out 1).trans rfl⟩ (fun hHeld => ?_)
           clear hK K
           refine norm_ (a' := ?_) ?_ ?_; rotate_left; go_simp; rfl
           refine pu_ HT_ 9 37 (bA 33 1023) (v := ?_) (a' := ?_) rfl rfl (by kernel_rfl) (fun _ _ _ h => h) (by rfl) ?_ ?_ ?_; rotate_left; intro w'; go_simp; with_reducible rfl; rotate_left; go_simp; rfl
           refine pu_ HT_ 10 38 (bA 33 2047) (v := ?_) (a' := ?_) rfl rfl (by kernel_rfl) (fun _ _ _ h => h) (by rfl) ?_ ?_ ?_; rotate_left; intro w'; go_simp; with_reducible rfl; rotate_left; go_simp; rfl
           refine pu_ HT_ 11 39 (bA 33 4095) (v := ?_) (a' := ?_) rfl rfl (by kernel_rfl) (fun _ _ _ h => h) (by rfl) ?_ ?_ ?_; rotate_left; intro w'; go_simp; with_reducible rfl; rotate_left; go_simp; rfl
           refine sk_ HT_ 12 40 (bA 33 8191) (a' := ?_) rfl rfl (by kernel_rfl) (fun _ _ _ h => h) (by rfl) ?_ ?_; rotate_left; go_simp; rfl
           refine sk_ HT_ 13 41 (bA 33 16383) (a' := ?_) rfl rfl (by kernel_rfl) (fun _ _ _ h => h) (by rfl) ?_ ?_; rotate_left; go_simp; rfl
           refine sk_ HT_ 14 42 (bA 33 32767) (a' := ?_) rfl rfl (by kernel_rfl) (fun _ _ _ h => h) (by rfl) ?_ ?_; rotate_left; go_simp; rfl
           refine sk_ HT_ 15 43 (bA 33 65535) (a' := ?_) rfl rfl (by kernel_rfl) (fun _ _ _ h => h) (by rfl) ?_ ?_; rotate_left; go_simp; rfl
           refine sk_ HT_ 16 44 (bA 33 131071) (a' := ?_) rfl rfl (by kernel_rfl) (fun _ _ _ h => h) (by rfl) ?_ ?_; rotate_left; go_simp; rfl
           refine sk_ HT_ 17 45 (bA 33 262143) (a' := ?_) rfl rfl (by kernel_rfl) (fun _ _ _ h => h) (by rfl) ?_ ?_; rotate_left; go_simp; rfl
           refine sk_ HT_ 18 46 (bA 33 524287) (a' := ?_) rfl rfl (by kernel_rfl) (fun _ _ _ h => h) (by rfl) ?_ ?_; rotate_left; go_simp; rfl
           refine sk_ HT_ 19 47 (bA 33 1048575) (a' := ?_) rfl rfl (by kernel_rfl) (fun _ _ _ h => h) (by rfl) ?_ ?_; rotate_left; go_simp; rfl
           refine sk_ HT_ 20 48 (bA 33 2097151) (a' := ?_) rfl rfl (by kernel_rfl) (fun _ _ _ h => h) (by rfl) ?_ ?_; rotate_left; go_simp; rfl
           refine sk_ HT_ 21 49 (bA 33 4194303) (a' := ?_) rfl rfl (by kernel_rfl) (fun _ _ _ h => h) (by rfl) ?_ ?_; rotate_left; go_simp; rfl
           refine sk_ HT_ 22 50 (bA 33 8388607) (a' := ?_) rfl rfl (by kernel_rfl) (fun _ _ _ h => h) (by rfl) ?_ ?_; rotate_left; go_simp; rfl
           refine sk_ HT_ 23 51 (bA 33 16777215) (a' := ?_) rfl rfl (by kernel_rfl) (fun _ _ _ h => h) (by rfl) ?_ ?_; rotate_left; go_simp; rfl
           refine sk_ HT_ 24 52 (bA 33 33554431) (a' := ?_) rfl rfl (by kernel_rfl) (fun _ _ _ h => h) (by rfl) ?_ ?_; rotate_left; go_simp; rfl
           refine pu_ HT_ 25 53 (bA 33 67108863) (v := ?_) (a' := ?_) rfl rfl (by kernel_rfl) (fun _ _ _ h => h) (by rfl) ?_ ?_ ?_; rotate_left; intro w'; go_simp; with_reducible rfl; rotate_left; go_simp; rfl
           refine pu_ HT_ 26 54 (bA 33 134217727) (v := ?_) (a' := ?_) rfl rfl (by kernel_rfl) (fun _ _ _ h => h) (by rfl) ?_ ?_ ?_; rotate_left; intro w'; go_simp; with_reducible rfl; rotate_left; go_simp; rfl
           refine sk_ HT_ 27 55 (bA 33 268435455) (a' := ?_) rfl rfl (by kernel_rfl) (fun _ _ _ h => h) (by rfl) ?_ ?_; rotate_left; go_simp; rfl
           refine sk_ HT_ 28 56 (bA 33 536870911) (a' := ?_) rfl rfl (by kernel_rfl) (fun _ _ _ h => h) (by rfl) ?_ ?_; rotate_left; go_simp; rfl
           refine sk_ HT_ 29 57 (bA 33 1073741823) (a' := ?_) rfl rfl (by kernel_rfl) (fun _ _ _ h => h) (by rfl) ?_ ?_; rotate_left; go_simp; rfl
           refine sk_ HT_ 30 58 (bA 33 2147483647) (a' := ?_) rfl rfl (by kernel_rfl) (fun _ _ _ h => h) (by rfl) ?_ ?_; rotate_left; go_simp; rfl
           refine sk_ HT_ 31 59 (bA 33 4294967295) (a' := ?_) rfl rfl (by kernel_rfl) (fun _ _ _ h => h) (by rfl) ?_ ?_; rotate_left; go_simp; rfl
           refine pu_ HT_ 32 60 (bA 33 8589934591) (v := ?_) (a' := ?_) rfl rfl (by kernel_rfl) (fun _ _ _ h => h) (by rfl) ?_ ?_ ?_; rotate_left; intro w'; go_simp; with_reducible rfl; rotate_left; go_simp; rfl
           refine done_ (done_of HT_.out (by kernel_rfl)) ?_
           try go_wp2
           go_meet
           case rel => exact ⟨_, (true), (by first | rfl | (simp; done) | (simp [*]; done)), H', ⟨by have := HJ1.out; have := HK2.out; first | omega | exact Nat.le_refl _⟩, ⟨bk qc.out⟩, ⟨bk qz.out⟩, ⟨by repeat (first | exact bw HB.out | refine below_set ?_ qm.out | refine below_set ?_ QT.out)⟩⟩
         ·replace c20 := Bool.eq_false_iff.mpr c20
          subst c20
          have H1 : (qv.j2 k2 qD qe true qd qb ((qa qb qe).f0.f0) ((qa qb qe).f1) ((qa qb qe).f2) ((qa qb qe).f3) ((qa qb qe).f4.f0) ((qa qb qe).f5) ((qa qb qe).f6)) = some r := by rw [if_neg (show ¬ (false = true) by decide)] at H; exact H
          clear H
          have H := H1
          clear H1
          have H' := ak H
          clear H
          try go_wp2
          have n0_ : Aside0 ((((((((w16.setCell ⟨qE, 0, none⟩ (.slice jz ((qa qb qe).f0.f0).length jy)).setCell ⟨qE, 1, none⟩ (.int .i64 ((qa qb qe).f1))).setCell ⟨qE, 2, none⟩ (.int .i64 ((qa qb qe).f2))).setCell ⟨qE, 3, none⟩ (.int .i64 ((qa qb qe).f3))).setCell ⟨qE, 4, none⟩ (.slice za ((qa qb qe).f4.f0).length jY)).setCell ⟨qE, 5, none⟩ (.slice jZ ((qa qb qe).f5).length jX)).setCell ⟨qE, 6, none⟩ (.slice zf ((qa qb qe).f6).length jW)).heap[qi]? = some (.cells #[.slice qq qd.length qp, .slice (some qJ) qb.length je] 59 (0, 0))) := ⟨Xm Xc.out qc.out⟩
          have n1_ : Aside0 ((((((((w16.setCell ⟨qE, 0, none⟩ (.slice jz ((qa qb qe).f0.f0).length jy)).setCell ⟨qE, 1, none⟩ (.int .i64 ((qa qb qe).f1))).setCell ⟨qE, 2, none⟩ (.int .i64 ((qa qb qe).f2))).setCell ⟨qE, 3, none⟩ (.int .i64 ((qa qb qe).f3))).setCell ⟨qE, 4, none⟩ (.slice za ((qa qb qe).f4.f0).length jY)).setCell ⟨qE, 5, none⟩ (.slice jZ ((qa qb qe).f5).length jX)).setCell ⟨qE, 6, none⟩ (.slice zf ((qa qb qe).f6).length jW)).heap[qE]? = some (.cells #[.slice jz ((qa qb qe).f0.f0).length jy, .int .i64 ((qa qb qe).f1), .int .i64 ((qa qb qe).f2), .int .i64 ((qa qb qe).f3), .slice za ((qa qb qe).f4.f0).length jY, .slice jZ ((qa qb qe).f5).length jX, .slice zf ((qa qb qe).f6).length jW] 33 (0, 0))) := ⟨qa1 qz.out⟩
          have n2_ : Aside0 (Below w.heap.size w (((((((w16.setCell ⟨qE, 0, none⟩ (.slice jz ((qa qb qe).f0.f0).length jy)).setCell ⟨qE, 1, none⟩ (.int .i64 ((qa qb qe).f1))).setCell ⟨qE, 2, none⟩ (.int .i64 ((qa qb qe).f2))).setCell ⟨qE, 3, none⟩ (.int .i64 ((qa qb qe).f3))).setCell ⟨qE, 4, none⟩ (.slice za ((qa qb qe).f4.f0).length jY)).setCell ⟨qE, 5, none⟩ (.slice jZ ((qa qb qe).f5).length jX)).setCell ⟨qE, 6, none⟩ (.slice zf ((qa qb qe).f6).length jW))) := ⟨by repeat (first | exact bw HB.out | refine below_set ?_ qm.out | refine below_set ?_ QT.out)⟩
          (try clear qc)
          (try clear qz)
          (try clear HB)
          generalize (((((((w16.setCell ⟨qE, 0, none⟩ (.slice jz ((qa qb qe).f0.f0).length jy)).setCell ⟨qE, 1, none⟩ (.int .i64 ((qa qb qe).f1))).setCell ⟨qE, 2, none⟩ (.int .i64 ((qa qb qe).f2))).setCell ⟨qE, 3, none⟩ (.int .i64 ((qa qb qe).f3))).setCell ⟨qE, 4, none⟩ (.slice za ((qa qb qe).f4.f0).length jY)).setCell ⟨qE, 5, none⟩ (.slice jZ ((qa qb qe).f5).length jX)).setCell ⟨qE, 6, none⟩ (.slice zf ((qa qb qe).f6).length jW)) = w51 at n0_ n1_ n2_ ⊢
          have qc := n0_
          have qz := n1_
          have HB := n2_
          clear n0_ n1_ n2_
          have n0_ := ak (blk_drew qc.out)
          have n1_ := ak (blk_drew qz.out)
          have n2_ := ak (below_drew1 HB.out)
          clear qc
          clear qz
          clear HB
          have qc := n0_
          have qz := n1_
          have HB := n2_
          clear n0_ n1_ n2_
          refine start_ (n := 33) (S := fun w' => w'.cell? ⟨qE, 0, none⟩ = some (.slice jz ((qa qb qe).f0.f0).length jy) ∧ w'.cell? ⟨qE, 1, none⟩ = some (.int .i64 ((qa qb qe).f1)) ∧ w'.cell? ⟨qE, 2, none⟩ = some (.int .i64 ((qa qb qe).f2)) ∧ w'.cell? ⟨qE, 3, none⟩ = some (.int .i64 ((qa qb qe).f3)) ∧ w'.cell? ⟨qE, 4, none⟩ = some (.slice za ((qa qb qe).f4.f0).length jY) ∧ w'.cell? ⟨qE, 5, none⟩ = some (.slice jZ ((qa qb qe).f5).length jX) ∧ w'.cell? ⟨qE, 6, none⟩ = some (.slice zf ((qa qb qe).f6).length jW)) (ds := []) (bA 33 0) (by kernel_rfl) rfl rfl ⟨(blk_cell qz.out 0).trans rfl, (blk_cell qz.out 1).trans rfl, (blk_cell qz.out 2).trans rfl, (blk_cell qz.out 3).trans rfl, (blk_cell qz.out 4).trans rfl, (blk_cell qz.out 5).trans rfl, (blk_cell qz.out 6).trans rfl⟩ (fun hHeld => ?_); refine with_tabW qv.tab8 qv.bits8 (fun HT_ HW_ => ?_)
          generalize w51.drew = w52 at qc qz HB hHeld ⊢
          refine take_ (i := 0) (N := some 28) (v := ?_) (a' := ?_) (bA 33 1) rfl rfl (take_ofW HT_.out HW_.out (by kernel_rfl)) (fun _ _ _ h => h) (Or.inl ⟨by rfl, ?_⟩) hHeld ?_ ?_
          rotate_left; rintro w' ⟨s0, s1, s2, s3, s4, s5, s6⟩; go_simp; with_reducible rfl; rotate_left; go_simp; rfl
          refine one_ (i := 1) (N := some 29) (bA 33 3) rfl rfl (one_of HT_.out (by kernel_rfl)) (by decide) (fun K hK => ?_)
          refine goes_ Try.func60 (by kernel_rfl) rfl #[.agg #[.slice jz ((qa qb qe).f0.f0).length jy, .int .i64 ((qa qb qe).f1), .int .i64 ((qa qb qe).f2), .int .i64 ((qa qb qe).f3), .slice za ((qa qb qe).f4.f0).length jY, .slice jZ ((qa qb qe).f5).length jX, .slice zf ((qa qb qe).f6).length jW]] (by rfl) rfl rfl (by first | rfl | (simp only [List.map_toArray, List.map_cons, List.map_nil]; first | done | rfl)) ?_
          with_reducible refine (ZD.calls k2 _ _ ((qa qb qe).f0.f0) ((qa qb qe).f1) ((qa qb qe).f2) ((qa qb qe).f3) _ _ ((qa qb qe).f4.f0) _ _ ((qa qb qe).f5) _ _ ((qa qb qe).f6) false _ ?qk ?qj ?qw ?qy ?zK ?yz ?yy ?yx A19.out).mono ?_
          (case qk => exact cw jk.out HB.out)
          (case qj => exact zk.out)
          (case qw => exact cw zJ.out HB.out)
          (case qy => exact YK.out)
          (case zK => exact cw zI.out HB.out)
          (case yz => exact YJ.out)
          (case yy => exact cw zD.out HB.out)
          (case yx => exact YI.out)
          rintro e w53 ⟨rfl, hb⟩
          refine ⟨_, rfl, ?_⟩
          have n0_ := ak (blk_below (bk qc.out) hb)
          have n1_ := ak (blk_below (bk qz.out) hb)
          have n2_ := ak (below_step (by repeat (first | exact bw HB.out | refine below_set ?_ qm.out | refine below_set ?_ QT.out)) hb)
          clear qc
          clear qz
          clear HB
          have qc := n0_
          have qz := n1_
          have HB := n2_
          clear n0_ n1_ n2_
          (try clear hb)
          (try clear hb2)
          (try clear hk)
          (try clear hi)
          refine hK.out _ _ ⟨(blk_cell qz.out 0).trans rfl, (blk_cell qz.out 1).trans rfl, (blk_cell qz.out 2).trans rfl, (blk_cell qz.out 3).trans rfl, (blk_cell qz.out 4).trans rfl, (blk_cell qz.out 5).trans rfl, (blk_cell qz.out 6).trans rfl⟩ (fun hHeld => ?_)
          clear hK K
          refine norm_ (a' := ?_) ?_ ?_; rotate_left; go_simp; rfl
          refine pu_ HT_ 2 30 (bA 33 7) (v := ?_) (a' := ?_) rfl rfl (by kernel_rfl) (fun _ _ _ h => h) (by rfl) ?_ ?_ ?_; rotate_left; intro w'; go_simp; with_reducible rfl; rotate_left; go_simp; rfl
          refine pu_ HT_ 3 31 (bA 33 15) (v := ?_) (a' := ?_) rfl rfl (by kernel_rfl) (fun _ _ _ h => h) (by rfl) ?_ ?_ ?_; rotate_left; intro w'; go_simp; with_reducible rfl; rotate_left; go_simp; rfl
          refine sk_ HT_ 4 32 (bA 33 31) (a' := ?_) rfl rfl (by kernel_rfl) (fun _ _ _ h => h) (by rfl) ?_ ?_; rotate_left; go_simp; rfl
          refine sk_ HT_ 5 33 (bA 33 63) (a' := ?_) rfl rfl (by kernel_rfl) (fun _ _ _ h => h) (by rfl) ?_ ?_; rotate_left; go_simp; rfl
          refine sk_ HT_ 6 34 (bA 33 127) (a' := ?_) rfl rfl (by kernel_rfl) (fun _ _ _ h => h) (by rfl) ?_ ?_; rotate_left; go_simp; rfl
          refine sk_ HT_ 7 35 (bA 33 255) (a' := ?_) rfl rfl (by kernel_rfl) (fun _ _ _ h => h) (by rfl) ?_ ?_; rotate_left; go_simp; rfl
          refine sk_ HT_ 8 36 (bA 33 511) (a' := ?_) rfl rfl (by kernel_rfl) (fun _ _ _ h => h) (by rfl) ?_ ?_; rotate_left; go_simp; rfl
          refine sk_ HT_ 9 37 (bA 33 1023) (a' := ?_) rfl rfl (by kernel_rfl) (fun _ _ _ h => h) (by rfl) ?_ ?_; rotate_left; go_simp; rfl
          refine pu_ HT_ 10 38 (bA 33 2047) (v := ?_) (a' := ?_) rfl rfl (by kernel_rfl) (fun _ _ _ h => h) (by rfl) ?_ ?_ ?_; rotate_left; intro w'; go_simp; with_reducible rfl; rotate_left; go_simp; rfl
          refine pu_ HT_ 11 39 (bA 33 4095) (v := ?_) (a' := ?_) rfl rfl (by kernel_rfl) (fun _ _ _ h => h) (by rfl) ?_ ?_ ?_; rotate_left; intro w'; go_simp; with_reducible rfl; rotate_left; go_simp; rfl
          refine sk_ HT_ 12 40 (bA 33 8191) (a' := ?_) rfl rfl (by kernel_rfl) (fun _ _ _ h => h) (by rfl) ?_ ?_; rotate_left; go_simp; rfl
          refine sk_ HT_ 13 41 (bA 33 16383) (a' := ?_) rfl rfl (by kernel_rfl) (fun _ _ _ h => h) (by rfl) ?_ ?_; rotate_left; go_simp; rfl
          refine sk_ HT_ 14 42 (bA 33 32767) (a' := ?_) rfl rfl (by kernel_rfl) (fun _ _ _ h => h) (by rfl) ?_ ?_; rotate_left; go_simp; rfl
          refine sk_ HT_ 15 43 (bA 33 65535) (a' := ?_) rfl rfl (by kernel_rfl) (fun _ _ _ h => h) (by rfl) ?_ ?_; rotate_left; go_simp; rfl
          refine sk_ HT_ 16 44 (bA 33 131071) (a' := ?_) rfl rfl (by kernel_rfl) (fun _ _ _ h => h) (by rfl) ?_ ?_; rotate_left; go_simp; rfl
          refine sk_ HT_ 17 45 (bA 33 262143) (a' := ?_) rfl rfl (by kernel_rfl) (fun _ _ _ h => h) (by rfl) ?_ ?_; rotate_left; go_simp; rfl
          refine sk_ HT_ 18 46 (bA 33 524287) (a' := ?_) rfl rfl (by kernel_rfl) (fun _ _ _ h => h) (by rfl) ?_ ?_; rotate_left; go_simp; rfl
          refine sk_ HT_ 19 47 (bA 33 1048575) (a' := ?_) rfl rfl (by kernel_rfl) (fun _ _ _ h => h) (by rfl) ?_ ?_; rotate_left; go_simp; rfl
          refine sk_ HT_ 20 48 (bA 33 2097151) (a' := ?_) rfl rfl (by kernel_rfl) (fun _ _ _ h => h) (by rfl) ?_ ?_; rotate_left; go_simp; rfl
          refine sk_ HT_ 21 49 (bA 33 4194303) (a' := ?_) rfl rfl (by kernel_rfl) (fun _ _ _ h => h) (by rfl) ?_ ?_; rotate_left; go_simp; rfl
          refine sk_ HT_ 22 50 (bA 33 8388607) (a' := ?_) rfl rfl (by kernel_rfl) (fun _ _ _ h => h) (by rfl) ?_ ?_; rotate_left; go_simp; rfl
          refine sk_ HT_ 23 51 (bA 33 16777215) (a' := ?_) rfl rfl (by kernel_rfl) (fun _ _ _ h => h) (by rfl) ?_ ?_; rotate_left; go_simp; rfl
          refine sk_ HT_ 24 52 (bA 33 33554431) (a' := ?_) rfl rfl (by kernel_rfl) (fun _ _ _ h => h) (by rfl) ?_ ?_; rotate_left; go_simp; rfl
          refine pu_ HT_ 25 53 (bA 33 67108863) (v := ?_) (a' := ?_) rfl rfl (by kernel_rfl) (fun _ _ _ h => h) (by rfl) ?_ ?_ ?_; rotate_left; intro w'; go_simp; with_reducible rfl; rotate_left; go_simp; rfl
          refine pu_ HT_ 26 54 (bA 33 134217727) (v := ?_) (a' := ?_) rfl rfl (by kernel_rfl) (fun _ _ _ h => h) (by rfl) ?_ ?_ ?_; rotate_left; intro w'; go_simp; with_reducible rfl; rotate_left; go_simp; rfl
          refine sk_ HT_ 27 55 (bA 33 268435455) (a' := ?_) rfl rfl (by kernel_rfl) (fun _ _ _ h => h) (by rfl) ?_ ?_; rotate_left; go_simp; rfl
          refine sk_ HT_ 28 56 (bA 33 536870911) (a' := ?_) rfl rfl (by kernel_rfl) (fun _ _ _ h => h) (by rfl) ?_ ?_; rotate_left; go_simp; rfl
          refine sk_ HT_ 29 57 (bA 33 1073741823) (a' := ?_) rfl rfl (by kernel_rfl) (fun _ _ _ h => h) (by rfl) ?_ ?_; rotate_left; go_simp; rfl
          refine sk_ HT_ 30 58 (bA 33 2147483647) (a' := ?_) rfl rfl (by kernel_rfl) (fun _ _ _ h => h) (by rfl) ?_ ?_; rotate_left; go_simp; rfl
          refine sk_ HT_ 31 59 (bA 33 4294967295) (a' := ?_) rfl rfl (by kernel_rfl) (fun _ _ _ h => h) (by rfl) ?_ ?_; rotate_left; go_simp; rfl
          refine pu_ HT_ 32 60 (bA 33 8589934591) (v := ?_) (a' := ?_) rfl rfl (by kernel_rfl) (fun _ _ _ h => h) (by rfl) ?_ ?_ ?_; rotate_left; intro w'; go_simp; with_reducible rfl; rotate_left; go_simp; rfl
          refine done_ (done_of HT_.out (by kernel_rfl)) ?_
          try go_wp2
          go_meet
          case rel => exact ⟨_, (true), (by first | rfl | (simp; done) | (simp [*]; done)), H', ⟨by have := HJ1.out; have := HK2.out; first | omega | exact Nat.le_refl _⟩, ⟨bk qc.out⟩, ⟨bk qz.out⟩, ⟨by repeat (first | exact bw HB.out | refine below_set ?_ qm.out | refine below_set ?_ QT.out)⟩⟩
        case rest =>
         clear qpA
         try clear c1
         try clear c2
         try clear p2
         try clear c6
         try clear c9
         try clear c10
         try clear c20
         try clear c22
         obtain ⟨kq, qic, rfl, HA, qoP, qc, qz, HB⟩ := hcut
         cases kq with
         | zero => exact absurd HA.out (by simp [qv.j2])
         | succ qgi =>
          have H := HA.out
          clear HA
          simp only [qv.j2] at H
          by_cases c54 : qic = true
          ·subst c54
           have H1 : (some false) = some r := by rw [if_pos rfl] at H; exact H
           clear H
           have H := H1
           clear H1
           obtain rfl := Option.some.inj H
           go_wp2
           go_ret
           exact ⟨by first | rfl | (simp [errW_none, errW_some] <;> rfl) | (simp [*, errW_none, errW_some] <;> rfl), by repeat (first | exact bw HB.out | refine below_set ?_ qm.out | refine below_set ?_ QT.out)⟩
          ·replace c54 := Bool.eq_false_iff.mpr c54
           subst c54
           have H1 : (if ((qa qb qe).f1) = 6 then ((jc.f qgi ((qa qb qe).f0.f0) qd).bind fun zb => (if zb = 0 then (qv.l0 qgi (wrap64 (qD + 1)) (wrap64 (qe + 1)) qd qb) else (some false))) else (qv.l0 qgi qD (wrap64 (qe + 1)) qd qb)) = some r := by rw [if_neg (show ¬ (false = true) by decide)] at H; exact H
           clear H
           have H := H1
           clear H1
           by_cases c55 : ((qa qb qe).f1) = 6
           ·rw [if_pos c55] at H
            have c55b0 : (((qa qb qe).f1) == 6) = true := beq_iff_eq.mpr c55
            have c55b1 : (((qa qb qe).f1) != 6) = false := bne_eq_false_iff_eq.mpr c55
            clear c55
            replace H := Option.bind_eq_some_iff.mp H
            obtain ⟨zb, quF, H⟩ := H
            replace H : (if zb = 0 then (qv.l0 qgi (wrap64 (qD + 1)) (wrap64 (qe + 1)) qd qb) else (some false)) = some r := H
            have A56 := ak quF
            clear quF
            by_cases c57 : zb = 0
            ·rw [if_pos c57] at H
             have c57b0 : (zb == 0) = true := beq_iff_eq.mpr c57
             have c57b1 : (zb != 0) = false := bne_eq_false_iff_eq.mpr c57
             clear c57
             have H' := ak H
             clear H
             have qu9 := qev.out
             have qu1 := Xc.out
             obtain ⟨qsB, qsA, qsz, qsy, qsx, qsw, qsv, qqW, qqV, qqU, qqT, qqS, qqR, qqQ⟩ := cells7 qz.out
             obtain ⟨qnD, qnC, qmL, qmK⟩ := cells2 qc.out
             go_wp2_with (first | ((with_reducible refine gate_callee (f := 98) rfl ?_); refine goesL_ (some 70) rfl rfl Try.func98 (by kernel_rfl) rfl #[.agg #[.slice jz ((qa qb qe).f0.f0).length jy], .agg #[.slice qq qd.length qp]] rfl (by first | rfl | (simp only [List.map_toArray, List.map_cons, List.map_nil]; first | done | rfl)) ?_; (with_reducible refine (jc.calls qgi _ _ ((qa qb qe).f0.f0) _ _ qd zb _ ?qk ?qj ?qw ?qy A56.out).mono ?_); (case qk => exact cw jk.out HB.out); (case qj => exact zk.out); (case qw => exact cw qW.out HB.out); (case qy => exact jb.out); rintro e w61 ⟨rfl, hb⟩; refine ⟨_, rfl, ?_⟩; replace qc := ak (blk_below (bk qc.out) hb); replace qz := ak (blk_below (bk qz.out) hb); replace HB := ak (below_step (by repeat (first | exact bw HB.out | refine below_set ?_ qm.out | refine below_set ?_ QT.out)) hb); (try clear hb)))
             go_roundg qgi
             case measure => have := HJ1.out; have := HK2.out; have := qoP.out; omega
             case rel => exact ⟨(wrap64 (qD + 1)), (wrap64 (qe + 1)), (by first | rfl | (simp; done) | (simp [*]; done)), (by first | rfl | (simp; done) | (simp [*]; done)), H', ⟨by have := HJ1.out; have := HK2.out; have := qoP.out; omega⟩, ⟨bk qc.out⟩, ⟨by repeat (first | exact bw HB.out | refine below_set ?_ qm.out | refine below_set ?_ QT.out)⟩⟩
            ·rw [if_neg c57] at H
             have c57b0 : (zb == 0) = false := beq_eq_false_iff_ne.mpr c57
             have c57b1 : (zb != 0) = true := bne_iff_ne.mpr c57
             obtain rfl := Option.some.inj H
             have qD0 := qev.out
             have qDy := Xc.out
             obtain ⟨qjZ, qjY, qjX, qjW, qjV, qjU, qjT, qi6, qi5, qi4, qi3, qi2, qi0, qiZ⟩ := cells7 qz.out
             obtain ⟨qnB, qnA, qmJ, qmI⟩ := cells2 qc.out
             go_wp2_with (first | ((with_reducible refine gate_callee (f := 98) rfl ?_); refine goesL_ (some 70) rfl rfl Try.func98 (by kernel_rfl) rfl #[.agg #[.slice jz ((qa qb qe).f0.f0).length jy], .agg #[.slice qq qd.length qp]] rfl (by first | rfl | (simp only [List.map_toArray, List.map_cons, List.map_nil]; first | done | rfl)) ?_; (with_reducible refine (jc.calls qgi _ _ ((qa qb qe).f0.f0) _ _ qd zb _ ?qk ?qj ?qw ?qy A56.out).mono ?_); (case qk => exact cw jk.out HB.out); (case qj => exact zk.out); (case qw => exact cw qW.out HB.out); (case qy => exact jb.out); rintro e w65 ⟨rfl, hb⟩; refine ⟨_, rfl, ?_⟩; replace qc := ak (blk_below (bk qc.out) hb); replace qz := ak (blk_below (bk qz.out) hb); replace HB := ak (below_step (by repeat (first | exact bw HB.out | refine below_set ?_ qm.out | refine below_set ?_ QT.out)) hb); (try clear hb)))
             go_ret
             exact ⟨by first | rfl | (simp [errW_none, errW_some] <;> rfl) | (simp [*, errW_none, errW_some] <;> rfl), by repeat (first | exact bw HB.out | refine below_set ?_ qm.out | refine below_set ?_ QT.out)⟩
           ·rw [if_neg c55] at H
            have c55b0 : (((qa qb qe).f1) == 6) = false := beq_eq_false_iff_ne.mpr c55
            have c55b1 : (((qa qb qe).f1) != 6) = true := bne_iff_ne.mpr c55
            have H' := ak H
            clear H
            have qu8 := qev.out
            have qu0 := Xc.out
            obtain ⟨qsi, qsh, qsg, qsf, qse, qsd, qsc, qqD, qqC, qqB, qqA, qqz, qqy, qqx⟩ := cells7 qz.out
            go_wp2
            go_roundg qgi
            case measure => have := HJ1.out; have := HK2.out; have := qoP.out; omega
            case rel => exact ⟨(qD), (wrap64 (qe + 1)), (by first | rfl | (simp; done) | (simp [*]; done)), (by first | rfl | (simp; done) | (simp [*]; done)), H', ⟨by have := HJ1.out; have := HK2.out; have := qoP.out; omega⟩, ⟨bk qc.out⟩, ⟨by repeat (first | exact bw HB.out | refine below_set ?_ qm.out | refine below_set ?_ QT.out)⟩⟩
       ·rw [if_neg c13] at H
        exact absurd H (by simp)
      ·rw [if_neg c12] at H
       have c12b0 : decide (qe < (qb.length : Int)) = false := decide_eq_false c12
       clear c12
       obtain rfl := Option.some.inj H
       obtain ⟨qnz, qny, qmH, qmG⟩ := cells2 qc.out
       go_wp2
       go_ret
       exact ⟨by first | rfl | (simp [errW_none, errW_some] <;> rfl) | (simp [*, errW_none, errW_some] <;> rfl), by repeat (first | exact bw HB.out | refine below_set ?_ qm.out)⟩


/-! ### jq: function 177 -/
def jq.l0 : Nat → Int → List (S33) → Int → List (List Int) → List (S33) → List (List Int) → Option ((List (S33)))
 | 0, _, _, _, _, _, _ => none
 | k + 1, x2, x7, x8, qU, qB, zH => if x8 < (qB.length : Int) then (if 0 ≤ x8 then ((jc.f k ((qa qB x8).f0.f0) zH).bind fun qK => (if qK = 0 then (if x2 = 255 then (if x7.length < 1172812402961 then (jq.l0 k x2 (x7 ++ [(⟨(⟨(qa qB x8).f0.f0⟩ : S31), (qa qB x8).f1, (qa qB x8).f2, (qa qB x8).f3, (⟨(qa qB x8).f4.f0⟩ : S31), (qa qB x8).f5, (qa qB x8).f6⟩ : S33)]) (wrap64 (x8 + 1)) qU qB zH) else (none)) else (if ((qa qB x8).f1) = x2 then (if x7.length < 1172812402961 then (jq.l0 k x2 (x7 ++ [(⟨(⟨(qa qB x8).f0.f0⟩ : S31), (qa qB x8).f1, (qa qB x8).f2, (qa qB x8).f3, (⟨(qa qB x8).f4.f0⟩ : S31), (qa qB x8).f5, (qa qB x8).f6⟩ : S33)]) (wrap64 (x8 + 1)) qU qB zH) else (none)) else (jq.l0 k x2 x7 (wrap64 (x8 + 1)) qU qB zH))) else (jq.l0 k x2 x7 (wrap64 (x8 + 1)) qU qB zH))) else (none)) else (some x7)
def jq.f (k : Nat) (qd : List (List Int)) (qb : List (S33)) (qn : List (List Int)) (a2 : Int) : Option ((List (S33))) := jq.l0 k a2 ([] : List (S33)) 0 qd qb qn
def jq.T5 : Bool × List (List Nat × List Nat) := (true, [([], []), ([0], [0]), ([], []), ([1, 2], [1, 2]), ([3], [3]), ([4], [4]), ([], []), ([5, 6], [5, 6]), ([7], [7]), ([8, 7], [8]), ([9], [9]), ([10, 9], [9, 10]), ([11, 9, 9], [9, 11]), ([12], [12]), ([13, 12], [12, 13]), ([12], [12]), ([14, 15, 12], [12, 14, 15]), ([16, 12], [12, 16]), ([17, 12], [12, 17]), ([12], [12]), ([18, 19, 12], [12, 18, 19]), ([12, 20, 9], [9, 12, 20]), ([9, 21], [9, 21])])
def jq.B5 : List Nat := [0, 1, 0, 7, 15, 31, 0, 127, 255, 511, 1023, 2047, 4095, 8191, 16383, 8191, 65535, 131071, 262143, 8191, 1048575, 2097151, 4194303]
theorem jq.tab5 : rtab .any (opsOf Try.f177 5) = jq.T5 := by kernel_rfl
theorem jq.bits5 : waitsOk jq.T5.2 jq.B5 = true := by kernel_rfl
set_option maxHeartbeats 8000000 in
set_option maxRecDepth 100000 in
theorem jq.calls (k : Nat) (qq : Option Addr) (qp : Nat) (qd : List (List Int)) (jj : Nat → Prop) (jA : Option Addr) (je : Nat) (qb : List (S33)) (jn : Option Addr) (jm : Nat) (qn : List (List Int)) (a2 : Int) (r : List (S33)) (w : World) (jd : Kd.C (Kd.slice 5 (Kd.int .u8)) w qq qd.length qd) (jg : qd.length ≤ qp) (qip : Kd.V k33 33 w w.heap.size (fun k_ => jj k_) (.slice jA qb.length je) qb) (yA : Kd.C (Kd.slice 5 (Kd.int .u8)) w jn qn.length qn) (yS : qn.length ≤ jm) (h : jq.f k qd qb qn a2 = some r) :
  Calls Try.prog 177 #[.agg #[.slice qq qd.length qp, .slice jA qb.length je], .agg #[.slice jn qn.length jm], .int .i64 a2] w fun e w' => ∃ v0_ : Value, e = .returned (v0_) ∧ Kd.N k33 33 w' w.heap.size (fun k_ => (jj k_ ∨ w.heap.size ≤ k_)) v0_ r ∧ Below w.heap.size w w' := by
 have qez := Try.underlying59
 have Ys := Try.underlying31
 have qak := Try.underlying33
 have qW := ak jd
 have jb := ak jg
 clear jd jg
 have ZG := ak (show Kd.V k33 33 w w.heap.size (fun k_ => (jj k_ ∨ w.heap.size ≤ k_)) (.slice jA qb.length je) qb from Kd.V_mono qip (fun k_ hk => .inl hk))
 have yo := ak yA
 have yE := ak yS
 clear yA yS
 have HB := ak (Below.refl w.heap.size w)
 have H : (jq.l0 k a2 ([] : List (S33)) 0 qd qb qn) = some r := h
 clear h
 have H' := ak H
 clear H
 go_enter Try.func177, Try.ntmps177
 go_wp2_with (first | ((with_reducible refine gate_dst (N := 3) rfl ?_); refine box_event ?hg (N := 3) ?hd (cs := #[.slice qq qd.length qp, .slice jA qb.length je]) (t := 59) ?hr ?_; (case hd => rfl); (case hg => rfl); (case hr => first | (go_simp; done) | (go_simp; rfl)); intro qi hg w4 hbox hb; replace ZG := ak (Kd.V_below (Kd.V_elderB (by (with_reducible repeat (first | apply Kd.V_alloc | apply Kd.V_drewN | apply Kd.V_drew)); exact ZG.out) qi (Nat.le_of_eq hg.symm)) hb); have qc := ak (hbox); have jD := ak ((by rw [hg]; exact (below_size (bw HB.out)) : w.heap.size ≤ qi)); have qm := ak ((by rw [hg]; exact (below_size (bw HB.out)) : w.heap.size ≤ qi)); replace HB := ak (below_step (bw HB.out) hb); clear hb hbox hg) | ((with_reducible refine gate_dst (N := 4) rfl ?_); refine box_event ?hg (N := 4) ?hd (cs := #[.slice jn qn.length jm]) (t := 31) ?hr ?_; (case hd => rfl); (case hg => rfl); (case hr => first | (go_simp; done) | (go_simp; rfl)); intro qg hg w5 hbox hb; replace ZG := ak (Kd.V_below (Kd.V_elderB (by (with_reducible repeat (first | apply Kd.V_alloc | apply Kd.V_drewN | apply Kd.V_drew)); exact ZG.out) qg (Nat.le_of_eq hg.symm)) hb); have qf := ak (hbox); have QS := ak ((by rw [hg]; exact (below_size (bw HB.out)) : w.heap.size ≤ qg)); have ji := ak ((by rw [hg]; exact (below_size (bw HB.out)) : w.heap.size ≤ qg)); replace HB := ak (below_step (bw HB.out) hb); have qO := ak ((by rw [hg]; exact Nat.ne_of_lt (blk_lt (bk qc.out)) : qi ≠ qg)); have qN := ak ((by rw [hg]; exact Nat.ne_of_gt (blk_lt (bk qc.out)) : qg ≠ qi)); replace qc := ak (blk_below (bk qc.out) hb); clear hb hbox hg))
 go_loopg [7, 8] k (fun kq v7 v8 w' => ∃ (Ql : List (S33)) (qr : Int), v8 = .int .i64 qr ∧ Aside0 (jq.l0 kq a2 Ql qr qd qb qn = some r) ∧ Aside0 (kq ≤ k) ∧ Aside0 (Kd.N k33 33 w' w.heap.size (fun k_ => (jj k_ ∨ w.heap.size ≤ k_) ∧ k_ ≠ qi ∧ k_ ≠ qg) v7 Ql) ∧ Aside0 (Kd.V k33 33 w' w.heap.size (fun k_ => (jj k_ ∨ w.heap.size ≤ k_) ∧ some k_ ≠ (v7 : Value).ownBlock ∧ k_ ≠ qi ∧ k_ ≠ qg) (.slice jA qb.length je) qb) ∧ Aside0 (w'.heap[qi]? = some (.cells #[(.slice qq qd.length qp), (.slice jA qb.length je)] 59 (0, 0))) ∧ Aside0 (w'.heap[qg]? = some (.cells #[(.slice jn qn.length jm)] 31 (0, 0))) ∧ Aside0 (Below w.heap.size w w'))
 case atStart => exact ⟨(([] : List (S33))), (0), (by first | rfl | (simp; done) | (simp [*]; done)), H', ⟨Nat.le_refl _⟩, ⟨by first | exact Kd.R_nil _ _ _ _ _ | exact Kd.N_nil _ _ _ _ _ | exact Kd.V_nil _ _ _ _ _ | exact Kd.Q_nil _ _ _ _ _ | exact Kd.S_nil _ _ _ _ _⟩, ⟨by (with_reducible repeat (first | apply Kd.V_alloc | apply Kd.V_drewN | apply Kd.V_drew)); exact Kd.V_mono ZG.out (fun _ hk => ⟨hk.1.1, ⟨(by simp [Value.ownBlock]), ⟨hk.1.2, hk.2⟩⟩⟩)⟩, ⟨bk qc.out⟩, ⟨bk qf.out⟩, ⟨bw HB.out⟩⟩
 case round =>
  clear H'
  try clear c1
  try clear p2
  obtain ⟨Ql, qr, rfl, HA, HK1, HO_7, HO_102001, qc, qf, HB⟩ := hrel
  cases gk with
  | zero => exact absurd HA.out (by simp [jq.l0])
  | succ k1 =>
   have H := HA.out
   clear HA
   simp only [jq.l0] at H
   by_cases c6 : qr < (qb.length : Int)
   ·rw [if_pos c6] at H
    have c6b0 : decide (qr < (qb.length : Int)) = true := decide_eq_true c6
    clear c6
    by_cases c7 : 0 ≤ qr
    ·rw [if_pos c7] at H
     have c7b0 : decide (0 ≤ qr) = true := decide_eq_true c7
     clear c7
     replace H := Option.bind_eq_some_iff.mp H
     obtain ⟨qK, A80, H⟩ := H
     replace H : (if qK = 0 then (if a2 = 255 then (if Ql.length < 1172812402961 then (jq.l0 k1 a2 (Ql ++ [(⟨(⟨(qa qb qr).f0.f0⟩ : S31), (qa qb qr).f1, (qa qb qr).f2, (qa qb qr).f3, (⟨(qa qb qr).f4.f0⟩ : S31), (qa qb qr).f5, (qa qb qr).f6⟩ : S33)]) (wrap64 (qr + 1)) qd qb qn) else (none)) else (if ((qa qb qr).f1) = a2 then (if Ql.length < 1172812402961 then (jq.l0 k1 a2 (Ql ++ [(⟨(⟨(qa qb qr).f0.f0⟩ : S31), (qa qb qr).f1, (qa qb qr).f2, (qa qb qr).f3, (⟨(qa qb qr).f4.f0⟩ : S31), (qa qb qr).f5, (qa qb qr).f6⟩ : S33)]) (wrap64 (qr + 1)) qd qb qn) else (none)) else (jq.l0 k1 a2 Ql (wrap64 (qr + 1)) qd qb qn))) else (jq.l0 k1 a2 Ql (wrap64 (qr + 1)) qd qb qn)) = some r := H
     have A8 := ak A80
     clear A80
     by_cases c9 : qK = 0
     ·rw [if_pos c9] at H
      have c9b0 : (qK == 0) = true := beq_iff_eq.mpr c9
      have c9b1 : (qK != 0) = false := bne_eq_false_iff_eq.mpr c9
      clear c9
      by_cases c10 : a2 = 255
      ·rw [if_pos c10] at H
       have c10b0 : (a2 == 255) = true := beq_iff_eq.mpr c10
       have c10b1 : (a2 != 255) = false := bne_eq_false_iff_eq.mpr c10
       clear c10
       by_cases c11 : Ql.length < 1172812402961
       ·rw [if_pos c11] at H
        have qvy := ak c11
        clear c11
        obtain ⟨qd3, qb0⟩ : ∃ y_ : List (S33), y_ = (Ql ++ [(⟨(⟨(qa qb qr).f0.f0⟩ : S31), (qa qb qr).f1, (qa qb qr).f2, (qa qb qr).f3, (⟨(qa qb qr).f4.f0⟩ : S31), (qa qb qr).f5, (qa qb qr).f6⟩ : S33)]) := ⟨_, rfl⟩
        replace H : (jq.l0 k1 a2 qd3 (wrap64 (qr + 1)) qd qb qn) = some r := by first | (rw [qb0]; with_reducible exact H) | (have H2_ := (Option.bind_some _ _).symm.trans H; rw [qb0]; with_reducible exact H2_) | (have H2_ := (Option.bind_some _ _).symm.trans H; with_reducible exact H2_) | with_reducible exact H | (rw [qb0]; exact H) | exact H
        have qoC := ak qb0
        clear qb0
        have H' := ak H
        clear H
        have qpO := qO.out
        have qpL := qN.out
        obtain ⟨QN, JO, QM, JN⟩ := cells2 qc.out
        try go_wp2
        have n0_ := ak (Kd.N_drew HO_7.out)
        have n1_ := ak (Kd.V_drew HO_102001.out)
        have n2_ := ak (blk_drew qc.out)
        have n3_ := ak (blk_drew qf.out)
        have n4_ := ak (below_drew1 HB.out)
        clear HO_7
        clear HO_102001
        clear qc
        clear qf
        clear HB
        have HO_7 := n0_
        have HO_102001 := n1_
        have qc := n2_
        have qf := n3_
        have HB := n4_
        clear n0_ n1_ n2_ n3_ n4_
        have zv : 0 ≤ (qr : Int) := of_decide_eq_true (by first | (with_reducible assumption) | assumption)
        have zt : qr < (qb.length : Int) := of_decide_eq_true (by first | (with_reducible assumption) | assumption)
        obtain ⟨qJ, jz, jy, za, jY, jZ, jX, zf, jW, Zg, jP, yO, yN, yM, yi, yh, yg, ya, yb, Jb, Jk, Ja, Jj, QZ, Ji⟩ := Qi (Kd.V_reads' HO_102001.out).2.2 qr zv zt
        cases Zg
        obtain ⟨qoA, qd9, qea, Jt⟩ := Kd.V_get HO_102001.out z33 qr zv (by first | exact zt | exact of_decide_eq_true (by first | (with_reducible assumption) | assumption) | (have e_ := (Kd.V_reads' HO_102001.out).1; omega))
        obtain ⟨qiV, qiR, qiU, qiQ, qiT, qiP, qiS, qiO, rfl, ZL, ZW, ZK, ZV, ZJ, ZU, ZI, ZT⟩ := k33_openF qea
        have JM := Jt 0 _ rfl
        rw [Nat.add_zero] at JM
        replace JM := Option.some.inj (JM.symm.trans jP)
        injection JM with hva_ hvn_ hvc_
        rw [hva_] at ZW
        rw [hvc_] at ZL
        have Qx := ak (show Kd.V (Kd.slice 5 (Kd.int .u8)) 25 _ w.heap.size _ _ ((qa qb qr).f0.f0) from Kd.V_mk ZL ZW)
        clear hva_ hvn_ hvc_ ZW ZL
        have JL := Jt 4 _ rfl
        rw [add_field _ _ 4 (by omega)] at JL
        replace JL := Option.some.inj (JL.symm.trans yi)
        injection JL with hva_ hvn_ hvc_
        rw [hva_] at ZV
        rw [hvc_] at ZK
        have Qw := ak (show Kd.V (Kd.slice 5 (Kd.int .u8)) 25 _ w.heap.size _ _ ((qa qb qr).f4.f0) from Kd.V_mk ZK ZV)
        clear hva_ hvn_ hvc_ ZV ZK
        have JK := Jt 5 _ rfl
        rw [add_field _ _ 5 (by omega)] at JK
        replace JK := Option.some.inj (JK.symm.trans yh)
        injection JK with hva_ hvn_ hvc_
        rw [hva_] at ZU
        rw [hvc_] at ZJ
        have Qv := ak (show Kd.V (Kd.int .u8) 5 _ w.heap.size _ _ ((qa qb qr).f5) from Kd.V_mk ZJ ZU)
        clear hva_ hvn_ hvc_ ZU ZJ
        have JJ := Jt 6 _ rfl
        rw [add_field _ _ 6 (by omega)] at JJ
        replace JJ := Option.some.inj (JJ.symm.trans yg)
        injection JJ with hva_ hvn_ hvc_
        rw [hva_] at ZT
        rw [hvc_] at ZI
        have Qu := ak (show Kd.V (Kd.int .i64) 3 _ w.heap.size _ _ ((qa qb qr).f6) from Kd.V_mk ZI ZT)
        clear hva_ hvn_ hvc_ ZT ZI
        clear Jt qd9
        have jk := ak yb
        have zk := ak ya
        clear yb ya
        have zJ := ak Jk
        have YK := ak Jb
        clear Jk Jb
        have zI := ak Jj
        have YJ := ak Ja
        clear Jj Ja
        have zD := ak Ji
        have YI := ak QZ
        clear Ji QZ
        replace zv := eq_true zv
        replace zt := eq_true zt
        refine start_ (n := 23) (S := fun w' => w'.cell? ⟨qi, 0, none⟩ = some (.slice qq qd.length qp) ∧ w'.cell? ⟨qi, 1, none⟩ = some (.slice (some qJ) qb.length je) ∧ w'.cell? ⟨qg, 0, none⟩ = some (.slice jn qn.length jm) ∧ w'.cell? (qJ.add ((qr).toNat * 7)) = some (.slice jz ((qa qb qr).f0.f0).length jy) ∧ w'.cell? ⟨(qJ.add ((qr).toNat * 7)).block, (qJ.add ((qr).toNat * 7)).off + 1, none⟩ = some (.int .i64 ((qa qb qr).f1)) ∧ w'.cell? ⟨(qJ.add ((qr).toNat * 7)).block, (qJ.add ((qr).toNat * 7)).off + 2, none⟩ = some (.int .i64 ((qa qb qr).f2)) ∧ w'.cell? ⟨(qJ.add ((qr).toNat * 7)).block, (qJ.add ((qr).toNat * 7)).off + 3, none⟩ = some (.int .i64 ((qa qb qr).f3)) ∧ w'.cell? ⟨(qJ.add ((qr).toNat * 7)).block, (qJ.add ((qr).toNat * 7)).off + 4, none⟩ = some (.slice za ((qa qb qr).f4.f0).length jY) ∧ w'.cell? ⟨(qJ.add ((qr).toNat * 7)).block, (qJ.add ((qr).toNat * 7)).off + 5, none⟩ = some (.slice jZ ((qa qb qr).f5).length jX) ∧ w'.cell? ⟨(qJ.add ((qr).toNat * 7)).block, (qJ.add ((qr).toNat * 7)).off + 6, none⟩ = some (.slice zf ((qa qb qr).f6).length jW)) (ds := []) (bA 23 0) (by kernel_rfl) rfl rfl ⟨(blk_cell qc.out 0).trans rfl, (blk_cell qc.out 1).trans rfl, (blk_cell qf.out 0).trans rfl, jP, yO, yN, yM, yi, yh, yg⟩ (fun hHeld => ?_); refine with_tabW jq.tab5 jq.bits5 (fun HT_ HW_ => ?_)
        generalize wr.drew = w14 at HO_7 HO_102001 qc qf HB Qx Qw Qv Qu jk zJ zI zD jP yO yN yM yi yh yg hHeld ⊢
        refine pu_ HT_ 0 16 (bA 23 1) (v := ?_) (a' := ?_) rfl rfl (by kernel_rfl) (fun _ _ _ h => h) (by rfl) ?_ ?_ ?_; rotate_left; intro w'; go_simp; with_reducible rfl; rotate_left; go_simp; rfl
        refine pu_ HT_ 2 18 (bA 23 5) (v := ?_) (a' := ?_) rfl rfl (by kernel_rfl) (fun _ _ _ h => h) (by rfl) ?_ ?_ ?_; rotate_left; intro w'; go_simp; with_reducible rfl; rotate_left; go_simp; rfl
        refine take_ (i := 1) (N := some 17) (v := ?_) (a' := ?_) (bA 23 7) rfl rfl (take_ofW HT_.out HW_.out (by kernel_rfl)) (fun _ _ _ h => h) (Or.inl ⟨by rfl, ?_⟩) hHeld ?_ ?_
        rotate_left; rintro w' ⟨s0, s1, s2, s3, s4, s5, s6, s7, s8, s9⟩; go_simp; with_reducible rfl; rotate_left; go_simp; rfl
        refine pu_ HT_ 3 19 (bA 23 15) (v := ?_) (a' := ?_) rfl rfl (by kernel_rfl) (fun _ _ _ h => h) (by rfl) ?_ ?_ ?_; rotate_left; intro w'; go_simp; with_reducible rfl; rotate_left; go_simp; rfl
        refine pu_ HT_ 4 20 (bA 23 31) (v := ?_) (a' := ?_) rfl rfl (by kernel_rfl) (fun _ _ _ h => h) (by rfl) ?_ ?_ ?_; rotate_left; intro w'; go_simp; with_reducible rfl; rotate_left; go_simp; rfl
        refine take_ (i := 5) (N := some 21) (v := ?_) (a' := ?_) (bA 23 63) rfl rfl (take_ofW HT_.out HW_.out (by kernel_rfl)) (fun _ _ _ h => h) (Or.inl ⟨by rfl, ?_⟩) hHeld ?_ ?_
        rotate_left; rintro w' ⟨s0, s1, s2, s3, s4, s5, s6, s7, s8, s9⟩; go_simp; with_reducible rfl; rotate_left; go_simp; rfl
        refine take_ (i := 6) (N := some 22) (v := ?_) (a' := ?_) (bA 23 127) rfl rfl (take_ofW HT_.out HW_.out (by kernel_rfl)) (fun _ _ _ h => h) (Or.inl ⟨by rfl, ?_⟩) hHeld ?_ ?_
        rotate_left; rintro w' ⟨s0, s1, s2, s3, s4, s5, s6, s7, s8, s9⟩; go_simp; with_reducible rfl; rotate_left; go_simp; rfl
        refine one_ (i := 7) (N := some 23) (bA 23 255) rfl rfl (one_of HT_.out (by kernel_rfl)) (by decide) (fun K hK => ?_)
        refine goes_ Try.func98 (by kernel_rfl) rfl #[.agg #[.slice jz ((qa qb qr).f0.f0).length jy], .agg #[.slice jn qn.length jm]] (by rfl) rfl rfl (by first | rfl | (simp only [List.map_toArray, List.map_cons, List.map_nil]; first | done | rfl)) ?_
        with_reducible refine (jc.calls k1 _ _ ((qa qb qr).f0.f0) _ _ qn qK _ ?qk ?qj ?qw ?qy A8.out).mono ?_
        (case qk => repeat (first | exact (by repeat (first | (with_reducible exact jk.out) | (with_reducible refine Kd.C_alloc ?_ _) | (with_reducible refine Kd.C_drewN ?_ _) | (with_reducible refine Kd.C_drew ?_) | exact jk.out)) | (with_reducible refine Kd.C_alloc ?_ _) | (with_reducible refine Kd.C_drewN ?_ _) | (with_reducible refine Kd.C_drew ?_)))
        (case qj => exact zk.out)
        (case qw => exact cw yo.out HB.out)
        (case qy => exact yE.out)
        rintro e w15 ⟨rfl, hb⟩
        have qeh := (hb.cell (World.block_lt_of_cell? _ _ (hHeld.2.2.2.1))).trans (hHeld.2.2.2.1)
        have qeE := (hb.cell (World.block_lt_of_cell? _ _ (hHeld.2.2.2.2.1))).trans (hHeld.2.2.2.2.1)
        have qeD := (hb.cell (World.block_lt_of_cell? _ _ (hHeld.2.2.2.2.2.1))).trans (hHeld.2.2.2.2.2.1)
        have qeC := (hb.cell (World.block_lt_of_cell? _ _ (hHeld.2.2.2.2.2.2.1))).trans (hHeld.2.2.2.2.2.2.1)
        have qeg := (hb.cell (World.block_lt_of_cell? _ _ (hHeld.2.2.2.2.2.2.2.1))).trans (hHeld.2.2.2.2.2.2.2.1)
        have qef := (hb.cell (World.block_lt_of_cell? _ _ (hHeld.2.2.2.2.2.2.2.2.1))).trans (hHeld.2.2.2.2.2.2.2.2.1)
        have qee := (hb.cell (World.block_lt_of_cell? _ _ (hHeld.2.2.2.2.2.2.2.2.2))).trans (hHeld.2.2.2.2.2.2.2.2.2)
        refine ⟨_, rfl, ?_⟩
        have n0_ := ak (Kd.N_below (by (with_reducible repeat (first | apply Kd.N_alloc | apply Kd.N_drewN | apply Kd.N_drew)); exact HO_7.out) hb)
        have n1_ := ak (Kd.V_below (by (with_reducible repeat (first | apply Kd.V_alloc | apply Kd.V_drewN | apply Kd.V_drew)); exact HO_102001.out) hb)
        have n2_ := ak (Kd.V_below (by (with_reducible repeat (first | apply Kd.V_alloc | apply Kd.V_drewN | apply Kd.V_drew)); exact Qx.out) hb)
        have n3_ := ak (Kd.V_below (by (with_reducible repeat (first | apply Kd.V_alloc | apply Kd.V_drewN | apply Kd.V_drew)); exact Qw.out) hb)
        have n4_ := ak (Kd.V_below (by (with_reducible repeat (first | apply Kd.V_alloc | apply Kd.V_drewN | apply Kd.V_drew)); exact Qv.out) hb)
        have n5_ := ak (Kd.V_below (by (with_reducible repeat (first | apply Kd.V_alloc | apply Kd.V_drewN | apply Kd.V_drew)); exact Qu.out) hb)
        have n6_ := ak (blk_below (bk qc.out) hb)
        have n7_ := ak (blk_below (bk qf.out) hb)
        have n8_ := ak (Kd.C_below (by repeat (first | (with_reducible exact jk.out) | (with_reducible refine Kd.C_alloc ?_ _) | (with_reducible refine Kd.C_drewN ?_ _) | (with_reducible refine Kd.C_drew ?_) | exact jk.out)) hb)
        have n9_ := ak (Kd.C_below (by repeat (first | (with_reducible exact zJ.out) | (with_reducible refine Kd.C_alloc ?_ _) | (with_reducible refine Kd.C_drewN ?_ _) | (with_reducible refine Kd.C_drew ?_) | exact zJ.out)) hb)
        have qd8 := ak (Kd.C_below (by repeat (first | (with_reducible exact zI.out) | (with_reducible refine Kd.C_alloc ?_ _) | (with_reducible refine Kd.C_drewN ?_ _) | (with_reducible refine Kd.C_drew ?_) | exact zI.out)) hb)
        have qd7 := ak (Kd.C_below (by repeat (first | (with_reducible exact zD.out) | (with_reducible refine Kd.C_alloc ?_ _) | (with_reducible refine Kd.C_drewN ?_ _) | (with_reducible refine Kd.C_drew ?_) | exact zD.out)) hb)
        have qd6 := ak (below_step (bw HB.out) hb)
        clear HO_7
        clear HO_102001
        clear Qx
        clear Qw
        clear Qv
        clear Qu
        clear qc
        clear qf
        clear jk
        clear zJ
        clear zI
        clear zD
        clear HB
        have HO_7 := n0_
        have HO_102001 := n1_
        have Qx := n2_
        have Qw := n3_
        have Qv := n4_
        have Qu := n5_
        have qc := n6_
        have qf := n7_
        have jk := n8_
        have zJ := n9_
        have zI := qd8
        have zD := qd7
        have HB := qd6
        clear n0_ n1_ n2_ n3_ n4_ n5_ n6_ n7_ n8_ n9_ qd8 qd7 qd6
        (try clear hb)
        (try clear hb2)
        (try clear hk)
        (try clear hi)
        refine hK.out _ _ ⟨(blk_cell qc.out 0).trans rfl, (blk_cell qc.out 1).trans rfl, (blk_cell qf.out 0).trans rfl, qeh, qeE, qeD, qeC, qeg, qef, qee⟩ (fun hHeld => ?_)
        clear hK K
        refine norm_ (a' := ?_) ?_ ?_; rotate_left; go_simp; rfl
        refine pu_ HT_ 8 24 (bA 23 511) (v := ?_) (a' := ?_) rfl rfl (by kernel_rfl) (fun _ _ _ h => h) (by rfl) ?_ ?_ ?_; rotate_left; intro w'; go_simp; with_reducible rfl; rotate_left; go_simp; rfl
        refine pu_ HT_ 9 25 (bA 23 1023) (v := ?_) (a' := ?_) rfl rfl (by kernel_rfl) (fun _ _ _ h => h) (by rfl) ?_ ?_ ?_; rotate_left; intro w'; go_simp; with_reducible rfl; rotate_left; go_simp; rfl
        refine pu_ HT_ 10 26 (bA 23 2047) (v := ?_) (a' := ?_) rfl rfl (by kernel_rfl) (fun _ _ _ h => h) (by rfl) ?_ ?_ ?_; rotate_left; intro w'; go_simp; with_reducible rfl; rotate_left; go_simp; rfl
        refine pu_ HT_ 11 27 (bA 23 4095) (v := ?_) (a' := ?_) rfl rfl (by kernel_rfl) (fun _ _ _ h => h) (by rfl) ?_ ?_ ?_; rotate_left; intro w'; go_simp; with_reducible rfl; rotate_left; go_simp; rfl
        refine pu_ HT_ 12 28 (bA 23 8191) (v := ?_) (a' := ?_) rfl rfl (by kernel_rfl) (fun _ _ _ h => h) (by rfl) ?_ ?_ ?_; rotate_left; intro w'; go_simp; with_reducible rfl; rotate_left; go_simp; rfl
        refine sk_ HT_ 13 29 (bA 23 16383) (a' := ?_) rfl rfl (by kernel_rfl) (fun _ _ _ h => h) (by rfl) ?_ ?_; rotate_left; go_simp; rfl
        refine sk_ HT_ 14 30 (bA 23 32767) (a' := ?_) rfl rfl (by kernel_rfl) (fun _ _ _ h => h) (by rfl) ?_ ?_; rotate_left; go_simp; rfl
        refine sk_ HT_ 15 31 (bA 23 65535) (a' := ?_) rfl rfl (by kernel_rfl) (fun _ _ _ h => h) (by rfl) ?_ ?_; rotate_left; go_simp; rfl
        refine sk_ HT_ 16 32 (bA 23 131071) (a' := ?_) rfl rfl (by kernel_rfl) (fun _ _ _ h => h) (by rfl) ?_ ?_; rotate_left; go_simp; rfl
        refine sk_ HT_ 17 33 (bA 23 262143) (a' := ?_) rfl rfl (by kernel_rfl) (fun _ _ _ h => h) (by rfl) ?_ ?_; rotate_left; go_simp; rfl
        refine sk_ HT_ 18 34 (bA 23 524287) (a' := ?_) rfl rfl (by kernel_rfl) (fun _ _ _ h => h) (by rfl) ?_ ?_; rotate_left; go_simp; rfl
        refine sk_ HT_ 19 35 (bA 23 1048575) (a' := ?_) rfl rfl (by kernel_rfl) (fun _ _ _ h => h) (by rfl) ?_ ?_; rotate_left; go_simp; rfl
        refine sk_ HT_ 20 36 (bA 23 2097151) (a' := ?_) rfl rfl (by kernel_rfl) (fun _ _ _ h => h) (by rfl) ?_ ?_; rotate_left; go_simp; rfl
        refine pu_ HT_ 21 37 (bA 23 4194303) (v := ?_) (a' := ?_) rfl rfl (by kernel_rfl) (fun _ _ _ h => h) (by rfl) ?_ ?_ ?_; rotate_left; intro w'; go_simp; with_reducible rfl; rotate_left; go_simp; rfl
        refine pu_ HT_ 22 38 (bA 23 8388607) (v := ?_) (a' := ?_) rfl rfl (by kernel_rfl) (fun _ _ _ h => h) (by rfl) ?_ ?_ ?_; rotate_left; intro w'; go_simp; with_reducible rfl; rotate_left; go_simp; rfl
        refine done_ (done_of HT_.out (by kernel_rfl)) ?_
        (try clear hHeld); (try clear qeh); (try clear qeE); (try clear qeD); (try clear qeC); (try clear qeg); (try clear qef); (try clear qee); (try clear qhC)
        obtain ⟨YV, Xw, YS, Xq⟩ := cells2 qc.out
        have yX : 0 ≤ (qr : Int) := of_decide_eq_true (by first | (with_reducible assumption) | assumption)
        have yW : qr < (qb.length : Int) := of_decide_eq_true (by first | (with_reducible assumption) | assumption)
        obtain ⟨YB, qo7, qo4, quW, quB, quV, quA, quU, quz, XL, zs, qw1, qw0, qwZ, qqi, qqh, qqg, qfc, qfo, qmr, qmy, qmq, qmx, qmp, qmw⟩ := Qi (Kd.V_reads' HO_102001.out).2.2 qr yX yW
        obtain rfl : qJ = YB := (by injection XL)
        obtain ⟨qEo, qum, quo, qgt⟩ := Kd.V_get HO_102001.out z33 qr yX (by first | exact yW | exact of_decide_eq_true (by first | (with_reducible assumption) | assumption) | (have e_ := (Kd.V_reads' HO_102001.out).1; omega))
        obtain ⟨qwV, qwN, qwU, qwM, qwT, qwL, qwS, qwK, rfl, qiN, qkT, qiM, qkS, qiL, qkR, qiK, qkQ⟩ := k33_openF quo
        have qgX := qgt 0 _ rfl
        rw [Nat.add_zero] at qgX
        replace qgX := Option.some.inj (qgX.symm.trans zs)
        injection qgX with hva_ hvn_ hvc_
        rw [hva_] at qkT
        rw [hvc_] at qiN
        have qhR := ak (show Kd.V (Kd.slice 5 (Kd.int .u8)) 25 _ w.heap.size _ _ ((qa qb qr).f0.f0) from Kd.V_mk qiN qkT)
        clear hva_ hvn_ hvc_ qkT qiN
        have qgW := qgt 4 _ rfl
        rw [add_field _ _ 4 (by omega)] at qgW
        replace qgW := Option.some.inj (qgW.symm.trans qqi)
        injection qgW with hva_ hvn_ hvc_
        rw [hva_] at qkS
        rw [hvc_] at qiM
        have qhQ := ak (show Kd.V (Kd.slice 5 (Kd.int .u8)) 25 _ w.heap.size _ _ ((qa qb qr).f4.f0) from Kd.V_mk qiM qkS)
        clear hva_ hvn_ hvc_ qkS qiM
        have qgV := qgt 5 _ rfl
        rw [add_field _ _ 5 (by omega)] at qgV
        replace qgV := Option.some.inj (qgV.symm.trans qqh)
        injection qgV with hva_ hvn_ hvc_
        rw [hva_] at qkR
        rw [hvc_] at qiL
        have qhP := ak (show Kd.V (Kd.int .u8) 5 _ w.heap.size _ _ ((qa qb qr).f5) from Kd.V_mk qiL qkR)
        clear hva_ hvn_ hvc_ qkR qiL
        have qgU := qgt 6 _ rfl
        rw [add_field _ _ 6 (by omega)] at qgU
        replace qgU := Option.some.inj (qgU.symm.trans qqg)
        injection qgU with hva_ hvn_ hvc_
        rw [hva_] at qkQ
        rw [hvc_] at qiK
        have qhO := ak (show Kd.V (Kd.int .i64) 3 _ w.heap.size _ _ ((qa qb qr).f6) from Kd.V_mk qiK qkQ)
        clear hva_ hvn_ hvc_ qkQ qiK
        clear qgt qum
        have qoj := ak qfo
        have qtH := ak qfc
        clear qfo qfc
        have qCo := ak qmy
        have qCv := ak qmr
        clear qmy qmr
        have qCn := ak qmx
        have qCu := ak qmq
        clear qmx qmq
        have qCm := ak qmw
        have qCt := ak qmp
        clear qmw qmp
        replace yX := eq_true yX
        replace yW := eq_true yW
        try go_wp2_with (first | ((with_reducible refine gate_builtin (b := .append) (xs := #[.tmp 39, .tmp 45]) rfl ?_); at_builtin; refine Kd.N_append k33 (w0 := w) w.heap.size rfl (.tmp 39) (.tmp 45) 57 33 (.agg #[(.slice none 0 0), (.int .i64 0), (.int .i64 0), (.int .i64 0), (.slice none 0 0), (.slice none 0 0), (.slice none 0 0)]) 120 rfl Try.underlying57 qgj rfl (by decide) (by omega) u7 Ql (⟨(⟨(qa qb qr).f0.f0⟩ : S31), (qa qb qr).f1, (qa qb qr).f2, (qa qb qr).f3, (⟨(qa qb qr).f4.f0⟩ : S31), (qa qb qr).f5, (qa qb qr).f6⟩ : S33) [.slice qo7 ((qa qb qr).f0.f0).length qo4, .int .i64 ((qa qb qr).f1), .int .i64 ((qa qb qr).f2), .int .i64 ((qa qb qr).f3), .slice quW ((qa qb qr).f4.f0).length quB, .slice quV ((qa qb qr).f5).length quA, .slice quU ((qa qb qr).f6).length quz] (fun k_ => (jj k_ ∨ w.heap.size ≤ k_) ∧ k_ ≠ qi ∧ k_ ≠ qg) (fun k_ => ((fun k_ => (jj k_ ∨ w.heap.size ≤ k_) ∧ k_ ≠ qi ∧ k_ ≠ qg)) k_ ∧ some k_ ≠ (u7 : Value).ownBlock) rfl rfl ?aP (fun _ hk => hk) ?aF ?aO ?aB ?aS ?aL ?_; (case aP => exact (k33_mkF _ _ (⟨(⟨(qa qb qr).f0.f0⟩ : S31), (qa qb qr).f1, (qa qb qr).f2, (qa qb qr).f3, (⟨(qa qb qr).f4.f0⟩ : S31), (qa qb qr).f5, (qa qb qr).f6⟩ : S33) (Kd.V_reads' (Kd.V_mono (ok' := (fun k_ => ((fun k_ => (jj k_ ∨ w.heap.size ≤ k_) ∧ k_ ≠ qi ∧ k_ ≠ qg)) k_ ∧ some k_ ≠ (u7 : Value).ownBlock)) (qhR.out) (fun k_ hk => ⟨⟨hk.1, ⟨hk.2.2.1, hk.2.2.2⟩⟩, hk.2.1⟩))).2.1 (Kd.V_F (Kd.V_mono (ok' := (fun k_ => ((fun k_ => (jj k_ ∨ w.heap.size ≤ k_) ∧ k_ ≠ qi ∧ k_ ≠ qg)) k_ ∧ some k_ ≠ (u7 : Value).ownBlock)) (qhR.out) (fun k_ hk => ⟨⟨hk.1, ⟨hk.2.2.1, hk.2.2.2⟩⟩, hk.2.1⟩))) (Kd.V_reads' (Kd.V_mono (ok' := (fun k_ => ((fun k_ => (jj k_ ∨ w.heap.size ≤ k_) ∧ k_ ≠ qi ∧ k_ ≠ qg)) k_ ∧ some k_ ≠ (u7 : Value).ownBlock)) (qhQ.out) (fun k_ hk => ⟨⟨hk.1, ⟨hk.2.2.1, hk.2.2.2⟩⟩, hk.2.1⟩))).2.1 (Kd.V_F (Kd.V_mono (ok' := (fun k_ => ((fun k_ => (jj k_ ∨ w.heap.size ≤ k_) ∧ k_ ≠ qi ∧ k_ ≠ qg)) k_ ∧ some k_ ≠ (u7 : Value).ownBlock)) (qhQ.out) (fun k_ hk => ⟨⟨hk.1, ⟨hk.2.2.1, hk.2.2.2⟩⟩, hk.2.1⟩))) (Kd.V_reads' (Kd.V_mono (ok' := (fun k_ => ((fun k_ => (jj k_ ∨ w.heap.size ≤ k_) ∧ k_ ≠ qi ∧ k_ ≠ qg)) k_ ∧ some k_ ≠ (u7 : Value).ownBlock)) (qhP.out) (fun k_ hk => ⟨⟨hk.1, ⟨hk.2.2.1, hk.2.2.2⟩⟩, hk.2.1⟩))).2.1 (Kd.V_F (Kd.V_mono (ok' := (fun k_ => ((fun k_ => (jj k_ ∨ w.heap.size ≤ k_) ∧ k_ ≠ qi ∧ k_ ≠ qg)) k_ ∧ some k_ ≠ (u7 : Value).ownBlock)) (qhP.out) (fun k_ hk => ⟨⟨hk.1, ⟨hk.2.2.1, hk.2.2.2⟩⟩, hk.2.1⟩))) (Kd.V_reads' (Kd.V_mono (ok' := (fun k_ => ((fun k_ => (jj k_ ∨ w.heap.size ≤ k_) ∧ k_ ≠ qi ∧ k_ ≠ qg)) k_ ∧ some k_ ≠ (u7 : Value).ownBlock)) (qhO.out) (fun k_ hk => ⟨⟨hk.1, ⟨hk.2.2.1, hk.2.2.2⟩⟩, hk.2.1⟩))).2.1 (Kd.V_F (Kd.V_mono (ok' := (fun k_ => ((fun k_ => (jj k_ ∨ w.heap.size ≤ k_) ∧ k_ ≠ qi ∧ k_ ≠ qg)) k_ ∧ some k_ ≠ (u7 : Value).ownBlock)) (qhO.out) (fun k_ hk => ⟨⟨hk.1, ⟨hk.2.2.1, hk.2.2.2⟩⟩, hk.2.1⟩))))); (case aB => exact (bw HB.out)); (case aF => exact (fun k_ hk => ⟨(.inr (Nat.le_trans (below_size (bw HB.out)) hk)), Kd.freshB (g := qi) (o := .cells #[.slice qq qd.length qp, .slice (some qJ) qb.length je] 59 (0, 0)) (bk qc.out) k_ hk, Kd.freshB (g := qg) (o := .cells #[.slice jn qn.length jm] 31 (0, 0)) (bk qf.out) k_ hk⟩)); (case aO => exact (by (with_reducible repeat (first | apply Kd.N_alloc | apply Kd.N_drewN | apply Kd.N_drew)); exact HO_7.out)); (case aS => exact (below_size (bw HB.out))); (case aL => have := qvy.out; omega); intro qol w17 ho hb hg hat; rw [← qoC.out] at ho; replace HO_102001 := ak (Kd.V_afterv (ok := (fun k_ => (jj k_ ∨ w.heap.size ≤ k_) ∧ k_ ≠ qi ∧ k_ ≠ qg)) (by (with_reducible repeat (first | apply Kd.V_alloc | apply Kd.V_drewN | apply Kd.V_drew)); exact Kd.V_mono HO_102001.out (fun _ hk => ⟨⟨hk.1, ⟨hk.2.2.1, hk.2.2.2⟩⟩, hk.2.1⟩)) hg hat); replace qc := ak (blk_grown (bk qc.out) hg (Kd.N_ne HO_7.out qc.out (by decide))); replace qf := ak (blk_grown (bk qf.out) hg (Kd.N_ne HO_7.out qf.out (by decide))); replace Qx := ak (Kd.V_afterv (ok := (fun k_ => (jj k_ ∨ w.heap.size ≤ k_) ∧ k_ ≠ qi ∧ k_ ≠ qg)) (by (with_reducible repeat (first | apply Kd.V_alloc | apply Kd.V_drewN | apply Kd.V_drew)); exact Kd.V_mono Qx.out (fun _ hk => ⟨⟨hk.1, ⟨hk.2.2.1, hk.2.2.2⟩⟩, hk.2.1⟩)) hg hat); replace Qw := ak (Kd.V_afterv (ok := (fun k_ => (jj k_ ∨ w.heap.size ≤ k_) ∧ k_ ≠ qi ∧ k_ ≠ qg)) (by (with_reducible repeat (first | apply Kd.V_alloc | apply Kd.V_drewN | apply Kd.V_drew)); exact Kd.V_mono Qw.out (fun _ hk => ⟨⟨hk.1, ⟨hk.2.2.1, hk.2.2.2⟩⟩, hk.2.1⟩)) hg hat); replace Qv := ak (Kd.V_afterv (ok := (fun k_ => (jj k_ ∨ w.heap.size ≤ k_) ∧ k_ ≠ qi ∧ k_ ≠ qg)) (by (with_reducible repeat (first | apply Kd.V_alloc | apply Kd.V_drewN | apply Kd.V_drew)); exact Kd.V_mono Qv.out (fun _ hk => ⟨⟨hk.1, ⟨hk.2.2.1, hk.2.2.2⟩⟩, hk.2.1⟩)) hg hat); replace Qu := ak (Kd.V_afterv (ok := (fun k_ => (jj k_ ∨ w.heap.size ≤ k_) ∧ k_ ≠ qi ∧ k_ ≠ qg)) (by (with_reducible repeat (first | apply Kd.V_alloc | apply Kd.V_drewN | apply Kd.V_drew)); exact Kd.V_mono Qu.out (fun _ hk => ⟨⟨hk.1, ⟨hk.2.2.1, hk.2.2.2⟩⟩, hk.2.1⟩)) hg hat); replace qhR := ak (Kd.V_afterv (ok := (fun k_ => (jj k_ ∨ w.heap.size ≤ k_) ∧ k_ ≠ qi ∧ k_ ≠ qg)) (by (with_reducible repeat (first | apply Kd.V_alloc | apply Kd.V_drewN | apply Kd.V_drew)); exact Kd.V_mono qhR.out (fun _ hk => ⟨⟨hk.1, ⟨hk.2.2.1, hk.2.2.2⟩⟩, hk.2.1⟩)) hg hat); replace qhQ := ak (Kd.V_afterv (ok := (fun k_ => (jj k_ ∨ w.heap.size ≤ k_) ∧ k_ ≠ qi ∧ k_ ≠ qg)) (by (with_reducible repeat (first | apply Kd.V_alloc | apply Kd.V_drewN | apply Kd.V_drew)); exact Kd.V_mono qhQ.out (fun _ hk => ⟨⟨hk.1, ⟨hk.2.2.1, hk.2.2.2⟩⟩, hk.2.1⟩)) hg hat); replace qhP := ak (Kd.V_afterv (ok := (fun k_ => (jj k_ ∨ w.heap.size ≤ k_) ∧ k_ ≠ qi ∧ k_ ≠ qg)) (by (with_reducible repeat (first | apply Kd.V_alloc | apply Kd.V_drewN | apply Kd.V_drew)); exact Kd.V_mono qhP.out (fun _ hk => ⟨⟨hk.1, ⟨hk.2.2.1, hk.2.2.2⟩⟩, hk.2.1⟩)) hg hat); replace qhO := ak (Kd.V_afterv (ok := (fun k_ => (jj k_ ∨ w.heap.size ≤ k_) ∧ k_ ≠ qi ∧ k_ ≠ qg)) (by (with_reducible repeat (first | apply Kd.V_alloc | apply Kd.V_drewN | apply Kd.V_drew)); exact Kd.V_mono qhO.out (fun _ hk => ⟨⟨hk.1, ⟨hk.2.2.1, hk.2.2.2⟩⟩, hk.2.1⟩)) hg hat); replace HB := ak (hb); have QO := ak (ho); clear HO_7; clear ho hb hg hat))
        go_roundg k1
        case measure => have := HK1.out; omega
        case rel => exact ⟨(qd3), (wrap64 (qr + 1)), (by first | rfl | (simp; done) | (simp [*]; done)), H', ⟨by have := HK1.out; omega⟩, ⟨by (with_reducible repeat (first | apply Kd.N_alloc | apply Kd.N_drewN | apply Kd.N_drew)); exact QO.out⟩, ⟨by (with_reducible repeat (first | apply Kd.V_alloc | apply Kd.V_drewN | apply Kd.V_drew)); exact Kd.V_mono HO_102001.out (fun _ hk => ⟨hk.1.1, ⟨hk.2, ⟨hk.1.2.1, hk.1.2.2⟩⟩⟩)⟩, ⟨bk qc.out⟩, ⟨bk qf.out⟩, ⟨bw HB.out⟩⟩
       ·rw [if_neg c11] at H
        exact absurd H (by simp)
      ·rw [if_neg c10] at H
       have c10b0 : (a2 == 255) = false := beq_eq_false_iff_ne.mpr c10
       have c10b1 : (a2 != 255) = true := bne_iff_ne.mpr c10
       by_cases c18 : ((qa qb qr).f1) = a2
       ·rw [if_pos c18] at H
        have c18b0 : (((qa qb qr).f1) == a2) = true := beq_iff_eq.mpr c18
        have c18b1 : (((qa qb qr).f1) != a2) = false := bne_eq_false_iff_eq.mpr c18
        clear c18
        by_cases c19 : Ql.length < 1172812402961
        ·rw [if_pos c19] at H
         have qvt := ak c19
         clear c19
         obtain ⟨qtJ, qik⟩ : ∃ y_ : List (S33), y_ = (Ql ++ [(⟨(⟨(qa qb qr).f0.f0⟩ : S31), (qa qb qr).f1, (qa qb qr).f2, (qa qb qr).f3, (⟨(qa qb qr).f4.f0⟩ : S31), (qa qb qr).f5, (qa qb qr).f6⟩ : S33)]) := ⟨_, rfl⟩
         replace H : (jq.l0 k1 a2 qtJ (wrap64 (qr + 1)) qd qb qn) = some r := by first | (rw [qik]; with_reducible exact H) | (have H2_ := (Option.bind_some _ _).symm.trans H; rw [qik]; with_reducible exact H2_) | (have H2_ := (Option.bind_some _ _).symm.trans H; with_reducible exact H2_) | with_reducible exact H | (rw [qik]; exact H) | exact H
         have qvp := ak qik
         clear qik
         have H' := ak H
         clear H
         have qEd := qO.out
         have qDL := qN.out
         obtain ⟨qog, qof, qno, qnn⟩ := cells2 qc.out
         try go_wp2
         have n0_ := ak (Kd.N_drew HO_7.out)
         have n1_ := ak (Kd.V_drew HO_102001.out)
         have n2_ := ak (blk_drew qc.out)
         have n3_ := ak (blk_drew qf.out)
         have n4_ := ak (below_drew1 HB.out)
         clear HO_7
         clear HO_102001
         clear qc
         clear qf
         clear HB
         have HO_7 := n0_
         have HO_102001 := n1_
         have qc := n2_
         have qf := n3_
         have HB := n4_
         clear n0_ n1_ n2_ n3_ n4_
         have zv : 0 ≤ (qr : Int) := of_decide_eq_true (by first | (with_reducible assumption) | assumption)
         have zt : qr < (qb.length : Int) := of_decide_eq_true (by first | (with_reducible assumption) | assumption)
         obtain ⟨qJ, jz, jy, za, jY, jZ, jX, zf, jW, Zg, jP, yO, yN, yM, yi, yh, yg, ya, yb, Jb, Jk, Ja, Jj, QZ, Ji⟩ := Qi (Kd.V_reads' HO_102001.out).2.2 qr zv zt
         cases Zg
         obtain ⟨qoA, qd9, qea, Jt⟩ := Kd.V_get HO_102001.out z33 qr zv (by first | exact zt | exact of_decide_eq_true (by first | (with_reducible assumption) | assumption) | (have e_ := (Kd.V_reads' HO_102001.out).1; omega))
         obtain ⟨qiV, qiR, qiU, qiQ, qiT, qiP, qiS, qiO, rfl, ZL, ZW, ZK, ZV, ZJ, ZU, ZI, ZT⟩ := k33_openF qea
         have JM := Jt 0 _ rfl
         rw [Nat.add_zero] at JM
         replace JM := Option.some.inj (JM.symm.trans jP)
         injection JM with hva_ hvn_ hvc_
         rw [hva_] at ZW
         rw [hvc_] at ZL
         have Qx := ak (show Kd.V (Kd.slice 5 (Kd.int .u8)) 25 _ w.heap.size _ _ ((qa qb qr).f0.f0) from Kd.V_mk ZL ZW)
         clear hva_ hvn_ hvc_ ZW ZL
         have JL := Jt 4 _ rfl
         rw [add_field _ _ 4 (by omega)] at JL
         replace JL := Option.some.inj (JL.symm.trans yi)
         injection JL with hva_ hvn_ hvc_
         rw [hva_] at ZV
         rw [hvc_] at ZK
         have Qw := ak (show Kd.V (Kd.slice 5 (Kd.int .u8)) 25 _ w.heap.size _ _ ((qa qb qr).f4.f0) from Kd.V_mk ZK ZV)
         clear hva_ hvn_ hvc_ ZV ZK
         have JK := Jt 5 _ rfl
         rw [add_field _ _ 5 (by omega)] at JK
         replace JK := Option.some.inj (JK.symm.trans yh)
         injection JK with hva_ hvn_ hvc_
         rw [hva_] at ZU
         rw [hvc_] at ZJ
         have Qv := ak (show Kd.V (Kd.int .u8) 5 _ w.heap.size _ _ ((qa qb qr).f5) from Kd.V_mk ZJ ZU)
         clear hva_ hvn_ hvc_ ZU ZJ
         have JJ := Jt 6 _ rfl
         rw [add_field _ _ 6 (by omega)] at JJ
         replace JJ := Option.some.inj (JJ.symm.trans yg)
         injection JJ with hva_ hvn_ hvc_
         rw [hva_] at ZT
         rw [hvc_] at ZI
         have Qu := ak (show Kd.V (Kd.int .i64) 3 _ w.heap.size _ _ ((qa qb qr).f6) from Kd.V_mk ZI ZT)
         clear hva_ hvn_ hvc_ ZT ZI
         clear Jt qd9
         have jk := ak yb
         have zk := ak ya
         clear yb ya
         have zJ := ak Jk
         have YK := ak Jb
         clear Jk Jb
         have zI := ak Jj
         have YJ := ak Ja
         clear Jj Ja
         have zD := ak Ji
         have YI := ak QZ
         clear Ji QZ
         replace zv := eq_true zv
         replace zt := eq_true zt
         have Xh : 0 ≤ (qr : Int) := of_decide_eq_true (by first | (with_reducible assumption) | assumption)
         have Xg : qr < (qb.length : Int) := of_decide_eq_true (by first | (with_reducible assumption) | assumption)
         obtain ⟨qeu, qiC, qiv, qiB, qiu, qiA, qit, qiz, qis, qf9, YH, qeI, qeH, qeG, qa5, qa4, qa3, qe7, qfj, qe6, qfi, qe5, qfh, qe4, qfg⟩ := Qi (Kd.V_reads' HO_102001.out).2.2 qr Xh Xg
         obtain rfl : qJ = qeu := (by injection qf9)
         obtain ⟨qvi, ql3, ql4, qan⟩ := Kd.V_get HO_102001.out z33 qr Xh (by first | exact Xg | exact of_decide_eq_true (by first | (with_reducible assumption) | assumption) | (have e_ := (Kd.V_reads' HO_102001.out).1; omega))
         obtain ⟨qqf, qqb, qqe, qqa, qqd, qp9, qqc, qp8, rfl, qcf, qc1, qce, qc0, qcd, qcZ, qcc, qcY⟩ := k33_openF ql4
         have qaF := qan 0 _ rfl
         rw [Nat.add_zero] at qaF
         replace qaF := Option.some.inj (qaF.symm.trans YH)
         injection qaF with hva_ hvn_ hvc_
         rw [hva_] at qc1
         rw [hvc_] at qcf
         have qk1 := ak (show Kd.V (Kd.slice 5 (Kd.int .u8)) 25 _ w.heap.size _ _ ((qa qb qr).f0.f0) from Kd.V_mk qcf qc1)
         clear hva_ hvn_ hvc_ qc1 qcf
         have qaE := qan 4 _ rfl
         rw [add_field _ _ 4 (by omega)] at qaE
         replace qaE := Option.some.inj (qaE.symm.trans qa5)
         injection qaE with hva_ hvn_ hvc_
         rw [hva_] at qc0
         rw [hvc_] at qce
         have qk0 := ak (show Kd.V (Kd.slice 5 (Kd.int .u8)) 25 _ w.heap.size _ _ ((qa qb qr).f4.f0) from Kd.V_mk qce qc0)
         clear hva_ hvn_ hvc_ qc0 qce
         have qaD := qan 5 _ rfl
         rw [add_field _ _ 5 (by omega)] at qaD
         replace qaD := Option.some.inj (qaD.symm.trans qa4)
         injection qaD with hva_ hvn_ hvc_
         rw [hva_] at qcZ
         rw [hvc_] at qcd
         have qkZ := ak (show Kd.V (Kd.int .u8) 5 _ w.heap.size _ _ ((qa qb qr).f5) from Kd.V_mk qcd qcZ)
         clear hva_ hvn_ hvc_ qcZ qcd
         have qaC := qan 6 _ rfl
         rw [add_field _ _ 6 (by omega)] at qaC
         replace qaC := Option.some.inj (qaC.symm.trans qa3)
         injection qaC with hva_ hvn_ hvc_
         rw [hva_] at qcY
         rw [hvc_] at qcc
         have qkY := ak (show Kd.V (Kd.int .i64) 3 _ w.heap.size _ _ ((qa qb qr).f6) from Kd.V_mk qcc qcY)
         clear hva_ hvn_ hvc_ qcY qcc
         clear qan ql3
         have qkX := ak qfj
         have qtG := ak qe7
         clear qfj qe7
         have qkW := ak qfi
         have qtF := ak qe6
         clear qfi qe6
         have qkV := ak qfh
         have qtE := ak qe5
         clear qfh qe5
         have qkU := ak qfg
         have qtD := ak qe4
         clear qfg qe4
         replace Xh := eq_true Xh
         replace Xg := eq_true Xg
         refine start_ (n := 23) (S := fun w' => w'.cell? ⟨qi, 0, none⟩ = some (.slice qq qd.length qp) ∧ w'.cell? ⟨qi, 1, none⟩ = some (.slice (some qJ) qb.length je) ∧ w'.cell? ⟨qg, 0, none⟩ = some (.slice jn qn.length jm) ∧ w'.cell? (qJ.add ((qr).toNat * 7)) = some (.slice jz ((qa qb qr).f0.f0).length jy) ∧ w'.cell? ⟨(qJ.add ((qr).toNat * 7)).block, (qJ.add ((qr).toNat * 7)).off + 1, none⟩ = some (.int .i64 ((qa qb qr).f1)) ∧ w'.cell? ⟨(qJ.add ((qr).toNat * 7)).block, (qJ.add ((qr).toNat * 7)).off + 2, none⟩ = some (.int .i64 ((qa qb qr).f2)) ∧ w'.cell? ⟨(qJ.add ((qr).toNat * 7)).block, (qJ.add ((qr).toNat * 7)).off + 3, none⟩ = some (.int .i64 ((qa qb qr).f3)) ∧ w'.cell? ⟨(qJ.add ((qr).toNat * 7)).block, (qJ.add ((qr).toNat * 7)).off + 4, none⟩ = some (.slice za ((qa qb qr).f4.f0).length jY) ∧ w'.cell? ⟨(qJ.add ((qr).toNat * 7)).block, (qJ.add ((qr).toNat * 7)).off + 5, none⟩ = some (.slice jZ ((qa qb qr).f5).length jX) ∧ w'.cell? ⟨(qJ.add ((qr).toNat * 7)).block, (qJ.add ((qr).toNat * 7)).off + 6, none⟩ = some (.slice zf ((qa qb qr).f6).length jW) ∧ w'.cell? (qJ.add ((qr).toNat * 7)) = some (.slice qiC ((qa qb qr).f0.f0).length qiv) ∧ w'.cell? ⟨(qJ.add ((qr).toNat * 7)).block, (qJ.add ((qr).toNat * 7)).off + 1, none⟩ = some (.int .i64 ((qa qb qr).f1)) ∧ w'.cell? ⟨(qJ.add ((qr).toNat * 7)).block, (qJ.add ((qr).toNat * 7)).off + 2, none⟩ = some (.int .i64 ((qa qb qr).f2)) ∧ w'.cell? ⟨(qJ.add ((qr).toNat * 7)).block, (qJ.add ((qr).toNat * 7)).off + 3, none⟩ = some (.int .i64 ((qa qb qr).f3)) ∧ w'.cell? ⟨(qJ.add ((qr).toNat * 7)).block, (qJ.add ((qr).toNat * 7)).off + 4, none⟩ = some (.slice qiB ((qa qb qr).f4.f0).length qiu) ∧ w'.cell? ⟨(qJ.add ((qr).toNat * 7)).block, (qJ.add ((qr).toNat * 7)).off + 5, none⟩ = some (.slice qiA ((qa qb qr).f5).length qit) ∧ w'.cell? ⟨(qJ.add ((qr).toNat * 7)).block, (qJ.add ((qr).toNat * 7)).off + 6, none⟩ = some (.slice qiz ((qa qb qr).f6).length qis)) (ds := []) (bA 23 0) (by kernel_rfl) rfl rfl ⟨(blk_cell qc.out 0).trans rfl, (blk_cell qc.out 1).trans rfl, (blk_cell qf.out 0).trans rfl, jP, yO, yN, yM, yi, yh, yg, YH, qeI, qeH, qeG, qa5, qa4, qa3⟩ (fun hHeld => ?_); refine with_tabW jq.tab5 jq.bits5 (fun HT_ HW_ => ?_)
         generalize wr.drew = w22 at HO_7 HO_102001 qc qf HB Qx Qw Qv Qu qk1 qk0 qkZ qkY jk zJ zI zD qkX qkW qkV qkU jP yO yN yM yi yh yg YH qeI qeH qeG qa5 qa4 qa3 hHeld ⊢
         refine pu_ HT_ 0 16 (bA 23 1) (v := ?_) (a' := ?_) rfl rfl (by kernel_rfl) (fun _ _ _ h => h) (by rfl) ?_ ?_ ?_; rotate_left; intro w'; go_simp; with_reducible rfl; rotate_left; go_simp; rfl
         refine pu_ HT_ 2 18 (bA 23 5) (v := ?_) (a' := ?_) rfl rfl (by kernel_rfl) (fun _ _ _ h => h) (by rfl) ?_ ?_ ?_; rotate_left; intro w'; go_simp; with_reducible rfl; rotate_left; go_simp; rfl
         refine take_ (i := 1) (N := some 17) (v := ?_) (a' := ?_) (bA 23 7) rfl rfl (take_ofW HT_.out HW_.out (by kernel_rfl)) (fun _ _ _ h => h) (Or.inl ⟨by rfl, ?_⟩) hHeld ?_ ?_
         rotate_left; rintro w' ⟨s0, s1, s2, s3, s4, s5, s6, s7, s8, s9, s10, s11, s12, s13, s14, s15, s16⟩; go_simp; with_reducible rfl; rotate_left; go_simp; rfl
         refine pu_ HT_ 3 19 (bA 23 15) (v := ?_) (a' := ?_) rfl rfl (by kernel_rfl) (fun _ _ _ h => h) (by rfl) ?_ ?_ ?_; rotate_left; intro w'; go_simp; with_reducible rfl; rotate_left; go_simp; rfl
         refine pu_ HT_ 4 20 (bA 23 31) (v := ?_) (a' := ?_) rfl rfl (by kernel_rfl) (fun _ _ _ h => h) (by rfl) ?_ ?_ ?_; rotate_left; intro w'; go_simp; with_reducible rfl; rotate_left; go_simp; rfl
         refine take_ (i := 5) (N := some 21) (v := ?_) (a' := ?_) (bA 23 63) rfl rfl (take_ofW HT_.out HW_.out (by kernel_rfl)) (fun _ _ _ h => h) (Or.inl ⟨by rfl, ?_⟩) hHeld ?_ ?_
         rotate_left; rintro w' ⟨s0, s1, s2, s3, s4, s5, s6, s7, s8, s9, s10, s11, s12, s13, s14, s15, s16⟩; go_simp; with_reducible rfl; rotate_left; go_simp; rfl
         refine take_ (i := 6) (N := some 22) (v := ?_) (a' := ?_) (bA 23 127) rfl rfl (take_ofW HT_.out HW_.out (by kernel_rfl)) (fun _ _ _ h => h) (Or.inl ⟨by rfl, ?_⟩) hHeld ?_ ?_
         rotate_left; rintro w' ⟨s0, s1, s2, s3, s4, s5, s6, s7, s8, s9, s10, s11, s12, s13, s14, s15, s16⟩; go_simp; with_reducible rfl; rotate_left; go_simp; rfl
         refine one_ (i := 7) (N := some 23) (bA 23 255) rfl rfl (one_of HT_.out (by kernel_rfl)) (by decide) (fun K hK => ?_)
         refine goes_ Try.func98 (by kernel_rfl) rfl #[.agg #[.slice jz ((qa qb qr).f0.f0).length jy], .agg #[.slice jn qn.length jm]] (by rfl) rfl rfl (by first | rfl | (simp only [List.map_toArray, List.map_cons, List.map_nil]; first | done | rfl)) ?_
         with_reducible refine (jc.calls k1 _ _ ((qa qb qr).f0.f0) _ _ qn qK _ ?qk ?qj ?qw ?qy A8.out).mono ?_
         (case qk => repeat (first | exact (by repeat (first | (with_reducible exact jk.out) | (with_reducible refine Kd.C_alloc ?_ _) | (with_reducible refine Kd.C_drewN ?_ _) | (with_reducible refine Kd.C_drew ?_) | exact jk.out)) | (with_reducible refine Kd.C_alloc ?_ _) | (with_reducible refine Kd.C_drewN ?_ _) | (with_reducible refine Kd.C_drew ?_)))
         (case qj => exact zk.out)
         (case qw => exact cw yo.out HB.out)
         (case qy => exact yE.out)
         rintro e w23 ⟨rfl, hb⟩
         have qeh := (hb.cell (World.block_lt_of_cell? _ _ (hHeld.2.2.2.1))).trans (hHeld.2.2.2.1)
         have qeE := (hb.cell (World.block_lt_of_cell? _ _ (hHeld.2.2.2.2.1))).trans (hHeld.2.2.2.2.1)
         have qeD := (hb.cell (World.block_lt_of_cell? _ _ (hHeld.2.2.2.2.2.1))).trans (hHeld.2.2.2.2.2.1)
         have qeC := (hb.cell (World.block_lt_of_cell? _ _ (hHeld.2.2.2.2.2.2.1))).trans (hHeld.2.2.2.2.2.2.1)
         have qeg := (hb.cell (World.block_lt_of_cell? _ _ (hHeld.2.2.2.2.2.2.2.1))).trans (hHeld.2.2.2.2.2.2.2.1)
         have qef := (hb.cell (World.block_lt_of_cell? _ _ (hHeld.2.2.2.2.2.2.2.2.1))).trans (hHeld.2.2.2.2.2.2.2.2.1)
         have qee := (hb.cell (World.block_lt_of_cell? _ _ (hHeld.2.2.2.2.2.2.2.2.2.1))).trans (hHeld.2.2.2.2.2.2.2.2.2.1)
         have qhC := (hb.cell (World.block_lt_of_cell? _ _ (hHeld.2.2.2.2.2.2.2.2.2.2.1))).trans (hHeld.2.2.2.2.2.2.2.2.2.2.1)
         have qoM := (hb.cell (World.block_lt_of_cell? _ _ (hHeld.2.2.2.2.2.2.2.2.2.2.2.1))).trans (hHeld.2.2.2.2.2.2.2.2.2.2.2.1)
         have qoL := (hb.cell (World.block_lt_of_cell? _ _ (hHeld.2.2.2.2.2.2.2.2.2.2.2.2.1))).trans (hHeld.2.2.2.2.2.2.2.2.2.2.2.2.1)
         have qoK := (hb.cell (World.block_lt_of_cell? _ _ (hHeld.2.2.2.2.2.2.2.2.2.2.2.2.2.1))).trans (hHeld.2.2.2.2.2.2.2.2.2.2.2.2.2.1)
         have qoJ := (hb.cell (World.block_lt_of_cell? _ _ (hHeld.2.2.2.2.2.2.2.2.2.2.2.2.2.2.1))).trans (hHeld.2.2.2.2.2.2.2.2.2.2.2.2.2.2.1)
         have qoI := (hb.cell (World.block_lt_of_cell? _ _ (hHeld.2.2.2.2.2.2.2.2.2.2.2.2.2.2.2.1))).trans (hHeld.2.2.2.2.2.2.2.2.2.2.2.2.2.2.2.1)
         have qoH := (hb.cell (World.block_lt_of_cell? _ _ (hHeld.2.2.2.2.2.2.2.2.2.2.2.2.2.2.2.2))).trans (hHeld.2.2.2.2.2.2.2.2.2.2.2.2.2.2.2.2)
         refine ⟨_, rfl, ?_⟩
         have n0_ := ak (Kd.N_below (by (with_reducible repeat (first | apply Kd.N_alloc | apply Kd.N_drewN | apply Kd.N_drew)); exact HO_7.out) hb)
         have n1_ := ak (Kd.V_below (by (with_reducible repeat (first | apply Kd.V_alloc | apply Kd.V_drewN | apply Kd.V_drew)); exact HO_102001.out) hb)
         have n2_ := ak (Kd.V_below (by (with_reducible repeat (first | apply Kd.V_alloc | apply Kd.V_drewN | apply Kd.V_drew)); exact Qx.out) hb)
         have n3_ := ak (Kd.V_below (by (with_reducible repeat (first | apply Kd.V_alloc | apply Kd.V_drewN | apply Kd.V_drew)); exact Qw.out) hb)
         have n4_ := ak (Kd.V_below (by (with_reducible repeat (first | apply Kd.V_alloc | apply Kd.V_drewN | apply Kd.V_drew)); exact Qv.out) hb)
         have n5_ := ak (Kd.V_below (by (with_reducible repeat (first | apply Kd.V_alloc | apply Kd.V_drewN | apply Kd.V_drew)); exact Qu.out) hb)
         have n6_ := ak (blk_below (bk qc.out) hb)
         have n7_ := ak (blk_below (bk qf.out) hb)
         have n8_ := ak (Kd.C_below (by repeat (first | (with_reducible exact jk.out) | (with_reducible refine Kd.C_alloc ?_ _) | (with_reducible refine Kd.C_drewN ?_ _) | (with_reducible refine Kd.C_drew ?_) | exact jk.out)) hb)
         have n9_ := ak (Kd.C_below (by repeat (first | (with_reducible exact zJ.out) | (with_reducible refine Kd.C_alloc ?_ _) | (with_reducible refine Kd.C_drewN ?_ _) | (with_reducible refine Kd.C_drew ?_) | exact zJ.out)) hb)
         have qd8 := ak (Kd.C_below (by repeat (first | (with_reducible exact zI.out) | (with_reducible refine Kd.C_alloc ?_ _) | (with_reducible refine Kd.C_drewN ?_ _) | (with_reducible refine Kd.C_drew ?_) | exact zI.out)) hb)
         have qd7 := ak (Kd.C_below (by repeat (first | (with_reducible exact zD.out) | (with_reducible refine Kd.C_alloc ?_ _) | (with_reducible refine Kd.C_drewN ?_ _) | (with_reducible refine Kd.C_drew ?_) | exact zD.out)) hb)
         have qd6 := ak (below_step (bw HB.out) hb)
         clear HO_7
         clear HO_102001
         clear Qx
         clear Qw
         clear Qv
         clear Qu
         clear qc
         clear qf
         clear jk
         clear zJ
         clear zI
         clear zD
         clear HB
         have HO_7 := n0_
         have HO_102001 := n1_
         have Qx := n2_
         have Qw := n3_
         have Qv := n4_
         have Qu := n5_
         have qc := n6_
         have qf := n7_
         have jk := n8_
         have zJ := n9_
         have zI := qd8
         have zD := qd7
         have HB := qd6
         clear n0_ n1_ n2_ n3_ n4_ n5_ n6_ n7_ n8_ n9_ qd8 qd7 qd6
         (try clear hb)
         (try clear hb2)
         (try clear hk)
         (try clear hi)
         refine hK.out _ _ ⟨(blk_cell qc.out 0).trans rfl, (blk_cell qc.out 1).trans rfl, (blk_cell qf.out 0).trans rfl, qeh, qeE, qeD, qeC, qeg, qef, qee, qhC, qoM, qoL, qoK, qoJ, qoI, qoH⟩ (fun hHeld => ?_)
         clear hK K
         refine norm_ (a' := ?_) ?_ ?_; rotate_left; go_simp; rfl
         refine pu_ HT_ 8 24 (bA 23 511) (v := ?_) (a' := ?_) rfl rfl (by kernel_rfl) (fun _ _ _ h => h) (by rfl) ?_ ?_ ?_; rotate_left; intro w'; go_simp; with_reducible rfl; rotate_left; go_simp; rfl
         refine pu_ HT_ 9 25 (bA 23 1023) (v := ?_) (a' := ?_) rfl rfl (by kernel_rfl) (fun _ _ _ h => h) (by rfl) ?_ ?_ ?_; rotate_left; intro w'; go_simp; with_reducible rfl; rotate_left; go_simp; rfl
         refine pu_ HT_ 10 26 (bA 23 2047) (v := ?_) (a' := ?_) rfl rfl (by kernel_rfl) (fun _ _ _ h => h) (by rfl) ?_ ?_ ?_; rotate_left; intro w'; go_simp; with_reducible rfl; rotate_left; go_simp; rfl
         refine pu_ HT_ 11 27 (bA 23 4095) (v := ?_) (a' := ?_) rfl rfl (by kernel_rfl) (fun _ _ _ h => h) (by rfl) ?_ ?_ ?_; rotate_left; intro w'; go_simp; with_reducible rfl; rotate_left; go_simp; rfl
         refine pu_ HT_ 12 28 (bA 23 8191) (v := ?_) (a' := ?_) rfl rfl (by kernel_rfl) (fun _ _ _ h => h) (by rfl) ?_ ?_ ?_; rotate_left; intro w'; go_simp; with_reducible rfl; rotate_left; go_simp; rfl
         refine pu_ HT_ 13 29 (bA 23 16383) (v := ?_) (a' := ?_) rfl rfl (by kernel_rfl) (fun _ _ _ h => h) (by rfl) ?_ ?_ ?_; rotate_left; intro w'; go_simp; with_reducible rfl; rotate_left; go_simp; rfl
         refine pu_ HT_ 15 31 (bA 23 49151) (v := ?_) (a' := ?_) rfl rfl (by kernel_rfl) (fun _ _ _ h => h) (by rfl) ?_ ?_ ?_; rotate_left; intro w'; go_simp; with_reducible rfl; rotate_left; go_simp; rfl
         refine pu_ HT_ 19 35 (bA 23 573439) (v := ?_) (a' := ?_) rfl rfl (by kernel_rfl) (fun _ _ _ h => h) (by rfl) ?_ ?_ ?_; rotate_left; intro w'; go_simp; with_reducible rfl; rotate_left; go_simp; rfl
         refine take_ (i := 14) (N := some 30) (v := ?_) (a' := ?_) (bA 23 589823) rfl rfl (take_ofW HT_.out HW_.out (by kernel_rfl)) (fun _ _ _ h => h) (Or.inl ⟨by rfl, ?_⟩) hHeld ?_ ?_
         rotate_left; rintro w' ⟨s0, s1, s2, s3, s4, s5, s6, s7, s8, s9, s10, s11, s12, s13, s14, s15, s16⟩; go_simp; with_reducible rfl; rotate_left; go_simp; rfl
         refine pu_ HT_ 16 32 (bA 23 655359) (v := ?_) (a' := ?_) rfl rfl (by kernel_rfl) (fun _ _ _ h => h) (by rfl) ?_ ?_ ?_; rotate_left; intro w'; go_simp; with_reducible rfl; rotate_left; go_simp; rfl
         refine pu_ HT_ 17 33 (bA 23 786431) (v := ?_) (a' := ?_) rfl rfl (by kernel_rfl) (fun _ _ _ h => h) (by rfl) ?_ ?_ ?_; rotate_left; intro w'; go_simp; with_reducible rfl; rotate_left; go_simp; rfl
         refine take_ (i := 18) (N := some 34) (v := ?_) (a' := ?_) (bA 23 1048575) rfl rfl (take_ofW HT_.out HW_.out (by kernel_rfl)) (fun _ _ _ h => h) (Or.inl ⟨by rfl, ?_⟩) hHeld ?_ ?_
         rotate_left; rintro w' ⟨s0, s1, s2, s3, s4, s5, s6, s7, s8, s9, s10, s11, s12, s13, s14, s15, s16⟩; go_simp; with_reducible rfl; rotate_left; go_simp; rfl
         refine pu_ HT_ 20 36 (bA 23 2097151) (v := ?_) (a' := ?_) rfl rfl (by kernel_rfl) (fun _ _ _ h => h) (by rfl) ?_ ?_ ?_; rotate_left; intro w'; go_simp; with_reducible rfl; rotate_left; go_simp; rfl
         refine pu_ HT_ 21 37 (bA 23 4194303) (v := ?_) (a' := ?_) rfl rfl (by kernel_rfl) (fun _ _ _ h => h) (by rfl) ?_ ?_ ?_; rotate_left; intro w'; go_simp; with_reducible rfl; rotate_left; go_simp; rfl
         refine pu_ HT_ 22 38 (bA 23 8388607) (v := ?_) (a' := ?_) rfl rfl (by kernel_rfl) (fun _ _ _ h => h) (by rfl) ?_ ?_ ?_; rotate_left; intro w'; go_simp; with_reducible rfl; rotate_left; go_simp; rfl
         refine done_ (done_of HT_.out (by kernel_rfl)) ?_
         obtain ⟨qfY, qhr, qfF, qg8⟩ := cells2 qc.out
         have qdj : 0 ≤ (qr : Int) := of_decide_eq_true (by first | (with_reducible assumption) | assumption)
         have qdi : qr < (qb.length : Int) := of_decide_eq_true (by first | (with_reducible assumption) | assumption)
         obtain ⟨qiw, qDm, qDi, qDl, qDh, qDk, qDg, qDj, qDf, ql8, qgP, qwY, qwX, qwW, qmk, qmj, qmi, qmo, qmv, qmn, qmu, qmm, qmt, qml, qms⟩ := Qi (Kd.V_reads' HO_102001.out).2.2 qr qdj qdi
         obtain rfl : qJ = qiw := (by injection ql8)
         obtain ⟨qEn, qul, qun, qgs⟩ := Kd.V_get HO_102001.out z33 qr qdj (by first | exact qdi | exact of_decide_eq_true (by first | (with_reducible assumption) | assumption) | (have e_ := (Kd.V_reads' HO_102001.out).1; omega))
         obtain ⟨qwR, qwJ, qwQ, qwI, qwP, qwH, qwO, qwG, rfl, qiJ, qkP, qiI, qkO, qiH, qkN, qiG, qkM⟩ := k33_openF qun
         have qgT := qgs 0 _ rfl
         rw [Nat.add_zero] at qgT
         replace qgT := Option.some.inj (qgT.symm.trans qgP)
         injection qgT with hva_ hvn_ hvc_
         rw [hva_] at qkP
         rw [hvc_] at qiJ
         have qhN := ak (show Kd.V (Kd.slice 5 (Kd.int .u8)) 25 _ w.heap.size _ _ ((qa qb qr).f0.f0) from Kd.V_mk qiJ qkP)
         clear hva_ hvn_ hvc_ qkP qiJ
         have qgS := qgs 4 _ rfl
         rw [add_field _ _ 4 (by omega)] at qgS
         replace qgS := Option.some.inj (qgS.symm.trans qmk)
         injection qgS with hva_ hvn_ hvc_
         rw [hva_] at qkO
         rw [hvc_] at qiI
         have qhM := ak (show Kd.V (Kd.slice 5 (Kd.int .u8)) 25 _ w.heap.size _ _ ((qa qb qr).f4.f0) from Kd.V_mk qiI qkO)
         clear hva_ hvn_ hvc_ qkO qiI
         have qgR := qgs 5 _ rfl
         rw [add_field _ _ 5 (by omega)] at qgR
         replace qgR := Option.some.inj (qgR.symm.trans qmj)
         injection qgR with hva_ hvn_ hvc_
         rw [hva_] at qkN
         rw [hvc_] at qiH
         have qhL := ak (show Kd.V (Kd.int .u8) 5 _ w.heap.size _ _ ((qa qb qr).f5) from Kd.V_mk qiH qkN)
         clear hva_ hvn_ hvc_ qkN qiH
         have qgQ := qgs 6 _ rfl
         rw [add_field _ _ 6 (by omega)] at qgQ
         replace qgQ := Option.some.inj (qgQ.symm.trans qmi)
         injection qgQ with hva_ hvn_ hvc_
         rw [hva_] at qkM
         rw [hvc_] at qiG
         have qhK := ak (show Kd.V (Kd.int .i64) 3 _ w.heap.size _ _ ((qa qb qr).f6) from Kd.V_mk qiG qkM)
         clear hva_ hvn_ hvc_ qkM qiG
         clear qgs qul
         have qCl := ak qmv
         have qCs := ak qmo
         clear qmv qmo
         have qCk := ak qmu
         have qCr := ak qmn
         clear qmu qmn
         have qCj := ak qmt
         have qCq := ak qmm
         clear qmt qmm
         have qCi := ak qms
         have qCp := ak qml
         clear qms qml
         replace qdj := eq_true qdj
         replace qdi := eq_true qdi
         have eb_ := Option.some.inj (YH.symm.trans jP)
         injection eb_ with eb_ en_ ec_
         subst eb_
         subst ec_
         clear en_
         have ea_ := Option.some.inj (qeh.symm.trans qgP)
         injection ea_ with ea_ en_ ec_
         subst ea_
         subst ec_
         clear en_
         have eb_ := Option.some.inj (qa5.symm.trans yi)
         injection eb_ with eb_ en_ ec_
         subst eb_
         subst ec_
         clear en_
         have ea_ := Option.some.inj (qeg.symm.trans qmk)
         injection ea_ with ea_ en_ ec_
         subst ea_
         subst ec_
         clear en_
         have eb_ := Option.some.inj (qa4.symm.trans yh)
         injection eb_ with eb_ en_ ec_
         subst eb_
         subst ec_
         clear en_
         have ea_ := Option.some.inj (qef.symm.trans qmj)
         injection ea_ with ea_ en_ ec_
         subst ea_
         subst ec_
         clear en_
         have eb_ := Option.some.inj (qa3.symm.trans yg)
         injection eb_ with eb_ en_ ec_
         subst eb_
         subst ec_
         clear en_
         have ea_ := Option.some.inj (qee.symm.trans qmi)
         injection ea_ with ea_ en_ ec_
         subst ea_
         subst ec_
         clear en_
         try go_wp2_with (first | ((with_reducible refine gate_builtin (b := .append) (xs := #[.tmp 39, .tmp 45]) rfl ?_); at_builtin; refine Kd.N_append k33 (w0 := w) w.heap.size rfl (.tmp 39) (.tmp 45) 57 33 (.agg #[(.slice none 0 0), (.int .i64 0), (.int .i64 0), (.int .i64 0), (.slice none 0 0), (.slice none 0 0), (.slice none 0 0)]) 120 rfl Try.underlying57 qgj rfl (by decide) (by omega) u7 Ql (⟨(⟨(qa qb qr).f0.f0⟩ : S31), (qa qb qr).f1, (qa qb qr).f2, (qa qb qr).f3, (⟨(qa qb qr).f4.f0⟩ : S31), (qa qb qr).f5, (qa qb qr).f6⟩ : S33) [.slice qiC ((qa qb qr).f0.f0).length qiv, .int .i64 ((qa qb qr).f1), .int .i64 ((qa qb qr).f2), .int .i64 ((qa qb qr).f3), .slice qiB ((qa qb qr).f4.f0).length qiu, .slice qiA ((qa qb qr).f5).length qit, .slice qiz ((qa qb qr).f6).length qis] (fun k_ => (jj k_ ∨ w.heap.size ≤ k_) ∧ k_ ≠ qi ∧ k_ ≠ qg) (fun k_ => ((fun k_ => (jj k_ ∨ w.heap.size ≤ k_) ∧ k_ ≠ qi ∧ k_ ≠ qg)) k_ ∧ some k_ ≠ (u7 : Value).ownBlock) rfl rfl ?aP (fun _ hk => hk) ?aF ?aO ?aB ?aS ?aL ?_; (case aP => exact (k33_mkF _ _ (⟨(⟨(qa qb qr).f0.f0⟩ : S31), (qa qb qr).f1, (qa qb qr).f2, (qa qb qr).f3, (⟨(qa qb qr).f4.f0⟩ : S31), (qa qb qr).f5, (qa qb qr).f6⟩ : S33) (Kd.V_reads' (Kd.V_mono (ok' := (fun k_ => ((fun k_ => (jj k_ ∨ w.heap.size ≤ k_) ∧ k_ ≠ qi ∧ k_ ≠ qg)) k_ ∧ some k_ ≠ (u7 : Value).ownBlock)) (qhN.out) (fun k_ hk => ⟨⟨hk.1, ⟨hk.2.2.1, hk.2.2.2⟩⟩, hk.2.1⟩))).2.1 (Kd.V_F (Kd.V_mono (ok' := (fun k_ => ((fun k_ => (jj k_ ∨ w.heap.size ≤ k_) ∧ k_ ≠ qi ∧ k_ ≠ qg)) k_ ∧ some k_ ≠ (u7 : Value).ownBlock)) (qhN.out) (fun k_ hk => ⟨⟨hk.1, ⟨hk.2.2.1, hk.2.2.2⟩⟩, hk.2.1⟩))) (Kd.V_reads' (Kd.V_mono (ok' := (fun k_ => ((fun k_ => (jj k_ ∨ w.heap.size ≤ k_) ∧ k_ ≠ qi ∧ k_ ≠ qg)) k_ ∧ some k_ ≠ (u7 : Value).ownBlock)) (qhM.out) (fun k_ hk => ⟨⟨hk.1, ⟨hk.2.2.1, hk.2.2.2⟩⟩, hk.2.1⟩))).2.1 (Kd.V_F (Kd.V_mono (ok' := (fun k_ => ((fun k_ => (jj k_ ∨ w.heap.size ≤ k_) ∧ k_ ≠ qi ∧ k_ ≠ qg)) k_ ∧ some k_ ≠ (u7 : Value).ownBlock)) (qhM.out) (fun k_ hk => ⟨⟨hk.1, ⟨hk.2.2.1, hk.2.2.2⟩⟩, hk.2.1⟩))) (Kd.V_reads' (Kd.V_mono (ok' := (fun k_ => ((fun k_ => (jj k_ ∨ w.heap.size ≤ k_) ∧ k_ ≠ qi ∧ k_ ≠ qg)) k_ ∧ some k_ ≠ (u7 : Value).ownBlock)) (qhL.out) (fun k_ hk => ⟨⟨hk.1, ⟨hk.2.2.1, hk.2.2.2⟩⟩, hk.2.1⟩))).2.1 (Kd.V_F (Kd.V_mono (ok' := (fun k_ => ((fun k_ => (jj k_ ∨ w.heap.size ≤ k_) ∧ k_ ≠ qi ∧ k_ ≠ qg)) k_ ∧ some k_ ≠ (u7 : Value).ownBlock)) (qhL.out) (fun k_ hk => ⟨⟨hk.1, ⟨hk.2.2.1, hk.2.2.2⟩⟩, hk.2.1⟩))) (Kd.V_reads' (Kd.V_mono (ok' := (fun k_ => ((fun k_ => (jj k_ ∨ w.heap.size ≤ k_) ∧ k_ ≠ qi ∧ k_ ≠ qg)) k_ ∧ some k_ ≠ (u7 : Value).ownBlock)) (qhK.out) (fun k_ hk => ⟨⟨hk.1, ⟨hk.2.2.1, hk.2.2.2⟩⟩, hk.2.1⟩))).2.1 (Kd.V_F (Kd.V_mono (ok' := (fun k_ => ((fun k_ => (jj k_ ∨ w.heap.size ≤ k_) ∧ k_ ≠ qi ∧ k_ ≠ qg)) k_ ∧ some k_ ≠ (u7 : Value).ownBlock)) (qhK.out) (fun k_ hk => ⟨⟨hk.1, ⟨hk.2.2.1, hk.2.2.2⟩⟩, hk.2.1⟩))))); (case aB => exact (bw HB.out)); (case aF => exact (fun k_ hk => ⟨(.inr (Nat.le_trans (below_size (bw HB.out)) hk)), Kd.freshB (g := qi) (o := .cells #[.slice qq qd.length qp, .slice (some qJ) qb.length je] 59 (0, 0)) (bk qc.out) k_ hk, Kd.freshB (g := qg) (o := .cells #[.slice jn qn.length jm] 31 (0, 0)) (bk qf.out) k_ hk⟩)); (case aO => exact (by (with_reducible repeat (first | apply Kd.N_alloc | apply Kd.N_drewN | apply Kd.N_drew)); exact HO_7.out)); (case aS => exact (below_size (bw HB.out))); (case aL => have := qvt.out; omega); intro qiF w25 ho hb hg hat; rw [← qvp.out] at ho; replace HO_102001 := ak (Kd.V_afterv (ok := (fun k_ => (jj k_ ∨ w.heap.size ≤ k_) ∧ k_ ≠ qi ∧ k_ ≠ qg)) (by (with_reducible repeat (first | apply Kd.V_alloc | apply Kd.V_drewN | apply Kd.V_drew)); exact Kd.V_mono HO_102001.out (fun _ hk => ⟨⟨hk.1, ⟨hk.2.2.1, hk.2.2.2⟩⟩, hk.2.1⟩)) hg hat); replace qc := ak (blk_grown (bk qc.out) hg (Kd.N_ne HO_7.out qc.out (by decide))); replace qf := ak (blk_grown (bk qf.out) hg (Kd.N_ne HO_7.out qf.out (by decide))); replace Qx := ak (Kd.V_afterv (ok := (fun k_ => (jj k_ ∨ w.heap.size ≤ k_) ∧ k_ ≠ qi ∧ k_ ≠ qg)) (by (with_reducible repeat (first | apply Kd.V_alloc | apply Kd.V_drewN | apply Kd.V_drew)); exact Kd.V_mono Qx.out (fun _ hk => ⟨⟨hk.1, ⟨hk.2.2.1, hk.2.2.2⟩⟩, hk.2.1⟩)) hg hat); replace Qw := ak (Kd.V_afterv (ok := (fun k_ => (jj k_ ∨ w.heap.size ≤ k_) ∧ k_ ≠ qi ∧ k_ ≠ qg)) (by (with_reducible repeat (first | apply Kd.V_alloc | apply Kd.V_drewN | apply Kd.V_drew)); exact Kd.V_mono Qw.out (fun _ hk => ⟨⟨hk.1, ⟨hk.2.2.1, hk.2.2.2⟩⟩, hk.2.1⟩)) hg hat); replace Qv := ak (Kd.V_afterv (ok := (fun k_ => (jj k_ ∨ w.heap.size ≤ k_) ∧ k_ ≠ qi ∧ k_ ≠ qg)) (by (with_reducible repeat (first | apply Kd.V_alloc | apply Kd.V_drewN | apply Kd.V_drew)); exact Kd.V_mono Qv.out (fun _ hk => ⟨⟨hk.1, ⟨hk.2.2.1, hk.2.2.2⟩⟩, hk.2.1⟩)) hg hat); replace Qu := ak (Kd.V_afterv (ok := (fun k_ => (jj k_ ∨ w.heap.size ≤ k_) ∧ k_ ≠ qi ∧ k_ ≠ qg)) (by (with_reducible repeat (first | apply Kd.V_alloc | apply Kd.V_drewN | apply Kd.V_drew)); exact Kd.V_mono Qu.out (fun _ hk => ⟨⟨hk.1, ⟨hk.2.2.1, hk.2.2.2⟩⟩, hk.2.1⟩)) hg hat); replace qhN := ak (Kd.V_afterv (ok := (fun k_ => (jj k_ ∨ w.heap.size ≤ k_) ∧ k_ ≠ qi ∧ k_ ≠ qg)) (by (with_reducible repeat (first | apply Kd.V_alloc | apply Kd.V_drewN | apply Kd.V_drew)); exact Kd.V_mono qhN.out (fun _ hk => ⟨⟨hk.1, ⟨hk.2.2.1, hk.2.2.2⟩⟩, hk.2.1⟩)) hg hat); replace qhM := ak (Kd.V_afterv (ok := (fun k_ => (jj k_ ∨ w.heap.size ≤ k_) ∧ k_ ≠ qi ∧ k_ ≠ qg)) (by (with_reducible repeat (first | apply Kd.V_alloc | apply Kd.V_drewN | apply Kd.V_drew)); exact Kd.V_mono qhM.out (fun _ hk => ⟨⟨hk.1, ⟨hk.2.2.1, hk.2.2.2⟩⟩, hk.2.1⟩)) hg hat); replace qhL := ak (Kd.V_afterv (ok := (fun k_ => (jj k_ ∨ w.heap.size ≤ k_) ∧ k_ ≠ qi ∧ k_ ≠ qg)) (by (with_reducible repeat (first | apply Kd.V_alloc | apply Kd.V_drewN | apply Kd.V_drew)); exact Kd.V_mono qhL.out (fun _ hk => ⟨⟨hk.1, ⟨hk.2.2.1, hk.2.2.2⟩⟩, hk.2.1⟩)) hg hat); replace qhK := ak (Kd.V_afterv (ok := (fun k_ => (jj k_ ∨ w.heap.size ≤ k_) ∧ k_ ≠ qi ∧ k_ ≠ qg)) (by (with_reducible repeat (first | apply Kd.V_alloc | apply Kd.V_drewN | apply Kd.V_drew)); exact Kd.V_mono qhK.out (fun _ hk => ⟨⟨hk.1, ⟨hk.2.2.1, hk.2.2.2⟩⟩, hk.2.1⟩)) hg hat); replace HB := ak (hb); have qda := ak (ho); clear HO_7; clear ho hb hg hat))
         go_roundg k1
         case measure => have := HK1.out; omega
         case rel => exact ⟨(qtJ), (wrap64 (qr + 1)), (by first | rfl | (simp; done) | (simp [*]; done)), H', ⟨by have := HK1.out; omega⟩, ⟨by (with_reducible repeat (first | apply Kd.N_alloc | apply Kd.N_drewN | apply Kd.N_drew)); exact qda.out⟩, ⟨by (with_reducible repeat (first | apply Kd.V_alloc | apply Kd.V_drewN | apply Kd.V_drew)); exact Kd.V_mono HO_102001.out (fun _ hk => ⟨hk.1.1, ⟨hk.2, ⟨hk.1.2.1, hk.1.2.2⟩⟩⟩)⟩, ⟨bk qc.out⟩, ⟨bk qf.out⟩, ⟨bw HB.out⟩⟩
        ·rw [if_neg c19] at H
         exact absurd H (by simp)
       ·rw [if_neg c18] at H
        have c18b0 : (((qa qb qr).f1) == a2) = false := beq_eq_false_iff_ne.mpr c18
        have c18b1 : (((qa qb qr).f1) != a2) = true := bne_iff_ne.mpr c18
        have H' := ak H
        clear H
        have qEb := qO.out
        have qDJ := qN.out
        obtain ⟨qku, qkt, qjB, qjA⟩ := cells2 qc.out
        try go_wp2
        have n0_ := ak (Kd.N_drew HO_7.out)
        have n1_ := ak (Kd.V_drew HO_102001.out)
        have n2_ := ak (blk_drew qc.out)
        have n3_ := ak (blk_drew qf.out)
        have n4_ := ak (below_drew1 HB.out)
        clear HO_7
        clear HO_102001
        clear qc
        clear qf
        clear HB
        have HO_7 := n0_
        have HO_102001 := n1_
        have qc := n2_
        have qf := n3_
        have HB := n4_
        clear n0_ n1_ n2_ n3_ n4_
        have zv : 0 ≤ (qr : Int) := of_decide_eq_true (by first | (with_reducible assumption) | assumption)
        have zt : qr < (qb.length : Int) := of_decide_eq_true (by first | (with_reducible assumption) | assumption)
        obtain ⟨qJ, jz, jy, za, jY, jZ, jX, zf, jW, Zg, jP, yO, yN, yM, yi, yh, yg, ya, yb, Jb, Jk, Ja, Jj, QZ, Ji⟩ := Qi (Kd.V_reads' HO_102001.out).2.2 qr zv zt
        cases Zg
        obtain ⟨qoA, qd9, qea, Jt⟩ := Kd.V_get HO_102001.out z33 qr zv (by first | exact zt | exact of_decide_eq_true (by first | (with_reducible assumption) | assumption) | (have e_ := (Kd.V_reads' HO_102001.out).1; omega))
        obtain ⟨qiV, qiR, qiU, qiQ, qiT, qiP, qiS, qiO, rfl, ZL, ZW, ZK, ZV, ZJ, ZU, ZI, ZT⟩ := k33_openF qea
        have JM := Jt 0 _ rfl
        rw [Nat.add_zero] at JM
        replace JM := Option.some.inj (JM.symm.trans jP)
        injection JM with hva_ hvn_ hvc_
        rw [hva_] at ZW
        rw [hvc_] at ZL
        have Qx := ak (show Kd.V (Kd.slice 5 (Kd.int .u8)) 25 _ w.heap.size _ _ ((qa qb qr).f0.f0) from Kd.V_mk ZL ZW)
        clear hva_ hvn_ hvc_ ZW ZL
        have JL := Jt 4 _ rfl
        rw [add_field _ _ 4 (by omega)] at JL
        replace JL := Option.some.inj (JL.symm.trans yi)
        injection JL with hva_ hvn_ hvc_
        rw [hva_] at ZV
        rw [hvc_] at ZK
        have Qw := ak (show Kd.V (Kd.slice 5 (Kd.int .u8)) 25 _ w.heap.size _ _ ((qa qb qr).f4.f0) from Kd.V_mk ZK ZV)
        clear hva_ hvn_ hvc_ ZV ZK
        have JK := Jt 5 _ rfl
        rw [add_field _ _ 5 (by omega)] at JK
        replace JK := Option.some.inj (JK.symm.trans yh)
        injection JK with hva_ hvn_ hvc_
        rw [hva_] at ZU
        rw [hvc_] at ZJ
        have Qv := ak (show Kd.V (Kd.int .u8) 5 _ w.heap.size _ _ ((qa qb qr).f5) from Kd.V_mk ZJ ZU)
        clear hva_ hvn_ hvc_ ZU ZJ
        have JJ := Jt 6 _ rfl
        rw [add_field _ _ 6 (by omega)] at JJ
        replace JJ := Option.some.inj (JJ.symm.trans yg)
        injection JJ with hva_ hvn_ hvc_
        rw [hva_] at ZT
        rw [hvc_] at ZI
        have Qu := ak (show Kd.V (Kd.int .i64) 3 _ w.heap.size _ _ ((qa qb qr).f6) from Kd.V_mk ZI ZT)
        clear hva_ hvn_ hvc_ ZT ZI
        clear Jt qd9
        have jk := ak yb
        have zk := ak ya
        clear yb ya
        have zJ := ak Jk
        have YK := ak Jb
        clear Jk Jb
        have zI := ak Jj
        have YJ := ak Ja
        clear Jj Ja
        have zD := ak Ji
        have YI := ak QZ
        clear Ji QZ
        replace zv := eq_true zv
        replace zt := eq_true zt
        have Xh : 0 ≤ (qr : Int) := of_decide_eq_true (by first | (with_reducible assumption) | assumption)
        have Xg : qr < (qb.length : Int) := of_decide_eq_true (by first | (with_reducible assumption) | assumption)
        obtain ⟨qeu, qiC, qiv, qiB, qiu, qiA, qit, qiz, qis, qf9, YH, qeI, qeH, qeG, qa5, qa4, qa3, qe7, qfj, qe6, qfi, qe5, qfh, qe4, qfg⟩ := Qi (Kd.V_reads' HO_102001.out).2.2 qr Xh Xg
        obtain rfl : qJ = qeu := (by injection qf9)
        obtain ⟨qvi, ql3, ql4, qan⟩ := Kd.V_get HO_102001.out z33 qr Xh (by first | exact Xg | exact of_decide_eq_true (by first | (with_reducible assumption) | assumption) | (have e_ := (Kd.V_reads' HO_102001.out).1; omega))
        obtain ⟨qqf, qqb, qqe, qqa, qqd, qp9, qqc, qp8, rfl, qcf, qc1, qce, qc0, qcd, qcZ, qcc, qcY⟩ := k33_openF ql4
        have qaF := qan 0 _ rfl
        rw [Nat.add_zero] at qaF
        replace qaF := Option.some.inj (qaF.symm.trans YH)
        injection qaF with hva_ hvn_ hvc_
        rw [hva_] at qc1
        rw [hvc_] at qcf
        have qk1 := ak (show Kd.V (Kd.slice 5 (Kd.int .u8)) 25 _ w.heap.size _ _ ((qa qb qr).f0.f0) from Kd.V_mk qcf qc1)
        clear hva_ hvn_ hvc_ qc1 qcf
        have qaE := qan 4 _ rfl
        rw [add_field _ _ 4 (by omega)] at qaE
        replace qaE := Option.some.inj (qaE.symm.trans qa5)
        injection qaE with hva_ hvn_ hvc_
        rw [hva_] at qc0
        rw [hvc_] at qce
        have qk0 := ak (show Kd.V (Kd.slice 5 (Kd.int .u8)) 25 _ w.heap.size _ _ ((qa qb qr).f4.f0) from Kd.V_mk qce qc0)
        clear hva_ hvn_ hvc_ qc0 qce
        have qaD := qan 5 _ rfl
        rw [add_field _ _ 5 (by omega)] at qaD
        replace qaD := Option.some.inj (qaD.symm.trans qa4)
        injection qaD with hva_ hvn_ hvc_
        rw [hva_] at qcZ
        rw [hvc_] at qcd
        have qkZ := ak (show Kd.V (Kd.int .u8) 5 _ w.heap.size _ _ ((qa qb qr).f5) from Kd.V_mk qcd qcZ)
        clear hva_ hvn_ hvc_ qcZ qcd
        have qaC := qan 6 _ rfl
        rw [add_field _ _ 6 (by omega)] at qaC
        replace qaC := Option.some.inj (qaC.symm.trans qa3)
        injection qaC with hva_ hvn_ hvc_
        rw [hva_] at qcY
        rw [hvc_] at qcc
        have qkY := ak (show Kd.V (Kd.int .i64) 3 _ w.heap.size _ _ ((qa qb qr).f6) from Kd.V_mk qcc qcY)
        clear hva_ hvn_ hvc_ qcY qcc
        clear qan ql3
        have qkX := ak qfj
        have qtG := ak qe7
        clear qfj qe7
        have qkW := ak qfi
        have qtF := ak qe6
        clear qfi qe6
        have qkV := ak qfh
        have qtE := ak qe5
        clear qfh qe5
        have qkU := ak qfg
        have qtD := ak qe4
        clear qfg qe4
        replace Xh := eq_true Xh
        replace Xg := eq_true Xg
        refine start_ (n := 23) (S := fun w' => w'.cell? ⟨qi, 0, none⟩ = some (.slice qq qd.length qp) ∧ w'.cell? ⟨qi, 1, none⟩ = some (.slice (some qJ) qb.length je) ∧ w'.cell? ⟨qg, 0, none⟩ = some (.slice jn qn.length jm) ∧ w'.cell? (qJ.add ((qr).toNat * 7)) = some (.slice jz ((qa qb qr).f0.f0).length jy) ∧ w'.cell? ⟨(qJ.add ((qr).toNat * 7)).block, (qJ.add ((qr).toNat * 7)).off + 1, none⟩ = some (.int .i64 ((qa qb qr).f1)) ∧ w'.cell? ⟨(qJ.add ((qr).toNat * 7)).block, (qJ.add ((qr).toNat * 7)).off + 2, none⟩ = some (.int .i64 ((qa qb qr).f2)) ∧ w'.cell? ⟨(qJ.add ((qr).toNat * 7)).block, (qJ.add ((qr).toNat * 7)).off + 3, none⟩ = some (.int .i64 ((qa qb qr).f3)) ∧ w'.cell? ⟨(qJ.add ((qr).toNat * 7)).block, (qJ.add ((qr).toNat * 7)).off + 4, none⟩ = some (.slice za ((qa qb qr).f4.f0).length jY) ∧ w'.cell? ⟨(qJ.add ((qr).toNat * 7)).block, (qJ.add ((qr).toNat * 7)).off + 5, none⟩ = some (.slice jZ ((qa qb qr).f5).length jX) ∧ w'.cell? ⟨(qJ.add ((qr).toNat * 7)).block, (qJ.add ((qr).toNat * 7)).off + 6, none⟩ = some (.slice zf ((qa qb qr).f6).length jW) ∧ w'.cell? (qJ.add ((qr).toNat * 7)) = some (.slice qiC ((qa qb qr).f0.f0).length qiv) ∧ w'.cell? ⟨(qJ.add ((qr).toNat * 7)).block, (qJ.add ((qr).toNat * 7)).off + 1, none⟩ = some (.int .i64 ((qa qb qr).f1)) ∧ w'.cell? ⟨(qJ.add ((qr).toNat * 7)).block, (qJ.add ((qr).toNat * 7)).off + 2, none⟩ = some (.int .i64 ((qa qb qr).f2)) ∧ w'.cell? ⟨(qJ.add ((qr).toNat * 7)).block, (qJ.add ((qr).toNat * 7)).off + 3, none⟩ = some (.int .i64 ((qa qb qr).f3)) ∧ w'.cell? ⟨(qJ.add ((qr).toNat * 7)).block, (qJ.add ((qr).toNat * 7)).off + 4, none⟩ = some (.slice qiB ((qa qb qr).f4.f0).length qiu) ∧ w'.cell? ⟨(qJ.add ((qr).toNat * 7)).block, (qJ.add ((qr).toNat * 7)).off + 5, none⟩ = some (.slice qiA ((qa qb qr).f5).length qit) ∧ w'.cell? ⟨(qJ.add ((qr).toNat * 7)).block, (qJ.add ((qr).toNat * 7)).off + 6, none⟩ = some (.slice qiz ((qa qb qr).f6).length qis)) (ds := []) (bA 23 0) (by kernel_rfl) rfl rfl ⟨(blk_cell qc.out 0).trans rfl, (blk_cell qc.out 1).trans rfl, (blk_cell qf.out 0).trans rfl, jP, yO, yN, yM, yi, yh, yg, YH, qeI, qeH, qeG, qa5, qa4, qa3⟩ (fun hHeld => ?_); refine with_tabW jq.tab5 jq.bits5 (fun HT_ HW_ => ?_)
        generalize wr.drew = w28 at HO_7 HO_102001 qc qf HB Qx Qw Qv Qu qk1 qk0 qkZ qkY jk zJ zI zD qkX qkW qkV qkU jP yO yN yM yi yh yg YH qeI qeH qeG qa5 qa4 qa3 hHeld ⊢
        refine pu_ HT_ 0 16 (bA 23 1) (v := ?_) (a' := ?_) rfl rfl (by kernel_rfl) (fun _ _ _ h => h) (by rfl) ?_ ?_ ?_; rotate_left; intro w'; go_simp; with_reducible rfl; rotate_left; go_simp; rfl
        refine pu_ HT_ 2 18 (bA 23 5) (v := ?_) (a' := ?_) rfl rfl (by kernel_rfl) (fun _ _ _ h => h) (by rfl) ?_ ?_ ?_; rotate_left; intro w'; go_simp; with_reducible rfl; rotate_left; go_simp; rfl
        refine take_ (i := 1) (N := some 17) (v := ?_) (a' := ?_) (bA 23 7) rfl rfl (take_ofW HT_.out HW_.out (by kernel_rfl)) (fun _ _ _ h => h) (Or.inl ⟨by rfl, ?_⟩) hHeld ?_ ?_
        rotate_left; rintro w' ⟨s0, s1, s2, s3, s4, s5, s6, s7, s8, s9, s10, s11, s12, s13, s14, s15, s16⟩; go_simp; with_reducible rfl; rotate_left; go_simp; rfl
        refine pu_ HT_ 3 19 (bA 23 15) (v := ?_) (a' := ?_) rfl rfl (by kernel_rfl) (fun _ _ _ h => h) (by rfl) ?_ ?_ ?_; rotate_left; intro w'; go_simp; with_reducible rfl; rotate_left; go_simp; rfl
        refine pu_ HT_ 4 20 (bA 23 31) (v := ?_) (a' := ?_) rfl rfl (by kernel_rfl) (fun _ _ _ h => h) (by rfl) ?_ ?_ ?_; rotate_left; intro w'; go_simp; with_reducible rfl; rotate_left; go_simp; rfl
        refine take_ (i := 5) (N := some 21) (v := ?_) (a' := ?_) (bA 23 63) rfl rfl (take_ofW HT_.out HW_.out (by kernel_rfl)) (fun _ _ _ h => h) (Or.inl ⟨by rfl, ?_⟩) hHeld ?_ ?_
        rotate_left; rintro w' ⟨s0, s1, s2, s3, s4, s5, s6, s7, s8, s9, s10, s11, s12, s13, s14, s15, s16⟩; go_simp; with_reducible rfl; rotate_left; go_simp; rfl
        refine take_ (i := 6) (N := some 22) (v := ?_) (a' := ?_) (bA 23 127) rfl rfl (take_ofW HT_.out HW_.out (by kernel_rfl)) (fun _ _ _ h => h) (Or.inl ⟨by rfl, ?_⟩) hHeld ?_ ?_
        rotate_left; rintro w' ⟨s0, s1, s2, s3, s4, s5, s6, s7, s8, s9, s10, s11, s12, s13, s14, s15, s16⟩; go_simp; with_reducible rfl; rotate_left; go_simp; rfl
        refine one_ (i := 7) (N := some 23) (bA 23 255) rfl rfl (one_of HT_.out (by kernel_rfl)) (by decide) (fun K hK => ?_)
        refine goes_ Try.func98 (by kernel_rfl) rfl #[.agg #[.slice jz ((qa qb qr).f0.f0).length jy], .agg #[.slice jn qn.length jm]] (by rfl) rfl rfl (by first | rfl | (simp only [List.map_toArray, List.map_cons, List.map_nil]; first | done | rfl)) ?_
        with_reducible refine (jc.calls k1 _ _ ((qa qb qr).f0.f0) _ _ qn qK _ ?qk ?qj ?qw ?qy A8.out).mono ?_
        (case qk => repeat (first | exact (by repeat (first | (with_reducible exact jk.out) | (with_reducible refine Kd.C_alloc ?_ _) | (with_reducible refine Kd.C_drewN ?_ _) | (with_reducible refine Kd.C_drew ?_) | exact jk.out)) | (with_reducible refine Kd.C_alloc ?_ _) | (with_reducible refine Kd.C_drewN ?_ _) | (with_reducible refine Kd.C_drew ?_)))
        (case qj => exact zk.out)
        (case qw => exact cw yo.out HB.out)
        (case qy => exact yE.out)
        rintro e w29 ⟨rfl, hb⟩
        have qeh := (hb.cell (World.block_lt_of_cell? _ _ (hHeld.2.2.2.1))).trans (hHeld.2.2.2.1)
        have qeE := (hb.cell (World.block_lt_of_cell? _ _ (hHeld.2.2.2.2.1))).trans (hHeld.2.2.2.2.1)
        have qeD := (hb.cell (World.block_lt_of_cell? _ _ (hHeld.2.2.2.2.2.1))).trans (hHeld.2.2.2.2.2.1)
        have qeC := (hb.cell (World.block_lt_of_cell? _ _ (hHeld.2.2.2.2.2.2.1))).trans (hHeld.2.2.2.2.2.2.1)
        have qeg := (hb.cell (World.block_lt_of_cell? _ _ (hHeld.2.2.2.2.2.2.2.1))).trans (hHeld.2.2.2.2.2.2.2.1)
        have qef := (hb.cell (World.block_lt_of_cell? _ _ (hHeld.2.2.2.2.2.2.2.2.1))).trans (hHeld.2.2.2.2.2.2.2.2.1)
        have qee := (hb.cell (World.block_lt_of_cell? _ _ (hHeld.2.2.2.2.2.2.2.2.2.1))).trans (hHeld.2.2.2.2.2.2.2.2.2.1)
        have qhC := (hb.cell (World.block_lt_of_cell? _ _ (hHeld.2.2.2.2.2.2.2.2.2.2.1))).trans (hHeld.2.2.2.2.2.2.2.2.2.2.1)
        have qoM := (hb.cell (World.block_lt_of_cell? _ _ (hHeld.2.2.2.2.2.2.2.2.2.2.2.1))).trans (hHeld.2.2.2.2.2.2.2.2.2.2.2.1)
        have qoL := (hb.cell (World.block_lt_of_cell? _ _ (hHeld.2.2.2.2.2.2.2.2.2.2.2.2.1))).trans (hHeld.2.2.2.2.2.2.2.2.2.2.2.2.1)
        have qoK := (hb.cell (World.block_lt_of_cell? _ _ (hHeld.2.2.2.2.2.2.2.2.2.2.2.2.2.1))).trans (hHeld.2.2.2.2.2.2.2.2.2.2.2.2.2.1)
        have qoJ := (hb.cell (World.block_lt_of_cell? _ _ (hHeld.2.2.2.2.2.2.2.2.2.2.2.2.2.2.1))).trans (hHeld.2.2.2.2.2.2.2.2.2.2.2.2.2.2.1)
        have qoI := (hb.cell (World.block_lt_of_cell? _ _ (hHeld.2.2.2.2.2.2.2.2.2.2.2.2.2.2.2.1))).trans (hHeld.2.2.2.2.2.2.2.2.2.2.2.2.2.2.2.1)
        have qoH := (hb.cell (World.block_lt_of_cell? _ _ (hHeld.2.2.2.2.2.2.2.2.2.2.2.2.2.2.2.2))).trans (hHeld.2.2.2.2.2.2.2.2.2.2.2.2.2.2.2.2)
        refine ⟨_, rfl, ?_⟩
        have n0_ := ak (Kd.N_below (by (with_reducible repeat (first | apply Kd.N_alloc | apply Kd.N_drewN | apply Kd.N_drew)); exact HO_7.out) hb)
        have n1_ := ak (Kd.V_below (by (with_reducible repeat (first | apply Kd.V_alloc | apply Kd.V_drewN | apply Kd.V_drew)); exact HO_102001.out) hb)
        have n2_ := ak (Kd.V_below (by (with_reducible repeat (first | apply Kd.V_alloc | apply Kd.V_drewN | apply Kd.V_drew)); exact Qx.out) hb)
        have n3_ := ak (Kd.V_below (by (with_reducible repeat (first | apply Kd.V_alloc | apply Kd.V_drewN | apply Kd.V_drew)); exact Qw.out) hb)
        have n4_ := ak (Kd.V_below (by (with_reducible repeat (first | apply Kd.V_alloc | apply Kd.V_drewN | apply Kd.V_drew)); exact Qv.out) hb)
        have n5_ := ak (Kd.V_below (by (with_reducible repeat (first | apply Kd.V_alloc | apply Kd.V_drewN | apply Kd.V_drew)); exact Qu.out) hb)
        have n6_ := ak (blk_below (bk qc.out) hb)
        have n7_ := ak (blk_below (bk qf.out) hb)
        have n8_ := ak (Kd.C_below (by repeat (first | (with_reducible exact jk.out) | (with_reducible refine Kd.C_alloc ?_ _) | (with_reducible refine Kd.C_drewN ?_ _) | (with_reducible refine Kd.C_drew ?_) | exact jk.out)) hb)
        have n9_ := ak (Kd.C_below (by repeat (first | (with_reducible exact zJ.out) | (with_reducible refine Kd.C_alloc ?_ _) | (with_reducible refine Kd.C_drewN ?_ _) | (with_reducible refine Kd.C_drew ?_) | exact zJ.out)) hb)
        have qd8 := ak (Kd.C_below (by repeat (first | (with_reducible exact zI.out) | (with_reducible refine Kd.C_alloc ?_ _) | (with_reducible refine Kd.C_drewN ?_ _) | (with_reducible refine Kd.C_drew ?_) | exact zI.out)) hb)
        have qd7 := ak (Kd.C_below (by repeat (first | (with_reducible exact zD.out) | (with_reducible refine Kd.C_alloc ?_ _) | (with_reducible refine Kd.C_drewN ?_ _) | (with_reducible refine Kd.C_drew ?_) | exact zD.out)) hb)
        have qd6 := ak (below_step (bw HB.out) hb)
        clear HO_7
        clear HO_102001
        clear Qx
        clear Qw
        clear Qv
        clear Qu
        clear qc
        clear qf
        clear jk
        clear zJ
        clear zI
        clear zD
        clear HB
        have HO_7 := n0_
        have HO_102001 := n1_
        have Qx := n2_
        have Qw := n3_
        have Qv := n4_
        have Qu := n5_
        have qc := n6_
        have qf := n7_
        have jk := n8_
        have zJ := n9_
        have zI := qd8
        have zD := qd7
        have HB := qd6
        clear n0_ n1_ n2_ n3_ n4_ n5_ n6_ n7_ n8_ n9_ qd8 qd7 qd6
        (try clear hb)
        (try clear hb2)
        (try clear hk)
        (try clear hi)
        refine hK.out _ _ ⟨(blk_cell qc.out 0).trans rfl, (blk_cell qc.out 1).trans rfl, (blk_cell qf.out 0).trans rfl, qeh, qeE, qeD, qeC, qeg, qef, qee, qhC, qoM, qoL, qoK, qoJ, qoI, qoH⟩ (fun hHeld => ?_)
        clear hK K
        refine norm_ (a' := ?_) ?_ ?_; rotate_left; go_simp; rfl
        refine pu_ HT_ 8 24 (bA 23 511) (v := ?_) (a' := ?_) rfl rfl (by kernel_rfl) (fun _ _ _ h => h) (by rfl) ?_ ?_ ?_; rotate_left; intro w'; go_simp; with_reducible rfl; rotate_left; go_simp; rfl
        refine pu_ HT_ 9 25 (bA 23 1023) (v := ?_) (a' := ?_) rfl rfl (by kernel_rfl) (fun _ _ _ h => h) (by rfl) ?_ ?_ ?_; rotate_left; intro w'; go_simp; with_reducible rfl; rotate_left; go_simp; rfl
        refine pu_ HT_ 10 26 (bA 23 2047) (v := ?_) (a' := ?_) rfl rfl (by kernel_rfl) (fun _ _ _ h => h) (by rfl) ?_ ?_ ?_; rotate_left; intro w'; go_simp; with_reducible rfl; rotate_left; go_simp; rfl
        refine pu_ HT_ 11 27 (bA 23 4095) (v := ?_) (a' := ?_) rfl rfl (by kernel_rfl) (fun _ _ _ h => h) (by rfl) ?_ ?_ ?_; rotate_left; intro w'; go_simp; with_reducible rfl; rotate_left; go_simp; rfl
        refine pu_ HT_ 12 28 (bA 23 8191) (v := ?_) (a' := ?_) rfl rfl (by kernel_rfl) (fun _ _ _ h => h) (by rfl) ?_ ?_ ?_; rotate_left; intro w'; go_simp; with_reducible rfl; rotate_left; go_simp; rfl
        refine pu_ HT_ 13 29 (bA 23 16383) (v := ?_) (a' := ?_) rfl rfl (by kernel_rfl) (fun _ _ _ h => h) (by rfl) ?_ ?_ ?_; rotate_left; intro w'; go_simp; with_reducible rfl; rotate_left; go_simp; rfl
        refine pu_ HT_ 15 31 (bA 23 49151) (v := ?_) (a' := ?_) rfl rfl (by kernel_rfl) (fun _ _ _ h => h) (by rfl) ?_ ?_ ?_; rotate_left; intro w'; go_simp; with_reducible rfl; rotate_left; go_simp; rfl
        refine pu_ HT_ 19 35 (bA 23 573439) (v := ?_) (a' := ?_) rfl rfl (by kernel_rfl) (fun _ _ _ h => h) (by rfl) ?_ ?_ ?_; rotate_left; intro w'; go_simp; with_reducible rfl; rotate_left; go_simp; rfl
        refine take_ (i := 14) (N := some 30) (v := ?_) (a' := ?_) (bA 23 589823) rfl rfl (take_ofW HT_.out HW_.out (by kernel_rfl)) (fun _ _ _ h => h) (Or.inl ⟨by rfl, ?_⟩) hHeld ?_ ?_
        rotate_left; rintro w' ⟨s0, s1, s2, s3, s4, s5, s6, s7, s8, s9, s10, s11, s12, s13, s14, s15, s16⟩; go_simp; with_reducible rfl; rotate_left; go_simp; rfl
        refine pu_ HT_ 16 32 (bA 23 655359) (v := ?_) (a' := ?_) rfl rfl (by kernel_rfl) (fun _ _ _ h => h) (by rfl) ?_ ?_ ?_; rotate_left; intro w'; go_simp; with_reducible rfl; rotate_left; go_simp; rfl
        refine pu_ HT_ 17 33 (bA 23 786431) (v := ?_) (a' := ?_) rfl rfl (by kernel_rfl) (fun _ _ _ h => h) (by rfl) ?_ ?_ ?_; rotate_left; intro w'; go_simp; with_reducible rfl; rotate_left; go_simp; rfl
        refine take_ (i := 18) (N := some 34) (v := ?_) (a' := ?_) (bA 23 1048575) rfl rfl (take_ofW HT_.out HW_.out (by kernel_rfl)) (fun _ _ _ h => h) (Or.inl ⟨by rfl, ?_⟩) hHeld ?_ ?_
        rotate_left; rintro w' ⟨s0, s1, s2, s3, s4, s5, s6, s7, s8, s9, s10, s11, s12, s13, s14, s15, s16⟩; go_simp; with_reducible rfl; rotate_left; go_simp; rfl
        refine pu_ HT_ 20 36 (bA 23 2097151) (v := ?_) (a' := ?_) rfl rfl (by kernel_rfl) (fun _ _ _ h => h) (by rfl) ?_ ?_ ?_; rotate_left; intro w'; go_simp; with_reducible rfl; rotate_left; go_simp; rfl
        refine pu_ HT_ 21 37 (bA 23 4194303) (v := ?_) (a' := ?_) rfl rfl (by kernel_rfl) (fun _ _ _ h => h) (by rfl) ?_ ?_ ?_; rotate_left; intro w'; go_simp; with_reducible rfl; rotate_left; go_simp; rfl
        refine pu_ HT_ 22 38 (bA 23 8388607) (v := ?_) (a' := ?_) rfl rfl (by kernel_rfl) (fun _ _ _ h => h) (by rfl) ?_ ?_ ?_; rotate_left; intro w'; go_simp; with_reducible rfl; rotate_left; go_simp; rfl
        refine done_ (done_of HT_.out (by kernel_rfl)) ?_
        (try clear hHeld); (try clear qeh); (try clear qeE); (try clear qeD); (try clear qeC); (try clear qeg); (try clear qef); (try clear qee); (try clear qhC)
        try go_wp2
        go_roundg k1
        case measure => have := HK1.out; omega
        case rel => exact ⟨(Ql), (wrap64 (qr + 1)), (by first | rfl | (simp; done) | (simp [*]; done)), H', ⟨by have := HK1.out; omega⟩, ⟨by (with_reducible repeat (first | apply Kd.N_alloc | apply Kd.N_drewN | apply Kd.N_drew)); exact HO_7.out⟩, ⟨by (with_reducible repeat (first | apply Kd.V_alloc | apply Kd.V_drewN | apply Kd.V_drew)); exact HO_102001.out⟩, ⟨bk qc.out⟩, ⟨bk qf.out⟩, ⟨bw HB.out⟩⟩
     ·rw [if_neg c9] at H
      have c9b0 : (qK == 0) = false := beq_eq_false_iff_ne.mpr c9
      have c9b1 : (qK != 0) = true := bne_iff_ne.mpr c9
      have H' := ak H
      clear H
      have qvd := qO.out
      have qu5 := qN.out
      obtain ⟨qdT, qdS, qdD, qdC⟩ := cells2 qc.out
      try go_wp2
      have n0_ := ak (Kd.N_drew HO_7.out)
      have n1_ := ak (Kd.V_drew HO_102001.out)
      have n2_ := ak (blk_drew qc.out)
      have n3_ := ak (blk_drew qf.out)
      have n4_ := ak (below_drew1 HB.out)
      clear HO_7
      clear HO_102001
      clear qc
      clear qf
      clear HB
      have HO_7 := n0_
      have HO_102001 := n1_
      have qc := n2_
      have qf := n3_
      have HB := n4_
      clear n0_ n1_ n2_ n3_ n4_
      have zv : 0 ≤ (qr : Int) := of_decide_eq_true (by first | (with_reducible assumption) | assumption)
      have zt : qr < (qb.length : Int) := of_decide_eq_true (by first | (with_reducible assumption) | assumption)
      obtain ⟨qJ, jz, jy, za, jY, jZ, jX, zf, jW, Zg, jP, yO, yN, yM, yi, yh, yg, ya, yb, Jb, Jk, Ja, Jj, QZ, Ji⟩ := Qi (Kd.V_reads' HO_102001.out).2.2 qr zv zt
      cases Zg
      obtain ⟨qoA, qd9, qea, Jt⟩ := Kd.V_get HO_102001.out z33 qr zv (by first | exact zt | exact of_decide_eq_true (by first | (with_reducible assumption) | assumption) | (have e_ := (Kd.V_reads' HO_102001.out).1; omega))
      obtain ⟨qiV, qiR, qiU, qiQ, qiT, qiP, qiS, qiO, rfl, ZL, ZW, ZK, ZV, ZJ, ZU, ZI, ZT⟩ := k33_openF qea
      have JM := Jt 0 _ rfl
      rw [Nat.add_zero] at JM
      replace JM := Option.some.inj (JM.symm.trans jP)
      injection JM with hva_ hvn_ hvc_
      rw [hva_] at ZW
      rw [hvc_] at ZL
      have Qx := ak (show Kd.V (Kd.slice 5 (Kd.int .u8)) 25 _ w.heap.size _ _ ((qa qb qr).f0.f0) from Kd.V_mk ZL ZW)
      clear hva_ hvn_ hvc_ ZW ZL
      have JL := Jt 4 _ rfl
      rw [add_field _ _ 4 (by omega)] at JL
      replace JL := Option.some.inj (JL.symm.trans yi)
      injection JL with hva_ hvn_ hvc_
      rw [hva_] at ZV
      rw [hvc_] at ZK
      have Qw := ak (show Kd.V (Kd.slice 5 (Kd.int .u8)) 25 _ w.heap.size _ _ ((qa qb qr).f4.f0) from Kd.V_mk ZK ZV)
      clear hva_ hvn_ hvc_ ZV ZK
      have JK := Jt 5 _ rfl
      rw [add_field _ _ 5 (by omega)] at JK
      replace JK := Option.some.inj (JK.symm.trans yh)
      injection JK with hva_ hvn_ hvc_
      rw [hva_] at ZU
      rw [hvc_] at ZJ
      have Qv := ak (show Kd.V (Kd.int .u8) 5 _ w.heap.size _ _ ((qa qb qr).f5) from Kd.V_mk ZJ ZU)
      clear hva_ hvn_ hvc_ ZU ZJ
      have JJ := Jt 6 _ rfl
      rw [add_field _ _ 6 (by omega)] at JJ
      replace JJ := Option.some.inj (JJ.symm.trans yg)
      injection JJ with hva_ hvn_ hvc_
      rw [hva_] at ZT
      rw [hvc_] at ZI
      have Qu := ak (show Kd.V (Kd.int .i64) 3 _ w.heap.size _ _ ((qa qb qr).f6) from Kd.V_mk ZI ZT)
      clear hva_ hvn_ hvc_ ZT ZI
      clear Jt qd9
      have jk := ak yb
      have zk := ak ya
      clear yb ya
      have zJ := ak Jk
      have YK := ak Jb
      clear Jk Jb
      have zI := ak Jj
      have YJ := ak Ja
      clear Jj Ja
      have zD := ak Ji
      have YI := ak QZ
      clear Ji QZ
      replace zv := eq_true zv
      replace zt := eq_true zt
      refine start_ (n := 23) (S := fun w' => w'.cell? ⟨qi, 0, none⟩ = some (.slice qq qd.length qp) ∧ w'.cell? ⟨qi, 1, none⟩ = some (.slice (some qJ) qb.length je) ∧ w'.cell? ⟨qg, 0, none⟩ = some (.slice jn qn.length jm) ∧ w'.cell? (qJ.add ((qr).toNat * 7)) = some (.slice jz ((qa qb qr).f0.f0).length jy) ∧ w'.cell? ⟨(qJ.add ((qr).toNat * 7)).block, (qJ.add ((qr).toNat * 7)).off + 1, none⟩ = some (.int .i64 ((qa qb qr).f1)) ∧ w'.cell? ⟨(qJ.add ((qr).toNat * 7)).block, (qJ.add ((qr).toNat * 7)).off + 2, none⟩ = some (.int .i64 ((qa qb qr).f2)) ∧ w'.cell? ⟨(qJ.add ((qr).toNat * 7)).block, (qJ.add ((qr).toNat * 7)).off + 3, none⟩ = some (.int .i64 ((qa qb qr).f3)) ∧ w'.cell? ⟨(qJ.add ((qr).toNat * 7)).block, (qJ.add ((qr).toNat * 7)).off + 4, none⟩ = some (.slice za ((qa qb qr).f4.f0).length jY) ∧ w'.cell? ⟨(qJ.add ((qr).toNat * 7)).block, (qJ.add ((qr).toNat * 7)).off + 5, none⟩ = some (.slice jZ ((qa qb qr).f5).length jX) ∧ w'.cell? ⟨(qJ.add ((qr).toNat * 7)).block, (qJ.add ((qr).toNat * 7)).off + 6, none⟩ = some (.slice zf ((qa qb qr).f6).length jW)) (ds := []) (bA 23 0) (by kernel_rfl) rfl rfl ⟨(blk_cell qc.out 0).trans rfl, (blk_cell qc.out 1).trans rfl, (blk_cell qf.out 0).trans rfl, jP, yO, yN, yM, yi, yh, yg⟩ (fun hHeld => ?_); refine with_tabW jq.tab5 jq.bits5 (fun HT_ HW_ => ?_)
      generalize wr.drew = w32 at HO_7 HO_102001 qc qf HB Qx Qw Qv Qu jk zJ zI zD jP yO yN yM yi yh yg hHeld ⊢
      refine pu_ HT_ 0 16 (bA 23 1) (v := ?_) (a' := ?_) rfl rfl (by kernel_rfl) (fun _ _ _ h => h) (by rfl) ?_ ?_ ?_; rotate_left; intro w'; go_simp; with_reducible rfl; rotate_left; go_simp; rfl
      refine pu_ HT_ 2 18 (bA 23 5) (v := ?_) (a' := ?_) rfl rfl (by kernel_rfl) (fun _ _ _ h => h) (by rfl) ?_ ?_ ?_; rotate_left; intro w'; go_simp; with_reducible rfl; rotate_left; go_simp; rfl
      refine take_ (i := 1) (N := some 17) (v := ?_) (a' := ?_) (bA 23 7) rfl rfl (take_ofW HT_.out HW_.out (by kernel_rfl)) (fun _ _ _ h => h) (Or.inl ⟨by rfl, ?_⟩) hHeld ?_ ?_
      rotate_left; rintro w' ⟨s0, s1, s2, s3, s4, s5, s6, s7, s8, s9⟩; go_simp; with_reducible rfl; rotate_left; go_simp; rfl
      refine pu_ HT_ 3 19 (bA 23 15) (v := ?_) (a' := ?_) rfl rfl (by kernel_rfl) (fun _ _ _ h => h) (by rfl) ?_ ?_ ?_; rotate_left; intro w'; go_simp; with_reducible rfl; rotate_left; go_simp; rfl
      refine pu_ HT_ 4 20 (bA 23 31) (v := ?_) (a' := ?_) rfl rfl (by kernel_rfl) (fun _ _ _ h => h) (by rfl) ?_ ?_ ?_; rotate_left; intro w'; go_simp; with_reducible rfl; rotate_left; go_simp; rfl
      refine take_ (i := 5) (N := some 21) (v := ?_) (a' := ?_) (bA 23 63) rfl rfl (take_ofW HT_.out HW_.out (by kernel_rfl)) (fun _ _ _ h => h) (Or.inl ⟨by rfl, ?_⟩) hHeld ?_ ?_
      rotate_left; rintro w' ⟨s0, s1, s2, s3, s4, s5, s6, s7, s8, s9⟩; go_simp; with_reducible rfl; rotate_left; go_simp; rfl
      refine take_ (i := 6) (N := some 22) (v := ?_) (a' := ?_) (bA 23 127) rfl rfl (take_ofW HT_.out HW_.out (by kernel_rfl)) (fun _ _ _ h => h) (Or.inl ⟨by rfl, ?_⟩) hHeld ?_ ?_
      rotate_left; rintro w' ⟨s0, s1, s2, s3, s4, s5, s6, s7, s8, s9⟩; go_simp; with_reducible rfl; rotate_left; go_simp; rfl
      refine one_ (i := 7) (N := some 23) (bA 23 255) rfl rfl (one_of HT_.out (by kernel_rfl)) (by decide) (fun K hK => ?_)
      refine goes_ Try.func98 (by kernel_rfl) rfl #[.agg #[.slice jz ((qa qb qr).f0.f0).length jy], .agg #[.slice jn qn.length jm]] (by rfl) rfl rfl (by first | rfl | (simp only [List.map_toArray, List.map_cons, List.map_nil]; first | done | rfl)) ?_
      with_reducible refine (jc.calls k1 _ _ ((qa qb qr).f0.f0) _ _ qn qK _ ?qk ?qj ?qw ?qy A8.out).mono ?_
      (case qk => repeat (first | exact (by repeat (first | (with_reducible exact jk.out) | (with_reducible refine Kd.C_alloc ?_ _) | (with_reducible refine Kd.C_drewN ?_ _) | (with_reducible refine Kd.C_drew ?_) | exact jk.out)) | (with_reducible refine Kd.C_alloc ?_ _) | (with_reducible refine Kd.C_drewN ?_ _) | (with_reducible refine Kd.C_drew ?_)))
      (case qj => exact zk.out)
      (case qw => exact cw yo.out HB.out)
      (case qy => exact yE.out)
      rintro e w33 ⟨rfl, hb⟩
      have qeh := (hb.cell (World.block_lt_of_cell? _ _ (hHeld.2.2.2.1))).trans (hHeld.2.2.2.1)
      have qeE := (hb.cell (World.block_lt_of_cell? _ _ (hHeld.2.2.2.2.1))).trans (hHeld.2.2.2.2.1)
      have qeD := (hb.cell (World.block_lt_of_cell? _ _ (hHeld.2.2.2.2.2.1))).trans (hHeld.2.2.2.2.2.1)
      have qeC := (hb.cell (World.block_lt_of_cell? _ _ (hHeld.2.2.2.2.2.2.1))).trans (hHeld.2.2.2.2.2.2.1)
      have qeg := (hb.cell (World.block_lt_of_cell? _ _ (hHeld.2.2.2.2.2.2.2.1))).trans (hHeld.2.2.2.2.2.2.2.1)
      have qef := (hb.cell (World.block_lt_of_cell? _ _ (hHeld.2.2.2.2.2.2.2.2.1))).trans (hHeld.2.2.2.2.2.2.2.2.1)
      have qee := (hb.cell (World.block_lt_of_cell? _ _ (hHeld.2.2.2.2.2.2.2.2.2))).trans (hHeld.2.2.2.2.2.2.2.2.2)
      refine ⟨_, rfl, ?_⟩
      have n0_ := ak (Kd.N_below (by (with_reducible repeat (first | apply Kd.N_alloc | apply Kd.N_drewN | apply Kd.N_drew)); exact HO_7.out) hb)
      have n1_ := ak (Kd.V_below (by (with_reducible repeat (first | apply Kd.V_alloc | apply Kd.V_drewN | apply Kd.V_drew)); exact HO_102001.out) hb)
      have n2_ := ak (Kd.V_below (by (with_reducible repeat (first | apply Kd.V_alloc | apply Kd.V_drewN | apply Kd.V_drew)); exact Qx.out) hb)
      have n3_ := ak (Kd.V_below (by (with_reducible repeat (first | apply Kd.V_alloc | apply Kd.V_drewN | apply Kd.V_drew)); exact Qw.out) hb)
      have n4_ := ak (Kd.V_below (by (with_reducible repeat (first | apply Kd.V_alloc | apply Kd.V_drewN | apply Kd.V_drew)); exact Qv.out) hb)
      have n5_ := ak (Kd.V_below (by (with_reducible repeat (first | apply Kd.V_alloc | apply Kd.V_drewN | apply Kd.V_drew)); exact Qu.out) hb)
      have n6_ := ak (blk_below (bk qc.out) hb)
      have n7_ := ak (blk_below (bk qf.out) hb)
      have n8_ := ak (Kd.C_below (by repeat (first | (with_reducible exact jk.out) | (with_reducible refine Kd.C_alloc ?_ _) | (with_reducible refine Kd.C_drewN ?_ _) | (with_reducible refine Kd.C_drew ?_) | exact jk.out)) hb)
      have n9_ := ak (Kd.C_below (by repeat (first | (with_reducible exact zJ.out) | (with_reducible refine Kd.C_alloc ?_ _) | (with_reducible refine Kd.C_drewN ?_ _) | (with_reducible refine Kd.C_drew ?_) | exact zJ.out)) hb)
      have qd8 := ak (Kd.C_below (by repeat (first | (with_reducible exact zI.out) | (with_reducible refine Kd.C_alloc ?_ _) | (with_reducible refine Kd.C_drewN ?_ _) | (with_reducible refine Kd.C_drew ?_) | exact zI.out)) hb)
      have qd7 := ak (Kd.C_below (by repeat (first | (with_reducible exact zD.out) | (with_reducible refine Kd.C_alloc ?_ _) | (with_reducible refine Kd.C_drewN ?_ _) | (with_reducible refine Kd.C_drew ?_) | exact zD.out)) hb)
      have qd6 := ak (below_step (bw HB.out) hb)
      clear HO_7
      clear HO_102001
      clear Qx
      clear Qw
      clear Qv
      clear Qu
      clear qc
      clear qf
      clear jk
      clear zJ
      clear zI
      clear zD
      clear HB
      have HO_7 := n0_
      have HO_102001 := n1_
      have Qx := n2_
      have Qw := n3_
      have Qv := n4_
      have Qu := n5_
      have qc := n6_
      have qf := n7_
      have jk := n8_
      have zJ := n9_
      have zI := qd8
      have zD := qd7
      have HB := qd6
      clear n0_ n1_ n2_ n3_ n4_ n5_ n6_ n7_ n8_ n9_ qd8 qd7 qd6
      (try clear hb)
      (try clear hb2)
      (try clear hk)
      (try clear hi)
      refine hK.out _ _ ⟨(blk_cell qc.out 0).trans rfl, (blk_cell qc.out 1).trans rfl, (blk_cell qf.out 0).trans rfl, qeh, qeE, qeD, qeC, qeg, qef, qee⟩ (fun hHeld => ?_)
      clear hK K
      refine norm_ (a' := ?_) ?_ ?_; rotate_left; go_simp; rfl
      refine pu_ HT_ 8 24 (bA 23 511) (v := ?_) (a' := ?_) rfl rfl (by kernel_rfl) (fun _ _ _ h => h) (by rfl) ?_ ?_ ?_; rotate_left; intro w'; go_simp; with_reducible rfl; rotate_left; go_simp; rfl
      refine pu_ HT_ 9 25 (bA 23 1023) (v := ?_) (a' := ?_) rfl rfl (by kernel_rfl) (fun _ _ _ h => h) (by rfl) ?_ ?_ ?_; rotate_left; intro w'; go_simp; with_reducible rfl; rotate_left; go_simp; rfl
      refine sk_ HT_ 10 26 (bA 23 2047) (a' := ?_) rfl rfl (by kernel_rfl) (fun _ _ _ h => h) (by rfl) ?_ ?_; rotate_left; go_simp; rfl
      refine sk_ HT_ 11 27 (bA 23 4095) (a' := ?_) rfl rfl (by kernel_rfl) (fun _ _ _ h => h) (by rfl) ?_ ?_; rotate_left; go_simp; rfl
      refine sk_ HT_ 12 28 (bA 23 8191) (a' := ?_) rfl rfl (by kernel_rfl) (fun _ _ _ h => h) (by rfl) ?_ ?_; rotate_left; go_simp; rfl
      refine sk_ HT_ 13 29 (bA 23 16383) (a' := ?_) rfl rfl (by kernel_rfl) (fun _ _ _ h => h) (by rfl) ?_ ?_; rotate_left; go_simp; rfl
      refine sk_ HT_ 14 30 (bA 23 32767) (a' := ?_) rfl rfl (by kernel_rfl) (fun _ _ _ h => h) (by rfl) ?_ ?_; rotate_left; go_simp; rfl
      refine sk_ HT_ 15 31 (bA 23 65535) (a' := ?_) rfl rfl (by kernel_rfl) (fun _ _ _ h => h) (by rfl) ?_ ?_; rotate_left; go_simp; rfl
      refine sk_ HT_ 16 32 (bA 23 131071) (a' := ?_) rfl rfl (by kernel_rfl) (fun _ _ _ h => h) (by rfl) ?_ ?_; rotate_left; go_simp; rfl
      refine sk_ HT_ 17 33 (bA 23 262143) (a' := ?_) rfl rfl (by kernel_rfl) (fun _ _ _ h => h) (by rfl) ?_ ?_; rotate_left; go_simp; rfl
      refine sk_ HT_ 18 34 (bA 23 524287) (a' := ?_) rfl rfl (by kernel_rfl) (fun _ _ _ h => h) (by rfl) ?_ ?_; rotate_left; go_simp; rfl
      refine sk_ HT_ 19 35 (bA 23 1048575) (a' := ?_) rfl rfl (by kernel_rfl) (fun _ _ _ h => h) (by rfl) ?_ ?_; rotate_left; go_simp; rfl
      refine sk_ HT_ 20 36 (bA 23 2097151) (a' := ?_) rfl rfl (by kernel_rfl) (fun _ _ _ h => h) (by rfl) ?_ ?_; rotate_left; go_simp; rfl
      refine sk_ HT_ 21 37 (bA 23 4194303) (a' := ?_) rfl rfl (by kernel_rfl) (fun _ _ _ h => h) (by rfl) ?_ ?_; rotate_left; go_simp; rfl
      refine pu_ HT_ 22 38 (bA 23 8388607) (v := ?_) (a' := ?_) rfl rfl (by kernel_rfl) (fun _ _ _ h => h) (by rfl) ?_ ?_ ?_; rotate_left; intro w'; go_simp; with_reducible rfl; rotate_left; go_simp; rfl
      refine done_ (done_of HT_.out (by kernel_rfl)) ?_
      (try clear hHeld); (try clear qeh); (try clear qeE); (try clear qeD); (try clear qeC); (try clear qeg); (try clear qef); (try clear qee); (try clear qhC)
      try go_wp2
      go_roundg k1
      case measure => have := HK1.out; omega
      case rel => exact ⟨(Ql), (wrap64 (qr + 1)), (by first | rfl | (simp; done) | (simp [*]; done)), H', ⟨by have := HK1.out; omega⟩, ⟨by (with_reducible repeat (first | apply Kd.N_alloc | apply Kd.N_drewN | apply Kd.N_drew)); exact HO_7.out⟩, ⟨by (with_reducible repeat (first | apply Kd.V_alloc | apply Kd.V_drewN | apply Kd.V_drew)); exact HO_102001.out⟩, ⟨bk qc.out⟩, ⟨bk qf.out⟩, ⟨bw HB.out⟩⟩
    ·rw [if_neg c7] at H
     exact absurd H (by simp)
   ·rw [if_neg c6] at H
    have c6b0 : decide (qr < (qb.length : Int)) = false := decide_eq_false c6
    clear c6
    obtain rfl := Option.some.inj H
    have qD8 := qO.out
    have qDG := qN.out
    obtain ⟨qcE, qcD, qcj, qci⟩ := cells2 qc.out
    go_wp2
    go_ret
    exact ⟨_, by first | rfl | (simp [errW_none, errW_some] <;> rfl) | (simp [*, errW_none, errW_some] <;> rfl), by (with_reducible repeat (first | apply Kd.N_alloc | apply Kd.N_drewN | apply Kd.N_drew)); exact Kd.N_mono HO_7.out (fun _ hk => hk.1), bw HB.out⟩


/-! ### Yy: function 110 -/
def Yy.f (k : Nat) (qd : List (List Int)) (qb : List (S33)) : Option ((List (List Int)) × Int × Int × Int × (List (List Int)) × List Int × List Int) := (jq.f k qd qb qd 6).bind fun qx => (if 0 < (qx.length : Int) then (some ((qa qx 0).f0.f0, (qa qx 0).f1, (qa qx 0).f2, (qa qx 0).f3, (qa qx 0).f4.f0, (qa qx 0).f5, (qa qx 0).f6)) else (none))
set_option maxHeartbeats 8000000 in
set_option maxRecDepth 100000 in
theorem Yy.calls (k : Nat) (qq : Option Addr) (qp : Nat) (qd : List (List Int)) (jj : Nat → Prop) (jA : Option Addr) (je : Nat) (qb : List (S33)) (r1 : List (List Int)) (r2 : Int) (r3 : Int) (r4 : Int) (r5 : List (List Int)) (r6 : List Int) (r7 : List Int) (w : World) (jd : Kd.C (Kd.slice 5 (Kd.int .u8)) w qq qd.length qd) (jg : qd.length ≤ qp) (qip : Kd.V k33 33 w w.heap.size (fun k_ => jj k_) (.slice jA qb.length je) qb) (h : Yy.f k qd qb = some (r1, r2, r3, r4, r5, r6, r7)) :
  Calls Try.prog 110 #[.agg #[.slice qq qd.length qp, .slice jA qb.length je]] w fun e w' => ∃ v0_ v4_ v5_ v6_ : Value, e = .returned (.agg #[v0_, .int .i64 r2, .int .i64 r3, .int .i64 r4, v4_, v5_, v6_]) ∧ Kd.V (Kd.slice 5 (Kd.int .u8)) 25 w' w.heap.size (fun k_ => (jj k_ ∨ w.heap.size ≤ k_)) v0_ r1 ∧ Kd.V (Kd.slice 5 (Kd.int .u8)) 25 w' w.heap.size (fun k_ => (jj k_ ∨ w.heap.size ≤ k_)) v4_ r5 ∧ Kd.V (Kd.int .u8) 5 w' w.heap.size (fun k_ => (jj k_ ∨ w.heap.size ≤ k_)) v5_ r6 ∧ Kd.V (Kd.int .i64) 3 w' w.heap.size (fun k_ => (jj k_ ∨ w.heap.size ≤ k_)) v6_ r7 ∧ Below w.heap.size w w' := by
 have qez := Try.underlying59
 have qak := Try.underlying33
 have Ys := Try.underlying31
 have qW := ak jd
 have jb := ak jg
 clear jd jg
 have ZG := ak (show Kd.V k33 33 w w.heap.size (fun k_ => (jj k_ ∨ w.heap.size ≤ k_)) (.slice jA qb.length je) qb from Kd.V_mono qip (fun k_ hk => .inl hk))
 have HB := ak (Below.refl w.heap.size w)
 have H : ((jq.f k qd qb qd 6).bind fun qx => (if 0 < (qx.length : Int) then (some ((qa qx 0).f0.f0, (qa qx 0).f1, (qa qx 0).f2, (qa qx 0).f3, (qa qx 0).f4.f0, (qa qx 0).f5, (qa qx 0).f6)) else (none))) = some (r1, r2, r3, r4, r5, r6, r7) := h
 clear h
 replace H := Option.bind_eq_some_iff.mp H
 obtain ⟨qx, A20, H⟩ := H
 replace H : (if 0 < (qx.length : Int) then (some ((qa qx 0).f0.f0, (qa qx 0).f1, (qa qx 0).f2, (qa qx 0).f3, (qa qx 0).f4.f0, (qa qx 0).f5, (qa qx 0).f6)) else (none)) = some (r1, r2, r3, r4, r5, r6, r7) := H
 have A2 := ak A20
 clear A20
 by_cases c3 : 0 < (qx.length : Int)
 ·rw [if_pos c3] at H
  have c3b0 : decide (0 < (qx.length : Int)) = true := decide_eq_true c3
  have c3b1 : decide (0 < qx.length) = true := decide_eq_true (by omega)
  clear c3
  simp only [Option.some.injEq, Prod.mk.injEq] at H
  obtain ⟨rfl, rfl, rfl, rfl, rfl, rfl, rfl⟩ := H
  go_enter Try.func110, Try.ntmps110
  go_wp2_with (first | ((with_reducible refine gate_dst (N := 1) rfl ?_); refine box_event ?hg (N := 1) ?hd (cs := #[.slice qq qd.length qp, .slice jA qb.length je]) (t := 59) ?hr ?_; (case hd => rfl); (case hg => rfl); (case hr => first | (go_simp; done) | (go_simp; rfl)); intro qi hg w4 hbox hb; replace ZG := ak (Kd.V_below (Kd.V_elderB (by (with_reducible repeat (first | apply Kd.V_alloc | apply Kd.V_drewN | apply Kd.V_drew)); exact ZG.out) qi (Nat.le_of_eq hg.symm)) hb); have qc := ak (hbox); have jD := ak ((by rw [hg]; exact (below_size (bw HB.out)) : w.heap.size ≤ qi)); have qm := ak ((by rw [hg]; exact (below_size (bw HB.out)) : w.heap.size ≤ qi)); replace HB := ak (below_step (bw HB.out) hb); clear hb hbox hg) | ((with_reducible refine gate_dst (N := 2) rfl ?_); refine box_event ?hg (N := 2) ?hd (cs := #[.slice none 0 0, .int .i64 0, .int .i64 0, .int .i64 0, .slice none 0 0, .slice none 0 0, .slice none 0 0]) (t := 33) ?hr ?_; (case hd => rfl); (case hg => rfl); (case hr => first | (go_simp; done) | (go_simp; rfl)); intro qg hg w5 hbox hb; replace ZG := ak (Kd.V_below (Kd.V_elderB (by (with_reducible repeat (first | apply Kd.V_alloc | apply Kd.V_drewN | apply Kd.V_drew)); exact ZG.out) qg (Nat.le_of_eq hg.symm)) hb); have qf := ak (hbox); have QS := ak ((by rw [hg]; exact (below_size (by repeat (first | exact bw HB.out | refine below_set ?_ qm.out))) : w.heap.size ≤ qg)); have ji := ak ((by rw [hg]; exact (below_size (by repeat (first | exact bw HB.out | refine below_set ?_ qm.out))) : w.heap.size ≤ qg)); replace HB := ak (below_step (by repeat (first | exact bw HB.out | refine below_set ?_ qm.out)) hb); have qO := ak ((by rw [hg]; exact Nat.ne_of_lt (blk_lt (bk qc.out)) : qi ≠ qg)); have qN := ak ((by rw [hg]; exact Nat.ne_of_gt (blk_lt (bk qc.out)) : qg ≠ qi)); replace qc := ak (blk_below (bk qc.out) hb); clear hb hbox hg; have qt2 := qO.out; have qt1 := qN.out; obtain ⟨qb6, qde, qb3, qdc⟩ := cells2 qc.out) | ((with_reducible refine gate_callee (f := 177) rfl ?_); refine goesL_ (some 6) rfl rfl Try.func177 (by kernel_rfl) rfl #[.agg #[.slice qq qd.length qp, .slice jA qb.length je], .agg #[.slice qq qd.length qp], .int .i64 6] rfl (by first | rfl | (simp only [List.map_toArray, List.map_cons, List.map_nil]; first | done | rfl)) ?_; (with_reducible refine (jq.calls k _ _ qd (fun k_ => (((jj k_ ∨ w.heap.size ≤ k_) ∧ k_ ≠ qi) ∧ k_ ≠ qg)) _ _ qb _ _ qd 6 qx _ ?qk ?qj ?qw ?qy ?zK A2.out).mono ?_); (case qk => exact cw qW.out HB.out); (case qj => exact jb.out); (case qw => exact ZG.out); (case qy => exact cw qW.out HB.out); (case zK => exact jb.out); rintro e w8 ⟨qpd, rfl, ho0, hb⟩; refine ⟨_, rfl, ?_⟩; replace ZG := ak (Kd.V_elder' (by (with_reducible repeat (first | apply Kd.V_alloc | apply Kd.V_drewN | apply Kd.V_drew)); exact ZG.out) (Kd.N_base ho0) hb); have Qg := ak (Kd.N_lower (Kd.N_mono (ok' := fun k_ => (jj k_ ∨ w.heap.size ≤ k_) ∧ k_ ≠ qi ∧ k_ ≠ qg) ho0 (fun k_ hk_ => ⟨Or.elim hk_ (fun hs_ => hs_.1.1) (fun hn_ => (.inr (Nat.le_trans (below_size (by repeat (first | exact bw HB.out | refine below_set ?_ qm.out | refine below_set ?_ ji.out))) hn_))), Or.elim hk_ (fun hs_ => hs_.1.2) (fun hn_ => (Kd.freshB (g := qi) (o := .cells #[.slice qq qd.length qp, .slice jA qb.length je] 59 (0, 0)) (bk qc.out) k_ hn_)), Or.elim hk_ (fun hs_ => hs_.2) (fun hn_ => (Kd.freshB (g := qg) (o := .cells #[.slice none 0 0, .int .i64 0, .int .i64 0, .int .i64 0, .slice none 0 0, .slice none 0 0, .slice none 0 0] 33 (0, 0)) (bk qf.out) k_ hn_))⟩)) (below_size (by repeat (first | exact bw HB.out | refine below_set ?_ qm.out | refine below_set ?_ ji.out)))); replace qc := ak (blk_below (bk qc.out) hb); replace qf := ak (blk_below (bk qf.out) hb); replace HB := ak (below_step (by repeat (first | exact bw HB.out | refine below_set ?_ qm.out | refine below_set ?_ ji.out)) hb); (try clear hb); (try clear ho0); obtain ⟨Ao9, co9, eo9⟩ := Kd.N_slice Qg.out; subst eo9; have yk : 0 ≤ (0 : Int) := (by omega); have yj : 0 < (qx.length : Int) := of_decide_eq_true (by first | (with_reducible assumption) | assumption); obtain ⟨Yo, yU, yT, Zd, Zc, Zr, Zp, ZC, ZA, YM, zi, JX, JW, JV, Qp, Qo, Qn, QX, Jg, QW, Jf, QV, Je, QU, Jd⟩ := Qi (Kd.N_reads' Qg.out).2.2 0 yk yj; cases YM; obtain ⟨qlk, qb7, qb9, yR⟩ := Kd.N_get Qg.out z33 0 yk (by first | exact yj | exact of_decide_eq_true (by first | (with_reducible assumption) | assumption) | (have e_ := (Kd.N_reads' Qg.out).1; omega)); obtain ⟨qgO, qgK, qgN, qgJ, qgM, qgI, qgL, qgH, rfl, JB, JS, JA, JR, Jz, JQ, Jy, JP⟩ := k33_openF qb9; have Qc := yR 0 _ rfl; rw [Nat.add_zero] at Qc; replace Qc := Option.some.inj (Qc.symm.trans zi); injection Qc with hva_ hvn_ hvc_; rw [hva_] at JS; rw [hvc_] at JB; have zx := ak (show Kd.V (Kd.slice 5 (Kd.int .u8)) 25 _ w.heap.size _ _ ((qa qx 0).f0.f0) from Kd.V_mk JB JS); clear hva_ hvn_ hvc_ JS JB; have Qb := yR 4 _ rfl; rw [add_field _ _ 4 (by omega)] at Qb; replace Qb := Option.some.inj (Qb.symm.trans Qp); injection Qb with hva_ hvn_ hvc_; rw [hva_] at JR; rw [hvc_] at JA; have zV := ak (show Kd.V (Kd.slice 5 (Kd.int .u8)) 25 _ w.heap.size _ _ ((qa qx 0).f4.f0) from Kd.V_mk JA JR); clear hva_ hvn_ hvc_ JR JA; have Qa := yR 5 _ rfl; rw [add_field _ _ 5 (by omega)] at Qa; replace Qa := Option.some.inj (Qa.symm.trans Qo); injection Qa with hva_ hvn_ hvc_; rw [hva_] at JQ; rw [hvc_] at Jz; have zU := ak (show Kd.V (Kd.int .u8) 5 _ w.heap.size _ _ ((qa qx 0).f5) from Kd.V_mk Jz JQ); clear hva_ hvn_ hvc_ JQ Jz; have yZ := yR 6 _ rfl; rw [add_field _ _ 6 (by omega)] at yZ; replace yZ := Option.some.inj (yZ.symm.trans Qn); injection yZ with hva_ hvn_ hvc_; rw [hva_] at JP; rw [hvc_] at Jy; have zT := ak (show Kd.V (Kd.int .i64) 3 _ w.heap.size _ _ ((qa qx 0).f6) from Kd.V_mk Jy JP); clear hva_ hvn_ hvc_ JP Jy; clear yR qb7; have qoo : (0 < qx.length) = True := eq_true (by omega); (try rw [show ((0 : Int)).toNat = 0 from rfl] at zi); (try rw [show 0 * 7 = 0 from rfl] at zi); (try rw [Addr.add_zero'] at zi); (try rw [show ((0 : Int)).toNat = 0 from rfl] at JX); (try rw [show 0 * 7 = 0 from rfl] at JX); (try rw [Addr.add_zero'] at JX); (try rw [show ((0 : Int)).toNat = 0 from rfl] at JW); (try rw [show 0 * 7 = 0 from rfl] at JW); (try rw [Addr.add_zero'] at JW); (try rw [show ((0 : Int)).toNat = 0 from rfl] at JV); (try rw [show 0 * 7 = 0 from rfl] at JV); (try rw [Addr.add_zero'] at JV); (try rw [show ((0 : Int)).toNat = 0 from rfl] at Qp); (try rw [show 0 * 7 = 0 from rfl] at Qp); (try rw [Addr.add_zero'] at Qp); (try rw [show ((0 : Int)).toNat = 0 from rfl] at Qo); (try rw [show 0 * 7 = 0 from rfl] at Qo); (try rw [Addr.add_zero'] at Qo); (try rw [show ((0 : Int)).toNat = 0 from rfl] at Qn); (try rw [show 0 * 7 = 0 from rfl] at Qn); (try rw [Addr.add_zero'] at Qn); have yK := ak Jg; have YW := ak QX; clear Jg QX; have yJ := ak Jf; have qbV := ak QW; clear Jf QW; have yI := ak Je; have qbU := ak QV; clear Je QV; have yH := ak Jd; have qbT := ak QU; clear Jd QU; replace yk := eq_true yk; replace yj := eq_true yj; obtain ⟨qd2, qd1, qf3, qf2, qf1, qf0, qfZ, qdM, qdL, qfK, qfJ, qfI, qfH, qfG⟩ := cells7 qf.out))
  refine bodyPost_ret (results_cell_row rfl _ _ qg 33 #[.slice yU ((qa qx 0).f0.f0).length yT, .int .i64 ((qa qx 0).f1), .int .i64 ((qa qx 0).f2), .int .i64 ((qa qx 0).f3), .slice Zd ((qa qx 0).f4.f0).length Zc, .slice Zr ((qa qx 0).f5).length Zp, .slice ZC ((qa qx 0).f6).length ZA] (0, 0) _ rfl (by (with_reducible repeat (first | refine blk_drewN ?_ _ | refine blk_drew ?_ | refine blk_alloc ?_ _)); refine blk_put (cs := #[.slice yU ((qa qx 0).f0.f0).length yT, .int .i64 ((qa qx 0).f1), .int .i64 ((qa qx 0).f2), .int .i64 ((qa qx 0).f3), .slice Zd ((qa qx 0).f4.f0).length Zc, .slice Zr ((qa qx 0).f5).length Zp, .slice none 0 0]) ?_ 6 _ rfl; (with_reducible repeat (first | refine blk_drewN ?_ _ | refine blk_drew ?_ | refine blk_alloc ?_ _)); refine blk_put (cs := #[.slice yU ((qa qx 0).f0.f0).length yT, .int .i64 ((qa qx 0).f1), .int .i64 ((qa qx 0).f2), .int .i64 ((qa qx 0).f3), .slice Zd ((qa qx 0).f4.f0).length Zc, .slice none 0 0, .slice none 0 0]) ?_ 5 _ rfl; (with_reducible repeat (first | refine blk_drewN ?_ _ | refine blk_drew ?_ | refine blk_alloc ?_ _)); refine blk_put (cs := #[.slice yU ((qa qx 0).f0.f0).length yT, .int .i64 ((qa qx 0).f1), .int .i64 ((qa qx 0).f2), .int .i64 ((qa qx 0).f3), .slice none 0 0, .slice none 0 0, .slice none 0 0]) ?_ 4 _ rfl; (with_reducible repeat (first | refine blk_drewN ?_ _ | refine blk_drew ?_ | refine blk_alloc ?_ _)); refine blk_put (cs := #[.slice yU ((qa qx 0).f0.f0).length yT, .int .i64 ((qa qx 0).f1), .int .i64 ((qa qx 0).f2), .int .i64 0, .slice none 0 0, .slice none 0 0, .slice none 0 0]) ?_ 3 _ rfl; (with_reducible repeat (first | refine blk_drewN ?_ _ | refine blk_drew ?_ | refine blk_alloc ?_ _)); refine blk_put (cs := #[.slice yU ((qa qx 0).f0.f0).length yT, .int .i64 ((qa qx 0).f1), .int .i64 0, .int .i64 0, .slice none 0 0, .slice none 0 0, .slice none 0 0]) ?_ 2 _ rfl; (with_reducible repeat (first | refine blk_drewN ?_ _ | refine blk_drew ?_ | refine blk_alloc ?_ _)); refine blk_put (cs := #[.slice yU ((qa qx 0).f0.f0).length yT, .int .i64 0, .int .i64 0, .int .i64 0, .slice none 0 0, .slice none 0 0, .slice none 0 0]) ?_ 1 _ rfl; (with_reducible repeat (first | refine blk_drewN ?_ _ | refine blk_drew ?_ | refine blk_alloc ?_ _)); refine blk_put (cs := #[.slice none 0 0, .int .i64 0, .int .i64 0, .int .i64 0, .slice none 0 0, .slice none 0 0, .slice none 0 0]) ?_ 0 _ rfl; (with_reducible repeat (first | refine blk_drewN ?_ _ | refine blk_drew ?_ | refine blk_alloc ?_ _)); exact qf.out) Try.underlying33 rfl (by kernel_rfl)) rfl ?_
  exact ⟨_, _, _, _, by first | rfl | (simp [errW_none, errW_some] <;> rfl) | (simp [*, errW_none, errW_some] <;> rfl), by (with_reducible repeat (first | apply Kd.V_alloc | apply Kd.V_drewN | apply Kd.V_drew)); exact Kd.V_mono (Kd.V_far (p := ⟨qg, 6, none⟩) (Kd.V_far (p := ⟨qg, 5, none⟩) (Kd.V_far (p := ⟨qg, 4, none⟩) (Kd.V_far (p := ⟨qg, 3, none⟩) (Kd.V_far (p := ⟨qg, 2, none⟩) (Kd.V_far (p := ⟨qg, 1, none⟩) (Kd.V_far (p := ⟨qg, 0, none⟩) (Kd.V_mono zx.out (fun k_ hk => (⟨hk, hk.1.2.2⟩ : _ ∧ k_ ≠ qg))) (fun _ hk => hk.2) (.slice yU ((qa qx 0).f0.f0).length yT)) (fun _ hk => hk.2) (.int .i64 ((qa qx 0).f1))) (fun _ hk => hk.2) (.int .i64 ((qa qx 0).f2))) (fun _ hk => hk.2) (.int .i64 ((qa qx 0).f3))) (fun _ hk => hk.2) (.slice Zd ((qa qx 0).f4.f0).length Zc)) (fun _ hk => hk.2) (.slice Zr ((qa qx 0).f5).length Zp)) (fun _ hk => hk.2) (.slice ZC ((qa qx 0).f6).length ZA)) (fun _ hk => hk.1.1.1), by (with_reducible repeat (first | apply Kd.V_alloc | apply Kd.V_drewN | apply Kd.V_drew)); exact Kd.V_mono (Kd.V_far (p := ⟨qg, 6, none⟩) (Kd.V_far (p := ⟨qg, 5, none⟩) (Kd.V_far (p := ⟨qg, 4, none⟩) (Kd.V_far (p := ⟨qg, 3, none⟩) (Kd.V_far (p := ⟨qg, 2, none⟩) (Kd.V_far (p := ⟨qg, 1, none⟩) (Kd.V_far (p := ⟨qg, 0, none⟩) (Kd.V_mono zV.out (fun k_ hk => (⟨hk, hk.1.2.2⟩ : _ ∧ k_ ≠ qg))) (fun _ hk => hk.2) (.slice yU ((qa qx 0).f0.f0).length yT)) (fun _ hk => hk.2) (.int .i64 ((qa qx 0).f1))) (fun _ hk => hk.2) (.int .i64 ((qa qx 0).f2))) (fun _ hk => hk.2) (.int .i64 ((qa qx 0).f3))) (fun _ hk => hk.2) (.slice Zd ((qa qx 0).f4.f0).length Zc)) (fun _ hk => hk.2) (.slice Zr ((qa qx 0).f5).length Zp)) (fun _ hk => hk.2) (.slice ZC ((qa qx 0).f6).length ZA)) (fun _ hk => hk.1.1.1), by (with_reducible repeat (first | apply Kd.V_alloc | apply Kd.V_drewN | apply Kd.V_drew)); exact Kd.V_mono (Kd.V_far (p := ⟨qg, 6, none⟩) (Kd.V_far (p := ⟨qg, 5, none⟩) (Kd.V_far (p := ⟨qg, 4, none⟩) (Kd.V_far (p := ⟨qg, 3, none⟩) (Kd.V_far (p := ⟨qg, 2, none⟩) (Kd.V_far (p := ⟨qg, 1, none⟩) (Kd.V_far (p := ⟨qg, 0, none⟩) (Kd.V_mono zU.out (fun k_ hk => (⟨hk, hk.1.2.2⟩ : _ ∧ k_ ≠ qg))) (fun _ hk => hk.2) (.slice yU ((qa qx 0).f0.f0).length yT)) (fun _ hk => hk.2) (.int .i64 ((qa qx 0).f1))) (fun _ hk => hk.2) (.int .i64 ((qa qx 0).f2))) (fun _ hk => hk.2) (.int .i64 ((qa qx 0).f3))) (fun _ hk => hk.2) (.slice Zd ((qa qx 0).f4.f0).length Zc)) (fun _ hk => hk.2) (.slice Zr ((qa qx 0).f5).length Zp)) (fun _ hk => hk.2) (.slice ZC ((qa qx 0).f6).length ZA)) (fun _ hk => hk.1.1.1), by (with_reducible repeat (first | apply Kd.V_alloc | apply Kd.V_drewN | apply Kd.V_drew)); exact Kd.V_mono (Kd.V_far (p := ⟨qg, 6, none⟩) (Kd.V_far (p := ⟨qg, 5, none⟩) (Kd.V_far (p := ⟨qg, 4, none⟩) (Kd.V_far (p := ⟨qg, 3, none⟩) (Kd.V_far (p := ⟨qg, 2, none⟩) (Kd.V_far (p := ⟨qg, 1, none⟩) (Kd.V_far (p := ⟨qg, 0, none⟩) (Kd.V_mono zT.out (fun k_ hk => (⟨hk, hk.1.2.2⟩ : _ ∧ k_ ≠ qg))) (fun _ hk => hk.2) (.slice yU ((qa qx 0).f0.f0).length yT)) (fun _ hk => hk.2) (.int .i64 ((qa qx 0).f1))) (fun _ hk => hk.2) (.int .i64 ((qa qx 0).f2))) (fun _ hk => hk.2) (.int .i64 ((qa qx 0).f3))) (fun _ hk => hk.2) (.slice Zd ((qa qx 0).f4.f0).length Zc)) (fun _ hk => hk.2) (.slice Zr ((qa qx 0).f5).length Zp)) (fun _ hk => hk.2) (.slice ZC ((qa qx 0).f6).length ZA)) (fun _ hk => hk.1.1.1), by repeat (first | exact bw HB.out | refine below_set ?_ qm.out | refine below_set ?_ ji.out)⟩
 ·rw [if_neg c3] at H
  exact absurd H (by simp)


/-! ### Zw: function 44 -/
def Zw.f (k : Nat) (qd : List (List Int)) (qb : List (S33)) : Option (Int) := (qv.f k qd qb).bind fun qG => (if qG = true then ((Yy.f k qd qb).bind fun Yn => (if 0 < (Yn.2.2.2.2.2.2.length : Int) then (some (rd Yn.2.2.2.2.2.2 0)) else (none))) else (some 0))
set_option maxHeartbeats 8000000 in
set_option maxRecDepth 100000 in
theorem Zw.calls (k : Nat) (qq : Option Addr) (qp : Nat) (qd : List (List Int)) (jA : Option Addr) (je : Nat) (qb : List (S33)) (r : Int) (w : World) (jd : Kd.C (Kd.slice 5 (Kd.int .u8)) w qq qd.length qd) (jg : qd.length ≤ qp) (QR : Kd.C k33 w jA qb.length qb) (Jn : qb.length ≤ je) (h : Zw.f k qd qb = some r) :
  Calls Try.prog 44 #[.agg #[.slice qq qd.length qp, .slice jA qb.length je]] w fun e w' => e = .returned (.int .i64 r) ∧ Below w.heap.size w w' := by
 have qez := Try.underlying59
 have qak := Try.underlying33
 have Ys := Try.underlying31
 have qW := ak jd
 have jb := ak jg
 clear jd jg
 have yB := ak QR
 have QJ := ak Jn
 clear QR Jn
 have HB := ak (Below.refl w.heap.size w)
 have H : ((qv.f k qd qb).bind fun qG => (if qG = true then ((Yy.f k qd qb).bind fun Yn => (if 0 < (Yn.2.2.2.2.2.2.length : Int) then (some (rd Yn.2.2.2.2.2.2 0)) else (none))) else (some 0))) = some r := h
 clear h
 replace H := Option.bind_eq_some_iff.mp H
 obtain ⟨qG, A20, H⟩ := H
 replace H : (if qG = true then ((Yy.f k qd qb).bind fun Yn => (if 0 < (Yn.2.2.2.2.2.2.length : Int) then (some (rd Yn.2.2.2.2.2.2 0)) else (none))) else (some 0)) = some r := H
 have A2 := ak A20
 clear A20
 by_cases c3 : qG = true
 ·subst c3
  have H1 : ((Yy.f k qd qb).bind fun Yn => (if 0 < (Yn.2.2.2.2.2.2.length : Int) then (some (rd Yn.2.2.2.2.2.2 0)) else (none))) = some r := by rw [if_pos rfl] at H; exact H
  clear H
  have H := H1
  clear H1
  replace H := Option.bind_eq_some_iff.mp H
  obtain ⟨⟨qx, zy, zN, jQ, zq, qh3, Zx⟩, A40, H⟩ := H
  replace H : (if 0 < (Zx.length : Int) then (some (rd Zx 0)) else (none)) = some r := H
  have A4 := ak A40
  clear A40
  by_cases c5 : 0 < (Zx.length : Int)
  ·rw [if_pos c5] at H
   have c5b0 : decide (0 < (Zx.length : Int)) = true := decide_eq_true c5
   have c5b1 : decide (0 < Zx.length) = true := decide_eq_true (by omega)
   clear c5
   obtain rfl := Option.some.inj H
   go_enter Try.func44, Try.ntmps44
   go_wp2_with (first | ((with_reducible refine gate_dst (N := 1) rfl ?_); refine boxed (N := 1) rfl rfl (cs := #[.slice qq qd.length qp, .slice jA qb.length je]) (t := 59) HB.out (by first | (go_simp; done) | (go_simp; rfl)) ?_; clear HB; intro qi w6 hg HB qc qm hb; have jD := qm; clear hb hg; obtain ⟨qb6, qde, qb3, qdc⟩ := cells2 qc.out) | ((with_reducible refine gate_callee (f := 35) rfl ?_); refine goesL_ (some 4) rfl rfl Try.func35 (by kernel_rfl) rfl #[.agg #[.slice qq qd.length qp, .slice jA qb.length je]] rfl (by first | rfl | (simp only [List.map_toArray, List.map_cons, List.map_nil]; first | done | rfl)) ?_; (with_reducible refine (qv.calls k _ _ qd _ _ qb true _ ?qk ?qj ?qw ?qy A2.out).mono ?_); (case qk => exact cw qW.out HB.out); (case qj => exact jb.out); (case qw => exact cw yB.out HB.out); (case qy => exact QJ.out); rintro e w8 ⟨rfl, hb⟩; refine ⟨_, rfl, ?_⟩; replace qc := ak (blk_below (bk qc.out) hb); replace HB := ak (below_step (bw HB.out) hb); (try clear hb); obtain ⟨Js, Zo, Jr, Zn⟩ := cells2 qc.out) | ((with_reducible refine gate_callee (f := 110) rfl ?_); refine goesL_ (some 7) rfl rfl Try.func110 (by kernel_rfl) rfl #[.agg #[.slice qq qd.length qp, .slice jA qb.length je]] rfl (by first | rfl | (simp only [List.map_toArray, List.map_cons, List.map_nil]; first | done | rfl)) ?_; (with_reducible refine (Yy.calls k _ _ qd (fun k_ => k_ < w.heap.size) _ _ qb qx zy zN jQ zq qh3 Zx _ ?qk ?qj ?qw A4.out).mono ?_); (case qk => exact cw qW.out HB.out); (case qj => exact jb.out); (case qw => exact Kd.V_mk QJ.out (Kd.F_below (Kd.C_F k33_heap yB.out) (bw HB.out))); rintro e w10 ⟨qpd, qpb, qlq, qEv, rfl, ho0, ho1, ho2, ho3, hb⟩; refine ⟨_, rfl, ?_⟩; have Qg := ak (Kd.V_lower (Kd.V_mono (ok' := fun k_ => k_ ≠ qi) ho0 (fun k_ hk_ => Or.elim hk_ (fun hs_ => fun e_ => Nat.not_le.2 hs_ (by rw [e_]; exact jD.out)) (fun hn_ => (Kd.freshB (g := qi) (o := .cells #[.slice qq qd.length qp, .slice jA qb.length je] 59 (0, 0)) (bk qc.out) k_ hn_)))) (below_size (bw HB.out))); have qaL := ak (Kd.V_lower (Kd.V_mono (ok' := fun k_ => k_ ≠ qi) ho1 (fun k_ hk_ => Or.elim hk_ (fun hs_ => fun e_ => Nat.not_le.2 hs_ (by rw [e_]; exact jD.out)) (fun hn_ => (Kd.freshB (g := qi) (o := .cells #[.slice qq qd.length qp, .slice jA qb.length je] 59 (0, 0)) (bk qc.out) k_ hn_)))) (below_size (bw HB.out))); have qdo := ak (Kd.V_lower (Kd.V_mono (ok' := fun k_ => k_ ≠ qi) ho2 (fun k_ hk_ => Or.elim hk_ (fun hs_ => fun e_ => Nat.not_le.2 hs_ (by rw [e_]; exact jD.out)) (fun hn_ => (Kd.freshB (g := qi) (o := .cells #[.slice qq qd.length qp, .slice jA qb.length je] 59 (0, 0)) (bk qc.out) k_ hn_)))) (below_size (bw HB.out))); have qpX := ak (Kd.V_lower (Kd.V_mono (ok' := fun k_ => k_ ≠ qi) ho3 (fun k_ hk_ => Or.elim hk_ (fun hs_ => fun e_ => Nat.not_le.2 hs_ (by rw [e_]; exact jD.out)) (fun hn_ => (Kd.freshB (g := qi) (o := .cells #[.slice qq qd.length qp, .slice jA qb.length je] 59 (0, 0)) (bk qc.out) k_ hn_)))) (below_size (bw HB.out))); replace qc := ak (blk_below (bk qc.out) hb); replace HB := ak (below_step (bw HB.out) hb); (try clear hb); (try clear ho0); (try clear ho1); (try clear ho2); (try clear ho3); obtain ⟨qwo, qv7, qvT⟩ := Kd.V_slice Qg.out; subst qvT; obtain ⟨qwn, qv6, qvS⟩ := Kd.V_slice qaL.out; subst qvS; obtain ⟨qwm, qv5, qvR⟩ := Kd.V_slice qdo.out; subst qvR; obtain ⟨qgA, qeB, qpp⟩ := Kd.V_slice qpX.out; subst qpp; have qph : 0 ≤ (0 : Int) := (by omega); have qpf : 0 < (Zx.length : Int) := of_decide_eq_true (by first | (with_reducible assumption) | assumption); obtain ⟨qpS, qv3, qmh⟩ := Kd.at_int (Kd.V_reads' qpX.out).2.2 0 qph qpf; cases qv3; have qDn : (0 < Zx.length) = True := eq_true (by omega); (try rw [show ((0 : Int)).toNat = 0 from rfl] at qmh); (try rw [Addr.add_zero'] at qmh); replace qph := eq_true qph; replace qpf := eq_true qpf))
   rw [show Sem.run Try.prog (Instr.field 33 (.agg #[.slice qwo qx.length qv7, .int .i64 zy, .int .i64 zN, .int .i64 jQ, .slice qwn zq.length qv6, .slice qwm qh3.length qv5, .slice (some qpS) Zx.length qeB]) 6) w10 = .ok (.slice (some qpS) Zx.length qeB) w10 from rfl]
   go_wp2
   go_ret
   exact ⟨by first | rfl | (simp [errW_none, errW_some] <;> rfl) | (simp [*, errW_none, errW_some] <;> rfl), bw HB.out⟩
  ·rw [if_neg c5] at H
   exact absurd H (by simp)
 ·replace c3 := Bool.eq_false_iff.mpr c3
  subst c3
  have H1 : (some 0) = some r := by rw [if_neg (show ¬ (false = true) by decide)] at H; exact H
  clear H
  have H := H1
  clear H1
  obtain rfl := Option.some.inj H
  go_enter Try.func44, Try.ntmps44
  go_wp2_with (first | ((with_reducible refine gate_dst (N := 1) rfl ?_); refine boxed (N := 1) rfl rfl (cs := #[.slice qq qd.length qp, .slice jA qb.length je]) (t := 59) HB.out (by first | (go_simp; done) | (go_simp; rfl)) ?_; clear HB; intro qi w12 hg HB qc qm hb; have jD := qm; clear hb hg; obtain ⟨QN, JO, QM, JN⟩ := cells2 qc.out) | ((with_reducible refine gate_callee (f := 35) rfl ?_); refine goesL_ (some 4) rfl rfl Try.func35 (by kernel_rfl) rfl #[.agg #[.slice qq qd.length qp, .slice jA qb.length je]] rfl (by first | rfl | (simp only [List.map_toArray, List.map_cons, List.map_nil]; first | done | rfl)) ?_; (with_reducible refine (qv.calls k _ _ qd _ _ qb false _ ?qk ?qj ?qw ?qy A2.out).mono ?_); (case qk => exact cw qW.out HB.out); (case qj => exact jb.out); (case qw => exact cw yB.out HB.out); (case qy => exact QJ.out); rintro e w14 ⟨rfl, hb⟩; refine ⟨_, rfl, ?_⟩; replace qc := ak (blk_below (bk qc.out) hb); replace HB := ak (below_step (bw HB.out) hb); (try clear hb)))
  go_ret
  exact ⟨by first | rfl | (simp [errW_none, errW_some] <;> rfl) | (simp [*, errW_none, errW_some] <;> rfl), bw HB.out⟩


end Go.Proofs.Ytagedmajlppohaa.Q
