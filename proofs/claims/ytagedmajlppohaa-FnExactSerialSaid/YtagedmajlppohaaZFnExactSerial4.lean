/- Printed by a program of this session (wip/myprint.py), which drives the kit's printer: functions and what their calls do. -/
import Derived.Test.YtagedmajlppohaaZFnExactSerial0
import Derived.Test.YtagedmajlppohaaZFnExactSerial1
import Derived.Test.YtagedmajlppohaaZFnExactSerial2
import Derived.Test.YtagedmajlppohaaZFnExactSerial3
namespace Go.Proofs.Ytagedmajlppohaa.Q
open Go.RowKit Go Go.Proofs.YtagedmajlppohaaW.PrintWords Go.Proofs.YtagedmajlppohaaW.PrintLast Go.Proofs.YtagedmajlppohaaW.PrintMore
attribute [local go_sem] max2_int min2_int max_two min_two max_three min_three max_four min_four
set_option linter.unusedVariables false
set_option linter.unusedSimpArgs false

/-! ### qY: function 103 -/
def qY.l0 : Nat → Int → List (S33) → List (S33) → Int → Int → List (List Int) → Option ((List (S33)))
 | 0, _, _, _, _, _, _ => none
 | k + 1, x2, x7, x12, x13, x14, zH => if x14 < x13 then (if 0 ≤ x14 then (if x14 < (x12.length : Int) then ((ye.f k ((qa x12 x14).f0.f0) zH).bind fun jQ => (if jQ = true then (if x2 = 255 then (if x7.length < 1172812402961 then (qY.l0 k x2 (x7 ++ [(⟨(⟨(qa x12 x14).f0.f0⟩ : S31), (qa x12 x14).f1, (qa x12 x14).f2, (qa x12 x14).f3, (⟨(qa x12 x14).f4.f0⟩ : S31), (qa x12 x14).f5, (qa x12 x14).f6⟩ : S33)]) x12 x13 (wrap64 (x14 + 1)) zH) else (none)) else (if ((qa x12 x14).f1) = x2 then (if x7.length < 1172812402961 then (qY.l0 k x2 (x7 ++ [(⟨(⟨(qa x12 x14).f0.f0⟩ : S31), (qa x12 x14).f1, (qa x12 x14).f2, (qa x12 x14).f3, (⟨(qa x12 x14).f4.f0⟩ : S31), (qa x12 x14).f5, (qa x12 x14).f6⟩ : S33)]) x12 x13 (wrap64 (x14 + 1)) zH) else (none)) else (qY.l0 k x2 x7 x12 x13 (wrap64 (x14 + 1)) zH))) else (qY.l0 k x2 x7 x12 x13 (wrap64 (x14 + 1)) zH))) else (none)) else (none)) else (some x7)
def qY.f (k : Nat) (qd : List (List Int)) (qb : List (S33)) (qn : List (List Int)) (a2 : Int) : Option ((List (S33))) := qY.l0 k a2 (([] : List (S33))) qb (qb.length : Int) 0 qn
set_option maxHeartbeats 8000000 in
set_option maxRecDepth 100000 in
theorem qY.calls (k : Nat) (qq : Option Addr) (qp : Nat) (qd : List (List Int)) (jj : Nat → Prop) (jA : Option Addr) (je : Nat) (qb : List (S33)) (jn : Option Addr) (jm : Nat) (qn : List (List Int)) (a2 : Int) (r : List (S33)) (w : World) (jd : Kd.C (Kd.slice 5 (Kd.int .u8)) w qq qd.length qd) (jg : qd.length ≤ qp) (qip : Kd.V k33 33 w w.heap.size (fun k_ => jj k_) (.slice jA qb.length je) qb) (yA : Kd.C (Kd.slice 5 (Kd.int .u8)) w jn qn.length qn) (yS : qn.length ≤ jm) (h : qY.f k qd qb qn a2 = some r) :
  Calls Try.prog 103 #[.agg #[.slice qq qd.length qp, .slice jA qb.length je], .agg #[.slice jn qn.length jm], .int .i64 a2] w fun e w' => ∃ v0_ : Value, e = .returned (v0_) ∧ Kd.N k33 33 w' w.heap.size (fun k_ => (jj k_ ∨ w.heap.size ≤ k_)) v0_ r ∧ Below w.heap.size w w' := by
 have qez := Try.underlying59
 have Ys := Try.underlying31
 have qak := Try.underlying33
 have qW := ak jd
 have jb := ak jg
 clear jd jg
 have ZG := ak (show Kd.V k33 33 w w.heap.size (fun k_ => (jj k_ ∨ w.heap.size ≤ k_)) (.slice jA qb.length je) qb from Kd.V_mono qip (fun k_ hk => .inl hk))
 have yo := ak yA
 have yE := ak yS
 clear yA yS
 have HB := ak (Below.refl w.heap.size w)
 have H : (qY.l0 k a2 (([] : List (S33))) qb (qb.length : Int) 0 qn) = some r := h
 clear h
 obtain ⟨qd4, qb2⟩ : ∃ y_ : List (S33), y_ = (([] : List (S33))) := ⟨_, rfl⟩
 replace H : (qY.l0 k a2 qd4 qb (qb.length : Int) 0 qn) = some r := by first | (rw [qb2]; with_reducible exact H) | (have H2_ := (Option.bind_some _ _).symm.trans H; rw [qb2]; with_reducible exact H2_) | (have H2_ := (Option.bind_some _ _).symm.trans H; with_reducible exact H2_) | with_reducible exact H | (rw [qb2]; exact H) | exact H
 have qix := ak qb2
 clear qb2
 have H' := ak H
 clear H
 go_enter Try.func103, Try.ntmps103
 go_wp2_with (first | ((with_reducible refine gate_dst (N := 3) rfl ?_); refine box_event ?hg (N := 3) ?hd (cs := #[.slice qq qd.length qp, .slice jA qb.length je]) (t := 59) ?hr ?_; (case hd => rfl); (case hg => rfl); (case hr => first | (go_simp; done) | (go_simp; rfl)); intro qi hg w4 hbox hb; replace ZG := ak (Kd.V_below (Kd.V_elderB (by (with_reducible repeat (first | apply Kd.V_alloc | apply Kd.V_drewN | apply Kd.V_drew)); exact ZG.out) qi (Nat.le_of_eq hg.symm)) hb); have qc := ak (hbox); have jD := ak ((by rw [hg]; exact (below_size (bw HB.out)) : w.heap.size ≤ qi)); have qm := ak ((by rw [hg]; exact (below_size (bw HB.out)) : w.heap.size ≤ qi)); replace HB := ak (below_step (bw HB.out) hb); clear hb hbox hg) | ((with_reducible refine gate_dst (N := 4) rfl ?_); refine box_event ?hg (N := 4) ?hd (cs := #[.slice jn qn.length jm]) (t := 31) ?hr ?_; (case hd => rfl); (case hg => rfl); (case hr => first | (go_simp; done) | (go_simp; rfl)); intro qg hg w5 hbox hb; replace ZG := ak (Kd.V_below (Kd.V_elderB (by (with_reducible repeat (first | apply Kd.V_alloc | apply Kd.V_drewN | apply Kd.V_drew)); exact ZG.out) qg (Nat.le_of_eq hg.symm)) hb); have qf := ak (hbox); have QS := ak ((by rw [hg]; exact (below_size (by repeat (first | exact bw HB.out | refine below_set ?_ qm.out))) : w.heap.size ≤ qg)); have ji := ak ((by rw [hg]; exact (below_size (by repeat (first | exact bw HB.out | refine below_set ?_ qm.out))) : w.heap.size ≤ qg)); replace HB := ak (below_step (by repeat (first | exact bw HB.out | refine below_set ?_ qm.out)) hb); have qO := ak ((by rw [hg]; exact Nat.ne_of_lt (blk_lt (bk qc.out)) : qi ≠ qg)); have qN := ak ((by rw [hg]; exact Nat.ne_of_gt (blk_lt (bk qc.out)) : qg ≠ qi)); replace qc := ak (blk_below (bk qc.out) hb); clear hb hbox hg) | ((with_reducible refine gate_dst (N := 10) rfl ?_); refine Kd.N_lit k33 _ 33 ?hg (N' := 10) ?hd (xs := ([] : List (S33))) (inner := []) (ok := (fun k_ => (jj k_ ∨ w.heap.size ≤ k_) ∧ k_ ≠ qi ∧ k_ ≠ qg)) (okp := (fun k_ => (jj k_ ∨ w.heap.size ≤ k_) ∧ k_ ≠ qi ∧ k_ ≠ qg)) ?hr ?hp (fun _ hk => hk) ((show ∀ k_, w5.heap.size ≤ k_ → (fun k_ => (jj k_ ∨ w.heap.size ≤ k_) ∧ k_ ≠ qi ∧ k_ ≠ qg) k_ from fun k_ hk => ⟨(.inr (Nat.le_trans (below_size (by repeat (first | exact bw HB.out | refine below_set ?_ qm.out | refine below_set ?_ ji.out))) hk)), Kd.freshB (g := qi) (o := .cells #[.slice qq qd.length qp, .slice jA qb.length je] 59 (0, 0)) (bk qc.out) k_ hk, Kd.freshB (g := qg) (o := .cells #[.slice jn qn.length jm] 31 (0, 0)) (bk qf.out) k_ hk⟩) _ (Nat.le_refl _)) (Below.refl _ _) (Nat.le_refl _) (by simp) ?_; (case hd => rfl); (case hg => rfl); (case hr => first | (go_simp; done) | (go_simp; rfl)); (case hp => exact (Reps.none _ _)); intro qpd w6 ho7 hb hg_ hnew_; clear hg_ hnew_; (first | rw [← qix.out] at ho7 | (simp only [Int.reduceToNat] at ho7; rw [← qix.out] at ho7)); replace ZG := ak (Kd.V_elder' (by (with_reducible repeat (first | apply Kd.V_alloc | apply Kd.V_drewN | apply Kd.V_drew)); exact ZG.out) (Kd.N_base ho7) hb); have Qg := ak (Kd.N_lower ho7 (below_size (by repeat (first | exact bw HB.out | refine below_set ?_ qm.out | refine below_set ?_ ji.out)))); replace qc := ak (blk_below (bk qc.out) hb); replace qf := ak (blk_below (bk qf.out) hb); replace HB := ak (below_step (by repeat (first | exact bw HB.out | refine below_set ?_ qm.out | refine below_set ?_ ji.out)) hb); clear hb ho7; have qvN := qO.out; have qvL := qN.out; obtain ⟨Js, Zo, Jr, Zn⟩ := cells2 qc.out))
 go_loopg [7, 14] k (fun kq v7 v14 w' => ∃ (Ql : List (S33)) (qI : Int), v14 = .int .i64 qI ∧ Aside0 (qY.l0 kq a2 Ql qb (qb.length : Int) qI qn = some r) ∧ Aside0 (kq ≤ k) ∧ Aside0 (Kd.N k33 33 w' w.heap.size (fun k_ => (jj k_ ∨ w.heap.size ≤ k_) ∧ k_ ≠ qi ∧ k_ ≠ qg) v7 Ql) ∧ Aside0 (Kd.V k33 33 w' w.heap.size (fun k_ => (jj k_ ∨ w.heap.size ≤ k_) ∧ some k_ ≠ (v7 : Value).ownBlock ∧ k_ ≠ qi ∧ k_ ≠ qg) (.slice jA qb.length je) qb) ∧ Aside0 (Kd.V k33 33 w' w.heap.size (fun k_ => (jj k_ ∨ w.heap.size ≤ k_) ∧ some k_ ≠ (v7 : Value).ownBlock ∧ k_ ≠ qi ∧ k_ ≠ qg) (.slice jA qb.length je) qb) ∧ Aside0 (w'.heap[qi]? = some (.cells #[(.slice qq qd.length qp), (.slice jA qb.length je)] 59 (0, 0))) ∧ Aside0 (w'.heap[qg]? = some (.cells #[(.slice jn qn.length jm)] 31 (0, 0))) ∧ Aside0 (Below w.heap.size w w'))
 case atStart => exact ⟨(qd4), (0), (by first | rfl | (simp; done) | (simp [*]; done)), H', ⟨Nat.le_refl _⟩, ⟨by (with_reducible repeat (first | apply Kd.N_alloc | apply Kd.N_drewN | apply Kd.N_drew)); exact Qg.out⟩, ⟨by (with_reducible repeat (first | apply Kd.V_alloc | apply Kd.V_drewN | apply Kd.V_drew)); exact Kd.V_mono ZG.out (fun _ hk => ⟨hk.1.1.1, ⟨hk.2, ⟨hk.1.1.2, hk.1.2⟩⟩⟩)⟩, ⟨by (with_reducible repeat (first | apply Kd.V_alloc | apply Kd.V_drewN | apply Kd.V_drew)); exact Kd.V_mono ZG.out (fun _ hk => ⟨hk.1.1.1, ⟨hk.2, ⟨hk.1.1.2, hk.1.2⟩⟩⟩)⟩, ⟨bk qc.out⟩, ⟨bk qf.out⟩, ⟨by repeat (first | exact bw HB.out | refine below_set ?_ qm.out | refine below_set ?_ ji.out)⟩⟩
 case round =>
  clear H'
  try clear c1
  try clear p2
  try clear c8
  try clear Js
  try clear Zo
  try clear Jr
  try clear Zn
  obtain ⟨Ql, qI, rfl, HA, HK1, HO_7, HO_12, HO_102001, qc, qf, HB⟩ := hrel
  cases gk with
  | zero => exact absurd HA.out (by simp [qY.l0])
  | succ k1 =>
   have H := HA.out
   clear HA
   simp only [qY.l0] at H
   by_cases c10 : qI < (qb.length : Int)
   ·rw [if_pos c10] at H
    have c10b0 : decide (qI < (qb.length : Int)) = true := decide_eq_true c10
    clear c10
    by_cases c11 : 0 ≤ qI
    ·rw [if_pos c11] at H
     have c11b0 : decide (0 ≤ qI) = true := decide_eq_true c11
     clear c11
     by_cases c12 : qI < (qb.length : Int)
     ·rw [if_pos c12] at H
      have c12b0 : decide (qI < (qb.length : Int)) = true := decide_eq_true c12
      clear c12
      replace H := Option.bind_eq_some_iff.mp H
      obtain ⟨jQ, qei, H⟩ := H
      replace H : (if jQ = true then (if a2 = 255 then (if Ql.length < 1172812402961 then (qY.l0 k1 a2 (Ql ++ [(⟨(⟨(qa qb qI).f0.f0⟩ : S31), (qa qb qI).f1, (qa qb qI).f2, (qa qb qI).f3, (⟨(qa qb qI).f4.f0⟩ : S31), (qa qb qI).f5, (qa qb qI).f6⟩ : S33)]) qb (qb.length : Int) (wrap64 (qI + 1)) qn) else (none)) else (if ((qa qb qI).f1) = a2 then (if Ql.length < 1172812402961 then (qY.l0 k1 a2 (Ql ++ [(⟨(⟨(qa qb qI).f0.f0⟩ : S31), (qa qb qI).f1, (qa qb qI).f2, (qa qb qI).f3, (⟨(qa qb qI).f4.f0⟩ : S31), (qa qb qI).f5, (qa qb qI).f6⟩ : S33)]) qb (qb.length : Int) (wrap64 (qI + 1)) qn) else (none)) else (qY.l0 k1 a2 Ql qb (qb.length : Int) (wrap64 (qI + 1)) qn))) else (qY.l0 k1 a2 Ql qb (qb.length : Int) (wrap64 (qI + 1)) qn)) = some r := H
      have A13 := ak qei
      clear qei
      by_cases c14 : jQ = true
      ·subst c14
       have H1 : (if a2 = 255 then (if Ql.length < 1172812402961 then (qY.l0 k1 a2 (Ql ++ [(⟨(⟨(qa qb qI).f0.f0⟩ : S31), (qa qb qI).f1, (qa qb qI).f2, (qa qb qI).f3, (⟨(qa qb qI).f4.f0⟩ : S31), (qa qb qI).f5, (qa qb qI).f6⟩ : S33)]) qb (qb.length : Int) (wrap64 (qI + 1)) qn) else (none)) else (if ((qa qb qI).f1) = a2 then (if Ql.length < 1172812402961 then (qY.l0 k1 a2 (Ql ++ [(⟨(⟨(qa qb qI).f0.f0⟩ : S31), (qa qb qI).f1, (qa qb qI).f2, (qa qb qI).f3, (⟨(qa qb qI).f4.f0⟩ : S31), (qa qb qI).f5, (qa qb qI).f6⟩ : S33)]) qb (qb.length : Int) (wrap64 (qI + 1)) qn) else (none)) else (qY.l0 k1 a2 Ql qb (qb.length : Int) (wrap64 (qI + 1)) qn))) = some r := by rw [if_pos rfl] at H; exact H
       clear H
       have H := H1
       clear H1
       by_cases c15 : a2 = 255
       ·rw [if_pos c15] at H
        have c15b0 : (a2 == 255) = true := beq_iff_eq.mpr c15
        have c15b1 : (a2 != 255) = false := bne_eq_false_iff_eq.mpr c15
        clear c15
        by_cases c16 : Ql.length < 1172812402961
        ·rw [if_pos c16] at H
         have qvv := ak c16
         clear c16
         obtain ⟨qlo, qbY⟩ : ∃ y_ : List (S33), y_ = (Ql ++ [(⟨(⟨(qa qb qI).f0.f0⟩ : S31), (qa qb qI).f1, (qa qb qI).f2, (qa qb qI).f3, (⟨(qa qb qI).f4.f0⟩ : S31), (qa qb qI).f5, (qa qb qI).f6⟩ : S33)]) := ⟨_, rfl⟩
         replace H : (qY.l0 k1 a2 qlo qb (qb.length : Int) (wrap64 (qI + 1)) qn) = some r := by first | (rw [qbY]; with_reducible exact H) | (have H2_ := (Option.bind_some _ _).symm.trans H; rw [qbY]; with_reducible exact H2_) | (have H2_ := (Option.bind_some _ _).symm.trans H; with_reducible exact H2_) | with_reducible exact H | (rw [qbY]; exact H) | exact H
         have qoB := ak qbY
         clear qbY
         have H' := ak H
         clear H
         have yk : 0 ≤ (qI : Int) := of_decide_eq_true (by first | (with_reducible assumption) | assumption)
         have yj : qI < (qb.length : Int) := of_decide_eq_true (by first | (with_reducible assumption) | assumption)
         obtain ⟨Yo, yU, yT, Zd, Zc, Zr, Zp, ZC, ZA, YM, zi, JX, JW, JV, Qp, Qo, Qn, QX, Jg, QW, Jf, QV, Je, QU, Jd⟩ := Qi (Kd.V_reads' HO_12.out).2.2 qI yk yj
         cases YM
         obtain ⟨qlk, qb7, qb9, yR⟩ := Kd.V_get HO_12.out z33 qI yk (by first | exact yj | exact of_decide_eq_true (by first | (with_reducible assumption) | assumption) | (have e_ := (Kd.V_reads' HO_12.out).1; omega))
         obtain ⟨qgO, qgK, qgN, qgJ, qgM, qgI, qgL, qgH, rfl, JB, JS, JA, JR, Jz, JQ, Jy, JP⟩ := k33_openF qb9
         have Qc := yR 0 _ rfl
         rw [Nat.add_zero] at Qc
         replace Qc := Option.some.inj (Qc.symm.trans zi)
         injection Qc with hva_ hvn_ hvc_
         rw [hva_] at JS
         rw [hvc_] at JB
         have zx := ak (show Kd.V (Kd.slice 5 (Kd.int .u8)) 25 _ w.heap.size _ _ ((qa qb qI).f0.f0) from Kd.V_mk JB JS)
         clear hva_ hvn_ hvc_ JS JB
         have Qb := yR 4 _ rfl
         rw [add_field _ _ 4 (by omega)] at Qb
         replace Qb := Option.some.inj (Qb.symm.trans Qp)
         injection Qb with hva_ hvn_ hvc_
         rw [hva_] at JR
         rw [hvc_] at JA
         have zV := ak (show Kd.V (Kd.slice 5 (Kd.int .u8)) 25 _ w.heap.size _ _ ((qa qb qI).f4.f0) from Kd.V_mk JA JR)
         clear hva_ hvn_ hvc_ JR JA
         have Qa := yR 5 _ rfl
         rw [add_field _ _ 5 (by omega)] at Qa
         replace Qa := Option.some.inj (Qa.symm.trans Qo)
         injection Qa with hva_ hvn_ hvc_
         rw [hva_] at JQ
         rw [hvc_] at Jz
         have zU := ak (show Kd.V (Kd.int .u8) 5 _ w.heap.size _ _ ((qa qb qI).f5) from Kd.V_mk Jz JQ)
         clear hva_ hvn_ hvc_ JQ Jz
         have yZ := yR 6 _ rfl
         rw [add_field _ _ 6 (by omega)] at yZ
         replace yZ := Option.some.inj (yZ.symm.trans Qn)
         injection yZ with hva_ hvn_ hvc_
         rw [hva_] at JP
         rw [hvc_] at Jy
         have zT := ak (show Kd.V (Kd.int .i64) 3 _ w.heap.size _ _ ((qa qb qI).f6) from Kd.V_mk Jy JP)
         clear hva_ hvn_ hvc_ JP Jy
         clear yR qb7
         have yK := ak Jg
         have YW := ak QX
         clear Jg QX
         have yJ := ak Jf
         have qbV := ak QW
         clear Jf QW
         have yI := ak Je
         have qbU := ak QV
         clear Je QV
         have yH := ak Jd
         have qbT := ak QU
         clear Jd QU
         replace yk := eq_true yk
         replace yj := eq_true yj
         go_wp2_with (first | ((with_reducible refine gate_dst (N := 9) rfl ?_); refine box_event ?hg (N := 9) ?hd (cs := #[.slice none 0 0, .int .i64 0, .int .i64 0, .int .i64 0, .slice none 0 0, .slice none 0 0, .slice none 0 0]) (t := 33) ?hr ?_; (case hd => rfl); (case hg => rfl); (case hr => first | (go_simp; done) | (go_simp; rfl)); intro jr hg w17 hbox hb; replace HO_7 := ak (Kd.N_below (Kd.N_elderB (by (with_reducible repeat (first | apply Kd.N_alloc | apply Kd.N_drewN | apply Kd.N_drew)); exact HO_7.out) jr (Nat.le_of_eq hg.symm)) hb); replace HO_12 := ak (Kd.V_below (Kd.V_elderB (by (with_reducible repeat (first | apply Kd.V_alloc | apply Kd.V_drewN | apply Kd.V_drew)); exact HO_12.out) jr (Nat.le_of_eq hg.symm)) hb); replace HO_102001 := ak (Kd.V_below (Kd.V_elderB (by (with_reducible repeat (first | apply Kd.V_alloc | apply Kd.V_drewN | apply Kd.V_drew)); exact HO_102001.out) jr (Nat.le_of_eq hg.symm)) hb); replace zx := ak (Kd.V_below (Kd.V_elderB (by (with_reducible repeat (first | apply Kd.V_alloc | apply Kd.V_drewN | apply Kd.V_drew)); exact zx.out) jr (Nat.le_of_eq hg.symm)) hb); replace zV := ak (Kd.V_below (Kd.V_elderB (by (with_reducible repeat (first | apply Kd.V_alloc | apply Kd.V_drewN | apply Kd.V_drew)); exact zV.out) jr (Nat.le_of_eq hg.symm)) hb); replace zU := ak (Kd.V_below (Kd.V_elderB (by (with_reducible repeat (first | apply Kd.V_alloc | apply Kd.V_drewN | apply Kd.V_drew)); exact zU.out) jr (Nat.le_of_eq hg.symm)) hb); replace zT := ak (Kd.V_below (Kd.V_elderB (by (with_reducible repeat (first | apply Kd.V_alloc | apply Kd.V_drewN | apply Kd.V_drew)); exact zT.out) jr (Nat.le_of_eq hg.symm)) hb); replace yK := ak (Kd.C_below (by repeat (first | (with_reducible exact yK.out) | (with_reducible refine Kd.C_alloc ?_ _) | (with_reducible refine Kd.C_drewN ?_ _) | (with_reducible refine Kd.C_drew ?_) | exact yK.out)) hb); replace yJ := ak (Kd.C_below (by repeat (first | (with_reducible exact yJ.out) | (with_reducible refine Kd.C_alloc ?_ _) | (with_reducible refine Kd.C_drewN ?_ _) | (with_reducible refine Kd.C_drew ?_) | exact yJ.out)) hb); replace yI := ak (Kd.C_below (by repeat (first | (with_reducible exact yI.out) | (with_reducible refine Kd.C_alloc ?_ _) | (with_reducible refine Kd.C_drewN ?_ _) | (with_reducible refine Kd.C_drew ?_) | exact yI.out)) hb); replace yH := ak (Kd.C_below (by repeat (first | (with_reducible exact yH.out) | (with_reducible refine Kd.C_alloc ?_ _) | (with_reducible refine Kd.C_drewN ?_ _) | (with_reducible refine Kd.C_drew ?_) | exact yH.out)) hb); have Zv := ak (hbox); have qoQ := ak ((by rw [hg]; exact (below_size (by repeat (first | exact bw HB.out | refine below_set ?_ qm.out | refine below_set ?_ ji.out))) : w.heap.size ≤ jr)); have Yb := ak ((by rw [hg]; exact (below_size (by repeat (first | exact bw HB.out | refine below_set ?_ qm.out | refine below_set ?_ ji.out))) : w.heap.size ≤ jr)); replace HB := ak (below_step (by repeat (first | exact bw HB.out | refine below_set ?_ qm.out | refine below_set ?_ ji.out)) hb); have Yf := ak ((by rw [hg]; exact Nat.ne_of_lt (blk_lt (bk qc.out)) : qi ≠ jr)); have qas := ak ((by rw [hg]; exact Nat.ne_of_gt (blk_lt (bk qc.out)) : jr ≠ qi)); replace qc := ak (blk_below (bk qc.out) hb); have Ye := ak ((by rw [hg]; exact Nat.ne_of_lt (blk_lt (bk qf.out)) : qg ≠ jr)); have qar := ak ((by rw [hg]; exact Nat.ne_of_gt (blk_lt (bk qf.out)) : jr ≠ qg)); replace qf := ak (blk_below (bk qf.out) hb); clear hb hbox hg; have qov := qas.out; have qot := Yf.out; have qEe := qar.out; have qDM := Ye.out; obtain ⟨qaI, qcK, qd0, qdZ, qdY, qdX, qdW, qaG, qcp, qdK, qdJ, qdI, qdH, qdG⟩ := cells7 Zv.out; have qvf := qN.out; have qu7 := qO.out; obtain ⟨XV, XT⟩ := cells1 qf.out) | ((with_reducible refine gate_callee (f := 102) rfl ?_); refine goesL_ (some 21) rfl rfl Try.func102 (by kernel_rfl) rfl #[.agg #[.slice yU ((qa qb qI).f0.f0).length yT], .agg #[.slice jn qn.length jm]] rfl (by first | rfl | (simp only [List.map_toArray, List.map_cons, List.map_nil]; first | done | rfl)) ?_; (with_reducible refine (ye.calls k1 _ _ ((qa qb qI).f0.f0) _ _ qn true _ ?qk ?qj ?qw ?qy A13.out).mono ?_); (case qk => repeat (first | exact ((Kd.V_reads' (by (with_reducible repeat (first | apply Kd.V_alloc | apply Kd.V_drewN | apply Kd.V_drew)); exact (far7V zx.out (fun k_ hk => hk.2)))).2.2) | (with_reducible refine Kd.C_alloc ?_ _) | (with_reducible refine Kd.C_drewN ?_ _) | (with_reducible refine Kd.C_drew ?_))); (case qj => exact YW.out); (case qw => exact Kd.C_below yo.out (by repeat (first | exact bw HB.out | refine below_set ?_ qm.out | refine below_set ?_ ji.out | refine below_set ?_ Yb.out))); (case qy => exact yE.out); rintro e w23 ⟨rfl, hb⟩; refine ⟨_, rfl, ?_⟩; replace HO_7 := ak (Kd.N_below (by (with_reducible repeat (first | apply Kd.N_alloc | apply Kd.N_drewN | apply Kd.N_drew)); exact (far7N HO_7.out (fun k_ hk => hk.2))) hb); replace HO_12 := ak (Kd.V_below (by (with_reducible repeat (first | apply Kd.V_alloc | apply Kd.V_drewN | apply Kd.V_drew)); exact (far7V HO_12.out (fun k_ hk => hk.2))) hb); replace HO_102001 := ak (Kd.V_below (by (with_reducible repeat (first | apply Kd.V_alloc | apply Kd.V_drewN | apply Kd.V_drew)); exact (far7V HO_102001.out (fun k_ hk => hk.2))) hb); replace qc := ak (blk_below (Xm Yf.out qc.out) hb); replace qf := ak (blk_below (Xm Ye.out qf.out) hb); replace yK := ak (Kd.C_below ((Kd.V_reads' (by (with_reducible repeat (first | apply Kd.V_alloc | apply Kd.V_drewN | apply Kd.V_drew)); exact (far7V zx.out (fun k_ hk => hk.2)))).2.2) hb); replace zx := ak (Kd.V_below (by (with_reducible repeat (first | apply Kd.V_alloc | apply Kd.V_drewN | apply Kd.V_drew)); exact (far7V zx.out (fun k_ hk => hk.2))) hb); replace yJ := ak (Kd.C_below ((Kd.V_reads' (by (with_reducible repeat (first | apply Kd.V_alloc | apply Kd.V_drewN | apply Kd.V_drew)); exact (far7V zV.out (fun k_ hk => hk.2)))).2.2) hb); replace zV := ak (Kd.V_below (by (with_reducible repeat (first | apply Kd.V_alloc | apply Kd.V_drewN | apply Kd.V_drew)); exact (far7V zV.out (fun k_ hk => hk.2))) hb); replace yI := ak (Kd.C_below ((Kd.V_reads' (by (with_reducible repeat (first | apply Kd.V_alloc | apply Kd.V_drewN | apply Kd.V_drew)); exact (far7V zU.out (fun k_ hk => hk.2)))).2.2) hb); replace zU := ak (Kd.V_below (by (with_reducible repeat (first | apply Kd.V_alloc | apply Kd.V_drewN | apply Kd.V_drew)); exact (far7V zU.out (fun k_ hk => hk.2))) hb); replace yH := ak (Kd.C_below ((Kd.V_reads' (by (with_reducible repeat (first | apply Kd.V_alloc | apply Kd.V_drewN | apply Kd.V_drew)); exact (far7V zT.out (fun k_ hk => hk.2)))).2.2) hb); replace zT := ak (Kd.V_below (by (with_reducible repeat (first | apply Kd.V_alloc | apply Kd.V_drewN | apply Kd.V_drew)); exact (far7V zT.out (fun k_ hk => hk.2))) hb); replace Zv := ak (blk_below (qa1 Zv.out) hb); replace HB := ak (below_step (by repeat (first | exact bw HB.out | refine below_set ?_ qm.out | refine below_set ?_ ji.out | refine below_set ?_ Yb.out)) hb); (try clear hb); (try clear hb2); (try clear hk); (try clear hi); obtain ⟨qfY, qhr, qkF, qkE, qkD, qkC, qkB, qfF, qg8, qjM, qjL, qjK, qjJ, qjI⟩ := cells7 Zv.out) | ((with_reducible refine gate_builtin (b := .append) (xs := #[.tmp 32, .tmp 34]) rfl ?_); at_builtin; refine Kd.N_append k33 (w0 := w) w.heap.size rfl (.tmp 32) (.tmp 34) 57 33 (.agg #[(.slice none 0 0), (.int .i64 0), (.int .i64 0), (.int .i64 0), (.slice none 0 0), (.slice none 0 0), (.slice none 0 0)]) 120 rfl Try.underlying57 qgj rfl (by decide) (by omega) u7 Ql (⟨(⟨(qa qb qI).f0.f0⟩ : S31), (qa qb qI).f1, (qa qb qI).f2, (qa qb qI).f3, (⟨(qa qb qI).f4.f0⟩ : S31), (qa qb qI).f5, (qa qb qI).f6⟩ : S33) [.slice yU ((qa qb qI).f0.f0).length yT, .int .i64 ((qa qb qI).f1), .int .i64 ((qa qb qI).f2), .int .i64 ((qa qb qI).f3), .slice Zd ((qa qb qI).f4.f0).length Zc, .slice Zr ((qa qb qI).f5).length Zp, .slice ZC ((qa qb qI).f6).length ZA] (fun k_ => (jj k_ ∨ w.heap.size ≤ k_) ∧ k_ ≠ qi ∧ k_ ≠ qg ∧ k_ ≠ jr) (fun k_ => ((fun k_ => (jj k_ ∨ w.heap.size ≤ k_) ∧ k_ ≠ qi ∧ k_ ≠ qg ∧ k_ ≠ jr)) k_ ∧ some k_ ≠ (u7 : Value).ownBlock) rfl rfl ?aP (fun _ hk => hk) ?aF ?aO ?aB ?aS ?aL ?_; (case aP => exact (k33_mkF _ _ (⟨(⟨(qa qb qI).f0.f0⟩ : S31), (qa qb qI).f1, (qa qb qI).f2, (qa qb qI).f3, (⟨(qa qb qI).f4.f0⟩ : S31), (qa qb qI).f5, (qa qb qI).f6⟩ : S33) (Kd.V_reads' (Kd.V_mono (ok' := (fun k_ => ((fun k_ => (jj k_ ∨ w.heap.size ≤ k_) ∧ k_ ≠ qi ∧ k_ ≠ qg ∧ k_ ≠ jr)) k_ ∧ some k_ ≠ (u7 : Value).ownBlock)) (zx.out) (fun k_ hk => ⟨⟨hk.1.1, ⟨hk.1.2.2.1, ⟨hk.1.2.2.2, hk.2⟩⟩⟩, hk.1.2.1⟩))).2.1 (Kd.V_F (Kd.V_mono (ok' := (fun k_ => ((fun k_ => (jj k_ ∨ w.heap.size ≤ k_) ∧ k_ ≠ qi ∧ k_ ≠ qg ∧ k_ ≠ jr)) k_ ∧ some k_ ≠ (u7 : Value).ownBlock)) (zx.out) (fun k_ hk => ⟨⟨hk.1.1, ⟨hk.1.2.2.1, ⟨hk.1.2.2.2, hk.2⟩⟩⟩, hk.1.2.1⟩))) (Kd.V_reads' (Kd.V_mono (ok' := (fun k_ => ((fun k_ => (jj k_ ∨ w.heap.size ≤ k_) ∧ k_ ≠ qi ∧ k_ ≠ qg ∧ k_ ≠ jr)) k_ ∧ some k_ ≠ (u7 : Value).ownBlock)) (zV.out) (fun k_ hk => ⟨⟨hk.1.1, ⟨hk.1.2.2.1, ⟨hk.1.2.2.2, hk.2⟩⟩⟩, hk.1.2.1⟩))).2.1 (Kd.V_F (Kd.V_mono (ok' := (fun k_ => ((fun k_ => (jj k_ ∨ w.heap.size ≤ k_) ∧ k_ ≠ qi ∧ k_ ≠ qg ∧ k_ ≠ jr)) k_ ∧ some k_ ≠ (u7 : Value).ownBlock)) (zV.out) (fun k_ hk => ⟨⟨hk.1.1, ⟨hk.1.2.2.1, ⟨hk.1.2.2.2, hk.2⟩⟩⟩, hk.1.2.1⟩))) (Kd.V_reads' (Kd.V_mono (ok' := (fun k_ => ((fun k_ => (jj k_ ∨ w.heap.size ≤ k_) ∧ k_ ≠ qi ∧ k_ ≠ qg ∧ k_ ≠ jr)) k_ ∧ some k_ ≠ (u7 : Value).ownBlock)) (zU.out) (fun k_ hk => ⟨⟨hk.1.1, ⟨hk.1.2.2.1, ⟨hk.1.2.2.2, hk.2⟩⟩⟩, hk.1.2.1⟩))).2.1 (Kd.V_F (Kd.V_mono (ok' := (fun k_ => ((fun k_ => (jj k_ ∨ w.heap.size ≤ k_) ∧ k_ ≠ qi ∧ k_ ≠ qg ∧ k_ ≠ jr)) k_ ∧ some k_ ≠ (u7 : Value).ownBlock)) (zU.out) (fun k_ hk => ⟨⟨hk.1.1, ⟨hk.1.2.2.1, ⟨hk.1.2.2.2, hk.2⟩⟩⟩, hk.1.2.1⟩))) (Kd.V_reads' (Kd.V_mono (ok' := (fun k_ => ((fun k_ => (jj k_ ∨ w.heap.size ≤ k_) ∧ k_ ≠ qi ∧ k_ ≠ qg ∧ k_ ≠ jr)) k_ ∧ some k_ ≠ (u7 : Value).ownBlock)) (zT.out) (fun k_ hk => ⟨⟨hk.1.1, ⟨hk.1.2.2.1, ⟨hk.1.2.2.2, hk.2⟩⟩⟩, hk.1.2.1⟩))).2.1 (Kd.V_F (Kd.V_mono (ok' := (fun k_ => ((fun k_ => (jj k_ ∨ w.heap.size ≤ k_) ∧ k_ ≠ qi ∧ k_ ≠ qg ∧ k_ ≠ jr)) k_ ∧ some k_ ≠ (u7 : Value).ownBlock)) (zT.out) (fun k_ hk => ⟨⟨hk.1.1, ⟨hk.1.2.2.1, ⟨hk.1.2.2.2, hk.2⟩⟩⟩, hk.1.2.1⟩))))); (case aB => exact (by repeat (first | exact bw HB.out | refine below_set ?_ qm.out | refine below_set ?_ ji.out | refine below_set ?_ Yb.out))); (case aF => exact (fun k_ hk => ⟨(.inr (Nat.le_trans (below_size (by repeat (first | exact bw HB.out | refine below_set ?_ qm.out | refine below_set ?_ ji.out | refine below_set ?_ Yb.out))) hk)), Kd.freshB (g := qi) (o := .cells #[.slice qq qd.length qp, .slice (some Yo) qb.length je] 59 (0, 0)) (bk qc.out) k_ hk, Kd.freshB (g := qg) (o := .cells #[.slice jn qn.length jm] 31 (0, 0)) (bk qf.out) k_ hk, Kd.freshB (g := jr) (o := .cells #[.slice yU ((qa qb qI).f0.f0).length yT, .int .i64 ((qa qb qI).f1), .int .i64 ((qa qb qI).f2), .int .i64 ((qa qb qI).f3), .slice Zd ((qa qb qI).f4.f0).length Zc, .slice Zr ((qa qb qI).f5).length Zp, .slice ZC ((qa qb qI).f6).length ZA] 33 (0, 0)) (bk Zv.out) k_ hk⟩)); (case aO => exact (by (with_reducible repeat (first | apply Kd.N_alloc | apply Kd.N_drewN | apply Kd.N_drew)); exact Kd.N_mono HO_7.out (fun _ hk => ⟨hk.1.1, ⟨hk.1.2.1, ⟨hk.1.2.2, hk.2⟩⟩⟩))); (case aS => exact (below_size (by repeat (first | exact bw HB.out | refine below_set ?_ qm.out | refine below_set ?_ ji.out | refine below_set ?_ Yb.out)))); (case aL => have := qvv.out; omega); intro qpb w25 ho hb hg hat; rw [← qoB.out] at ho; replace HO_12 := ak (Kd.V_afterv (ok := (fun k_ => (jj k_ ∨ w.heap.size ≤ k_) ∧ k_ ≠ qi ∧ k_ ≠ qg ∧ k_ ≠ jr)) (by (with_reducible repeat (first | apply Kd.V_alloc | apply Kd.V_drewN | apply Kd.V_drew)); exact Kd.V_mono HO_12.out (fun _ hk => ⟨⟨hk.1.1, ⟨hk.1.2.2.1, ⟨hk.1.2.2.2, hk.2⟩⟩⟩, hk.1.2.1⟩)) hg hat); replace HO_102001 := ak (Kd.V_afterv (ok := (fun k_ => (jj k_ ∨ w.heap.size ≤ k_) ∧ k_ ≠ qi ∧ k_ ≠ qg ∧ k_ ≠ jr)) (by (with_reducible repeat (first | apply Kd.V_alloc | apply Kd.V_drewN | apply Kd.V_drew)); exact Kd.V_mono HO_102001.out (fun _ hk => ⟨⟨hk.1.1, ⟨hk.1.2.2.1, ⟨hk.1.2.2.2, hk.2⟩⟩⟩, hk.1.2.1⟩)) hg hat); replace qc := ak (blk_grown (bk qc.out) hg (Kd.N_ne HO_7.out qc.out (by decide))); replace qf := ak (blk_grown (bk qf.out) hg (Kd.N_ne HO_7.out qf.out (by decide))); replace zx := ak (Kd.V_afterv (ok := (fun k_ => (jj k_ ∨ w.heap.size ≤ k_) ∧ k_ ≠ qi ∧ k_ ≠ qg ∧ k_ ≠ jr)) (by (with_reducible repeat (first | apply Kd.V_alloc | apply Kd.V_drewN | apply Kd.V_drew)); exact Kd.V_mono zx.out (fun _ hk => ⟨⟨hk.1.1, ⟨hk.1.2.2.1, ⟨hk.1.2.2.2, hk.2⟩⟩⟩, hk.1.2.1⟩)) hg hat); replace zV := ak (Kd.V_afterv (ok := (fun k_ => (jj k_ ∨ w.heap.size ≤ k_) ∧ k_ ≠ qi ∧ k_ ≠ qg ∧ k_ ≠ jr)) (by (with_reducible repeat (first | apply Kd.V_alloc | apply Kd.V_drewN | apply Kd.V_drew)); exact Kd.V_mono zV.out (fun _ hk => ⟨⟨hk.1.1, ⟨hk.1.2.2.1, ⟨hk.1.2.2.2, hk.2⟩⟩⟩, hk.1.2.1⟩)) hg hat); replace zU := ak (Kd.V_afterv (ok := (fun k_ => (jj k_ ∨ w.heap.size ≤ k_) ∧ k_ ≠ qi ∧ k_ ≠ qg ∧ k_ ≠ jr)) (by (with_reducible repeat (first | apply Kd.V_alloc | apply Kd.V_drewN | apply Kd.V_drew)); exact Kd.V_mono zU.out (fun _ hk => ⟨⟨hk.1.1, ⟨hk.1.2.2.1, ⟨hk.1.2.2.2, hk.2⟩⟩⟩, hk.1.2.1⟩)) hg hat); replace zT := ak (Kd.V_afterv (ok := (fun k_ => (jj k_ ∨ w.heap.size ≤ k_) ∧ k_ ≠ qi ∧ k_ ≠ qg ∧ k_ ≠ jr)) (by (with_reducible repeat (first | apply Kd.V_alloc | apply Kd.V_drewN | apply Kd.V_drew)); exact Kd.V_mono zT.out (fun _ hk => ⟨⟨hk.1.1, ⟨hk.1.2.2.1, ⟨hk.1.2.2.2, hk.2⟩⟩⟩, hk.1.2.1⟩)) hg hat); replace Zv := ak (blk_grown (bk Zv.out) hg (Kd.N_away HO_7.out (fun _ hk => hk.2))); replace HB := ak (hb); have qaL := ak (ho); clear HO_7; clear ho hb hg hat))
         go_roundg k1
         case measure => have := HK1.out; omega
         case rel => exact ⟨(qlo), (wrap64 (qI + 1)), (by first | rfl | (simp; done) | (simp [*]; done)), H', ⟨by have := HK1.out; omega⟩, ⟨by (with_reducible repeat (first | apply Kd.N_alloc | apply Kd.N_drewN | apply Kd.N_drew)); exact Kd.N_mono qaL.out (fun _ hk => ⟨hk.1, ⟨hk.2.1, hk.2.2.1⟩⟩)⟩, ⟨by (with_reducible repeat (first | apply Kd.V_alloc | apply Kd.V_drewN | apply Kd.V_drew)); exact Kd.V_mono HO_12.out (fun _ hk => ⟨hk.1.1, ⟨hk.2, ⟨hk.1.2.1, hk.1.2.2.1⟩⟩⟩)⟩, ⟨by (with_reducible repeat (first | apply Kd.V_alloc | apply Kd.V_drewN | apply Kd.V_drew)); exact Kd.V_mono HO_102001.out (fun _ hk => ⟨hk.1.1, ⟨hk.2, ⟨hk.1.2.1, hk.1.2.2.1⟩⟩⟩)⟩, ⟨bk qc.out⟩, ⟨bk qf.out⟩, ⟨by repeat (first | exact bw HB.out | refine below_set ?_ qm.out | refine below_set ?_ ji.out | refine below_set ?_ Yb.out)⟩⟩
        ·rw [if_neg c16] at H
         exact absurd H (by simp)
       ·rw [if_neg c15] at H
        have c15b0 : (a2 == 255) = false := beq_eq_false_iff_ne.mpr c15
        have c15b1 : (a2 != 255) = true := bne_iff_ne.mpr c15
        by_cases c26 : ((qa qb qI).f1) = a2
        ·rw [if_pos c26] at H
         have c26b0 : (((qa qb qI).f1) == a2) = true := beq_iff_eq.mpr c26
         have c26b1 : (((qa qb qI).f1) != a2) = false := bne_eq_false_iff_eq.mpr c26
         clear c26
         by_cases c27 : Ql.length < 1172812402961
         ·rw [if_pos c27] at H
          have qoF := ak c27
          clear c27
          obtain ⟨qgg, Xa⟩ : ∃ y_ : List (S33), y_ = (Ql ++ [(⟨(⟨(qa qb qI).f0.f0⟩ : S31), (qa qb qI).f1, (qa qb qI).f2, (qa qb qI).f3, (⟨(qa qb qI).f4.f0⟩ : S31), (qa qb qI).f5, (qa qb qI).f6⟩ : S33)]) := ⟨_, rfl⟩
          replace H : (qY.l0 k1 a2 qgg qb (qb.length : Int) (wrap64 (qI + 1)) qn) = some r := by first | (rw [Xa]; with_reducible exact H) | (have H2_ := (Option.bind_some _ _).symm.trans H; rw [Xa]; with_reducible exact H2_) | (have H2_ := (Option.bind_some _ _).symm.trans H; with_reducible exact H2_) | with_reducible exact H | (rw [Xa]; exact H) | exact H
          have qhB := ak Xa
          clear Xa
          have H' := ak H
          clear H
          have yk : 0 ≤ (qI : Int) := of_decide_eq_true (by first | (with_reducible assumption) | assumption)
          have yj : qI < (qb.length : Int) := of_decide_eq_true (by first | (with_reducible assumption) | assumption)
          obtain ⟨Yo, yU, yT, Zd, Zc, Zr, Zp, ZC, ZA, YM, zi, JX, JW, JV, Qp, Qo, Qn, QX, Jg, QW, Jf, QV, Je, QU, Jd⟩ := Qi (Kd.V_reads' HO_12.out).2.2 qI yk yj
          cases YM
          obtain ⟨qlk, qb7, qb9, yR⟩ := Kd.V_get HO_12.out z33 qI yk (by first | exact yj | exact of_decide_eq_true (by first | (with_reducible assumption) | assumption) | (have e_ := (Kd.V_reads' HO_12.out).1; omega))
          obtain ⟨qgO, qgK, qgN, qgJ, qgM, qgI, qgL, qgH, rfl, JB, JS, JA, JR, Jz, JQ, Jy, JP⟩ := k33_openF qb9
          have Qc := yR 0 _ rfl
          rw [Nat.add_zero] at Qc
          replace Qc := Option.some.inj (Qc.symm.trans zi)
          injection Qc with hva_ hvn_ hvc_
          rw [hva_] at JS
          rw [hvc_] at JB
          have zx := ak (show Kd.V (Kd.slice 5 (Kd.int .u8)) 25 _ w.heap.size _ _ ((qa qb qI).f0.f0) from Kd.V_mk JB JS)
          clear hva_ hvn_ hvc_ JS JB
          have Qb := yR 4 _ rfl
          rw [add_field _ _ 4 (by omega)] at Qb
          replace Qb := Option.some.inj (Qb.symm.trans Qp)
          injection Qb with hva_ hvn_ hvc_
          rw [hva_] at JR
          rw [hvc_] at JA
          have zV := ak (show Kd.V (Kd.slice 5 (Kd.int .u8)) 25 _ w.heap.size _ _ ((qa qb qI).f4.f0) from Kd.V_mk JA JR)
          clear hva_ hvn_ hvc_ JR JA
          have Qa := yR 5 _ rfl
          rw [add_field _ _ 5 (by omega)] at Qa
          replace Qa := Option.some.inj (Qa.symm.trans Qo)
          injection Qa with hva_ hvn_ hvc_
          rw [hva_] at JQ
          rw [hvc_] at Jz
          have zU := ak (show Kd.V (Kd.int .u8) 5 _ w.heap.size _ _ ((qa qb qI).f5) from Kd.V_mk Jz JQ)
          clear hva_ hvn_ hvc_ JQ Jz
          have yZ := yR 6 _ rfl
          rw [add_field _ _ 6 (by omega)] at yZ
          replace yZ := Option.some.inj (yZ.symm.trans Qn)
          injection yZ with hva_ hvn_ hvc_
          rw [hva_] at JP
          rw [hvc_] at Jy
          have zT := ak (show Kd.V (Kd.int .i64) 3 _ w.heap.size _ _ ((qa qb qI).f6) from Kd.V_mk Jy JP)
          clear hva_ hvn_ hvc_ JP Jy
          clear yR qb7
          have yK := ak Jg
          have YW := ak QX
          clear Jg QX
          have yJ := ak Jf
          have qbV := ak QW
          clear Jf QW
          have yI := ak Je
          have qbU := ak QV
          clear Je QV
          have yH := ak Jd
          have qbT := ak QU
          clear Jd QU
          replace yk := eq_true yk
          replace yj := eq_true yj
          go_wp2_with (first | ((with_reducible refine gate_dst (N := 9) rfl ?_); refine box_event ?hg (N := 9) ?hd (cs := #[.slice none 0 0, .int .i64 0, .int .i64 0, .int .i64 0, .slice none 0 0, .slice none 0 0, .slice none 0 0]) (t := 33) ?hr ?_; (case hd => rfl); (case hg => rfl); (case hr => first | (go_simp; done) | (go_simp; rfl)); intro jr hg w28 hbox hb; replace HO_7 := ak (Kd.N_below (Kd.N_elderB (by (with_reducible repeat (first | apply Kd.N_alloc | apply Kd.N_drewN | apply Kd.N_drew)); exact HO_7.out) jr (Nat.le_of_eq hg.symm)) hb); replace HO_12 := ak (Kd.V_below (Kd.V_elderB (by (with_reducible repeat (first | apply Kd.V_alloc | apply Kd.V_drewN | apply Kd.V_drew)); exact HO_12.out) jr (Nat.le_of_eq hg.symm)) hb); replace HO_102001 := ak (Kd.V_below (Kd.V_elderB (by (with_reducible repeat (first | apply Kd.V_alloc | apply Kd.V_drewN | apply Kd.V_drew)); exact HO_102001.out) jr (Nat.le_of_eq hg.symm)) hb); replace zx := ak (Kd.V_below (Kd.V_elderB (by (with_reducible repeat (first | apply Kd.V_alloc | apply Kd.V_drewN | apply Kd.V_drew)); exact zx.out) jr (Nat.le_of_eq hg.symm)) hb); replace zV := ak (Kd.V_below (Kd.V_elderB (by (with_reducible repeat (first | apply Kd.V_alloc | apply Kd.V_drewN | apply Kd.V_drew)); exact zV.out) jr (Nat.le_of_eq hg.symm)) hb); replace zU := ak (Kd.V_below (Kd.V_elderB (by (with_reducible repeat (first | apply Kd.V_alloc | apply Kd.V_drewN | apply Kd.V_drew)); exact zU.out) jr (Nat.le_of_eq hg.symm)) hb); replace zT := ak (Kd.V_below (Kd.V_elderB (by (with_reducible repeat (first | apply Kd.V_alloc | apply Kd.V_drewN | apply Kd.V_drew)); exact zT.out) jr (Nat.le_of_eq hg.symm)) hb); replace yK := ak (Kd.C_below (by repeat (first | (with_reducible exact yK.out) | (with_reducible refine Kd.C_alloc ?_ _) | (with_reducible refine Kd.C_drewN ?_ _) | (with_reducible refine Kd.C_drew ?_) | exact yK.out)) hb); replace yJ := ak (Kd.C_below (by repeat (first | (with_reducible exact yJ.out) | (with_reducible refine Kd.C_alloc ?_ _) | (with_reducible refine Kd.C_drewN ?_ _) | (with_reducible refine Kd.C_drew ?_) | exact yJ.out)) hb); replace yI := ak (Kd.C_below (by repeat (first | (with_reducible exact yI.out) | (with_reducible refine Kd.C_alloc ?_ _) | (with_reducible refine Kd.C_drewN ?_ _) | (with_reducible refine Kd.C_drew ?_) | exact yI.out)) hb); replace yH := ak (Kd.C_below (by repeat (first | (with_reducible exact yH.out) | (with_reducible refine Kd.C_alloc ?_ _) | (with_reducible refine Kd.C_drewN ?_ _) | (with_reducible refine Kd.C_drew ?_) | exact yH.out)) hb); have Zv := ak (hbox); have qoQ := ak ((by rw [hg]; exact (below_size (by repeat (first | exact bw HB.out | refine below_set ?_ qm.out | refine below_set ?_ ji.out))) : w.heap.size ≤ jr)); have Yb := ak ((by rw [hg]; exact (below_size (by repeat (first | exact bw HB.out | refine below_set ?_ qm.out | refine below_set ?_ ji.out))) : w.heap.size ≤ jr)); replace HB := ak (below_step (by repeat (first | exact bw HB.out | refine below_set ?_ qm.out | refine below_set ?_ ji.out)) hb); have Yf := ak ((by rw [hg]; exact Nat.ne_of_lt (blk_lt (bk qc.out)) : qi ≠ jr)); have qas := ak ((by rw [hg]; exact Nat.ne_of_gt (blk_lt (bk qc.out)) : jr ≠ qi)); replace qc := ak (blk_below (bk qc.out) hb); have Ye := ak ((by rw [hg]; exact Nat.ne_of_lt (blk_lt (bk qf.out)) : qg ≠ jr)); have qar := ak ((by rw [hg]; exact Nat.ne_of_gt (blk_lt (bk qf.out)) : jr ≠ qg)); replace qf := ak (blk_below (bk qf.out) hb); clear hb hbox hg; have qD9 := qas.out; have qDH := Yf.out; have qvd := qar.out; have qu5 := Ye.out; obtain ⟨qdT, qdS, qfP, qfO, qfN, qfM, qfL, qdD, qdC, qfw, qfv, qfu, qft, qfs⟩ := cells7 Zv.out; have qvc := qN.out; have qu4 := qO.out; obtain ⟨qkn, qju⟩ := cells1 qf.out) | ((with_reducible refine gate_callee (f := 102) rfl ?_); refine goesL_ (some 21) rfl rfl Try.func102 (by kernel_rfl) rfl #[.agg #[.slice yU ((qa qb qI).f0.f0).length yT], .agg #[.slice jn qn.length jm]] rfl (by first | rfl | (simp only [List.map_toArray, List.map_cons, List.map_nil]; first | done | rfl)) ?_; (with_reducible refine (ye.calls k1 _ _ ((qa qb qI).f0.f0) _ _ qn true _ ?qk ?qj ?qw ?qy A13.out).mono ?_); (case qk => repeat (first | exact ((Kd.V_reads' (by (with_reducible repeat (first | apply Kd.V_alloc | apply Kd.V_drewN | apply Kd.V_drew)); exact (far7V zx.out (fun k_ hk => hk.2)))).2.2) | (with_reducible refine Kd.C_alloc ?_ _) | (with_reducible refine Kd.C_drewN ?_ _) | (with_reducible refine Kd.C_drew ?_))); (case qj => exact YW.out); (case qw => exact Kd.C_below yo.out (by repeat (first | exact bw HB.out | refine below_set ?_ qm.out | refine below_set ?_ ji.out | refine below_set ?_ Yb.out))); (case qy => exact yE.out); rintro e w34 ⟨rfl, hb⟩; refine ⟨_, rfl, ?_⟩; replace HO_7 := ak (Kd.N_below (by (with_reducible repeat (first | apply Kd.N_alloc | apply Kd.N_drewN | apply Kd.N_drew)); exact (far7N HO_7.out (fun k_ hk => hk.2))) hb); replace HO_12 := ak (Kd.V_below (by (with_reducible repeat (first | apply Kd.V_alloc | apply Kd.V_drewN | apply Kd.V_drew)); exact (far7V HO_12.out (fun k_ hk => hk.2))) hb); replace HO_102001 := ak (Kd.V_below (by (with_reducible repeat (first | apply Kd.V_alloc | apply Kd.V_drewN | apply Kd.V_drew)); exact (far7V HO_102001.out (fun k_ hk => hk.2))) hb); replace qc := ak (blk_below (Xm Yf.out qc.out) hb); replace qf := ak (blk_below (Xm Ye.out qf.out) hb); replace yK := ak (Kd.C_below ((Kd.V_reads' (by (with_reducible repeat (first | apply Kd.V_alloc | apply Kd.V_drewN | apply Kd.V_drew)); exact (far7V zx.out (fun k_ hk => hk.2)))).2.2) hb); replace zx := ak (Kd.V_below (by (with_reducible repeat (first | apply Kd.V_alloc | apply Kd.V_drewN | apply Kd.V_drew)); exact (far7V zx.out (fun k_ hk => hk.2))) hb); replace yJ := ak (Kd.C_below ((Kd.V_reads' (by (with_reducible repeat (first | apply Kd.V_alloc | apply Kd.V_drewN | apply Kd.V_drew)); exact (far7V zV.out (fun k_ hk => hk.2)))).2.2) hb); replace zV := ak (Kd.V_below (by (with_reducible repeat (first | apply Kd.V_alloc | apply Kd.V_drewN | apply Kd.V_drew)); exact (far7V zV.out (fun k_ hk => hk.2))) hb); replace yI := ak (Kd.C_below ((Kd.V_reads' (by (with_reducible repeat (first | apply Kd.V_alloc | apply Kd.V_drewN | apply Kd.V_drew)); exact (far7V zU.out (fun k_ hk => hk.2)))).2.2) hb); replace zU := ak (Kd.V_below (by (with_reducible repeat (first | apply Kd.V_alloc | apply Kd.V_drewN | apply Kd.V_drew)); exact (far7V zU.out (fun k_ hk => hk.2))) hb); replace yH := ak (Kd.C_below ((Kd.V_reads' (by (with_reducible repeat (first | apply Kd.V_alloc | apply Kd.V_drewN | apply Kd.V_drew)); exact (far7V zT.out (fun k_ hk => hk.2)))).2.2) hb); replace zT := ak (Kd.V_below (by (with_reducible repeat (first | apply Kd.V_alloc | apply Kd.V_drewN | apply Kd.V_drew)); exact (far7V zT.out (fun k_ hk => hk.2))) hb); replace Zv := ak (blk_below (qa1 Zv.out) hb); replace HB := ak (below_step (by repeat (first | exact bw HB.out | refine below_set ?_ qm.out | refine below_set ?_ ji.out | refine below_set ?_ Yb.out)) hb); (try clear hb); (try clear hb2); (try clear hk); (try clear hi); obtain ⟨qcE, qcD, qdR, qdQ, qdP, qdO, qdN, qcj, qci, qdB, qdA, qdz, qdy, qdx⟩ := cells7 Zv.out) | ((with_reducible refine gate_builtin (b := .append) (xs := #[.tmp 32, .tmp 34]) rfl ?_); at_builtin; refine Kd.N_append k33 (w0 := w) w.heap.size rfl (.tmp 32) (.tmp 34) 57 33 (.agg #[(.slice none 0 0), (.int .i64 0), (.int .i64 0), (.int .i64 0), (.slice none 0 0), (.slice none 0 0), (.slice none 0 0)]) 120 rfl Try.underlying57 qgj rfl (by decide) (by omega) u7 Ql (⟨(⟨(qa qb qI).f0.f0⟩ : S31), (qa qb qI).f1, (qa qb qI).f2, (qa qb qI).f3, (⟨(qa qb qI).f4.f0⟩ : S31), (qa qb qI).f5, (qa qb qI).f6⟩ : S33) [.slice yU ((qa qb qI).f0.f0).length yT, .int .i64 ((qa qb qI).f1), .int .i64 ((qa qb qI).f2), .int .i64 ((qa qb qI).f3), .slice Zd ((qa qb qI).f4.f0).length Zc, .slice Zr ((qa qb qI).f5).length Zp, .slice ZC ((qa qb qI).f6).length ZA] (fun k_ => (jj k_ ∨ w.heap.size ≤ k_) ∧ k_ ≠ qi ∧ k_ ≠ qg ∧ k_ ≠ jr) (fun k_ => ((fun k_ => (jj k_ ∨ w.heap.size ≤ k_) ∧ k_ ≠ qi ∧ k_ ≠ qg ∧ k_ ≠ jr)) k_ ∧ some k_ ≠ (u7 : Value).ownBlock) rfl rfl ?aP (fun _ hk => hk) ?aF ?aO ?aB ?aS ?aL ?_; (case aP => exact (k33_mkF _ _ (⟨(⟨(qa qb qI).f0.f0⟩ : S31), (qa qb qI).f1, (qa qb qI).f2, (qa qb qI).f3, (⟨(qa qb qI).f4.f0⟩ : S31), (qa qb qI).f5, (qa qb qI).f6⟩ : S33) (Kd.V_reads' (Kd.V_mono (ok' := (fun k_ => ((fun k_ => (jj k_ ∨ w.heap.size ≤ k_) ∧ k_ ≠ qi ∧ k_ ≠ qg ∧ k_ ≠ jr)) k_ ∧ some k_ ≠ (u7 : Value).ownBlock)) (zx.out) (fun k_ hk => ⟨⟨hk.1.1, ⟨hk.1.2.2.1, ⟨hk.1.2.2.2, hk.2⟩⟩⟩, hk.1.2.1⟩))).2.1 (Kd.V_F (Kd.V_mono (ok' := (fun k_ => ((fun k_ => (jj k_ ∨ w.heap.size ≤ k_) ∧ k_ ≠ qi ∧ k_ ≠ qg ∧ k_ ≠ jr)) k_ ∧ some k_ ≠ (u7 : Value).ownBlock)) (zx.out) (fun k_ hk => ⟨⟨hk.1.1, ⟨hk.1.2.2.1, ⟨hk.1.2.2.2, hk.2⟩⟩⟩, hk.1.2.1⟩))) (Kd.V_reads' (Kd.V_mono (ok' := (fun k_ => ((fun k_ => (jj k_ ∨ w.heap.size ≤ k_) ∧ k_ ≠ qi ∧ k_ ≠ qg ∧ k_ ≠ jr)) k_ ∧ some k_ ≠ (u7 : Value).ownBlock)) (zV.out) (fun k_ hk => ⟨⟨hk.1.1, ⟨hk.1.2.2.1, ⟨hk.1.2.2.2, hk.2⟩⟩⟩, hk.1.2.1⟩))).2.1 (Kd.V_F (Kd.V_mono (ok' := (fun k_ => ((fun k_ => (jj k_ ∨ w.heap.size ≤ k_) ∧ k_ ≠ qi ∧ k_ ≠ qg ∧ k_ ≠ jr)) k_ ∧ some k_ ≠ (u7 : Value).ownBlock)) (zV.out) (fun k_ hk => ⟨⟨hk.1.1, ⟨hk.1.2.2.1, ⟨hk.1.2.2.2, hk.2⟩⟩⟩, hk.1.2.1⟩))) (Kd.V_reads' (Kd.V_mono (ok' := (fun k_ => ((fun k_ => (jj k_ ∨ w.heap.size ≤ k_) ∧ k_ ≠ qi ∧ k_ ≠ qg ∧ k_ ≠ jr)) k_ ∧ some k_ ≠ (u7 : Value).ownBlock)) (zU.out) (fun k_ hk => ⟨⟨hk.1.1, ⟨hk.1.2.2.1, ⟨hk.1.2.2.2, hk.2⟩⟩⟩, hk.1.2.1⟩))).2.1 (Kd.V_F (Kd.V_mono (ok' := (fun k_ => ((fun k_ => (jj k_ ∨ w.heap.size ≤ k_) ∧ k_ ≠ qi ∧ k_ ≠ qg ∧ k_ ≠ jr)) k_ ∧ some k_ ≠ (u7 : Value).ownBlock)) (zU.out) (fun k_ hk => ⟨⟨hk.1.1, ⟨hk.1.2.2.1, ⟨hk.1.2.2.2, hk.2⟩⟩⟩, hk.1.2.1⟩))) (Kd.V_reads' (Kd.V_mono (ok' := (fun k_ => ((fun k_ => (jj k_ ∨ w.heap.size ≤ k_) ∧ k_ ≠ qi ∧ k_ ≠ qg ∧ k_ ≠ jr)) k_ ∧ some k_ ≠ (u7 : Value).ownBlock)) (zT.out) (fun k_ hk => ⟨⟨hk.1.1, ⟨hk.1.2.2.1, ⟨hk.1.2.2.2, hk.2⟩⟩⟩, hk.1.2.1⟩))).2.1 (Kd.V_F (Kd.V_mono (ok' := (fun k_ => ((fun k_ => (jj k_ ∨ w.heap.size ≤ k_) ∧ k_ ≠ qi ∧ k_ ≠ qg ∧ k_ ≠ jr)) k_ ∧ some k_ ≠ (u7 : Value).ownBlock)) (zT.out) (fun k_ hk => ⟨⟨hk.1.1, ⟨hk.1.2.2.1, ⟨hk.1.2.2.2, hk.2⟩⟩⟩, hk.1.2.1⟩))))); (case aB => exact (by repeat (first | exact bw HB.out | refine below_set ?_ qm.out | refine below_set ?_ ji.out | refine below_set ?_ Yb.out))); (case aF => exact (fun k_ hk => ⟨(.inr (Nat.le_trans (below_size (by repeat (first | exact bw HB.out | refine below_set ?_ qm.out | refine below_set ?_ ji.out | refine below_set ?_ Yb.out))) hk)), Kd.freshB (g := qi) (o := .cells #[.slice qq qd.length qp, .slice (some Yo) qb.length je] 59 (0, 0)) (bk qc.out) k_ hk, Kd.freshB (g := qg) (o := .cells #[.slice jn qn.length jm] 31 (0, 0)) (bk qf.out) k_ hk, Kd.freshB (g := jr) (o := .cells #[.slice yU ((qa qb qI).f0.f0).length yT, .int .i64 ((qa qb qI).f1), .int .i64 ((qa qb qI).f2), .int .i64 ((qa qb qI).f3), .slice Zd ((qa qb qI).f4.f0).length Zc, .slice Zr ((qa qb qI).f5).length Zp, .slice ZC ((qa qb qI).f6).length ZA] 33 (0, 0)) (bk Zv.out) k_ hk⟩)); (case aO => exact (by (with_reducible repeat (first | apply Kd.N_alloc | apply Kd.N_drewN | apply Kd.N_drew)); exact Kd.N_mono HO_7.out (fun _ hk => ⟨hk.1.1, ⟨hk.1.2.1, ⟨hk.1.2.2, hk.2⟩⟩⟩))); (case aS => exact (below_size (by repeat (first | exact bw HB.out | refine below_set ?_ qm.out | refine below_set ?_ ji.out | refine below_set ?_ Yb.out)))); (case aL => have := qoF.out; omega); intro qlq w36 ho hb hg hat; rw [← qhB.out] at ho; replace HO_12 := ak (Kd.V_afterv (ok := (fun k_ => (jj k_ ∨ w.heap.size ≤ k_) ∧ k_ ≠ qi ∧ k_ ≠ qg ∧ k_ ≠ jr)) (by (with_reducible repeat (first | apply Kd.V_alloc | apply Kd.V_drewN | apply Kd.V_drew)); exact Kd.V_mono HO_12.out (fun _ hk => ⟨⟨hk.1.1, ⟨hk.1.2.2.1, ⟨hk.1.2.2.2, hk.2⟩⟩⟩, hk.1.2.1⟩)) hg hat); replace HO_102001 := ak (Kd.V_afterv (ok := (fun k_ => (jj k_ ∨ w.heap.size ≤ k_) ∧ k_ ≠ qi ∧ k_ ≠ qg ∧ k_ ≠ jr)) (by (with_reducible repeat (first | apply Kd.V_alloc | apply Kd.V_drewN | apply Kd.V_drew)); exact Kd.V_mono HO_102001.out (fun _ hk => ⟨⟨hk.1.1, ⟨hk.1.2.2.1, ⟨hk.1.2.2.2, hk.2⟩⟩⟩, hk.1.2.1⟩)) hg hat); replace qc := ak (blk_grown (bk qc.out) hg (Kd.N_ne HO_7.out qc.out (by decide))); replace qf := ak (blk_grown (bk qf.out) hg (Kd.N_ne HO_7.out qf.out (by decide))); replace zx := ak (Kd.V_afterv (ok := (fun k_ => (jj k_ ∨ w.heap.size ≤ k_) ∧ k_ ≠ qi ∧ k_ ≠ qg ∧ k_ ≠ jr)) (by (with_reducible repeat (first | apply Kd.V_alloc | apply Kd.V_drewN | apply Kd.V_drew)); exact Kd.V_mono zx.out (fun _ hk => ⟨⟨hk.1.1, ⟨hk.1.2.2.1, ⟨hk.1.2.2.2, hk.2⟩⟩⟩, hk.1.2.1⟩)) hg hat); replace zV := ak (Kd.V_afterv (ok := (fun k_ => (jj k_ ∨ w.heap.size ≤ k_) ∧ k_ ≠ qi ∧ k_ ≠ qg ∧ k_ ≠ jr)) (by (with_reducible repeat (first | apply Kd.V_alloc | apply Kd.V_drewN | apply Kd.V_drew)); exact Kd.V_mono zV.out (fun _ hk => ⟨⟨hk.1.1, ⟨hk.1.2.2.1, ⟨hk.1.2.2.2, hk.2⟩⟩⟩, hk.1.2.1⟩)) hg hat); replace zU := ak (Kd.V_afterv (ok := (fun k_ => (jj k_ ∨ w.heap.size ≤ k_) ∧ k_ ≠ qi ∧ k_ ≠ qg ∧ k_ ≠ jr)) (by (with_reducible repeat (first | apply Kd.V_alloc | apply Kd.V_drewN | apply Kd.V_drew)); exact Kd.V_mono zU.out (fun _ hk => ⟨⟨hk.1.1, ⟨hk.1.2.2.1, ⟨hk.1.2.2.2, hk.2⟩⟩⟩, hk.1.2.1⟩)) hg hat); replace zT := ak (Kd.V_afterv (ok := (fun k_ => (jj k_ ∨ w.heap.size ≤ k_) ∧ k_ ≠ qi ∧ k_ ≠ qg ∧ k_ ≠ jr)) (by (with_reducible repeat (first | apply Kd.V_alloc | apply Kd.V_drewN | apply Kd.V_drew)); exact Kd.V_mono zT.out (fun _ hk => ⟨⟨hk.1.1, ⟨hk.1.2.2.1, ⟨hk.1.2.2.2, hk.2⟩⟩⟩, hk.1.2.1⟩)) hg hat); replace Zv := ak (blk_grown (bk Zv.out) hg (Kd.N_away HO_7.out (fun _ hk => hk.2))); replace HB := ak (hb); have qdo := ak (ho); clear HO_7; clear ho hb hg hat))
          go_roundg k1
          case measure => have := HK1.out; omega
          case rel => exact ⟨(qgg), (wrap64 (qI + 1)), (by first | rfl | (simp; done) | (simp [*]; done)), H', ⟨by have := HK1.out; omega⟩, ⟨by (with_reducible repeat (first | apply Kd.N_alloc | apply Kd.N_drewN | apply Kd.N_drew)); exact Kd.N_mono qdo.out (fun _ hk => ⟨hk.1, ⟨hk.2.1, hk.2.2.1⟩⟩)⟩, ⟨by (with_reducible repeat (first | apply Kd.V_alloc | apply Kd.V_drewN | apply Kd.V_drew)); exact Kd.V_mono HO_12.out (fun _ hk => ⟨hk.1.1, ⟨hk.2, ⟨hk.1.2.1, hk.1.2.2.1⟩⟩⟩)⟩, ⟨by (with_reducible repeat (first | apply Kd.V_alloc | apply Kd.V_drewN | apply Kd.V_drew)); exact Kd.V_mono HO_102001.out (fun _ hk => ⟨hk.1.1, ⟨hk.2, ⟨hk.1.2.1, hk.1.2.2.1⟩⟩⟩)⟩, ⟨bk qc.out⟩, ⟨bk qf.out⟩, ⟨by repeat (first | exact bw HB.out | refine below_set ?_ qm.out | refine below_set ?_ ji.out | refine below_set ?_ Yb.out)⟩⟩
         ·rw [if_neg c27] at H
          exact absurd H (by simp)
        ·rw [if_neg c26] at H
         have c26b0 : (((qa qb qI).f1) == a2) = false := beq_eq_false_iff_ne.mpr c26
         have c26b1 : (((qa qb qI).f1) != a2) = true := bne_iff_ne.mpr c26
         have H' := ak H
         clear H
         have yk : 0 ≤ (qI : Int) := of_decide_eq_true (by first | (with_reducible assumption) | assumption)
         have yj : qI < (qb.length : Int) := of_decide_eq_true (by first | (with_reducible assumption) | assumption)
         obtain ⟨Yo, yU, yT, Zd, Zc, Zr, Zp, ZC, ZA, YM, zi, JX, JW, JV, Qp, Qo, Qn, QX, Jg, QW, Jf, QV, Je, QU, Jd⟩ := Qi (Kd.V_reads' HO_12.out).2.2 qI yk yj
         cases YM
         obtain ⟨qlk, qb7, qb9, yR⟩ := Kd.V_get HO_12.out z33 qI yk (by first | exact yj | exact of_decide_eq_true (by first | (with_reducible assumption) | assumption) | (have e_ := (Kd.V_reads' HO_12.out).1; omega))
         obtain ⟨qgO, qgK, qgN, qgJ, qgM, qgI, qgL, qgH, rfl, JB, JS, JA, JR, Jz, JQ, Jy, JP⟩ := k33_openF qb9
         have Qc := yR 0 _ rfl
         rw [Nat.add_zero] at Qc
         replace Qc := Option.some.inj (Qc.symm.trans zi)
         injection Qc with hva_ hvn_ hvc_
         rw [hva_] at JS
         rw [hvc_] at JB
         have zx := ak (show Kd.V (Kd.slice 5 (Kd.int .u8)) 25 _ w.heap.size _ _ ((qa qb qI).f0.f0) from Kd.V_mk JB JS)
         clear hva_ hvn_ hvc_ JS JB
         have Qb := yR 4 _ rfl
         rw [add_field _ _ 4 (by omega)] at Qb
         replace Qb := Option.some.inj (Qb.symm.trans Qp)
         injection Qb with hva_ hvn_ hvc_
         rw [hva_] at JR
         rw [hvc_] at JA
         have zV := ak (show Kd.V (Kd.slice 5 (Kd.int .u8)) 25 _ w.heap.size _ _ ((qa qb qI).f4.f0) from Kd.V_mk JA JR)
         clear hva_ hvn_ hvc_ JR JA
         have Qa := yR 5 _ rfl
         rw [add_field _ _ 5 (by omega)] at Qa
         replace Qa := Option.some.inj (Qa.symm.trans Qo)
         injection Qa with hva_ hvn_ hvc_
         rw [hva_] at JQ
         rw [hvc_] at Jz
         have zU := ak (show Kd.V (Kd.int .u8) 5 _ w.heap.size _ _ ((qa qb qI).f5) from Kd.V_mk Jz JQ)
         clear hva_ hvn_ hvc_ JQ Jz
         have yZ := yR 6 _ rfl
         rw [add_field _ _ 6 (by omega)] at yZ
         replace yZ := Option.some.inj (yZ.symm.trans Qn)
         injection yZ with hva_ hvn_ hvc_
         rw [hva_] at JP
         rw [hvc_] at Jy
         have zT := ak (show Kd.V (Kd.int .i64) 3 _ w.heap.size _ _ ((qa qb qI).f6) from Kd.V_mk Jy JP)
         clear hva_ hvn_ hvc_ JP Jy
         clear yR qb7
         have yK := ak Jg
         have YW := ak QX
         clear Jg QX
         have yJ := ak Jf
         have qbV := ak QW
         clear Jf QW
         have yI := ak Je
         have qbU := ak QV
         clear Je QV
         have yH := ak Jd
         have qbT := ak QU
         clear Jd QU
         replace yk := eq_true yk
         replace yj := eq_true yj
         go_wp2_with (first | ((with_reducible refine gate_dst (N := 9) rfl ?_); refine box_event ?hg (N := 9) ?hd (cs := #[.slice none 0 0, .int .i64 0, .int .i64 0, .int .i64 0, .slice none 0 0, .slice none 0 0, .slice none 0 0]) (t := 33) ?hr ?_; (case hd => rfl); (case hg => rfl); (case hr => first | (go_simp; done) | (go_simp; rfl)); intro jr hg w37 hbox hb; replace HO_7 := ak (Kd.N_below (Kd.N_elderB (by (with_reducible repeat (first | apply Kd.N_alloc | apply Kd.N_drewN | apply Kd.N_drew)); exact HO_7.out) jr (Nat.le_of_eq hg.symm)) hb); replace HO_12 := ak (Kd.V_below (Kd.V_elderB (by (with_reducible repeat (first | apply Kd.V_alloc | apply Kd.V_drewN | apply Kd.V_drew)); exact HO_12.out) jr (Nat.le_of_eq hg.symm)) hb); replace HO_102001 := ak (Kd.V_below (Kd.V_elderB (by (with_reducible repeat (first | apply Kd.V_alloc | apply Kd.V_drewN | apply Kd.V_drew)); exact HO_102001.out) jr (Nat.le_of_eq hg.symm)) hb); replace zx := ak (Kd.V_below (Kd.V_elderB (by (with_reducible repeat (first | apply Kd.V_alloc | apply Kd.V_drewN | apply Kd.V_drew)); exact zx.out) jr (Nat.le_of_eq hg.symm)) hb); replace zV := ak (Kd.V_below (Kd.V_elderB (by (with_reducible repeat (first | apply Kd.V_alloc | apply Kd.V_drewN | apply Kd.V_drew)); exact zV.out) jr (Nat.le_of_eq hg.symm)) hb); replace zU := ak (Kd.V_below (Kd.V_elderB (by (with_reducible repeat (first | apply Kd.V_alloc | apply Kd.V_drewN | apply Kd.V_drew)); exact zU.out) jr (Nat.le_of_eq hg.symm)) hb); replace zT := ak (Kd.V_below (Kd.V_elderB (by (with_reducible repeat (first | apply Kd.V_alloc | apply Kd.V_drewN | apply Kd.V_drew)); exact zT.out) jr (Nat.le_of_eq hg.symm)) hb); replace yK := ak (Kd.C_below (by repeat (first | (with_reducible exact yK.out) | (with_reducible refine Kd.C_alloc ?_ _) | (with_reducible refine Kd.C_drewN ?_ _) | (with_reducible refine Kd.C_drew ?_) | exact yK.out)) hb); replace yJ := ak (Kd.C_below (by repeat (first | (with_reducible exact yJ.out) | (with_reducible refine Kd.C_alloc ?_ _) | (with_reducible refine Kd.C_drewN ?_ _) | (with_reducible refine Kd.C_drew ?_) | exact yJ.out)) hb); replace yI := ak (Kd.C_below (by repeat (first | (with_reducible exact yI.out) | (with_reducible refine Kd.C_alloc ?_ _) | (with_reducible refine Kd.C_drewN ?_ _) | (with_reducible refine Kd.C_drew ?_) | exact yI.out)) hb); replace yH := ak (Kd.C_below (by repeat (first | (with_reducible exact yH.out) | (with_reducible refine Kd.C_alloc ?_ _) | (with_reducible refine Kd.C_drewN ?_ _) | (with_reducible refine Kd.C_drew ?_) | exact yH.out)) hb); have Zv := ak (hbox); have qoQ := ak ((by rw [hg]; exact (below_size (by repeat (first | exact bw HB.out | refine below_set ?_ qm.out | refine below_set ?_ ji.out))) : w.heap.size ≤ jr)); have Yb := ak ((by rw [hg]; exact (below_size (by repeat (first | exact bw HB.out | refine below_set ?_ qm.out | refine below_set ?_ ji.out))) : w.heap.size ≤ jr)); replace HB := ak (below_step (by repeat (first | exact bw HB.out | refine below_set ?_ qm.out | refine below_set ?_ ji.out)) hb); have Yf := ak ((by rw [hg]; exact Nat.ne_of_lt (blk_lt (bk qc.out)) : qi ≠ jr)); have qas := ak ((by rw [hg]; exact Nat.ne_of_gt (blk_lt (bk qc.out)) : jr ≠ qi)); replace qc := ak (blk_below (bk qc.out) hb); have Ye := ak ((by rw [hg]; exact Nat.ne_of_lt (blk_lt (bk qf.out)) : qg ≠ jr)); have qar := ak ((by rw [hg]; exact Nat.ne_of_gt (blk_lt (bk qf.out)) : jr ≠ qg)); replace qf := ak (blk_below (bk qf.out) hb); clear hb hbox hg; have qvb := qas.out; have qu3 := Yf.out; have qD6 := qar.out; have qDE := Ye.out; obtain ⟨qtb, qta, qs9, qs8, qs7, qs6, qs5, qrw, qrv, qru, qrt, qrs, qrr, qrq⟩ := cells7 Zv.out; have qD5 := qN.out; have qDD := qO.out; obtain ⟨qke, qjl⟩ := cells1 qf.out) | ((with_reducible refine gate_callee (f := 102) rfl ?_); refine goesL_ (some 21) rfl rfl Try.func102 (by kernel_rfl) rfl #[.agg #[.slice yU ((qa qb qI).f0.f0).length yT], .agg #[.slice jn qn.length jm]] rfl (by first | rfl | (simp only [List.map_toArray, List.map_cons, List.map_nil]; first | done | rfl)) ?_; (with_reducible refine (ye.calls k1 _ _ ((qa qb qI).f0.f0) _ _ qn true _ ?qk ?qj ?qw ?qy A13.out).mono ?_); (case qk => repeat (first | exact ((Kd.V_reads' (by (with_reducible repeat (first | apply Kd.V_alloc | apply Kd.V_drewN | apply Kd.V_drew)); exact (far7V zx.out (fun k_ hk => hk.2)))).2.2) | (with_reducible refine Kd.C_alloc ?_ _) | (with_reducible refine Kd.C_drewN ?_ _) | (with_reducible refine Kd.C_drew ?_))); (case qj => exact YW.out); (case qw => exact Kd.C_below yo.out (by repeat (first | exact bw HB.out | refine below_set ?_ qm.out | refine below_set ?_ ji.out | refine below_set ?_ Yb.out))); (case qy => exact yE.out); rintro e w43 ⟨rfl, hb⟩; refine ⟨_, rfl, ?_⟩; replace HO_7 := ak (Kd.N_below (by (with_reducible repeat (first | apply Kd.N_alloc | apply Kd.N_drewN | apply Kd.N_drew)); exact (far7N HO_7.out (fun k_ hk => hk.2))) hb); replace HO_12 := ak (Kd.V_below (by (with_reducible repeat (first | apply Kd.V_alloc | apply Kd.V_drewN | apply Kd.V_drew)); exact (far7V HO_12.out (fun k_ hk => hk.2))) hb); replace HO_102001 := ak (Kd.V_below (by (with_reducible repeat (first | apply Kd.V_alloc | apply Kd.V_drewN | apply Kd.V_drew)); exact (far7V HO_102001.out (fun k_ hk => hk.2))) hb); replace qc := ak (blk_below (Xm Yf.out qc.out) hb); replace qf := ak (blk_below (Xm Ye.out qf.out) hb); replace yK := ak (Kd.C_below ((Kd.V_reads' (by (with_reducible repeat (first | apply Kd.V_alloc | apply Kd.V_drewN | apply Kd.V_drew)); exact (far7V zx.out (fun k_ hk => hk.2)))).2.2) hb); replace zx := ak (Kd.V_below (by (with_reducible repeat (first | apply Kd.V_alloc | apply Kd.V_drewN | apply Kd.V_drew)); exact (far7V zx.out (fun k_ hk => hk.2))) hb); replace yJ := ak (Kd.C_below ((Kd.V_reads' (by (with_reducible repeat (first | apply Kd.V_alloc | apply Kd.V_drewN | apply Kd.V_drew)); exact (far7V zV.out (fun k_ hk => hk.2)))).2.2) hb); replace zV := ak (Kd.V_below (by (with_reducible repeat (first | apply Kd.V_alloc | apply Kd.V_drewN | apply Kd.V_drew)); exact (far7V zV.out (fun k_ hk => hk.2))) hb); replace yI := ak (Kd.C_below ((Kd.V_reads' (by (with_reducible repeat (first | apply Kd.V_alloc | apply Kd.V_drewN | apply Kd.V_drew)); exact (far7V zU.out (fun k_ hk => hk.2)))).2.2) hb); replace zU := ak (Kd.V_below (by (with_reducible repeat (first | apply Kd.V_alloc | apply Kd.V_drewN | apply Kd.V_drew)); exact (far7V zU.out (fun k_ hk => hk.2))) hb); replace yH := ak (Kd.C_below ((Kd.V_reads' (by (with_reducible repeat (first | apply Kd.V_alloc | apply Kd.V_drewN | apply Kd.V_drew)); exact (far7V zT.out (fun k_ hk => hk.2)))).2.2) hb); replace zT := ak (Kd.V_below (by (with_reducible repeat (first | apply Kd.V_alloc | apply Kd.V_drewN | apply Kd.V_drew)); exact (far7V zT.out (fun k_ hk => hk.2))) hb); replace Zv := ak (blk_below (qa1 Zv.out) hb); replace HB := ak (below_step (by repeat (first | exact bw HB.out | refine below_set ?_ qm.out | refine below_set ?_ ji.out | refine below_set ?_ Yb.out)) hb); (try clear hb); (try clear hb2); (try clear hk); (try clear hi); obtain ⟨qB9, qB8, qB7, qB6, qB5, qB4, qB3, qzw, qzv, qzu, qzt, qzs, qzr, qzq⟩ := cells7 Zv.out))
         go_roundg k1
         case measure => have := HK1.out; omega
         case rel => exact ⟨(Ql), (wrap64 (qI + 1)), (by first | rfl | (simp; done) | (simp [*]; done)), H', ⟨by have := HK1.out; omega⟩, ⟨by (with_reducible repeat (first | apply Kd.N_alloc | apply Kd.N_drewN | apply Kd.N_drew)); exact Kd.N_mono HO_7.out (fun _ hk => ⟨hk.1.1, ⟨hk.1.2.1, hk.1.2.2⟩⟩)⟩, ⟨by (with_reducible repeat (first | apply Kd.V_alloc | apply Kd.V_drewN | apply Kd.V_drew)); exact Kd.V_mono HO_12.out (fun _ hk => ⟨hk.1.1, ⟨hk.1.2.1, ⟨hk.1.2.2.1, hk.1.2.2.2⟩⟩⟩)⟩, ⟨by (with_reducible repeat (first | apply Kd.V_alloc | apply Kd.V_drewN | apply Kd.V_drew)); exact Kd.V_mono HO_102001.out (fun _ hk => ⟨hk.1.1, ⟨hk.1.2.1, ⟨hk.1.2.2.1, hk.1.2.2.2⟩⟩⟩)⟩, ⟨bk qc.out⟩, ⟨bk qf.out⟩, ⟨by repeat (first | exact bw HB.out | refine below_set ?_ qm.out | refine below_set ?_ ji.out | refine below_set ?_ Yb.out)⟩⟩
      ·replace c14 := Bool.eq_false_iff.mpr c14
       subst c14
       have H1 : (qY.l0 k1 a2 Ql qb (qb.length : Int) (wrap64 (qI + 1)) qn) = some r := by rw [if_neg (show ¬ (false = true) by decide)] at H; exact H
       clear H
       have H := H1
       clear H1
       have H' := ak H
       clear H
       have yk : 0 ≤ (qI : Int) := of_decide_eq_true (by first | (with_reducible assumption) | assumption)
       have yj : qI < (qb.length : Int) := of_decide_eq_true (by first | (with_reducible assumption) | assumption)
       obtain ⟨Yo, yU, yT, Zd, Zc, Zr, Zp, ZC, ZA, YM, zi, JX, JW, JV, Qp, Qo, Qn, QX, Jg, QW, Jf, QV, Je, QU, Jd⟩ := Qi (Kd.V_reads' HO_12.out).2.2 qI yk yj
       cases YM
       obtain ⟨qlk, qb7, qb9, yR⟩ := Kd.V_get HO_12.out z33 qI yk (by first | exact yj | exact of_decide_eq_true (by first | (with_reducible assumption) | assumption) | (have e_ := (Kd.V_reads' HO_12.out).1; omega))
       obtain ⟨qgO, qgK, qgN, qgJ, qgM, qgI, qgL, qgH, rfl, JB, JS, JA, JR, Jz, JQ, Jy, JP⟩ := k33_openF qb9
       have Qc := yR 0 _ rfl
       rw [Nat.add_zero] at Qc
       replace Qc := Option.some.inj (Qc.symm.trans zi)
       injection Qc with hva_ hvn_ hvc_
       rw [hva_] at JS
       rw [hvc_] at JB
       have zx := ak (show Kd.V (Kd.slice 5 (Kd.int .u8)) 25 _ w.heap.size _ _ ((qa qb qI).f0.f0) from Kd.V_mk JB JS)
       clear hva_ hvn_ hvc_ JS JB
       have Qb := yR 4 _ rfl
       rw [add_field _ _ 4 (by omega)] at Qb
       replace Qb := Option.some.inj (Qb.symm.trans Qp)
       injection Qb with hva_ hvn_ hvc_
       rw [hva_] at JR
       rw [hvc_] at JA
       have zV := ak (show Kd.V (Kd.slice 5 (Kd.int .u8)) 25 _ w.heap.size _ _ ((qa qb qI).f4.f0) from Kd.V_mk JA JR)
       clear hva_ hvn_ hvc_ JR JA
       have Qa := yR 5 _ rfl
       rw [add_field _ _ 5 (by omega)] at Qa
       replace Qa := Option.some.inj (Qa.symm.trans Qo)
       injection Qa with hva_ hvn_ hvc_
       rw [hva_] at JQ
       rw [hvc_] at Jz
       have zU := ak (show Kd.V (Kd.int .u8) 5 _ w.heap.size _ _ ((qa qb qI).f5) from Kd.V_mk Jz JQ)
       clear hva_ hvn_ hvc_ JQ Jz
       have yZ := yR 6 _ rfl
       rw [add_field _ _ 6 (by omega)] at yZ
       replace yZ := Option.some.inj (yZ.symm.trans Qn)
       injection yZ with hva_ hvn_ hvc_
       rw [hva_] at JP
       rw [hvc_] at Jy
       have zT := ak (show Kd.V (Kd.int .i64) 3 _ w.heap.size _ _ ((qa qb qI).f6) from Kd.V_mk Jy JP)
       clear hva_ hvn_ hvc_ JP Jy
       clear yR qb7
       have yK := ak Jg
       have YW := ak QX
       clear Jg QX
       have yJ := ak Jf
       have qbV := ak QW
       clear Jf QW
       have yI := ak Je
       have qbU := ak QV
       clear Je QV
       have yH := ak Jd
       have qbT := ak QU
       clear Jd QU
       replace yk := eq_true yk
       replace yj := eq_true yj
       go_wp2_with (first | ((with_reducible refine gate_dst (N := 9) rfl ?_); refine box_event ?hg (N := 9) ?hd (cs := #[.slice none 0 0, .int .i64 0, .int .i64 0, .int .i64 0, .slice none 0 0, .slice none 0 0, .slice none 0 0]) (t := 33) ?hr ?_; (case hd => rfl); (case hg => rfl); (case hr => first | (go_simp; done) | (go_simp; rfl)); intro jr hg w45 hbox hb; replace HO_7 := ak (Kd.N_below (Kd.N_elderB (by (with_reducible repeat (first | apply Kd.N_alloc | apply Kd.N_drewN | apply Kd.N_drew)); exact HO_7.out) jr (Nat.le_of_eq hg.symm)) hb); replace HO_12 := ak (Kd.V_below (Kd.V_elderB (by (with_reducible repeat (first | apply Kd.V_alloc | apply Kd.V_drewN | apply Kd.V_drew)); exact HO_12.out) jr (Nat.le_of_eq hg.symm)) hb); replace HO_102001 := ak (Kd.V_below (Kd.V_elderB (by (with_reducible repeat (first | apply Kd.V_alloc | apply Kd.V_drewN | apply Kd.V_drew)); exact HO_102001.out) jr (Nat.le_of_eq hg.symm)) hb); replace zx := ak (Kd.V_below (Kd.V_elderB (by (with_reducible repeat (first | apply Kd.V_alloc | apply Kd.V_drewN | apply Kd.V_drew)); exact zx.out) jr (Nat.le_of_eq hg.symm)) hb); replace zV := ak (Kd.V_below (Kd.V_elderB (by (with_reducible repeat (first | apply Kd.V_alloc | apply Kd.V_drewN | apply Kd.V_drew)); exact zV.out) jr (Nat.le_of_eq hg.symm)) hb); replace zU := ak (Kd.V_below (Kd.V_elderB (by (with_reducible repeat (first | apply Kd.V_alloc | apply Kd.V_drewN | apply Kd.V_drew)); exact zU.out) jr (Nat.le_of_eq hg.symm)) hb); replace zT := ak (Kd.V_below (Kd.V_elderB (by (with_reducible repeat (first | apply Kd.V_alloc | apply Kd.V_drewN | apply Kd.V_drew)); exact zT.out) jr (Nat.le_of_eq hg.symm)) hb); replace yK := ak (Kd.C_below (by repeat (first | (with_reducible exact yK.out) | (with_reducible refine Kd.C_alloc ?_ _) | (with_reducible refine Kd.C_drewN ?_ _) | (with_reducible refine Kd.C_drew ?_) | exact yK.out)) hb); replace yJ := ak (Kd.C_below (by repeat (first | (with_reducible exact yJ.out) | (with_reducible refine Kd.C_alloc ?_ _) | (with_reducible refine Kd.C_drewN ?_ _) | (with_reducible refine Kd.C_drew ?_) | exact yJ.out)) hb); replace yI := ak (Kd.C_below (by repeat (first | (with_reducible exact yI.out) | (with_reducible refine Kd.C_alloc ?_ _) | (with_reducible refine Kd.C_drewN ?_ _) | (with_reducible refine Kd.C_drew ?_) | exact yI.out)) hb); replace yH := ak (Kd.C_below (by repeat (first | (with_reducible exact yH.out) | (with_reducible refine Kd.C_alloc ?_ _) | (with_reducible refine Kd.C_drewN ?_ _) | (with_reducible refine Kd.C_drew ?_) | exact yH.out)) hb); have Zv := ak (hbox); have qoQ := ak ((by rw [hg]; exact (below_size (by repeat (first | exact bw HB.out | refine below_set ?_ qm.out | refine below_set ?_ ji.out))) : w.heap.size ≤ jr)); have Yb := ak ((by rw [hg]; exact (below_size (by repeat (first | exact bw HB.out | refine below_set ?_ qm.out | refine below_set ?_ ji.out))) : w.heap.size ≤ jr)); replace HB := ak (below_step (by repeat (first | exact bw HB.out | refine below_set ?_ qm.out | refine below_set ?_ ji.out)) hb); have Yf := ak ((by rw [hg]; exact Nat.ne_of_lt (blk_lt (bk qc.out)) : qi ≠ jr)); have qas := ak ((by rw [hg]; exact Nat.ne_of_gt (blk_lt (bk qc.out)) : jr ≠ qi)); replace qc := ak (blk_below (bk qc.out) hb); have Ye := ak ((by rw [hg]; exact Nat.ne_of_lt (blk_lt (bk qf.out)) : qg ≠ jr)); have qar := ak ((by rw [hg]; exact Nat.ne_of_gt (blk_lt (bk qf.out)) : jr ≠ qg)); replace qf := ak (blk_below (bk qf.out) hb); clear hb hbox hg; have qD4 := qas.out; have qDC := Yf.out; have qD3 := qar.out; have qDB := Ye.out; obtain ⟨qj6, qj5, qj4, qj3, qj2, qj1, qj0, qjd, qjc, qjb, qja, qi9, qi8, qi7⟩ := cells7 Zv.out; have qva := qN.out; have qu2 := qO.out; obtain ⟨qsX, qri⟩ := cells1 qf.out) | ((with_reducible refine gate_callee (f := 102) rfl ?_); refine goesL_ (some 21) rfl rfl Try.func102 (by kernel_rfl) rfl #[.agg #[.slice yU ((qa qb qI).f0.f0).length yT], .agg #[.slice jn qn.length jm]] rfl (by first | rfl | (simp only [List.map_toArray, List.map_cons, List.map_nil]; first | done | rfl)) ?_; (with_reducible refine (ye.calls k1 _ _ ((qa qb qI).f0.f0) _ _ qn false _ ?qk ?qj ?qw ?qy A13.out).mono ?_); (case qk => repeat (first | exact ((Kd.V_reads' (by (with_reducible repeat (first | apply Kd.V_alloc | apply Kd.V_drewN | apply Kd.V_drew)); exact (far7V zx.out (fun k_ hk => hk.2)))).2.2) | (with_reducible refine Kd.C_alloc ?_ _) | (with_reducible refine Kd.C_drewN ?_ _) | (with_reducible refine Kd.C_drew ?_))); (case qj => exact YW.out); (case qw => exact Kd.C_below yo.out (by repeat (first | exact bw HB.out | refine below_set ?_ qm.out | refine below_set ?_ ji.out | refine below_set ?_ Yb.out))); (case qy => exact yE.out); rintro e w51 ⟨rfl, hb⟩; refine ⟨_, rfl, ?_⟩; replace HO_7 := ak (Kd.N_below (by (with_reducible repeat (first | apply Kd.N_alloc | apply Kd.N_drewN | apply Kd.N_drew)); exact (far7N HO_7.out (fun k_ hk => hk.2))) hb); replace HO_12 := ak (Kd.V_below (by (with_reducible repeat (first | apply Kd.V_alloc | apply Kd.V_drewN | apply Kd.V_drew)); exact (far7V HO_12.out (fun k_ hk => hk.2))) hb); replace HO_102001 := ak (Kd.V_below (by (with_reducible repeat (first | apply Kd.V_alloc | apply Kd.V_drewN | apply Kd.V_drew)); exact (far7V HO_102001.out (fun k_ hk => hk.2))) hb); replace qc := ak (blk_below (Xm Yf.out qc.out) hb); replace qf := ak (blk_below (Xm Ye.out qf.out) hb); replace yK := ak (Kd.C_below ((Kd.V_reads' (by (with_reducible repeat (first | apply Kd.V_alloc | apply Kd.V_drewN | apply Kd.V_drew)); exact (far7V zx.out (fun k_ hk => hk.2)))).2.2) hb); replace zx := ak (Kd.V_below (by (with_reducible repeat (first | apply Kd.V_alloc | apply Kd.V_drewN | apply Kd.V_drew)); exact (far7V zx.out (fun k_ hk => hk.2))) hb); replace yJ := ak (Kd.C_below ((Kd.V_reads' (by (with_reducible repeat (first | apply Kd.V_alloc | apply Kd.V_drewN | apply Kd.V_drew)); exact (far7V zV.out (fun k_ hk => hk.2)))).2.2) hb); replace zV := ak (Kd.V_below (by (with_reducible repeat (first | apply Kd.V_alloc | apply Kd.V_drewN | apply Kd.V_drew)); exact (far7V zV.out (fun k_ hk => hk.2))) hb); replace yI := ak (Kd.C_below ((Kd.V_reads' (by (with_reducible repeat (first | apply Kd.V_alloc | apply Kd.V_drewN | apply Kd.V_drew)); exact (far7V zU.out (fun k_ hk => hk.2)))).2.2) hb); replace zU := ak (Kd.V_below (by (with_reducible repeat (first | apply Kd.V_alloc | apply Kd.V_drewN | apply Kd.V_drew)); exact (far7V zU.out (fun k_ hk => hk.2))) hb); replace yH := ak (Kd.C_below ((Kd.V_reads' (by (with_reducible repeat (first | apply Kd.V_alloc | apply Kd.V_drewN | apply Kd.V_drew)); exact (far7V zT.out (fun k_ hk => hk.2)))).2.2) hb); replace zT := ak (Kd.V_below (by (with_reducible repeat (first | apply Kd.V_alloc | apply Kd.V_drewN | apply Kd.V_drew)); exact (far7V zT.out (fun k_ hk => hk.2))) hb); replace Zv := ak (blk_below (qa1 Zv.out) hb); replace HB := ak (below_step (by repeat (first | exact bw HB.out | refine below_set ?_ qm.out | refine below_set ?_ ji.out | refine below_set ?_ Yb.out)) hb); (try clear hb); (try clear hb2); (try clear hk); (try clear hi)))
       go_roundg k1
       case measure => have := HK1.out; omega
       case rel => exact ⟨(Ql), (wrap64 (qI + 1)), (by first | rfl | (simp; done) | (simp [*]; done)), H', ⟨by have := HK1.out; omega⟩, ⟨by (with_reducible repeat (first | apply Kd.N_alloc | apply Kd.N_drewN | apply Kd.N_drew)); exact Kd.N_mono HO_7.out (fun _ hk => ⟨hk.1.1, ⟨hk.1.2.1, hk.1.2.2⟩⟩)⟩, ⟨by (with_reducible repeat (first | apply Kd.V_alloc | apply Kd.V_drewN | apply Kd.V_drew)); exact Kd.V_mono HO_12.out (fun _ hk => ⟨hk.1.1, ⟨hk.1.2.1, ⟨hk.1.2.2.1, hk.1.2.2.2⟩⟩⟩)⟩, ⟨by (with_reducible repeat (first | apply Kd.V_alloc | apply Kd.V_drewN | apply Kd.V_drew)); exact Kd.V_mono HO_102001.out (fun _ hk => ⟨hk.1.1, ⟨hk.1.2.1, ⟨hk.1.2.2.1, hk.1.2.2.2⟩⟩⟩)⟩, ⟨bk qc.out⟩, ⟨bk qf.out⟩, ⟨by repeat (first | exact bw HB.out | refine below_set ?_ qm.out | refine below_set ?_ ji.out | refine below_set ?_ Yb.out)⟩⟩
     ·rw [if_neg c12] at H
      exact absurd H (by simp)
    ·rw [if_neg c11] at H
     exact absurd H (by simp)
   ·rw [if_neg c10] at H
    have c10b0 : decide (qI < (qb.length : Int)) = false := decide_eq_false c10
    clear c10
    obtain rfl := Option.some.inj H
    go_wp2
    go_ret
    exact ⟨_, by first | rfl | (simp [errW_none, errW_some] <;> rfl) | (simp [*, errW_none, errW_some] <;> rfl), by (with_reducible repeat (first | apply Kd.N_alloc | apply Kd.N_drewN | apply Kd.N_drew)); exact Kd.N_mono HO_7.out (fun _ hk => hk.1), by repeat (first | exact bw HB.out | refine below_set ?_ qm.out | refine below_set ?_ ji.out)⟩


/-! ### qC: function 37 -/
mutual
def qC.j0 : Nat → Bool → List (List Int) → List (S33) → Option (Bool)
 | 0, _, _, _ => none
 | k + 1, x21, qU, qB => if x21 = true then (some false) else (qC.l0 k 0 qB (qB.length : Int) 0 qU qB)
def qC.l0 : Nat → Int → List (S33) → Int → Int → List (List Int) → List (S33) → Option (Bool)
 | 0, _, _, _, _, _, _ => none
 | k + 1, x3, x23, x24, x25, qU, qB => if x25 < x24 then (if 0 ≤ x25 then (if x25 < (x23.length : Int) then (if x25 > 0 then (if 0 ≤ (wrap64 (x25 - 1)) then (if (wrap64 (x25 - 1)) < (qB.length : Int) then ((ze.f k ((qa qB (wrap64 (x25 - 1))).f0.f0) ((qa qB (wrap64 (x25 - 1))).f1) ((qa qB (wrap64 (x25 - 1))).f2) ((qa qB (wrap64 (x25 - 1))).f3) ((qa qB (wrap64 (x25 - 1))).f4.f0) ((qa qB (wrap64 (x25 - 1))).f5) ((qa qB (wrap64 (x25 - 1))).f6) ((qa x23 x25).f0.f0) ((qa x23 x25).f1) ((qa x23 x25).f2) ((qa x23 x25).f3) ((qa x23 x25).f4.f0) ((qa x23 x25).f5) ((qa x23 x25).f6)).bind fun zN => (if zN ≥ 0 then (qC.j2 k x3 x23 x24 x25 true qU qB ((qa x23 x25).f0.f0) ((qa x23 x25).f1) ((qa x23 x25).f2) ((qa x23 x25).f3) ((qa x23 x25).f4.f0) ((qa x23 x25).f5) ((qa x23 x25).f6)) else ((qZ.f ((qa x23 x25).f0.f0) qU).bind fun jQ => (qC.j2 k x3 x23 x24 x25 (!jQ) qU qB ((qa x23 x25).f0.f0) ((qa x23 x25).f1) ((qa x23 x25).f2) ((qa x23 x25).f3) ((qa x23 x25).f4.f0) ((qa x23 x25).f5) ((qa x23 x25).f6))))) else (none)) else (none)) else ((qZ.f ((qa x23 x25).f0.f0) qU).bind fun zq => (qC.j2 k x3 x23 x24 x25 (!zq) qU qB ((qa x23 x25).f0.f0) ((qa x23 x25).f1) ((qa x23 x25).f2) ((qa x23 x25).f3) ((qa x23 x25).f4.f0) ((qa x23 x25).f5) ((qa x23 x25).f6)))) else (none)) else (none)) else (some (x3 == 1))
def qC.j2 : Nat → Int → List (S33) → Int → Int → Bool → List (List Int) → List (S33) → List (List Int) → Int → Int → Int → List (List Int) → List Int → List Int → Option (Bool)
 | 0, _, _, _, _, _, _, _, _, _, _, _, _, _, _ => none
 | k + 1, x3, x23, x24, x25, x50, qU, qB, qiE, qiD, qwA, qwz, qwy, qwx, qww => if x50 = true then (some false) else (if qiD = 6 then ((ye.f k qiE qU).bind fun jS => (if jS = true then (if qiD = 5 then ((qY.f k qU qB qiE 255).bind fun zb => (if (zb.length : Int) > 1 then (some false) else (qC.l0 k (wrap64 (x3 + 1)) x23 x24 (wrap64 (x25 + 1)) qU qB))) else (qC.l0 k (wrap64 (x3 + 1)) x23 x24 (wrap64 (x25 + 1)) qU qB)) else (some false))) else (if qiD = 5 then ((qY.f k qU qB qiE 255).bind fun XY => (if (XY.length : Int) > 1 then (some false) else (qC.l0 k x3 x23 x24 (wrap64 (x25 + 1)) qU qB))) else (qC.l0 k x3 x23 x24 (wrap64 (x25 + 1)) qU qB)))
end
def qC.f (k : Nat) (qd : List (List Int)) (qb : List (S33)) : Option (Bool) := (jf.f qd).bind fun qG => (if qG = true then (if (qb.length : Int) > 60 then (qC.j0 k true qd qb) else ((yq.f k qb).bind fun qx => (qC.j0 k (!qx) qd qb))) else (qC.j0 k true qd qb))
def qC.T7 : Bool × List (List Nat × List Nat) := (true, [([], []), ([0], [0]), ([1], [1]), ([2], [2]), ([3, 2], [2, 3]), ([2], [2]), ([5, 2], [2, 5]), ([4, 6, 2], [2, 4, 6]), ([7, 2], [2, 7]), ([2], [2]), ([8, 9, 2, 2], [2, 8, 9]), ([10, 2], [2, 10]), ([2, 11], [2, 11]), ([12, 10], [12]), ([13], [13]), ([14, 13], [13, 14]), ([13], [13]), ([16, 13], [13, 16]), ([15, 17, 13, 13], [13, 15, 17]), ([18, 13], [13, 18]), ([13, 19], [13, 19])])
def qC.B7 : List Nat := [0, 1, 3, 7, 15, 7, 39, 127, 255, 7, 1023, 2047, 4095, 8191, 16383, 32767, 16383, 81919, 262143, 524287, 1048575]
theorem qC.tab7 : rtab .any (opsOf Try.f37 7) = qC.T7 := by kernel_rfl
theorem qC.bits7 : waitsOk qC.T7.2 qC.B7 = true := by kernel_rfl
set_option maxHeartbeats 8000000 in
set_option maxRecDepth 100000 in
theorem qC.calls (k : Nat) (qq : Option Addr) (qp : Nat) (qd : List (List Int)) (jA : Option Addr) (je : Nat) (qb : List (S33)) (r : Bool) (w : World) (jd : Kd.C (Kd.slice 5 (Kd.int .u8)) w qq qd.length qd) (jg : qd.length ≤ qp) (QR : Kd.C k33 w jA qb.length qb) (Jn : qb.length ≤ je) (h : qC.f k qd qb = some r) :
  Calls Try.prog 37 #[.agg #[.slice qq qd.length qp, .slice jA qb.length je]] w fun e w' => e = .returned (.bool r) ∧ Below w.heap.size w w' := by
 have qez := Try.underlying59
 have Ys := Try.underlying31
 have qak := Try.underlying33
 have qW := ak jd
 have jb := ak jg
 clear jd jg
 have yB := ak QR
 have QJ := ak Jn
 clear QR Jn
 have HB := ak (Below.refl w.heap.size w)
 have H : ((jf.f qd).bind fun qG => (if qG = true then (if (qb.length : Int) > 60 then (qC.j0 k true qd qb) else ((yq.f k qb).bind fun qx => (qC.j0 k (!qx) qd qb))) else (qC.j0 k true qd qb))) = some r := h
 clear h
 have HC2 := ak H
 clear H
 go_enter Try.func37, Try.ntmps37
 go_upto_region 1 with (first | ((with_reducible refine gate_dst (N := 1) rfl ?_); (try (refine gate_guard (by rfl) ?_; dsimp only)); refine boxed (N := 1) rfl rfl (cs := #[.slice qq qd.length qp, .slice jA qb.length je]) (t := 59) HB.out (by first | (go_simp; done) | (go_simp; rfl)) ?_; clear HB; intro qi w3 hg HB qc qm hb; have jD := qm; clear hb hg))
 (try simp only [Act.put, List.setIfInBounds_toArray, List.set_cons_zero, List.set_cons_succ])
 go_cut [21] (fun v21 wc => ∃ (kq : Nat) (qlb : Bool), v21 = .bool qlb ∧ Aside0 (qC.j0 kq qlb qd qb = some r) ∧ Aside0 (kq ≤ k) ∧ Aside0 (wc.heap[qi]? = some (.cells #[(.slice qq qd.length qp), (.slice jA qb.length je)] 59 (0, 0))) ∧ Aside0 (Below w.heap.size w wc))
 case first =>
  have H := HC2.out
  clear HC2
  replace H := Option.bind_eq_some_iff.mp H
  obtain ⟨qG, A40, H⟩ := H
  replace H : (if qG = true then (if (qb.length : Int) > 60 then (qC.j0 k true qd qb) else ((yq.f k qb).bind fun qx => (qC.j0 k (!qx) qd qb))) else (qC.j0 k true qd qb)) = some r := H
  have A4 := ak A40
  clear A40
  by_cases c5 : qG = true
  ·subst c5
   have H1 : (if (qb.length : Int) > 60 then (qC.j0 k true qd qb) else ((yq.f k qb).bind fun qx => (qC.j0 k (!qx) qd qb))) = some r := by rw [if_pos rfl] at H; exact H
   clear H
   have H := H1
   clear H1
   by_cases c6 : (qb.length : Int) > 60
   ·rw [if_pos c6] at H
    have c6b0 : decide (60 < (qb.length : Int)) = true := decide_eq_true c6
    have c6b1 : decide (60 < qb.length) = true := decide_eq_true (by omega)
    clear c6
    (first | rw [c6b0] | (simp only [i64_w, i32_w]; rw [c6b0]) | skip)
    have H' := ak H
    clear H
    obtain ⟨qb6, qde, qb3, qdc⟩ := cells2 qc.out
    go_wp2_with (first | ((with_reducible refine gate_callee (f := 74) rfl ?_); refine goesL_ (some 8) rfl rfl Try.func74 (by kernel_rfl) rfl #[.agg #[.slice qq qd.length qp]] rfl (by first | rfl | (simp only [List.map_toArray, List.map_cons, List.map_nil]; first | done | rfl)) ?_; (with_reducible refine (jf.calls _ _ qd true _ ?qk ?qj A4.out).mono ?_); (case qk => exact cw qW.out HB.out); (case qj => exact jb.out); rintro e w8 ⟨rfl, hb⟩; refine ⟨_, rfl, ?_⟩; replace qc := ak (blk_below (bk qc.out) hb); replace HB := ak (below_step (by repeat (first | exact bw HB.out | refine below_set ?_ qm.out)) hb); (try clear hb); obtain ⟨Js, Zo, Jr, Zn⟩ := cells2 qc.out))
    go_meet
    case rel => exact ⟨_, (true), (by first | rfl | (simp; done) | (simp [*]; done)), H', ⟨by first | omega | exact Nat.le_refl _⟩, ⟨bk qc.out⟩, ⟨by repeat (first | exact bw HB.out | refine below_set ?_ qm.out)⟩⟩
   ·rw [if_neg c6] at H
    have c6b0 : decide (60 < (qb.length : Int)) = false := decide_eq_false c6
    have c6b1 : decide (60 < qb.length) = false := decide_eq_false (by omega)
    clear c6
    (first | rw [c6b0] | (simp only [i64_w, i32_w]; rw [c6b0]) | skip)
    replace H := Option.bind_eq_some_iff.mp H
    obtain ⟨qx, qen, H⟩ := H
    replace H : (qC.j0 k (!qx) qd qb) = some r := H
    have A10 := ak qen
    clear qen
    have H' := ak H
    clear H
    obtain ⟨JZ, Yl, JY, Yk⟩ := cells2 qc.out
    go_wp2_with (first | ((with_reducible refine gate_callee (f := 74) rfl ?_); refine goesL_ (some 8) rfl rfl Try.func74 (by kernel_rfl) rfl #[.agg #[.slice qq qd.length qp]] rfl (by first | rfl | (simp only [List.map_toArray, List.map_cons, List.map_nil]; first | done | rfl)) ?_; (with_reducible refine (jf.calls _ _ qd true _ ?qk ?qj A4.out).mono ?_); (case qk => exact cw qW.out HB.out); (case qj => exact jb.out); rintro e w12 ⟨rfl, hb⟩; refine ⟨_, rfl, ?_⟩; replace qc := ak (blk_below (bk qc.out) hb); replace HB := ak (below_step (by repeat (first | exact bw HB.out | refine below_set ?_ qm.out)) hb); (try clear hb); obtain ⟨QN, JO, QM, JN⟩ := cells2 qc.out) | (go_at_call 100; (with_reducible refine (yq.calls k _ _ qb qx _ ?qk ?qj A10.out).mono ?_); (case qk => exact cw yB.out HB.out); (case qj => exact QJ.out); rintro e w14 ⟨rfl, hb⟩; replace qc := ak (blk_below (bk qc.out) hb); replace HB := ak (below_step (by repeat (first | exact bw HB.out | refine below_set ?_ qm.out)) hb); (try clear hb)))
    go_meet
    case rel => exact ⟨_, (!qx), (by first | rfl | (simp; done) | (simp [*]; done)), H', ⟨by first | omega | exact Nat.le_refl _⟩, ⟨bk qc.out⟩, ⟨by repeat (first | exact bw HB.out | refine below_set ?_ qm.out)⟩⟩
  ·replace c5 := Bool.eq_false_iff.mpr c5
   subst c5
   have H1 : (qC.j0 k true qd qb) = some r := by rw [if_neg (show ¬ (false = true) by decide)] at H; exact H
   clear H
   have H := H1
   clear H1
   have H' := ak H
   clear H
   obtain ⟨qcR, qcQ, qcw, qcv⟩ := cells2 qc.out
   go_wp2_with (first | ((with_reducible refine gate_callee (f := 74) rfl ?_); refine goesL_ (some 8) rfl rfl Try.func74 (by kernel_rfl) rfl #[.agg #[.slice qq qd.length qp]] rfl (by first | rfl | (simp only [List.map_toArray, List.map_cons, List.map_nil]; first | done | rfl)) ?_; (with_reducible refine (jf.calls _ _ qd false _ ?qk ?qj A4.out).mono ?_); (case qk => exact cw qW.out HB.out); (case qj => exact jb.out); rintro e w16 ⟨rfl, hb⟩; refine ⟨_, rfl, ?_⟩; replace qc := ak (blk_below (bk qc.out) hb); replace HB := ak (below_step (by repeat (first | exact bw HB.out | refine below_set ?_ qm.out)) hb); (try clear hb)))
   go_meet
   case rel => exact ⟨_, (true), (by first | rfl | (simp; done) | (simp [*]; done)), H', ⟨by first | omega | exact Nat.le_refl _⟩, ⟨bk qc.out⟩, ⟨by repeat (first | exact bw HB.out | refine below_set ?_ qm.out)⟩⟩
 case rest =>
  clear HC2
  try clear p2
  try clear c3
  try clear c5
  try clear c6
  try clear c6b0
  try clear c6b1
  try clear c7
  try clear JZ
  try clear Yl
  try clear QN
  try clear JO
  try clear qcR
  try clear qcQ
  try clear qb6
  try clear qde
  try clear Js
  try clear Zo
  try clear JY
  try clear Yk
  try clear QM
  try clear JN
  try clear qcw
  try clear qcv
  try clear qb3
  try clear qdc
  try clear Jr
  try clear Zn
  obtain ⟨kq, qlb, rfl, HA, HJ1, qc, HB⟩ := hcut
  cases kq with
  | zero => exact absurd HA.out (by simp [qC.j0])
  | succ kj1 =>
   have H := HA.out
   clear HA
   simp only [qC.j0] at H
   by_cases c17 : qlb = true
   ·subst c17
    have H1 : (some false) = some r := by rw [if_pos rfl] at H; exact H
    clear H
    have H := H1
    clear H1
    obtain rfl := Option.some.inj H
    go_wp2
    go_ret
    exact ⟨by first | rfl | (simp [errW_none, errW_some] <;> rfl) | (simp [*, errW_none, errW_some] <;> rfl), by repeat (first | exact bw HB.out | refine below_set ?_ qm.out)⟩
   ·replace c17 := Bool.eq_false_iff.mpr c17
    subst c17
    have H1 : (qC.l0 kj1 0 qb (qb.length : Int) 0 qd qb) = some r := by rw [if_neg (show ¬ (false = true) by decide)] at H; exact H
    clear H
    have H := H1
    clear H1
    have H' := ak H
    clear H
    obtain ⟨YU, YT, YR, YQ⟩ := cells2 qc.out
    go_wp2
    go_loopg [3, 25] kj1 (fun kq v3 v25 w' => ∃ (qD : Int) (ql : Int), v3 = .int .i64 qD ∧ v25 = .int .i64 ql ∧ Aside0 (qC.l0 kq qD qb (qb.length : Int) ql qd qb = some r) ∧ Aside0 (kq ≤ kj1) ∧ Aside0 (w'.heap[qi]? = some (.cells #[(.slice qq qd.length qp), (.slice jA qb.length je)] 59 (0, 0))) ∧ Aside0 (Below w.heap.size w w'))
    case atStart => exact ⟨(0), (0), (by first | rfl | (simp; done) | (simp [*]; done)), (by first | rfl | (simp; done) | (simp [*]; done)), H', ⟨Nat.le_refl _⟩, ⟨bk qc.out⟩, ⟨by repeat (first | exact bw HB.out | refine below_set ?_ qm.out)⟩⟩
    case round =>
     clear H'
     try clear c1
     try clear p2
     try clear c3
     try clear c5
     try clear c6
     try clear c6b0
     try clear c6b1
     try clear c7
     try clear c17
     try clear JZ
     try clear Yl
     try clear QN
     try clear JO
     try clear qcR
     try clear qcQ
     try clear YU
     try clear YT
     try clear qb6
     try clear qde
     try clear Js
     try clear Zo
     try clear JY
     try clear Yk
     try clear QM
     try clear JN
     try clear qcw
     try clear qcv
     try clear YR
     try clear YQ
     try clear qb3
     try clear qdc
     try clear Jr
     try clear Zn
     try clear p2
     obtain ⟨qD, ql, rfl, rfl, HA, HK2, qc, HB⟩ := hrel
     cases gk with
     | zero => exact absurd HA.out (by simp [qC.l0])
     | succ k2 =>
      have H := HA.out
      clear HA
      simp only [qC.l0] at H
      by_cases c19 : ql < (qb.length : Int)
      ·rw [if_pos c19] at H
       have c19b0 : decide (ql < (qb.length : Int)) = true := decide_eq_true c19
       clear c19
       by_cases c20 : 0 ≤ ql
       ·rw [if_pos c20] at H
        have c20b0 : decide (0 ≤ ql) = true := decide_eq_true c20
        clear c20
        by_cases c21 : ql < (qb.length : Int)
        ·rw [if_pos c21] at H
         have c21b0 : decide (ql < (qb.length : Int)) = true := decide_eq_true c21
         clear c21
         have qpx := ak H
         clear H
         have yt : 0 ≤ (ql : Int) := of_decide_eq_true (by first | (with_reducible assumption) | assumption)
         have yr : ql < (qb.length : Int) := of_decide_eq_true (by first | (with_reducible assumption) | assumption)
         obtain ⟨zp, zR, zQ, QA, Qs, Qz, Qr, Qy, Qq, Yt, zC, qeO, qeN, qeM, qeL, qeK, qeJ, QY, Jh, qff, qfr, qfe, qfq, qfd, qfp⟩ := Qi yB.out ql yt yr
         cases Yt
         replace zC := hc_ HB.out zC
         replace qeO := hc_ HB.out qeO
         replace qeN := hc_ HB.out qeN
         replace qeM := hc_ HB.out qeM
         replace qeL := hc_ HB.out qeL
         replace qeK := hc_ HB.out qeK
         replace qeJ := hc_ HB.out qeJ
         have yc := ak Jh
         have yd := ak QY
         clear Jh QY
         have qhG := ak qfr
         have qhV := ak qff
         clear qfr qff
         have qhF := ak qfq
         have qhU := ak qfe
         clear qfq qfe
         have qhE := ak qfp
         have qhT := ak qfd
         clear qfp qfd
         replace yt := eq_true yt
         replace yr := eq_true yr
         go_upto_region 7 with (first | ((with_reducible refine gate_dst (N := 5) rfl ?_); (try (refine gate_guard (by rfl) ?_; dsimp only)); refine box_event ?hg (N := 5) ?hd (cs := #[.slice none 0 0, .int .i64 0, .int .i64 0, .int .i64 0, .slice none 0 0, .slice none 0 0, .slice none 0 0]) (t := 33) ?hr ?_; (case hd => rfl); (case hg => rfl); (case hr => first | (go_simp; done) | (go_simp; rfl)); intro qR hg w23 hbox hb; have qT := ak (hbox); have qln := ak ((by rw [hg]; exact (below_size (by repeat (first | exact bw HB.out | refine below_set ?_ qm.out))) : w.heap.size ≤ qR)); have Qh := ak ((by rw [hg]; exact (below_size (by repeat (first | exact bw HB.out | refine below_set ?_ qm.out))) : w.heap.size ≤ qR)); replace HB := ak (below_step (by repeat (first | exact bw HB.out | refine below_set ?_ qm.out)) hb); have Yg := ak ((by rw [hg]; exact Nat.ne_of_lt (blk_lt (bk qc.out)) : qi ≠ qR)); have XG := ak ((by rw [hg]; exact Nat.ne_of_gt (blk_lt (bk qc.out)) : qR ≠ qi)); replace qc := ak (blk_below (bk qc.out) hb); clear hb hbox hg; have qve := XG.out; have qu6 := Yg.out; obtain ⟨qdU, qfX, qfW, qfV, qfU, qfT, qfS, qdE, qfE, qfD, qfC, qfB, qfA, qfz⟩ := cells7 qT.out))
         (try simp only [Act.put, List.setIfInBounds_toArray, List.set_cons_zero, List.set_cons_succ])
         go_cut [50] (fun v50 wc => ∃ (kq : Nat) (qid : Bool), v50 = .bool qid ∧ Aside0 (qC.j2 kq qD qb (qb.length : Int) ql qid qd qb ((qa qb ql).f0.f0) ((qa qb ql).f1) ((qa qb ql).f2) ((qa qb ql).f3) ((qa qb ql).f4.f0) ((qa qb ql).f5) ((qa qb ql).f6) = some r) ∧ Aside0 (kq ≤ k2) ∧ Aside0 (wc.heap[qi]? = some (.cells #[(.slice qq qd.length qp), (.slice (some zp) qb.length je)] 59 (0, 0))) ∧ Aside0 (wc.heap[qR]? = some (.cells #[(.slice zR ((qa qb ql).f0.f0).length zQ), .int .i64 ((qa qb ql).f1), .int .i64 ((qa qb ql).f2), .int .i64 ((qa qb ql).f3), (.slice QA ((qa qb ql).f4.f0).length Qs), (.slice Qz ((qa qb ql).f5).length Qr), (.slice Qy ((qa qb ql).f6).length Qq)] 33 (0, 0))) ∧ Aside0 (Below w.heap.size w wc))
         case first =>
          have H := qpx.out
          clear qpx
          by_cases c26 : ql > 0
          ·rw [if_pos c26] at H
           have c26b0 : decide (0 < ql) = true := decide_eq_true c26
           clear c26
           (first | rw [c26b0] | (simp only [i64_w, i32_w]; rw [c26b0]) | skip)
           obtain ⟨jH, qir⟩ : ∃ j_ : Int, (wrap64 (ql - 1)) = j_ := ⟨_, rfl⟩
           replace H : (if 0 ≤ (jH) then (if (jH) < (qb.length : Int) then ((ze.f k2 ((qa qb (jH)).f0.f0) ((qa qb (jH)).f1) ((qa qb (jH)).f2) ((qa qb (jH)).f3) ((qa qb (jH)).f4.f0) ((qa qb (jH)).f5) ((qa qb (jH)).f6) ((qa qb ql).f0.f0) ((qa qb ql).f1) ((qa qb ql).f2) ((qa qb ql).f3) ((qa qb ql).f4.f0) ((qa qb ql).f5) ((qa qb ql).f6)).bind fun zN => (if zN ≥ 0 then (qC.j2 k2 qD qb (qb.length : Int) ql true qd qb ((qa qb ql).f0.f0) ((qa qb ql).f1) ((qa qb ql).f2) ((qa qb ql).f3) ((qa qb ql).f4.f0) ((qa qb ql).f5) ((qa qb ql).f6)) else ((qZ.f ((qa qb ql).f0.f0) qd).bind fun jQ => (qC.j2 k2 qD qb (qb.length : Int) ql (!jQ) qd qb ((qa qb ql).f0.f0) ((qa qb ql).f1) ((qa qb ql).f2) ((qa qb ql).f3) ((qa qb ql).f4.f0) ((qa qb ql).f5) ((qa qb ql).f6))))) else (none)) else (none)) = some r := by first | (rw [qir] at H; exact H) | (simp only [qir] at H ⊢; exact H)
           have hji27w : (IntKind.i64.wrap (ql - 1)) = jH := (i64_w _).trans qir
           by_cases c28 : 0 ≤ (jH)
           ·rw [if_pos c28] at H
            have c28b0 : decide (0 ≤ (jH)) = true := decide_eq_true c28
            clear c28
            by_cases c29 : (jH) < (qb.length : Int)
            ·rw [if_pos c29] at H
             have c29b0 : decide ((jH) < (qb.length : Int)) = true := decide_eq_true c29
             clear c29
             replace H := Option.bind_eq_some_iff.mp H
             obtain ⟨zN, quP, H⟩ := H
             replace H : (if zN ≥ 0 then (qC.j2 k2 qD qb (qb.length : Int) ql true qd qb ((qa qb ql).f0.f0) ((qa qb ql).f1) ((qa qb ql).f2) ((qa qb ql).f3) ((qa qb ql).f4.f0) ((qa qb ql).f5) ((qa qb ql).f6)) else ((qZ.f ((qa qb ql).f0.f0) qd).bind fun jQ => (qC.j2 k2 qD qb (qb.length : Int) ql (!jQ) qd qb ((qa qb ql).f0.f0) ((qa qb ql).f1) ((qa qb ql).f2) ((qa qb ql).f3) ((qa qb ql).f4.f0) ((qa qb ql).f5) ((qa qb ql).f6)))) = some r := H
             have A30 := ak quP
             clear quP
             by_cases c31 : zN ≥ 0
             ·rw [if_pos c31] at H
              have c31b0 : decide (0 ≤ zN) = true := decide_eq_true c31
              clear c31
              have H' := ak H
              clear H
              try go_wp2
              have n0_ : Aside0 ((((((((w23.setCell ⟨qR, 0, none⟩ (.slice zR ((qa qb ql).f0.f0).length zQ)).setCell ⟨qR, 1, none⟩ (.int .i64 ((qa qb ql).f1))).setCell ⟨qR, 2, none⟩ (.int .i64 ((qa qb ql).f2))).setCell ⟨qR, 3, none⟩ (.int .i64 ((qa qb ql).f3))).setCell ⟨qR, 4, none⟩ (.slice QA ((qa qb ql).f4.f0).length Qs)).setCell ⟨qR, 5, none⟩ (.slice Qz ((qa qb ql).f5).length Qr)).setCell ⟨qR, 6, none⟩ (.slice Qy ((qa qb ql).f6).length Qq)).heap[qi]? = some (.cells #[.slice qq qd.length qp, .slice (some zp) qb.length je] 59 (0, 0))) := ⟨Xm Yg.out qc.out⟩
              have n1_ : Aside0 ((((((((w23.setCell ⟨qR, 0, none⟩ (.slice zR ((qa qb ql).f0.f0).length zQ)).setCell ⟨qR, 1, none⟩ (.int .i64 ((qa qb ql).f1))).setCell ⟨qR, 2, none⟩ (.int .i64 ((qa qb ql).f2))).setCell ⟨qR, 3, none⟩ (.int .i64 ((qa qb ql).f3))).setCell ⟨qR, 4, none⟩ (.slice QA ((qa qb ql).f4.f0).length Qs)).setCell ⟨qR, 5, none⟩ (.slice Qz ((qa qb ql).f5).length Qr)).setCell ⟨qR, 6, none⟩ (.slice Qy ((qa qb ql).f6).length Qq)).heap[qR]? = some (.cells #[.slice zR ((qa qb ql).f0.f0).length zQ, .int .i64 ((qa qb ql).f1), .int .i64 ((qa qb ql).f2), .int .i64 ((qa qb ql).f3), .slice QA ((qa qb ql).f4.f0).length Qs, .slice Qz ((qa qb ql).f5).length Qr, .slice Qy ((qa qb ql).f6).length Qq] 33 (0, 0))) := ⟨qa1 qT.out⟩
              have n2_ : Aside0 (Below w.heap.size w (((((((w23.setCell ⟨qR, 0, none⟩ (.slice zR ((qa qb ql).f0.f0).length zQ)).setCell ⟨qR, 1, none⟩ (.int .i64 ((qa qb ql).f1))).setCell ⟨qR, 2, none⟩ (.int .i64 ((qa qb ql).f2))).setCell ⟨qR, 3, none⟩ (.int .i64 ((qa qb ql).f3))).setCell ⟨qR, 4, none⟩ (.slice QA ((qa qb ql).f4.f0).length Qs)).setCell ⟨qR, 5, none⟩ (.slice Qz ((qa qb ql).f5).length Qr)).setCell ⟨qR, 6, none⟩ (.slice Qy ((qa qb ql).f6).length Qq))) := ⟨by repeat (first | exact bw HB.out | refine below_set ?_ qm.out | refine below_set ?_ Qh.out)⟩
              (try clear qc)
              (try clear qT)
              (try clear HB)
              generalize (((((((w23.setCell ⟨qR, 0, none⟩ (.slice zR ((qa qb ql).f0.f0).length zQ)).setCell ⟨qR, 1, none⟩ (.int .i64 ((qa qb ql).f1))).setCell ⟨qR, 2, none⟩ (.int .i64 ((qa qb ql).f2))).setCell ⟨qR, 3, none⟩ (.int .i64 ((qa qb ql).f3))).setCell ⟨qR, 4, none⟩ (.slice QA ((qa qb ql).f4.f0).length Qs)).setCell ⟨qR, 5, none⟩ (.slice Qz ((qa qb ql).f5).length Qr)).setCell ⟨qR, 6, none⟩ (.slice Qy ((qa qb ql).f6).length Qq)) = w32 at n0_ n1_ n2_ ⊢
              have qc := n0_
              have qT := n1_
              have HB := n2_
              clear n0_ n1_ n2_
              have n0_ := ak (blk_drew qc.out)
              have n1_ := ak (blk_drew qT.out)
              have n2_ := ak (below_drew1 HB.out)
              clear qc
              clear qT
              clear HB
              have qc := n0_
              have qT := n1_
              have HB := n2_
              clear n0_ n1_ n2_
              have yk : 0 ≤ ((jH) : Int) := of_decide_eq_true (by first | (with_reducible assumption) | assumption)
              have yj : (jH) < (qb.length : Int) := of_decide_eq_true (by first | (with_reducible assumption) | assumption)
              obtain ⟨Yo, yU, yT, Zd, Zc, Zr, Zp, ZC, ZA, YM, zi, JX, JW, JV, Qp, Qo, Qn, QX, Jg, QW, Jf, QV, Je, QU, Jd⟩ := Qi yB.out (jH) yk yj
              have qdq := Qn
              have qdr := Qo
              have qds := Qp
              have qdt := JV
              have qdu := JW
              have qdv := JX
              have qdw := zi
              obtain rfl : zp = Yo := (by injection YM)
              replace zi := hc_ HB.out zi
              replace JX := hc_ HB.out JX
              replace JW := hc_ HB.out JW
              replace JV := hc_ HB.out JV
              replace Qp := hc_ HB.out Qp
              replace Qo := hc_ HB.out Qo
              replace Qn := hc_ HB.out Qn
              have yK := ak Jg
              have YW := ak QX
              clear Jg QX
              have yJ := ak Jf
              have qbV := ak QW
              clear Jf QW
              have yI := ak Je
              have qbU := ak QV
              clear Je QV
              have yH := ak Jd
              have qbT := ak QU
              clear Jd QU
              replace yk := eq_true yk
              replace yj := eq_true yj
              refine start_ (n := 21) (S := fun w' => w'.cell? ⟨qi, 0, none⟩ = some (.slice qq qd.length qp) ∧ w'.cell? ⟨qi, 1, none⟩ = some (.slice (some zp) qb.length je) ∧ w'.cell? ⟨qR, 0, none⟩ = some (.slice zR ((qa qb ql).f0.f0).length zQ) ∧ w'.cell? ⟨qR, 1, none⟩ = some (.int .i64 ((qa qb ql).f1)) ∧ w'.cell? ⟨qR, 2, none⟩ = some (.int .i64 ((qa qb ql).f2)) ∧ w'.cell? ⟨qR, 3, none⟩ = some (.int .i64 ((qa qb ql).f3)) ∧ w'.cell? ⟨qR, 4, none⟩ = some (.slice QA ((qa qb ql).f4.f0).length Qs) ∧ w'.cell? ⟨qR, 5, none⟩ = some (.slice Qz ((qa qb ql).f5).length Qr) ∧ w'.cell? ⟨qR, 6, none⟩ = some (.slice Qy ((qa qb ql).f6).length Qq) ∧ w'.cell? (zp.add (((jH)).toNat * 7)) = some (.slice yU ((qa qb (jH)).f0.f0).length yT) ∧ w'.cell? ⟨(zp.add (((jH)).toNat * 7)).block, (zp.add (((jH)).toNat * 7)).off + 1, none⟩ = some (.int .i64 ((qa qb (jH)).f1)) ∧ w'.cell? ⟨(zp.add (((jH)).toNat * 7)).block, (zp.add (((jH)).toNat * 7)).off + 2, none⟩ = some (.int .i64 ((qa qb (jH)).f2)) ∧ w'.cell? ⟨(zp.add (((jH)).toNat * 7)).block, (zp.add (((jH)).toNat * 7)).off + 3, none⟩ = some (.int .i64 ((qa qb (jH)).f3)) ∧ w'.cell? ⟨(zp.add (((jH)).toNat * 7)).block, (zp.add (((jH)).toNat * 7)).off + 4, none⟩ = some (.slice Zd ((qa qb (jH)).f4.f0).length Zc) ∧ w'.cell? ⟨(zp.add (((jH)).toNat * 7)).block, (zp.add (((jH)).toNat * 7)).off + 5, none⟩ = some (.slice Zr ((qa qb (jH)).f5).length Zp) ∧ w'.cell? ⟨(zp.add (((jH)).toNat * 7)).block, (zp.add (((jH)).toNat * 7)).off + 6, none⟩ = some (.slice ZC ((qa qb (jH)).f6).length ZA)) (ds := []) (bA 21 0) (by kernel_rfl) rfl rfl ⟨(blk_cell qc.out 0).trans rfl, (blk_cell qc.out 1).trans rfl, (blk_cell qT.out 0).trans rfl, (blk_cell qT.out 1).trans rfl, (blk_cell qT.out 2).trans rfl, (blk_cell qT.out 3).trans rfl, (blk_cell qT.out 4).trans rfl, (blk_cell qT.out 5).trans rfl, (blk_cell qT.out 6).trans rfl, (hc_ HB.out qdw), (hc_ HB.out qdv), (hc_ HB.out qdu), (hc_ HB.out qdt), (hc_ HB.out qds), (hc_ HB.out qdr), (hc_ HB.out qdq)⟩ (fun hHeld => ?_); refine with_tabW qC.tab7 qC.bits7 (fun HT_ HW_ => ?_)
              generalize w32.drew = w33 at qc qT HB yK yJ yI yH zi JX JW JV Qp Qo Qn hHeld ⊢
              refine pu_ HT_ 0 30 (bA 21 1) (v := ?_) (a' := ?_) rfl rfl (by kernel_rfl) (fun _ _ _ h => h) (by rfl) ?_ ?_ ?_; rotate_left; intro w'; go_simp; with_reducible rfl; rotate_left; go_simp; rfl
              refine pu_ HT_ 1 31 (bA 21 3) (v := ?_) (a' := ?_) rfl rfl (by kernel_rfl) (fun _ _ _ h => h) (by rfl) ?_ ?_ ?_; rotate_left; intro w'; go_simp; with_reducible rfl; rotate_left; go_simp; rfl
              refine pu_ HT_ 2 32 (bA 21 7) (v := ?_) (a' := ?_) rfl rfl (by kernel_rfl) (fun _ _ _ h => h) (by rfl) ?_ ?_ ?_; rotate_left; intro w'; go_simp; with_reducible rfl; rotate_left; go_simp; rfl
              refine pu_ HT_ 3 33 (bA 21 15) (v := ?_) (a' := ?_) rfl rfl (by kernel_rfl) (fun _ _ _ h => h) (by rfl) ?_ ?_ ?_; rotate_left; intro w'; go_simp; with_reducible rfl; rotate_left; go_simp; rfl
              refine pu_ HT_ 5 35 (bA 21 47) (v := ?_) (a' := ?_) rfl rfl (by kernel_rfl) (fun _ _ _ h => h) (by rfl) ?_ ?_ ?_; rotate_left; intro w'; go_simp; with_reducible rfl; rotate_left; go_simp; rfl
              refine pu_ HT_ 6 36 (bA 21 111) (v := ?_) (a' := ?_) rfl rfl (by kernel_rfl) (fun _ _ _ h => h) (by rfl) ?_ ?_ ?_; rotate_left; intro w'; go_simp; with_reducible rfl; rotate_left; go_simp; rfl
              refine take_ (i := 4) (N := some 34) (v := ?_) (a' := ?_) (bA 21 127) rfl rfl (take_ofW HT_.out HW_.out (by kernel_rfl)) (fun _ _ _ h => h) (Or.inl ⟨by rfl, ?_⟩) hHeld ?_ ?_
              rotate_left; rintro w' ⟨s0, s1, s2, s3, s4, s5, s6, s7, s8, s9, s10, s11, s12, s13, s14, s15⟩; go_simp; with_reducible rfl; rotate_left; go_simp; rfl
              refine pu_ HT_ 7 37 (bA 21 255) (v := ?_) (a' := ?_) rfl rfl (by kernel_rfl) (fun _ _ _ h => h) (by rfl) ?_ ?_ ?_; rotate_left; intro w'; go_simp; with_reducible rfl; rotate_left; go_simp; rfl
              refine take_ (i := 8) (N := some 38) (v := ?_) (a' := ?_) (bA 21 511) rfl rfl (take_ofW HT_.out HW_.out (by kernel_rfl)) (fun _ _ _ h => h) (Or.inl ⟨by rfl, ?_⟩) hHeld ?_ ?_
              rotate_left; rintro w' ⟨s0, s1, s2, s3, s4, s5, s6, s7, s8, s9, s10, s11, s12, s13, s14, s15⟩; go_simp; with_reducible rfl; rotate_left; go_simp; rfl
              refine take_ (i := 9) (N := some 39) (v := ?_) (a' := ?_) (bA 21 1023) rfl rfl (take_ofW HT_.out HW_.out (by kernel_rfl)) (fun _ _ _ h => h) (Or.inl ⟨by rfl, ?_⟩) hHeld ?_ ?_
              rotate_left; rintro w' ⟨s0, s1, s2, s3, s4, s5, s6, s7, s8, s9, s10, s11, s12, s13, s14, s15⟩; go_simp; with_reducible rfl; rotate_left; go_simp; rfl
              refine one_ (i := 10) (N := some 40) (bA 21 2047) rfl rfl (one_of HT_.out (by kernel_rfl)) (by decide) (fun K hK => ?_)
              refine goes_ Try.func64 (by kernel_rfl) rfl #[.agg #[.slice yU ((qa qb (jH)).f0.f0).length yT, .int .i64 ((qa qb (jH)).f1), .int .i64 ((qa qb (jH)).f2), .int .i64 ((qa qb (jH)).f3), .slice Zd ((qa qb (jH)).f4.f0).length Zc, .slice Zr ((qa qb (jH)).f5).length Zp, .slice ZC ((qa qb (jH)).f6).length ZA], .agg #[.slice zR ((qa qb ql).f0.f0).length zQ, .int .i64 ((qa qb ql).f1), .int .i64 ((qa qb ql).f2), .int .i64 ((qa qb ql).f3), .slice QA ((qa qb ql).f4.f0).length Qs, .slice Qz ((qa qb ql).f5).length Qr, .slice Qy ((qa qb ql).f6).length Qq]] (by rfl) rfl rfl (by (try simp only [List.map_toArray, List.map_cons, List.map_nil]); first | done | (simp only [qir]; rfl) | rfl | (simp only [List.length_drop, List.length_take]; rfl)) ?_
              with_reducible refine (ze.calls k2 _ _ ((qa qb (jH)).f0.f0) ((qa qb (jH)).f1) ((qa qb (jH)).f2) ((qa qb (jH)).f3) _ _ ((qa qb (jH)).f4.f0) _ _ ((qa qb (jH)).f5) _ _ ((qa qb (jH)).f6) _ _ ((qa qb ql).f0.f0) ((qa qb ql).f1) ((qa qb ql).f2) ((qa qb ql).f3) _ _ ((qa qb ql).f4.f0) _ _ ((qa qb ql).f5) _ _ ((qa qb ql).f6) zN _ ?qk ?qj ?qw ?qy ?zK ?yz ?yy ?yx ?qbW ?qah ?qag ?qaf ?qae ?qad ?qac ?qab A30.out).mono ?_
              (case qk => exact cw yK.out HB.out)
              (case qj => exact YW.out)
              (case qw => exact cw yJ.out HB.out)
              (case qy => exact qbV.out)
              (case zK => exact cw yI.out HB.out)
              (case yz => exact qbU.out)
              (case yy => exact cw yH.out HB.out)
              (case yx => exact qbT.out)
              (case qbW => exact cw yc.out HB.out)
              (case qah => exact yd.out)
              (case qag => exact cw qhG.out HB.out)
              (case qaf => exact qhV.out)
              (case qae => exact cw qhF.out HB.out)
              (case qad => exact qhU.out)
              (case qac => exact cw qhE.out HB.out)
              (case qab => exact qhT.out)
              rintro e w34 ⟨rfl, hb⟩
              refine ⟨_, rfl, ?_⟩
              have n0_ := ak (blk_below (bk qc.out) hb)
              have n1_ := ak (blk_below (bk qT.out) hb)
              have n2_ := ak (below_step (by repeat (first | exact bw HB.out | refine below_set ?_ qm.out | refine below_set ?_ Qh.out)) hb)
              clear qc
              clear qT
              clear HB
              have qc := n0_
              have qT := n1_
              have HB := n2_
              clear n0_ n1_ n2_
              (try clear hb)
              (try clear hb2)
              (try clear hk)
              (try clear hi)
              refine hK.out _ _ ⟨(blk_cell qc.out 0).trans rfl, (blk_cell qc.out 1).trans rfl, (blk_cell qT.out 0).trans rfl, (blk_cell qT.out 1).trans rfl, (blk_cell qT.out 2).trans rfl, (blk_cell qT.out 3).trans rfl, (blk_cell qT.out 4).trans rfl, (blk_cell qT.out 5).trans rfl, (blk_cell qT.out 6).trans rfl, (hc_ HB.out qdw), (hc_ HB.out qdv), (hc_ HB.out qdu), (hc_ HB.out qdt), (hc_ HB.out qds), (hc_ HB.out qdr), (hc_ HB.out qdq)⟩ (fun hHeld => ?_)
              clear hK K
              refine norm_ (a' := ?_) ?_ ?_; rotate_left; go_simp; rfl
              refine pu_ HT_ 11 41 (bA 21 4095) (v := ?_) (a' := ?_) rfl rfl (by kernel_rfl) (fun _ _ _ h => h) (by rfl) ?_ ?_ ?_; rotate_left; intro w'; go_simp; with_reducible rfl; rotate_left; go_simp; rfl
              refine pu_ HT_ 12 42 (bA 21 8191) (v := ?_) (a' := ?_) rfl rfl (by kernel_rfl) (fun _ _ _ h => h) (by rfl) ?_ ?_ ?_; rotate_left; intro w'; go_simp; with_reducible rfl; rotate_left; go_simp; rfl
              refine pu_ HT_ 13 43 (bA 21 16383) (v := ?_) (a' := ?_) rfl rfl (by kernel_rfl) (fun _ _ _ h => h) (by rfl) ?_ ?_ ?_; rotate_left; intro w'; go_simp; with_reducible rfl; rotate_left; go_simp; rfl
              refine sk_ HT_ 14 44 (bA 21 32767) (a' := ?_) rfl rfl (by kernel_rfl) (fun _ _ _ h => h) (by rfl) ?_ ?_; rotate_left; go_simp; rfl
              refine sk_ HT_ 15 45 (bA 21 65535) (a' := ?_) rfl rfl (by kernel_rfl) (fun _ _ _ h => h) (by rfl) ?_ ?_; rotate_left; go_simp; rfl
              refine sk_ HT_ 16 46 (bA 21 131071) (a' := ?_) rfl rfl (by kernel_rfl) (fun _ _ _ h => h) (by rfl) ?_ ?_; rotate_left; go_simp; rfl
              refine sk_ HT_ 17 47 (bA 21 262143) (a' := ?_) rfl rfl (by kernel_rfl) (fun _ _ _ h => h) (by rfl) ?_ ?_; rotate_left; go_simp; rfl
              refine sk_ HT_ 18 48 (bA 21 524287) (a' := ?_) rfl rfl (by kernel_rfl) (fun _ _ _ h => h) (by rfl) ?_ ?_; rotate_left; go_simp; rfl
              refine sk_ HT_ 19 49 (bA 21 1048575) (a' := ?_) rfl rfl (by kernel_rfl) (fun _ _ _ h => h) (by rfl) ?_ ?_; rotate_left; go_simp; rfl
              refine pu_ HT_ 20 50 (bA 21 2097151) (v := ?_) (a' := ?_) rfl rfl (by kernel_rfl) (fun _ _ _ h => h) (by rfl) ?_ ?_ ?_; rotate_left; intro w'; go_simp; with_reducible rfl; rotate_left; go_simp; rfl
              refine done_ (done_of HT_.out (by kernel_rfl)) ?_
              try go_wp2
              go_meet
              case rel => exact ⟨_, (true), (by first | rfl | (simp; done) | (simp [*]; done)), H', ⟨by have := HJ1.out; have := HK2.out; first | omega | exact Nat.le_refl _⟩, ⟨bk qc.out⟩, ⟨bk qT.out⟩, ⟨by repeat (first | exact bw HB.out | refine below_set ?_ qm.out | refine below_set ?_ Qh.out)⟩⟩
             ·rw [if_neg c31] at H
              have c31b0 : decide (0 ≤ zN) = false := decide_eq_false c31
              clear c31
              replace H := Option.bind_eq_some_iff.mp H
              obtain ⟨jQ, quN, H⟩ := H
              replace H : (qC.j2 k2 qD qb (qb.length : Int) ql (!jQ) qd qb ((qa qb ql).f0.f0) ((qa qb ql).f1) ((qa qb ql).f2) ((qa qb ql).f3) ((qa qb ql).f4.f0) ((qa qb ql).f5) ((qa qb ql).f6)) = some r := H
              have A35 := ak quN
              clear quN
              have H' := ak H
              clear H
              try go_wp2
              have n0_ : Aside0 ((((((((w23.setCell ⟨qR, 0, none⟩ (.slice zR ((qa qb ql).f0.f0).length zQ)).setCell ⟨qR, 1, none⟩ (.int .i64 ((qa qb ql).f1))).setCell ⟨qR, 2, none⟩ (.int .i64 ((qa qb ql).f2))).setCell ⟨qR, 3, none⟩ (.int .i64 ((qa qb ql).f3))).setCell ⟨qR, 4, none⟩ (.slice QA ((qa qb ql).f4.f0).length Qs)).setCell ⟨qR, 5, none⟩ (.slice Qz ((qa qb ql).f5).length Qr)).setCell ⟨qR, 6, none⟩ (.slice Qy ((qa qb ql).f6).length Qq)).heap[qi]? = some (.cells #[.slice qq qd.length qp, .slice (some zp) qb.length je] 59 (0, 0))) := ⟨Xm Yg.out qc.out⟩
              have n1_ : Aside0 ((((((((w23.setCell ⟨qR, 0, none⟩ (.slice zR ((qa qb ql).f0.f0).length zQ)).setCell ⟨qR, 1, none⟩ (.int .i64 ((qa qb ql).f1))).setCell ⟨qR, 2, none⟩ (.int .i64 ((qa qb ql).f2))).setCell ⟨qR, 3, none⟩ (.int .i64 ((qa qb ql).f3))).setCell ⟨qR, 4, none⟩ (.slice QA ((qa qb ql).f4.f0).length Qs)).setCell ⟨qR, 5, none⟩ (.slice Qz ((qa qb ql).f5).length Qr)).setCell ⟨qR, 6, none⟩ (.slice Qy ((qa qb ql).f6).length Qq)).heap[qR]? = some (.cells #[.slice zR ((qa qb ql).f0.f0).length zQ, .int .i64 ((qa qb ql).f1), .int .i64 ((qa qb ql).f2), .int .i64 ((qa qb ql).f3), .slice QA ((qa qb ql).f4.f0).length Qs, .slice Qz ((qa qb ql).f5).length Qr, .slice Qy ((qa qb ql).f6).length Qq] 33 (0, 0))) := ⟨qa1 qT.out⟩
              have n2_ : Aside0 (Below w.heap.size w (((((((w23.setCell ⟨qR, 0, none⟩ (.slice zR ((qa qb ql).f0.f0).length zQ)).setCell ⟨qR, 1, none⟩ (.int .i64 ((qa qb ql).f1))).setCell ⟨qR, 2, none⟩ (.int .i64 ((qa qb ql).f2))).setCell ⟨qR, 3, none⟩ (.int .i64 ((qa qb ql).f3))).setCell ⟨qR, 4, none⟩ (.slice QA ((qa qb ql).f4.f0).length Qs)).setCell ⟨qR, 5, none⟩ (.slice Qz ((qa qb ql).f5).length Qr)).setCell ⟨qR, 6, none⟩ (.slice Qy ((qa qb ql).f6).length Qq))) := ⟨by repeat (first | exact bw HB.out | refine below_set ?_ qm.out | refine below_set ?_ Qh.out)⟩
              (try clear qc)
              (try clear qT)
              (try clear HB)
              generalize (((((((w23.setCell ⟨qR, 0, none⟩ (.slice zR ((qa qb ql).f0.f0).length zQ)).setCell ⟨qR, 1, none⟩ (.int .i64 ((qa qb ql).f1))).setCell ⟨qR, 2, none⟩ (.int .i64 ((qa qb ql).f2))).setCell ⟨qR, 3, none⟩ (.int .i64 ((qa qb ql).f3))).setCell ⟨qR, 4, none⟩ (.slice QA ((qa qb ql).f4.f0).length Qs)).setCell ⟨qR, 5, none⟩ (.slice Qz ((qa qb ql).f5).length Qr)).setCell ⟨qR, 6, none⟩ (.slice Qy ((qa qb ql).f6).length Qq)) = w36 at n0_ n1_ n2_ ⊢
              have qc := n0_
              have qT := n1_
              have HB := n2_
              clear n0_ n1_ n2_
              have n0_ := ak (blk_drew qc.out)
              have n1_ := ak (blk_drew qT.out)
              have n2_ := ak (below_drew1 HB.out)
              clear qc
              clear qT
              clear HB
              have qc := n0_
              have qT := n1_
              have HB := n2_
              clear n0_ n1_ n2_
              have yk : 0 ≤ ((jH) : Int) := of_decide_eq_true (by first | (with_reducible assumption) | assumption)
              have yj : (jH) < (qb.length : Int) := of_decide_eq_true (by first | (with_reducible assumption) | assumption)
              obtain ⟨Yo, yU, yT, Zd, Zc, Zr, Zp, ZC, ZA, YM, zi, JX, JW, JV, Qp, Qo, Qn, QX, Jg, QW, Jf, QV, Je, QU, Jd⟩ := Qi yB.out (jH) yk yj
              have qdq := Qn
              have qdr := Qo
              have qds := Qp
              have qdt := JV
              have qdu := JW
              have qdv := JX
              have qdw := zi
              obtain rfl : zp = Yo := (by injection YM)
              replace zi := hc_ HB.out zi
              replace JX := hc_ HB.out JX
              replace JW := hc_ HB.out JW
              replace JV := hc_ HB.out JV
              replace Qp := hc_ HB.out Qp
              replace Qo := hc_ HB.out Qo
              replace Qn := hc_ HB.out Qn
              have yK := ak Jg
              have YW := ak QX
              clear Jg QX
              have yJ := ak Jf
              have qbV := ak QW
              clear Jf QW
              have yI := ak Je
              have qbU := ak QV
              clear Je QV
              have yH := ak Jd
              have qbT := ak QU
              clear Jd QU
              replace yk := eq_true yk
              replace yj := eq_true yj
              refine start_ (n := 21) (S := fun w' => w'.cell? ⟨qi, 0, none⟩ = some (.slice qq qd.length qp) ∧ w'.cell? ⟨qi, 1, none⟩ = some (.slice (some zp) qb.length je) ∧ w'.cell? ⟨qR, 0, none⟩ = some (.slice zR ((qa qb ql).f0.f0).length zQ) ∧ w'.cell? ⟨qR, 1, none⟩ = some (.int .i64 ((qa qb ql).f1)) ∧ w'.cell? ⟨qR, 2, none⟩ = some (.int .i64 ((qa qb ql).f2)) ∧ w'.cell? ⟨qR, 3, none⟩ = some (.int .i64 ((qa qb ql).f3)) ∧ w'.cell? ⟨qR, 4, none⟩ = some (.slice QA ((qa qb ql).f4.f0).length Qs) ∧ w'.cell? ⟨qR, 5, none⟩ = some (.slice Qz ((qa qb ql).f5).length Qr) ∧ w'.cell? ⟨qR, 6, none⟩ = some (.slice Qy ((qa qb ql).f6).length Qq) ∧ w'.cell? (zp.add (((jH)).toNat * 7)) = some (.slice yU ((qa qb (jH)).f0.f0).length yT) ∧ w'.cell? ⟨(zp.add (((jH)).toNat * 7)).block, (zp.add (((jH)).toNat * 7)).off + 1, none⟩ = some (.int .i64 ((qa qb (jH)).f1)) ∧ w'.cell? ⟨(zp.add (((jH)).toNat * 7)).block, (zp.add (((jH)).toNat * 7)).off + 2, none⟩ = some (.int .i64 ((qa qb (jH)).f2)) ∧ w'.cell? ⟨(zp.add (((jH)).toNat * 7)).block, (zp.add (((jH)).toNat * 7)).off + 3, none⟩ = some (.int .i64 ((qa qb (jH)).f3)) ∧ w'.cell? ⟨(zp.add (((jH)).toNat * 7)).block, (zp.add (((jH)).toNat * 7)).off + 4, none⟩ = some (.slice Zd ((qa qb (jH)).f4.f0).length Zc) ∧ w'.cell? ⟨(zp.add (((jH)).toNat * 7)).block, (zp.add (((jH)).toNat * 7)).off + 5, none⟩ = some (.slice Zr ((qa qb (jH)).f5).length Zp) ∧ w'.cell? ⟨(zp.add (((jH)).toNat * 7)).block, (zp.add (((jH)).toNat * 7)).off + 6, none⟩ = some (.slice ZC ((qa qb (jH)).f6).length ZA)) (ds := []) (bA 21 0) (by kernel_rfl) rfl rfl ⟨(blk_cell qc.out 0).trans rfl, (blk_cell qc.out 1).trans rfl, (blk_cell qT.out 0).trans rfl, (blk_cell qT.out 1).trans rfl, (blk_cell qT.out 2).trans rfl, (blk_cell qT.out 3).trans rfl, (blk_cell qT.out 4).trans rfl, (blk_cell qT.out 5).trans rfl, (blk_cell qT.out 6).trans rfl, (hc_ HB.out qdw), (hc_ HB.out qdv), (hc_ HB.out qdu), (hc_ HB.out qdt), (hc_ HB.out qds), (hc_ HB.out qdr), (hc_ HB.out qdq)⟩ (fun hHeld => ?_); refine with_tabW qC.tab7 qC.bits7 (fun HT_ HW_ => ?_)
              generalize w36.drew = w37 at qc qT HB yK yJ yI yH zi JX JW JV Qp Qo Qn hHeld ⊢
              refine pu_ HT_ 0 30 (bA 21 1) (v := ?_) (a' := ?_) rfl rfl (by kernel_rfl) (fun _ _ _ h => h) (by rfl) ?_ ?_ ?_; rotate_left; intro w'; go_simp; with_reducible rfl; rotate_left; go_simp; rfl
              refine pu_ HT_ 1 31 (bA 21 3) (v := ?_) (a' := ?_) rfl rfl (by kernel_rfl) (fun _ _ _ h => h) (by rfl) ?_ ?_ ?_; rotate_left; intro w'; go_simp; with_reducible rfl; rotate_left; go_simp; rfl
              refine pu_ HT_ 2 32 (bA 21 7) (v := ?_) (a' := ?_) rfl rfl (by kernel_rfl) (fun _ _ _ h => h) (by rfl) ?_ ?_ ?_; rotate_left; intro w'; go_simp; with_reducible rfl; rotate_left; go_simp; rfl
              refine pu_ HT_ 3 33 (bA 21 15) (v := ?_) (a' := ?_) rfl rfl (by kernel_rfl) (fun _ _ _ h => h) (by rfl) ?_ ?_ ?_; rotate_left; intro w'; go_simp; with_reducible rfl; rotate_left; go_simp; rfl
              refine pu_ HT_ 5 35 (bA 21 47) (v := ?_) (a' := ?_) rfl rfl (by kernel_rfl) (fun _ _ _ h => h) (by rfl) ?_ ?_ ?_; rotate_left; intro w'; go_simp; with_reducible rfl; rotate_left; go_simp; rfl
              refine pu_ HT_ 6 36 (bA 21 111) (v := ?_) (a' := ?_) rfl rfl (by kernel_rfl) (fun _ _ _ h => h) (by rfl) ?_ ?_ ?_; rotate_left; intro w'; go_simp; with_reducible rfl; rotate_left; go_simp; rfl
              refine take_ (i := 4) (N := some 34) (v := ?_) (a' := ?_) (bA 21 127) rfl rfl (take_ofW HT_.out HW_.out (by kernel_rfl)) (fun _ _ _ h => h) (Or.inl ⟨by rfl, ?_⟩) hHeld ?_ ?_
              rotate_left; rintro w' ⟨s0, s1, s2, s3, s4, s5, s6, s7, s8, s9, s10, s11, s12, s13, s14, s15⟩; go_simp; with_reducible rfl; rotate_left; go_simp; rfl
              refine pu_ HT_ 7 37 (bA 21 255) (v := ?_) (a' := ?_) rfl rfl (by kernel_rfl) (fun _ _ _ h => h) (by rfl) ?_ ?_ ?_; rotate_left; intro w'; go_simp; with_reducible rfl; rotate_left; go_simp; rfl
              refine take_ (i := 8) (N := some 38) (v := ?_) (a' := ?_) (bA 21 511) rfl rfl (take_ofW HT_.out HW_.out (by kernel_rfl)) (fun _ _ _ h => h) (Or.inl ⟨by rfl, ?_⟩) hHeld ?_ ?_
              rotate_left; rintro w' ⟨s0, s1, s2, s3, s4, s5, s6, s7, s8, s9, s10, s11, s12, s13, s14, s15⟩; go_simp; with_reducible rfl; rotate_left; go_simp; rfl
              refine take_ (i := 9) (N := some 39) (v := ?_) (a' := ?_) (bA 21 1023) rfl rfl (take_ofW HT_.out HW_.out (by kernel_rfl)) (fun _ _ _ h => h) (Or.inl ⟨by rfl, ?_⟩) hHeld ?_ ?_
              rotate_left; rintro w' ⟨s0, s1, s2, s3, s4, s5, s6, s7, s8, s9, s10, s11, s12, s13, s14, s15⟩; go_simp; with_reducible rfl; rotate_left; go_simp; rfl
              refine one_ (i := 10) (N := some 40) (bA 21 2047) rfl rfl (one_of HT_.out (by kernel_rfl)) (by decide) (fun K hK => ?_)
              refine goes_ Try.func64 (by kernel_rfl) rfl #[.agg #[.slice yU ((qa qb (jH)).f0.f0).length yT, .int .i64 ((qa qb (jH)).f1), .int .i64 ((qa qb (jH)).f2), .int .i64 ((qa qb (jH)).f3), .slice Zd ((qa qb (jH)).f4.f0).length Zc, .slice Zr ((qa qb (jH)).f5).length Zp, .slice ZC ((qa qb (jH)).f6).length ZA], .agg #[.slice zR ((qa qb ql).f0.f0).length zQ, .int .i64 ((qa qb ql).f1), .int .i64 ((qa qb ql).f2), .int .i64 ((qa qb ql).f3), .slice QA ((qa qb ql).f4.f0).length Qs, .slice Qz ((qa qb ql).f5).length Qr, .slice Qy ((qa qb ql).f6).length Qq]] (by rfl) rfl rfl (by (try simp only [List.map_toArray, List.map_cons, List.map_nil]); first | done | (simp only [qir]; rfl) | rfl | (simp only [List.length_drop, List.length_take]; rfl)) ?_
              with_reducible refine (ze.calls k2 _ _ ((qa qb (jH)).f0.f0) ((qa qb (jH)).f1) ((qa qb (jH)).f2) ((qa qb (jH)).f3) _ _ ((qa qb (jH)).f4.f0) _ _ ((qa qb (jH)).f5) _ _ ((qa qb (jH)).f6) _ _ ((qa qb ql).f0.f0) ((qa qb ql).f1) ((qa qb ql).f2) ((qa qb ql).f3) _ _ ((qa qb ql).f4.f0) _ _ ((qa qb ql).f5) _ _ ((qa qb ql).f6) zN _ ?qk ?qj ?qw ?qy ?zK ?yz ?yy ?yx ?qbW ?qah ?qag ?qaf ?qae ?qad ?qac ?qab A30.out).mono ?_
              (case qk => exact cw yK.out HB.out)
              (case qj => exact YW.out)
              (case qw => exact cw yJ.out HB.out)
              (case qy => exact qbV.out)
              (case zK => exact cw yI.out HB.out)
              (case yz => exact qbU.out)
              (case yy => exact cw yH.out HB.out)
              (case yx => exact qbT.out)
              (case qbW => exact cw yc.out HB.out)
              (case qah => exact yd.out)
              (case qag => exact cw qhG.out HB.out)
              (case qaf => exact qhV.out)
              (case qae => exact cw qhF.out HB.out)
              (case qad => exact qhU.out)
              (case qac => exact cw qhE.out HB.out)
              (case qab => exact qhT.out)
              rintro e w38 ⟨rfl, hb⟩
              refine ⟨_, rfl, ?_⟩
              have n0_ := ak (blk_below (bk qc.out) hb)
              have n1_ := ak (blk_below (bk qT.out) hb)
              have n2_ := ak (below_step (by repeat (first | exact bw HB.out | refine below_set ?_ qm.out | refine below_set ?_ Qh.out)) hb)
              clear qc
              clear qT
              clear HB
              have qc := n0_
              have qT := n1_
              have HB := n2_
              clear n0_ n1_ n2_
              (try clear hb)
              (try clear hb2)
              (try clear hk)
              (try clear hi)
              refine hK.out _ _ ⟨(blk_cell qc.out 0).trans rfl, (blk_cell qc.out 1).trans rfl, (blk_cell qT.out 0).trans rfl, (blk_cell qT.out 1).trans rfl, (blk_cell qT.out 2).trans rfl, (blk_cell qT.out 3).trans rfl, (blk_cell qT.out 4).trans rfl, (blk_cell qT.out 5).trans rfl, (blk_cell qT.out 6).trans rfl, (hc_ HB.out qdw), (hc_ HB.out qdv), (hc_ HB.out qdu), (hc_ HB.out qdt), (hc_ HB.out qds), (hc_ HB.out qdr), (hc_ HB.out qdq)⟩ (fun hHeld => ?_)
              clear hK K
              refine norm_ (a' := ?_) ?_ ?_; rotate_left; go_simp; rfl
              refine pu_ HT_ 11 41 (bA 21 4095) (v := ?_) (a' := ?_) rfl rfl (by kernel_rfl) (fun _ _ _ h => h) (by rfl) ?_ ?_ ?_; rotate_left; intro w'; go_simp; with_reducible rfl; rotate_left; go_simp; rfl
              refine pu_ HT_ 12 42 (bA 21 8191) (v := ?_) (a' := ?_) rfl rfl (by kernel_rfl) (fun _ _ _ h => h) (by rfl) ?_ ?_ ?_; rotate_left; intro w'; go_simp; with_reducible rfl; rotate_left; go_simp; rfl
              refine pu_ HT_ 13 43 (bA 21 16383) (v := ?_) (a' := ?_) rfl rfl (by kernel_rfl) (fun _ _ _ h => h) (by rfl) ?_ ?_ ?_; rotate_left; intro w'; go_simp; with_reducible rfl; rotate_left; go_simp; rfl
              refine pu_ HT_ 14 44 (bA 21 32767) (v := ?_) (a' := ?_) rfl rfl (by kernel_rfl) (fun _ _ _ h => h) (by rfl) ?_ ?_ ?_; rotate_left; intro w'; go_simp; with_reducible rfl; rotate_left; go_simp; rfl
              refine pu_ HT_ 16 46 (bA 21 98303) (v := ?_) (a' := ?_) rfl rfl (by kernel_rfl) (fun _ _ _ h => h) (by rfl) ?_ ?_ ?_; rotate_left; intro w'; go_simp; with_reducible rfl; rotate_left; go_simp; rfl
              refine take_ (i := 15) (N := some 45) (v := ?_) (a' := ?_) (bA 21 131071) rfl rfl (take_ofW HT_.out HW_.out (by kernel_rfl)) (fun _ _ _ h => h) (Or.inl ⟨by rfl, ?_⟩) hHeld ?_ ?_
              rotate_left; rintro w' ⟨s0, s1, s2, s3, s4, s5, s6, s7, s8, s9, s10, s11, s12, s13, s14, s15⟩; go_simp; with_reducible rfl; rotate_left; go_simp; rfl
              refine take_ (i := 17) (N := some 47) (v := ?_) (a' := ?_) (bA 21 262143) rfl rfl (take_ofW HT_.out HW_.out (by kernel_rfl)) (fun _ _ _ h => h) (Or.inl ⟨by rfl, ?_⟩) hHeld ?_ ?_
              rotate_left; rintro w' ⟨s0, s1, s2, s3, s4, s5, s6, s7, s8, s9, s10, s11, s12, s13, s14, s15⟩; go_simp; with_reducible rfl; rotate_left; go_simp; rfl
              refine one_ (i := 18) (N := some 48) (bA 21 524287) rfl rfl (one_of HT_.out (by kernel_rfl)) (by decide) (fun K hK => ?_)
              refine goes_ Try.func101 (by kernel_rfl) rfl #[.agg #[.slice zR ((qa qb ql).f0.f0).length zQ], .agg #[.slice qq qd.length qp]] (by rfl) rfl rfl (by first | rfl | (simp only [List.map_toArray, List.map_cons, List.map_nil]; first | done | rfl)) ?_
              with_reducible refine (qZ.calls _ _ ((qa qb ql).f0.f0) _ _ qd jQ _ ?qk ?qj ?qw ?qy A35.out).mono ?_
              (case qk => exact cw yc.out HB.out)
              (case qj => exact yd.out)
              (case qw => exact cw qW.out HB.out)
              (case qy => exact jb.out)
              rintro e w39 ⟨rfl, hb⟩
              refine ⟨_, rfl, ?_⟩
              have n0_ := ak (blk_below (bk qc.out) hb)
              have n1_ := ak (blk_below (bk qT.out) hb)
              have n2_ := ak (below_step (by repeat (first | exact bw HB.out | refine below_set ?_ qm.out | refine below_set ?_ Qh.out)) hb)
              clear qc
              clear qT
              clear HB
              have qc := n0_
              have qT := n1_
              have HB := n2_
              clear n0_ n1_ n2_
              (try clear hb)
              (try clear hb2)
              (try clear hk)
              (try clear hi)
              refine hK.out _ _ ⟨(blk_cell qc.out 0).trans rfl, (blk_cell qc.out 1).trans rfl, (blk_cell qT.out 0).trans rfl, (blk_cell qT.out 1).trans rfl, (blk_cell qT.out 2).trans rfl, (blk_cell qT.out 3).trans rfl, (blk_cell qT.out 4).trans rfl, (blk_cell qT.out 5).trans rfl, (blk_cell qT.out 6).trans rfl, (hc_ HB.out qdw), (hc_ HB.out qdv), (hc_ HB.out qdu), (hc_ HB.out qdt), (hc_ HB.out qds), (hc_ HB.out qdr), (hc_ HB.out qdq)⟩ (fun hHeld => ?_)
              clear hK K
              refine norm_ (a' := ?_) ?_ ?_; rotate_left; go_simp; rfl
              refine pu_ HT_ 19 49 (bA 21 1048575) (v := ?_) (a' := ?_) rfl rfl (by kernel_rfl) (fun _ _ _ h => h) (by rfl) ?_ ?_ ?_; rotate_left; intro w'; go_simp; with_reducible rfl; rotate_left; go_simp; rfl
              refine pu_ HT_ 20 50 (bA 21 2097151) (v := ?_) (a' := ?_) rfl rfl (by kernel_rfl) (fun _ _ _ h => h) (by rfl) ?_ ?_ ?_; rotate_left; intro w'; go_simp; with_reducible rfl; rotate_left; go_simp; rfl
              refine done_ (done_of HT_.out (by kernel_rfl)) ?_
              try go_wp2
              go_meet
              case rel => exact ⟨_, (!jQ), (by first | rfl | (simp; done) | (simp [*]; done)), H', ⟨by have := HJ1.out; have := HK2.out; first | omega | exact Nat.le_refl _⟩, ⟨bk qc.out⟩, ⟨bk qT.out⟩, ⟨by repeat (first | exact bw HB.out | refine below_set ?_ qm.out | refine below_set ?_ Qh.out)⟩⟩
            ·rw [if_neg c29] at H
             exact absurd H (by simp)
           ·rw [if_neg c28] at H
            exact absurd H (by simp)
          ·rw [if_neg c26] at H
           have c26b0 : decide (0 < ql) = false := decide_eq_false c26
           clear c26
           (first | rw [c26b0] | (simp only [i64_w, i32_w]; rw [c26b0]) | skip)
           replace H := Option.bind_eq_some_iff.mp H
           obtain ⟨zq, quL, H⟩ := H
           replace H : (qC.j2 k2 qD qb (qb.length : Int) ql (!zq) qd qb ((qa qb ql).f0.f0) ((qa qb ql).f1) ((qa qb ql).f2) ((qa qb ql).f3) ((qa qb ql).f4.f0) ((qa qb ql).f5) ((qa qb ql).f6)) = some r := H
           have A40 := ak quL
           clear quL
           have H' := ak H
           clear H
           try go_wp2
           have n0_ : Aside0 ((((((((w23.setCell ⟨qR, 0, none⟩ (.slice zR ((qa qb ql).f0.f0).length zQ)).setCell ⟨qR, 1, none⟩ (.int .i64 ((qa qb ql).f1))).setCell ⟨qR, 2, none⟩ (.int .i64 ((qa qb ql).f2))).setCell ⟨qR, 3, none⟩ (.int .i64 ((qa qb ql).f3))).setCell ⟨qR, 4, none⟩ (.slice QA ((qa qb ql).f4.f0).length Qs)).setCell ⟨qR, 5, none⟩ (.slice Qz ((qa qb ql).f5).length Qr)).setCell ⟨qR, 6, none⟩ (.slice Qy ((qa qb ql).f6).length Qq)).heap[qi]? = some (.cells #[.slice qq qd.length qp, .slice (some zp) qb.length je] 59 (0, 0))) := ⟨Xm Yg.out qc.out⟩
           have n1_ : Aside0 ((((((((w23.setCell ⟨qR, 0, none⟩ (.slice zR ((qa qb ql).f0.f0).length zQ)).setCell ⟨qR, 1, none⟩ (.int .i64 ((qa qb ql).f1))).setCell ⟨qR, 2, none⟩ (.int .i64 ((qa qb ql).f2))).setCell ⟨qR, 3, none⟩ (.int .i64 ((qa qb ql).f3))).setCell ⟨qR, 4, none⟩ (.slice QA ((qa qb ql).f4.f0).length Qs)).setCell ⟨qR, 5, none⟩ (.slice Qz ((qa qb ql).f5).length Qr)).setCell ⟨qR, 6, none⟩ (.slice Qy ((qa qb ql).f6).length Qq)).heap[qR]? = some (.cells #[.slice zR ((qa qb ql).f0.f0).length zQ, .int .i64 ((qa qb ql).f1), .int .i64 ((qa qb ql).f2), .int .i64 ((qa qb ql).f3), .slice QA ((qa qb ql).f4.f0).length Qs, .slice Qz ((qa qb ql).f5).length Qr, .slice Qy ((qa qb ql).f6).length Qq] 33 (0, 0))) := ⟨qa1 qT.out⟩
           have n2_ : Aside0 (Below w.heap.size w (((((((w23.setCell ⟨qR, 0, none⟩ (.slice zR ((qa qb ql).f0.f0).length zQ)).setCell ⟨qR, 1, none⟩ (.int .i64 ((qa qb ql).f1))).setCell ⟨qR, 2, none⟩ (.int .i64 ((qa qb ql).f2))).setCell ⟨qR, 3, none⟩ (.int .i64 ((qa qb ql).f3))).setCell ⟨qR, 4, none⟩ (.slice QA ((qa qb ql).f4.f0).length Qs)).setCell ⟨qR, 5, none⟩ (.slice Qz ((qa qb ql).f5).length Qr)).setCell ⟨qR, 6, none⟩ (.slice Qy ((qa qb ql).f6).length Qq))) := ⟨by repeat (first | exact bw HB.out | refine below_set ?_ qm.out | refine below_set ?_ Qh.out)⟩
           (try clear qc)
           (try clear qT)
           (try clear HB)
           generalize (((((((w23.setCell ⟨qR, 0, none⟩ (.slice zR ((qa qb ql).f0.f0).length zQ)).setCell ⟨qR, 1, none⟩ (.int .i64 ((qa qb ql).f1))).setCell ⟨qR, 2, none⟩ (.int .i64 ((qa qb ql).f2))).setCell ⟨qR, 3, none⟩ (.int .i64 ((qa qb ql).f3))).setCell ⟨qR, 4, none⟩ (.slice QA ((qa qb ql).f4.f0).length Qs)).setCell ⟨qR, 5, none⟩ (.slice Qz ((qa qb ql).f5).length Qr)).setCell ⟨qR, 6, none⟩ (.slice Qy ((qa qb ql).f6).length Qq)) = w41 at n0_ n1_ n2_ ⊢
           have qc := n0_
           have qT := n1_
           have HB := n2_
           clear n0_ n1_ n2_
           have n0_ := ak (blk_drew qc.out)
           have n1_ := ak (blk_drew qT.out)
           have n2_ := ak (below_drew1 HB.out)
           clear qc
           clear qT
           clear HB
           have qc := n0_
           have qT := n1_
           have HB := n2_
           clear n0_ n1_ n2_
           refine start_ (n := 21) (S := fun w' => w'.cell? ⟨qR, 0, none⟩ = some (.slice zR ((qa qb ql).f0.f0).length zQ) ∧ w'.cell? ⟨qR, 1, none⟩ = some (.int .i64 ((qa qb ql).f1)) ∧ w'.cell? ⟨qR, 2, none⟩ = some (.int .i64 ((qa qb ql).f2)) ∧ w'.cell? ⟨qR, 3, none⟩ = some (.int .i64 ((qa qb ql).f3)) ∧ w'.cell? ⟨qR, 4, none⟩ = some (.slice QA ((qa qb ql).f4.f0).length Qs) ∧ w'.cell? ⟨qR, 5, none⟩ = some (.slice Qz ((qa qb ql).f5).length Qr) ∧ w'.cell? ⟨qR, 6, none⟩ = some (.slice Qy ((qa qb ql).f6).length Qq) ∧ w'.cell? ⟨qi, 0, none⟩ = some (.slice qq qd.length qp) ∧ w'.cell? ⟨qi, 1, none⟩ = some (.slice (some zp) qb.length je)) (ds := []) (bA 21 0) (by kernel_rfl) rfl rfl ⟨(blk_cell qT.out 0).trans rfl, (blk_cell qT.out 1).trans rfl, (blk_cell qT.out 2).trans rfl, (blk_cell qT.out 3).trans rfl, (blk_cell qT.out 4).trans rfl, (blk_cell qT.out 5).trans rfl, (blk_cell qT.out 6).trans rfl, (blk_cell qc.out 0).trans rfl, (blk_cell qc.out 1).trans rfl⟩ (fun hHeld => ?_); refine with_tabW qC.tab7 qC.bits7 (fun HT_ HW_ => ?_)
           generalize w41.drew = w42 at qc qT HB hHeld ⊢
           refine pu_ HT_ 0 30 (bA 21 1) (v := ?_) (a' := ?_) rfl rfl (by kernel_rfl) (fun _ _ _ h => h) (by rfl) ?_ ?_ ?_; rotate_left; intro w'; go_simp; with_reducible rfl; rotate_left; go_simp; rfl
           refine pu_ HT_ 1 31 (bA 21 3) (v := ?_) (a' := ?_) rfl rfl (by kernel_rfl) (fun _ _ _ h => h) (by rfl) ?_ ?_ ?_; rotate_left; intro w'; go_simp; with_reducible rfl; rotate_left; go_simp; rfl
           refine pu_ HT_ 2 32 (bA 21 7) (v := ?_) (a' := ?_) rfl rfl (by kernel_rfl) (fun _ _ _ h => h) (by rfl) ?_ ?_ ?_; rotate_left; intro w'; go_simp; with_reducible rfl; rotate_left; go_simp; rfl
           refine sk_ HT_ 3 33 (bA 21 15) (a' := ?_) rfl rfl (by kernel_rfl) (fun _ _ _ h => h) (by rfl) ?_ ?_; rotate_left; go_simp; rfl
           refine sk_ HT_ 4 34 (bA 21 31) (a' := ?_) rfl rfl (by kernel_rfl) (fun _ _ _ h => h) (by rfl) ?_ ?_; rotate_left; go_simp; rfl
           refine sk_ HT_ 5 35 (bA 21 63) (a' := ?_) rfl rfl (by kernel_rfl) (fun _ _ _ h => h) (by rfl) ?_ ?_; rotate_left; go_simp; rfl
           refine sk_ HT_ 6 36 (bA 21 127) (a' := ?_) rfl rfl (by kernel_rfl) (fun _ _ _ h => h) (by rfl) ?_ ?_; rotate_left; go_simp; rfl
           refine sk_ HT_ 7 37 (bA 21 255) (a' := ?_) rfl rfl (by kernel_rfl) (fun _ _ _ h => h) (by rfl) ?_ ?_; rotate_left; go_simp; rfl
           refine sk_ HT_ 8 38 (bA 21 511) (a' := ?_) rfl rfl (by kernel_rfl) (fun _ _ _ h => h) (by rfl) ?_ ?_; rotate_left; go_simp; rfl
           refine sk_ HT_ 9 39 (bA 21 1023) (a' := ?_) rfl rfl (by kernel_rfl) (fun _ _ _ h => h) (by rfl) ?_ ?_; rotate_left; go_simp; rfl
           refine sk_ HT_ 10 40 (bA 21 2047) (a' := ?_) rfl rfl (by kernel_rfl) (fun _ _ _ h => h) (by rfl) ?_ ?_; rotate_left; go_simp; rfl
           refine sk_ HT_ 11 41 (bA 21 4095) (a' := ?_) rfl rfl (by kernel_rfl) (fun _ _ _ h => h) (by rfl) ?_ ?_; rotate_left; go_simp; rfl
           refine pu_ HT_ 12 42 (bA 21 8191) (v := ?_) (a' := ?_) rfl rfl (by kernel_rfl) (fun _ _ _ h => h) (by rfl) ?_ ?_ ?_; rotate_left; intro w'; go_simp; with_reducible rfl; rotate_left; go_simp; rfl
           refine pu_ HT_ 13 43 (bA 21 16383) (v := ?_) (a' := ?_) rfl rfl (by kernel_rfl) (fun _ _ _ h => h) (by rfl) ?_ ?_ ?_; rotate_left; intro w'; go_simp; with_reducible rfl; rotate_left; go_simp; rfl
           refine pu_ HT_ 14 44 (bA 21 32767) (v := ?_) (a' := ?_) rfl rfl (by kernel_rfl) (fun _ _ _ h => h) (by rfl) ?_ ?_ ?_; rotate_left; intro w'; go_simp; with_reducible rfl; rotate_left; go_simp; rfl
           refine pu_ HT_ 16 46 (bA 21 98303) (v := ?_) (a' := ?_) rfl rfl (by kernel_rfl) (fun _ _ _ h => h) (by rfl) ?_ ?_ ?_; rotate_left; intro w'; go_simp; with_reducible rfl; rotate_left; go_simp; rfl
           refine take_ (i := 15) (N := some 45) (v := ?_) (a' := ?_) (bA 21 131071) rfl rfl (take_ofW HT_.out HW_.out (by kernel_rfl)) (fun _ _ _ h => h) (Or.inl ⟨by rfl, ?_⟩) hHeld ?_ ?_
           rotate_left; rintro w' ⟨s0, s1, s2, s3, s4, s5, s6, s7, s8⟩; go_simp; with_reducible rfl; rotate_left; go_simp; rfl
           refine take_ (i := 17) (N := some 47) (v := ?_) (a' := ?_) (bA 21 262143) rfl rfl (take_ofW HT_.out HW_.out (by kernel_rfl)) (fun _ _ _ h => h) (Or.inl ⟨by rfl, ?_⟩) hHeld ?_ ?_
           rotate_left; rintro w' ⟨s0, s1, s2, s3, s4, s5, s6, s7, s8⟩; go_simp; with_reducible rfl; rotate_left; go_simp; rfl
           refine one_ (i := 18) (N := some 48) (bA 21 524287) rfl rfl (one_of HT_.out (by kernel_rfl)) (by decide) (fun K hK => ?_)
           refine goes_ Try.func101 (by kernel_rfl) rfl #[.agg #[.slice zR ((qa qb ql).f0.f0).length zQ], .agg #[.slice qq qd.length qp]] (by rfl) rfl rfl (by first | rfl | (simp only [List.map_toArray, List.map_cons, List.map_nil]; first | done | rfl)) ?_
           with_reducible refine (qZ.calls _ _ ((qa qb ql).f0.f0) _ _ qd zq _ ?qk ?qj ?qw ?qy A40.out).mono ?_
           (case qk => exact cw yc.out HB.out)
           (case qj => exact yd.out)
           (case qw => exact cw qW.out HB.out)
           (case qy => exact jb.out)
           rintro e w43 ⟨rfl, hb⟩
           refine ⟨_, rfl, ?_⟩
           have n0_ := ak (blk_below (bk qc.out) hb)
           have n1_ := ak (blk_below (bk qT.out) hb)
           have n2_ := ak (below_step (by repeat (first | exact bw HB.out | refine below_set ?_ qm.out | refine below_set ?_ Qh.out)) hb)
           clear qc
           clear qT
           clear HB
           have qc := n0_
           have qT := n1_
           have HB := n2_
           clear n0_ n1_ n2_
           (try clear hb)
           (try clear hb2)
           (try clear hk)
           (try clear hi)
           refine hK.out _ _ ⟨(blk_cell qT.out 0).trans rfl, (blk_cell qT.out 1).trans rfl, (blk_cell qT.out 2).trans rfl, (blk_cell qT.out 3).trans rfl, (blk_cell qT.out 4).trans rfl, (blk_cell qT.out 5).trans rfl, (blk_cell qT.out 6).trans rfl, (blk_cell qc.out 0).trans rfl, (blk_cell qc.out 1).trans rfl⟩ (fun hHeld => ?_)
           clear hK K
           refine norm_ (a' := ?_) ?_ ?_; rotate_left; go_simp; rfl
           refine pu_ HT_ 19 49 (bA 21 1048575) (v := ?_) (a' := ?_) rfl rfl (by kernel_rfl) (fun _ _ _ h => h) (by rfl) ?_ ?_ ?_; rotate_left; intro w'; go_simp; with_reducible rfl; rotate_left; go_simp; rfl
           refine pu_ HT_ 20 50 (bA 21 2097151) (v := ?_) (a' := ?_) rfl rfl (by kernel_rfl) (fun _ _ _ h => h) (by rfl) ?_ ?_ ?_; rotate_left; intro w'; go_simp; with_reducible rfl; rotate_left; go_simp; rfl
           refine done_ (done_of HT_.out (by kernel_rfl)) ?_
           try go_wp2
           go_meet
           case rel => exact ⟨_, (!zq), (by first | rfl | (simp; done) | (simp [*]; done)), H', ⟨by have := HJ1.out; have := HK2.out; first | omega | exact Nat.le_refl _⟩, ⟨bk qc.out⟩, ⟨bk qT.out⟩, ⟨by repeat (first | exact bw HB.out | refine below_set ?_ qm.out | refine below_set ?_ Qh.out)⟩⟩
         case rest =>
          clear qpx
          try clear c1
          try clear p1
          try clear q1
          try clear hx1
          try clear c2
          try clear p2
          try clear c3
          try clear c6
          try clear c10
          try clear p10
          try clear q10
          try clear qoq
          try clear c26
          try clear c26b0
          try clear c28
          try clear c29
          try clear c31
          try clear c31b0
          try clear zi
          try clear JX
          try clear JW
          try clear JV
          try clear Qp
          try clear Qo
          try clear Qn
          try clear yk
          try clear yj
          obtain ⟨kq, qid, rfl, HA, qgz, qc, qT, HB⟩ := hcut
          cases kq with
          | zero => exact absurd HA.out (by simp [qC.j2])
          | succ ZM =>
           have H := HA.out
           clear HA
           simp only [qC.j2] at H
           by_cases c44 : qid = true
           ·subst c44
            have H1 : (some false) = some r := by rw [if_pos rfl] at H; exact H
            clear H
            have H := H1
            clear H1
            obtain rfl := Option.some.inj H
            go_wp2
            go_ret
            exact ⟨by first | rfl | (simp [errW_none, errW_some] <;> rfl) | (simp [*, errW_none, errW_some] <;> rfl), by repeat (first | exact bw HB.out | refine below_set ?_ qm.out | refine below_set ?_ Qh.out)⟩
           ·replace c44 := Bool.eq_false_iff.mpr c44
            subst c44
            have H1 : (if ((qa qb ql).f1) = 6 then ((ye.f ZM ((qa qb ql).f0.f0) qd).bind fun jS => (if jS = true then (if ((qa qb ql).f1) = 5 then ((qY.f ZM qd qb ((qa qb ql).f0.f0) 255).bind fun zb => (if (zb.length : Int) > 1 then (some false) else (qC.l0 ZM (wrap64 (qD + 1)) qb (qb.length : Int) (wrap64 (ql + 1)) qd qb))) else (qC.l0 ZM (wrap64 (qD + 1)) qb (qb.length : Int) (wrap64 (ql + 1)) qd qb)) else (some false))) else (if ((qa qb ql).f1) = 5 then ((qY.f ZM qd qb ((qa qb ql).f0.f0) 255).bind fun XY => (if (XY.length : Int) > 1 then (some false) else (qC.l0 ZM qD qb (qb.length : Int) (wrap64 (ql + 1)) qd qb))) else (qC.l0 ZM qD qb (qb.length : Int) (wrap64 (ql + 1)) qd qb))) = some r := by rw [if_neg (show ¬ (false = true) by decide)] at H; exact H
            clear H
            have H := H1
            clear H1
            by_cases c45 : ((qa qb ql).f1) = 6
            ·rw [if_pos c45] at H
             have c45b0 : (((qa qb ql).f1) == 6) = true := beq_iff_eq.mpr c45
             have c45b1 : (((qa qb ql).f1) != 6) = false := bne_eq_false_iff_eq.mpr c45
             clear c45
             replace H := Option.bind_eq_some_iff.mp H
             obtain ⟨jS, quH, H⟩ := H
             replace H : (if jS = true then (if ((qa qb ql).f1) = 5 then ((qY.f ZM qd qb ((qa qb ql).f0.f0) 255).bind fun zb => (if (zb.length : Int) > 1 then (some false) else (qC.l0 ZM (wrap64 (qD + 1)) qb (qb.length : Int) (wrap64 (ql + 1)) qd qb))) else (qC.l0 ZM (wrap64 (qD + 1)) qb (qb.length : Int) (wrap64 (ql + 1)) qd qb)) else (some false)) = some r := H
             have A46 := ak quH
             clear quH
             by_cases c47 : jS = true
             ·subst c47
              have H1 : (if ((qa qb ql).f1) = 5 then ((qY.f ZM qd qb ((qa qb ql).f0.f0) 255).bind fun zb => (if (zb.length : Int) > 1 then (some false) else (qC.l0 ZM (wrap64 (qD + 1)) qb (qb.length : Int) (wrap64 (ql + 1)) qd qb))) else (qC.l0 ZM (wrap64 (qD + 1)) qb (qb.length : Int) (wrap64 (ql + 1)) qd qb)) = some r := by rw [if_pos rfl] at H; exact H
              clear H
              have H := H1
              clear H1
              by_cases c48 : ((qa qb ql).f1) = 5
              ·rw [if_pos c48] at H
               have c48b0 : (((qa qb ql).f1) == 5) = true := beq_iff_eq.mpr c48
               have c48b1 : (((qa qb ql).f1) != 5) = false := bne_eq_false_iff_eq.mpr c48
               clear c48
               replace H := Option.bind_eq_some_iff.mp H
               obtain ⟨zb, quG, H⟩ := H
               replace H : (if (zb.length : Int) > 1 then (some false) else (qC.l0 ZM (wrap64 (qD + 1)) qb (qb.length : Int) (wrap64 (ql + 1)) qd qb)) = some r := H
               have A49 := ak quG
               clear quG
               by_cases c50 : (zb.length : Int) > 1
               ·rw [if_pos c50] at H
                have c50b0 : decide (1 < (zb.length : Int)) = true := decide_eq_true c50
                have c50b1 : decide (1 < zb.length) = true := decide_eq_true (by omega)
                clear c50
                obtain rfl := Option.some.inj H
                have qD2 := XG.out
                have qDA := Yg.out
                obtain ⟨qBu, qBt, qBs, qBr, qBq, qBp, qBo, qyR, qyQ, qyP, qyO, qyN, qyM, qyL⟩ := cells7 qT.out
                obtain ⟨qnF, qnE, qmN, qmM⟩ := cells2 qc.out
                go_wp2_with (first | ((with_reducible refine gate_callee (f := 102) rfl ?_); refine goesL_ (some 60) rfl rfl Try.func102 (by kernel_rfl) rfl #[.agg #[.slice zR ((qa qb ql).f0.f0).length zQ], .agg #[.slice qq qd.length qp]] rfl (by first | rfl | (simp only [List.map_toArray, List.map_cons, List.map_nil]; first | done | rfl)) ?_; (with_reducible refine (ye.calls ZM _ _ ((qa qb ql).f0.f0) _ _ qd true _ ?qk ?qj ?qw ?qy A46.out).mono ?_); (case qk => exact cw yc.out HB.out); (case qj => exact yd.out); (case qw => exact cw qW.out HB.out); (case qy => exact jb.out); rintro e w54 ⟨rfl, hb⟩; refine ⟨_, rfl, ?_⟩; replace qc := ak (blk_below (bk qc.out) hb); replace qT := ak (blk_below (bk qT.out) hb); replace HB := ak (below_step (by repeat (first | exact bw HB.out | refine below_set ?_ qm.out | refine below_set ?_ Qh.out)) hb); (try clear hb); obtain ⟨qsK, qsJ, qsI, qsH, qsG, qsF, qsE, qq5, qq4, qq3, qq2, qq1, qq0, qqZ⟩ := cells7 qT.out; obtain ⟨qsD, qsC, qqY, qqX⟩ := cells2 qc.out) | (go_at_call 103; (with_reducible refine (qY.calls ZM _ _ qd (fun k_ => k_ < w.heap.size) _ _ qb _ _ ((qa qb ql).f0.f0) 255 zb _ ?qk ?qj ?qw ?qy ?zK A49.out).mono ?_); (case qk => exact cw qW.out HB.out); (case qj => exact jb.out); (case qw => exact Kd.V_mk QJ.out (Kd.F_below (Kd.C_F k33_heap yB.out) (by repeat (first | exact bw HB.out | refine below_set ?_ qm.out | refine below_set ?_ Qh.out)))); (case qy => exact cw yc.out HB.out); (case zK => exact yd.out); rintro e w57 ⟨qiF, rfl, ho0, hb⟩; have qda := ak (Kd.N_lower (Kd.N_mono (ok' := fun k_ => k_ ≠ qi ∧ k_ ≠ qR) ho0 (fun k_ hk_ => ⟨Or.elim hk_ (fun hs_ => fun e_ => Nat.not_le.2 hs_ (by rw [e_]; exact jD.out)) (fun hn_ => (Kd.freshB (g := qi) (o := .cells #[.slice qq qd.length qp, .slice (some zp) qb.length je] 59 (0, 0)) (bk qc.out) k_ hn_)), Or.elim hk_ (fun hs_ => fun e_ => Nat.not_le.2 hs_ (by rw [e_]; exact qln.out)) (fun hn_ => (Kd.freshB (g := qR) (o := .cells #[.slice zR ((qa qb ql).f0.f0).length zQ, .int .i64 ((qa qb ql).f1), .int .i64 ((qa qb ql).f2), .int .i64 ((qa qb ql).f3), .slice QA ((qa qb ql).f4.f0).length Qs, .slice Qz ((qa qb ql).f5).length Qr, .slice Qy ((qa qb ql).f6).length Qq] 33 (0, 0)) (bk qT.out) k_ hn_))⟩)) (below_size (by repeat (first | exact bw HB.out | refine below_set ?_ qm.out | refine below_set ?_ Qh.out)))); replace qc := ak (blk_below (bk qc.out) hb); replace qT := ak (blk_below (bk qT.out) hb); replace HB := ak (below_step (by repeat (first | exact bw HB.out | refine below_set ?_ qm.out | refine below_set ?_ Qh.out)) hb); (try clear hb); (try clear ho0); obtain ⟨qEN, qEF, qvX⟩ := Kd.N_slice qda.out; subst qvX))
                go_ret
                exact ⟨by first | rfl | (simp [errW_none, errW_some] <;> rfl) | (simp [*, errW_none, errW_some] <;> rfl), by repeat (first | exact bw HB.out | refine below_set ?_ qm.out | refine below_set ?_ Qh.out)⟩
               ·rw [if_neg c50] at H
                have c50b0 : decide (1 < (zb.length : Int)) = false := decide_eq_false c50
                have c50b1 : decide (1 < zb.length) = false := decide_eq_false (by omega)
                clear c50
                have H' := ak H
                clear H
                have qD1 := XG.out
                have qDz := Yg.out
                obtain ⟨qnD, qnC, qsu, qst, qss, qsr, qsq, qmL, qmK, qqP, qqO, qqN, qqM, qqL⟩ := cells7 qT.out
                obtain ⟨qBi, qBh, qyF, qyE⟩ := cells2 qc.out
                go_wp2_with (first | ((with_reducible refine gate_callee (f := 102) rfl ?_); refine goesL_ (some 60) rfl rfl Try.func102 (by kernel_rfl) rfl #[.agg #[.slice zR ((qa qb ql).f0.f0).length zQ], .agg #[.slice qq qd.length qp]] rfl (by first | rfl | (simp only [List.map_toArray, List.map_cons, List.map_nil]; first | done | rfl)) ?_; (with_reducible refine (ye.calls ZM _ _ ((qa qb ql).f0.f0) _ _ qd true _ ?qk ?qj ?qw ?qy A46.out).mono ?_); (case qk => exact cw yc.out HB.out); (case qj => exact yd.out); (case qw => exact cw qW.out HB.out); (case qy => exact jb.out); rintro e w62 ⟨rfl, hb⟩; refine ⟨_, rfl, ?_⟩; replace qc := ak (blk_below (bk qc.out) hb); replace qT := ak (blk_below (bk qT.out) hb); replace HB := ak (below_step (by repeat (first | exact bw HB.out | refine below_set ?_ qm.out | refine below_set ?_ Qh.out)) hb); (try clear hb); obtain ⟨qjZ, qjY, qjX, qjW, qjV, qjU, qjT, qi6, qi5, qi4, qi3, qi2, qi0, qiZ⟩ := cells7 qT.out; obtain ⟨qnB, qnA, qmJ, qmI⟩ := cells2 qc.out) | (go_at_call 103; (with_reducible refine (qY.calls ZM _ _ qd (fun k_ => k_ < w.heap.size) _ _ qb _ _ ((qa qb ql).f0.f0) 255 zb _ ?qk ?qj ?qw ?qy ?zK A49.out).mono ?_); (case qk => exact cw qW.out HB.out); (case qj => exact jb.out); (case qw => exact Kd.V_mk QJ.out (Kd.F_below (Kd.C_F k33_heap yB.out) (by repeat (first | exact bw HB.out | refine below_set ?_ qm.out | refine below_set ?_ Qh.out)))); (case qy => exact cw yc.out HB.out); (case zK => exact yd.out); rintro e w65 ⟨qiF, rfl, ho0, hb⟩; have qda := ak (Kd.N_lower (Kd.N_mono (ok' := fun k_ => k_ ≠ qi ∧ k_ ≠ qR) ho0 (fun k_ hk_ => ⟨Or.elim hk_ (fun hs_ => fun e_ => Nat.not_le.2 hs_ (by rw [e_]; exact jD.out)) (fun hn_ => (Kd.freshB (g := qi) (o := .cells #[.slice qq qd.length qp, .slice (some zp) qb.length je] 59 (0, 0)) (bk qc.out) k_ hn_)), Or.elim hk_ (fun hs_ => fun e_ => Nat.not_le.2 hs_ (by rw [e_]; exact qln.out)) (fun hn_ => (Kd.freshB (g := qR) (o := .cells #[.slice zR ((qa qb ql).f0.f0).length zQ, .int .i64 ((qa qb ql).f1), .int .i64 ((qa qb ql).f2), .int .i64 ((qa qb ql).f3), .slice QA ((qa qb ql).f4.f0).length Qs, .slice Qz ((qa qb ql).f5).length Qr, .slice Qy ((qa qb ql).f6).length Qq] 33 (0, 0)) (bk qT.out) k_ hn_))⟩)) (below_size (by repeat (first | exact bw HB.out | refine below_set ?_ qm.out | refine below_set ?_ Qh.out)))); replace qc := ak (blk_below (bk qc.out) hb); replace qT := ak (blk_below (bk qT.out) hb); replace HB := ak (below_step (by repeat (first | exact bw HB.out | refine below_set ?_ qm.out | refine below_set ?_ Qh.out)) hb); (try clear hb); (try clear ho0); obtain ⟨qEM, qEE, qvW⟩ := Kd.N_slice qda.out; subst qvW))
                go_roundg ZM
                case measure => have := HJ1.out; have := HK2.out; have := qgz.out; omega
                case rel => exact ⟨(wrap64 (qD + 1)), (wrap64 (ql + 1)), (by first | rfl | (simp; done) | (simp [*]; done)), (by first | rfl | (simp; done) | (simp [*]; done)), H', ⟨by have := HJ1.out; have := HK2.out; have := qgz.out; omega⟩, ⟨bk qc.out⟩, ⟨by repeat (first | exact bw HB.out | refine below_set ?_ qm.out | refine below_set ?_ Qh.out)⟩⟩
              ·rw [if_neg c48] at H
               have c48b0 : (((qa qb ql).f1) == 5) = false := beq_eq_false_iff_ne.mpr c48
               have c48b1 : (((qa qb ql).f1) != 5) = true := bne_iff_ne.mpr c48
               have H' := ak H
               clear H
               have qDZ := XG.out
               have qDx := Yg.out
               obtain ⟨qnz, qny, qsb, qsa, qr9, qr8, qr7, qmH, qmG, qqw, qqv, qqu, qqt, qqs⟩ := cells7 qT.out
               obtain ⟨qr6, qr5, qqr, qqq⟩ := cells2 qc.out
               go_wp2_with (first | ((with_reducible refine gate_callee (f := 102) rfl ?_); refine goesL_ (some 60) rfl rfl Try.func102 (by kernel_rfl) rfl #[.agg #[.slice zR ((qa qb ql).f0.f0).length zQ], .agg #[.slice qq qd.length qp]] rfl (by first | rfl | (simp only [List.map_toArray, List.map_cons, List.map_nil]; first | done | rfl)) ?_; (with_reducible refine (ye.calls ZM _ _ ((qa qb ql).f0.f0) _ _ qd true _ ?qk ?qj ?qw ?qy A46.out).mono ?_); (case qk => exact cw yc.out HB.out); (case qj => exact yd.out); (case qw => exact cw qW.out HB.out); (case qy => exact jb.out); rintro e w70 ⟨rfl, hb⟩; refine ⟨_, rfl, ?_⟩; replace qc := ak (blk_below (bk qc.out) hb); replace qT := ak (blk_below (bk qT.out) hb); replace HB := ak (below_step (by repeat (first | exact bw HB.out | refine below_set ?_ qm.out | refine below_set ?_ Qh.out)) hb); (try clear hb); obtain ⟨qnx, qnw, qnv, qnu, qnt, qns, qnr, qmF, qmE, qmD, qmC, qmB, qmA, qmz⟩ := cells7 qT.out))
               go_roundg ZM
               case measure => have := HJ1.out; have := HK2.out; have := qgz.out; omega
               case rel => exact ⟨(wrap64 (qD + 1)), (wrap64 (ql + 1)), (by first | rfl | (simp; done) | (simp [*]; done)), (by first | rfl | (simp; done) | (simp [*]; done)), H', ⟨by have := HJ1.out; have := HK2.out; have := qgz.out; omega⟩, ⟨bk qc.out⟩, ⟨by repeat (first | exact bw HB.out | refine below_set ?_ qm.out | refine below_set ?_ Qh.out)⟩⟩
             ·replace c47 := Bool.eq_false_iff.mpr c47
              subst c47
              have H1 : (some false) = some r := by rw [if_neg (show ¬ (false = true) by decide)] at H; exact H
              clear H
              have H := H1
              clear H1
              obtain rfl := Option.some.inj H
              have qDY := XG.out
              have qDw := Yg.out
              obtain ⟨qAS, qAR, qAQ, qAP, qAO, qAN, qAM, qyf, qye, qyd, qyc, qyb, qya, qx9⟩ := cells7 qT.out
              obtain ⟨qAL, qAK, qx8, qx7⟩ := cells2 qc.out
              go_wp2_with (first | ((with_reducible refine gate_callee (f := 102) rfl ?_); refine goesL_ (some 60) rfl rfl Try.func102 (by kernel_rfl) rfl #[.agg #[.slice zR ((qa qb ql).f0.f0).length zQ], .agg #[.slice qq qd.length qp]] rfl (by first | rfl | (simp only [List.map_toArray, List.map_cons, List.map_nil]; first | done | rfl)) ?_; (with_reducible refine (ye.calls ZM _ _ ((qa qb ql).f0.f0) _ _ qd false _ ?qk ?qj ?qw ?qy A46.out).mono ?_); (case qk => exact cw yc.out HB.out); (case qj => exact yd.out); (case qw => exact cw qW.out HB.out); (case qy => exact jb.out); rintro e w75 ⟨rfl, hb⟩; refine ⟨_, rfl, ?_⟩; replace qc := ak (blk_below (bk qc.out) hb); replace qT := ak (blk_below (bk qT.out) hb); replace HB := ak (below_step (by repeat (first | exact bw HB.out | refine below_set ?_ qm.out | refine below_set ?_ Qh.out)) hb); (try clear hb)))
              go_ret
              exact ⟨by first | rfl | (simp [errW_none, errW_some] <;> rfl) | (simp [*, errW_none, errW_some] <;> rfl), by repeat (first | exact bw HB.out | refine below_set ?_ qm.out | refine below_set ?_ Qh.out)⟩
            ·rw [if_neg c45] at H
             have c45b0 : (((qa qb ql).f1) == 6) = false := beq_eq_false_iff_ne.mpr c45
             have c45b1 : (((qa qb ql).f1) != 6) = true := bne_iff_ne.mpr c45
             by_cases c76 : ((qa qb ql).f1) = 5
             ·rw [if_pos c76] at H
              have c76b0 : (((qa qb ql).f1) == 5) = true := beq_iff_eq.mpr c76
              have c76b1 : (((qa qb ql).f1) != 5) = false := bne_eq_false_iff_eq.mpr c76
              clear c76
              replace H := Option.bind_eq_some_iff.mp H
              obtain ⟨XY, quD, H⟩ := H
              replace H : (if (XY.length : Int) > 1 then (some false) else (qC.l0 ZM qD qb (qb.length : Int) (wrap64 (ql + 1)) qd qb)) = some r := H
              have A77 := ak quD
              clear quD
              by_cases c78 : (XY.length : Int) > 1
              ·rw [if_pos c78] at H
               have c78b0 : decide (1 < (XY.length : Int)) = true := decide_eq_true c78
               have c78b1 : decide (1 < XY.length) = true := decide_eq_true (by omega)
               clear c78
               obtain rfl := Option.some.inj H
               have qDW := XG.out
               have qDu := Yg.out
               obtain ⟨qAh, qAg, qAf, qAe, qAd, qAc, qAb, qxE, qxD, qxC, qxB, qxA, qxz, qxy⟩ := cells7 qT.out
               obtain ⟨qAa, qz9, qxx, qxw⟩ := cells2 qc.out
               go_wp2_with (first | (go_at_call 103; (with_reducible refine (qY.calls ZM _ _ qd (fun k_ => k_ < w.heap.size) _ _ qb _ _ ((qa qb ql).f0.f0) 255 XY _ ?qk ?qj ?qw ?qy ?zK A77.out).mono ?_); (case qk => exact cw qW.out HB.out); (case qj => exact jb.out); (case qw => exact Kd.V_mk QJ.out (Kd.F_below (Kd.C_F k33_heap yB.out) (by repeat (first | exact bw HB.out | refine below_set ?_ qm.out | refine below_set ?_ Qh.out)))); (case qy => exact cw yc.out HB.out); (case zK => exact yd.out); rintro e w82 ⟨qlp, rfl, ho0, hb⟩; have qex := ak (Kd.N_lower (Kd.N_mono (ok' := fun k_ => k_ ≠ qi ∧ k_ ≠ qR) ho0 (fun k_ hk_ => ⟨Or.elim hk_ (fun hs_ => fun e_ => Nat.not_le.2 hs_ (by rw [e_]; exact jD.out)) (fun hn_ => (Kd.freshB (g := qi) (o := .cells #[.slice qq qd.length qp, .slice (some zp) qb.length je] 59 (0, 0)) (bk qc.out) k_ hn_)), Or.elim hk_ (fun hs_ => fun e_ => Nat.not_le.2 hs_ (by rw [e_]; exact qln.out)) (fun hn_ => (Kd.freshB (g := qR) (o := .cells #[.slice zR ((qa qb ql).f0.f0).length zQ, .int .i64 ((qa qb ql).f1), .int .i64 ((qa qb ql).f2), .int .i64 ((qa qb ql).f3), .slice QA ((qa qb ql).f4.f0).length Qs, .slice Qz ((qa qb ql).f5).length Qr, .slice Qy ((qa qb ql).f6).length Qq] 33 (0, 0)) (bk qT.out) k_ hn_))⟩)) (below_size (by repeat (first | exact bw HB.out | refine below_set ?_ qm.out | refine below_set ?_ Qh.out)))); replace qc := ak (blk_below (bk qc.out) hb); replace qT := ak (blk_below (bk qT.out) hb); replace HB := ak (below_step (by repeat (first | exact bw HB.out | refine below_set ?_ qm.out | refine below_set ?_ Qh.out)) hb); (try clear hb); (try clear ho0); obtain ⟨qEL, qED, qvV⟩ := Kd.N_slice qex.out; subst qvV))
               go_ret
               exact ⟨by first | rfl | (simp [errW_none, errW_some] <;> rfl) | (simp [*, errW_none, errW_some] <;> rfl), by repeat (first | exact bw HB.out | refine below_set ?_ qm.out | refine below_set ?_ Qh.out)⟩
              ·rw [if_neg c78] at H
               have c78b0 : decide (1 < (XY.length : Int)) = false := decide_eq_false c78
               have c78b1 : decide (1 < XY.length) = false := decide_eq_false (by omega)
               clear c78
               have H' := ak H
               clear H
               have qDU := XG.out
               have qDs := Yg.out
               obtain ⟨qzU, qzT, qzS, qzR, qzQ, qzP, qzO, qxh, qxg, qxf, qxe, qxd, qxc, qxb⟩ := cells7 qT.out
               obtain ⟨qzN, qzM, qxa, qw9⟩ := cells2 qc.out
               go_wp2_with (first | (go_at_call 103; (with_reducible refine (qY.calls ZM _ _ qd (fun k_ => k_ < w.heap.size) _ _ qb _ _ ((qa qb ql).f0.f0) 255 XY _ ?qk ?qj ?qw ?qy ?zK A77.out).mono ?_); (case qk => exact cw qW.out HB.out); (case qj => exact jb.out); (case qw => exact Kd.V_mk QJ.out (Kd.F_below (Kd.C_F k33_heap yB.out) (by repeat (first | exact bw HB.out | refine below_set ?_ qm.out | refine below_set ?_ Qh.out)))); (case qy => exact cw yc.out HB.out); (case zK => exact yd.out); rintro e w87 ⟨qlp, rfl, ho0, hb⟩; have qex := ak (Kd.N_lower (Kd.N_mono (ok' := fun k_ => k_ ≠ qi ∧ k_ ≠ qR) ho0 (fun k_ hk_ => ⟨Or.elim hk_ (fun hs_ => fun e_ => Nat.not_le.2 hs_ (by rw [e_]; exact jD.out)) (fun hn_ => (Kd.freshB (g := qi) (o := .cells #[.slice qq qd.length qp, .slice (some zp) qb.length je] 59 (0, 0)) (bk qc.out) k_ hn_)), Or.elim hk_ (fun hs_ => fun e_ => Nat.not_le.2 hs_ (by rw [e_]; exact qln.out)) (fun hn_ => (Kd.freshB (g := qR) (o := .cells #[.slice zR ((qa qb ql).f0.f0).length zQ, .int .i64 ((qa qb ql).f1), .int .i64 ((qa qb ql).f2), .int .i64 ((qa qb ql).f3), .slice QA ((qa qb ql).f4.f0).length Qs, .slice Qz ((qa qb ql).f5).length Qr, .slice Qy ((qa qb ql).f6).length Qq] 33 (0, 0)) (bk qT.out) k_ hn_))⟩)) (below_size (by repeat (first | exact bw HB.out | refine below_set ?_ qm.out | refine below_set ?_ Qh.out)))); replace qc := ak (blk_below (bk qc.out) hb); replace qT := ak (blk_below (bk qT.out) hb); replace HB := ak (below_step (by repeat (first | exact bw HB.out | refine below_set ?_ qm.out | refine below_set ?_ Qh.out)) hb); (try clear hb); (try clear ho0); obtain ⟨qEK, qEC, qvU⟩ := Kd.N_slice qex.out; subst qvU))
               go_roundg ZM
               case measure => have := HJ1.out; have := HK2.out; have := qgz.out; omega
               case rel => exact ⟨(qD), (wrap64 (ql + 1)), (by first | rfl | (simp; done) | (simp [*]; done)), (by first | rfl | (simp; done) | (simp [*]; done)), H', ⟨by have := HJ1.out; have := HK2.out; have := qgz.out; omega⟩, ⟨bk qc.out⟩, ⟨by repeat (first | exact bw HB.out | refine below_set ?_ qm.out | refine below_set ?_ Qh.out)⟩⟩
             ·rw [if_neg c76] at H
              have c76b0 : (((qa qb ql).f1) == 5) = false := beq_eq_false_iff_ne.mpr c76
              have c76b1 : (((qa qb ql).f1) != 5) = true := bne_iff_ne.mpr c76
              have H' := ak H
              clear H
              have qDT := XG.out
              have qDr := Yg.out
              obtain ⟨qzL, qzK, qzJ, qzI, qzH, qzG, qzF, qw8, qw7, qw6, qw5, qw4, qw3, qw2⟩ := cells7 qT.out
              go_wp2
              go_roundg ZM
              case measure => have := HJ1.out; have := HK2.out; have := qgz.out; omega
              case rel => exact ⟨(qD), (wrap64 (ql + 1)), (by first | rfl | (simp; done) | (simp [*]; done)), (by first | rfl | (simp; done) | (simp [*]; done)), H', ⟨by have := HJ1.out; have := HK2.out; have := qgz.out; omega⟩, ⟨bk qc.out⟩, ⟨by repeat (first | exact bw HB.out | refine below_set ?_ qm.out | refine below_set ?_ Qh.out)⟩⟩
        ·rw [if_neg c21] at H
         exact absurd H (by simp)
       ·rw [if_neg c20] at H
        exact absurd H (by simp)
      ·rw [if_neg c19] at H
       have c19b0 : decide (ql < (qb.length : Int)) = false := decide_eq_false c19
       clear c19
       obtain rfl := Option.some.inj H
       go_wp2
       go_ret
       exact ⟨by first | rfl | (simp [errW_none, errW_some] <;> rfl) | (simp [*, errW_none, errW_some] <;> rfl), by repeat (first | exact bw HB.out | refine below_set ?_ qm.out)⟩


/-! ### QC: function 224 -/
def QC.f (qd : List (List Int)) (qu : Int) (qH : Int) (qF : Int) (qA : List (List Int)) (qt : List Int) (qo : List Int) : Option (Bool) := some (qu == 6)
set_option maxHeartbeats 8000000 in
set_option maxRecDepth 100000 in
theorem QC.calls (qq : Option Addr) (qp : Nat) (qd : List (List Int)) (qu : Int) (qH : Int) (qF : Int) (jC : Option Addr) (jB : Nat) (qA : List (List Int)) (jK : Option Addr) (jJ : Nat) (qt : List Int) (jM : Option Addr) (jL : Nat) (qo : List Int) (r : Bool) (w : World) (jd : Kd.C (Kd.slice 5 (Kd.int .u8)) w qq qd.length qd) (jg : qd.length ≤ qp) (QF : Kd.C (Kd.slice 5 (Kd.int .u8)) w jC qA.length qA) (QI : qA.length ≤ jB) (QE : Kd.C (Kd.int .u8) w jK qt.length qt) (QH : qt.length ≤ jJ) (QD : Kd.C (Kd.int .i64) w jM qo.length qo) (QG : qo.length ≤ jL) (h : QC.f qd qu qH qF qA qt qo = some r) :
  Calls Try.prog 224 #[.agg #[.slice qq qd.length qp, .int .i64 qu, .int .i64 qH, .int .i64 qF, .slice jC qA.length jB, .slice jK qt.length jJ, .slice jM qo.length jL]] w fun e w' => e = .returned (.bool r) ∧ Below w.heap.size w w' := by
 have qak := Try.underlying33
 have qW := ak jd
 have jb := ak jg
 clear jd jg
 have Jo := ak QF
 have Jp := ak QI
 clear QF QI
 have ZF := ak QE
 have Yp := ak QH
 clear QE QH
 have Qd := ak QD
 have YP := ak QG
 clear QD QG
 have HB := ak (Below.refl w.heap.size w)
 have H : (some (qu == 6)) = some r := h
 clear h
 obtain rfl := Option.some.inj H
 go_enter Try.func224, Try.ntmps224
 go_wp2_with (first | ((with_reducible refine gate_dst (N := 1) rfl ?_); refine boxed (N := 1) rfl rfl (cs := #[.slice qq qd.length qp, .int .i64 qu, .int .i64 qH, .int .i64 qF, .slice jC qA.length jB, .slice jK qt.length jJ, .slice jM qo.length jL]) (t := 33) HB.out (by first | (go_simp; done) | (go_simp; rfl)) ?_; clear HB; intro qi w2 hg HB qc qm hb; have jD := qm; clear hb hg; obtain ⟨qC8, qC7, qC6, qC5, qC4, qC3, qC2, qCQ, qCP, qCO, qCN, qCM, qCL, qCK⟩ := cells7 qc.out))
 go_ret
 exact ⟨by first | rfl | (simp [errW_none, errW_some] <;> rfl) | (simp [*, errW_none, errW_some] <;> rfl), bw HB.out⟩


/-! ### Yr: function 178 -/

def Yr.f (qd : List (List Int)) (qb : List S33) : Option Int := zY.idx (fun x => QC.f x.f0.f0 x.f1 x.f2 x.f3 x.f4.f0 x.f5 x.f6) qb 0
set_option maxHeartbeats 2000000 in
theorem Yr.calls (qq : Option Addr) (qp : Nat) (qd : List (List Int)) (jA : Option Addr) (je : Nat) (qb : List S33) (r : Int) (w : World) (jd : Kd.C (Kd.slice 5 (Kd.int .u8)) w qq qd.length qd) (jg : qd.length ≤ qp) (QR : Kd.C k33 w jA qb.length qb) (Jn : qb.length ≤ je) (h : Yr.f qd qb = some r) :
  Calls Try.prog 178 #[.agg #[.slice qq qd.length qp, .slice jA qb.length je]] w fun e w' => e = .returned (.int .i64 r) ∧ Below w.heap.size w w' := by
 have eg : ∀ args w, (callFunc 224 args).run Try.prog w = .ok (.enter 224 args) w := enters_of Try.func224 (by kernel_rfl) rfl
 have HB := ak (Below.refl w.heap.size w)
 have H1 := ak QR
 have HI := ak h
 clear jd jg QR Jn h
 go_enter Try.func178, Try.ntmps178
 go_wp2_with (first | ((with_reducible refine gate_dst (N := 1) rfl ?_); refine boxed (N := 1) rfl rfl (cs := #[.slice qq qd.length qp, .slice jA qb.length je]) (t := 59) HB.out (by first | (go_simp; done) | (go_simp; rfl)) ?_; clear HB; intro gb w2 hg HB BK GE hb; clear hg hb; obtain ⟨_, hz1, _, hf1⟩ := cells2 BK.out) | (go_at_call 223; refine (zY.calls 224 #[] eg (fun x => QC.f x.f0.f0 x.f1 x.f2 x.f3 x.f4.f0 x.f5 x.f6) _ _ qb r _ (cw H1.out HB.out) (fun W cs x b hW hK hq => by obtain ⟨A0, c0, A4, c4, A5, c5, A6, c6, rfl, l0, g0, l4, g4, l5, g5, l6, g6⟩ := k33_open hK; exact QC.calls _ _ x.f0.f0 x.f1 x.f2 x.f3 _ _ x.f4.f0 _ _ x.f5 _ _ x.f6 b W g0 l0 g4 l4 g5 l5 g6 l6 hq) HI.out).mono ?_; rintro e w4 ⟨rfl, hb⟩))
 go_ret
 exact ⟨rfl, below_step HB.out hb⟩


/-! ### jT: function 111 -/
def jT.f (qd : List (List Int)) (qb : List (S33)) : Option (Int) := (Yr.f qd qb).bind fun qG => (if 0 ≤ qG then (if qG < (qb.length : Int) then (if 0 < (((qa qb qG).f6).length : Int) then (some (rd ((qa qb qG).f6) 0)) else (none)) else (none)) else (none))
def jT.T1 : Bool × List (List Nat × List Nat) := (true, [([], []), ([0], [0]), ([], []), ([2], [2]), ([1, 3], [1, 3]), ([4], [4]), ([5], [5]), ([6], [6]), ([7], [7]), ([8, 3, 0, 1, 2, 3, 4, 5, 6, 7, 8], [8])])
def jT.B1 : List Nat := [0, 1, 0, 4, 15, 31, 63, 127, 255, 511]
theorem jT.tab1 : rtab .any (opsOf Try.f111 1) = jT.T1 := by kernel_rfl
theorem jT.bits1 : waitsOk jT.T1.2 jT.B1 = true := by kernel_rfl
set_option maxHeartbeats 8000000 in
set_option maxRecDepth 100000 in
theorem jT.calls (qq : Option Addr) (qp : Nat) (qd : List (List Int)) (jA : Option Addr) (je : Nat) (qb : List (S33)) (r : Int) (w : World) (jd : Kd.C (Kd.slice 5 (Kd.int .u8)) w qq qd.length qd) (jg : qd.length ≤ qp) (QR : Kd.C k33 w jA qb.length qb) (Jn : qb.length ≤ je) (h : jT.f qd qb = some r) :
  Calls Try.prog 111 #[.agg #[.slice qq qd.length qp, .slice jA qb.length je]] w fun e w' => e = .returned (.int .i64 r) ∧ Below w.heap.size w w' := by
 have qez := Try.underlying59
 have qW := ak jd
 have jb := ak jg
 clear jd jg
 have yB := ak QR
 have QJ := ak Jn
 clear QR Jn
 have HB := ak (Below.refl w.heap.size w)
 have H : ((Yr.f qd qb).bind fun qG => (if 0 ≤ qG then (if qG < (qb.length : Int) then (if 0 < (((qa qb qG).f6).length : Int) then (some (rd ((qa qb qG).f6) 0)) else (none)) else (none)) else (none))) = some r := h
 clear h
 replace H := Option.bind_eq_some_iff.mp H
 obtain ⟨qG, A20, H⟩ := H
 replace H : (if 0 ≤ qG then (if qG < (qb.length : Int) then (if 0 < (((qa qb qG).f6).length : Int) then (some (rd ((qa qb qG).f6) 0)) else (none)) else (none)) else (none)) = some r := H
 have A2 := ak A20
 clear A20
 by_cases c3 : 0 ≤ qG
 ·rw [if_pos c3] at H
  have c3b0 : decide (0 ≤ qG) = true := decide_eq_true c3
  clear c3
  by_cases c4 : qG < (qb.length : Int)
  ·rw [if_pos c4] at H
   have c4b0 : decide (qG < (qb.length : Int)) = true := decide_eq_true c4
   clear c4
   by_cases c5 : 0 < (((qa qb qG).f6).length : Int)
   ·rw [if_pos c5] at H
    have c5b0 : decide (0 < (((qa qb qG).f6).length : Int)) = true := decide_eq_true c5
    have c5b1 : decide (0 < ((qa qb qG).f6).length) = true := decide_eq_true (by omega)
    clear c5
    obtain rfl := Option.some.inj H
    go_enter Try.func111, Try.ntmps111
    try go_wp2_with (first | ((with_reducible refine gate_dst (N := 1) rfl ?_); refine boxed (N := 1) rfl rfl (cs := #[.slice qq qd.length qp, .slice jA qb.length je]) (t := 59) HB.out (by first | (go_simp; done) | (go_simp; rfl)) ?_; clear HB; intro qi w6 hg HB qc qm hb; have jD := qm; clear hb hg))
    have n0_ := ak (blk_drew qc.out)
    have n1_ := ak (below_drew1 HB.out)
    clear qc
    clear HB
    have qc := n0_
    have HB := n1_
    clear n0_ n1_
    have zv : 0 ≤ (qG : Int) := of_decide_eq_true (by first | (with_reducible assumption) | assumption)
    have zt : qG < (qb.length : Int) := of_decide_eq_true (by first | (with_reducible assumption) | assumption)
    obtain ⟨qJ, jz, jy, za, jY, jZ, jX, zf, jW, Zg, jP, yO, yN, yM, yi, yh, yg, ya, yb, Jb, Jk, Ja, Jj, QZ, Ji⟩ := Qi yB.out qG zv zt
    have qeQ := yg
    have qeR := yh
    have qeS := yi
    have qeT := yM
    have qeU := yN
    have qeV := yO
    have qeW := jP
    cases Zg
    replace jP := hc_ HB.out jP
    replace yO := hc_ HB.out yO
    replace yN := hc_ HB.out yN
    replace yM := hc_ HB.out yM
    replace yi := hc_ HB.out yi
    replace yh := hc_ HB.out yh
    replace yg := hc_ HB.out yg
    have jk := ak yb
    have zk := ak ya
    clear yb ya
    have zJ := ak Jk
    have YK := ak Jb
    clear Jk Jb
    have zI := ak Jj
    have YJ := ak Ja
    clear Jj Ja
    have zD := ak Ji
    have YI := ak QZ
    clear Ji QZ
    replace zv := eq_true zv
    replace zt := eq_true zt
    have yt : 0 ≤ (0 : Int) := (by omega)
    have yr : 0 < (((qa qb qG).f6).length : Int) := of_decide_eq_true (by first | (with_reducible assumption) | assumption)
    obtain ⟨zp, Yt, zC⟩ := Kd.at_int zD.out 0 yt yr
    have qeP := zC
    (try rw [show ((0 : Int)).toNat = 0 from rfl] at qeP)
    (try rw [show 0 * 1 = 0 from rfl] at qeP)
    (try rw [Addr.add_zero'] at qeP)
    cases Yt
    have qDp : (0 < ((qa qb qG).f6).length) = True := eq_true (by omega)
    (try rw [show ((0 : Int)).toNat = 0 from rfl] at zC)
    (try rw [Addr.add_zero'] at zC)
    replace zC := hc_ HB.out zC
    replace yt := eq_true yt
    replace yr := eq_true yr
    refine start_ (n := 10) (S := fun w' => w'.cell? ⟨qi, 0, none⟩ = some (.slice qq qd.length qp) ∧ w'.cell? ⟨qi, 1, none⟩ = some (.slice (some qJ) qb.length je) ∧ w'.cell? (qJ.add ((qG).toNat * 7)) = some (.slice jz ((qa qb qG).f0.f0).length jy) ∧ w'.cell? ⟨(qJ.add ((qG).toNat * 7)).block, (qJ.add ((qG).toNat * 7)).off + 1, none⟩ = some (.int .i64 ((qa qb qG).f1)) ∧ w'.cell? ⟨(qJ.add ((qG).toNat * 7)).block, (qJ.add ((qG).toNat * 7)).off + 2, none⟩ = some (.int .i64 ((qa qb qG).f2)) ∧ w'.cell? ⟨(qJ.add ((qG).toNat * 7)).block, (qJ.add ((qG).toNat * 7)).off + 3, none⟩ = some (.int .i64 ((qa qb qG).f3)) ∧ w'.cell? ⟨(qJ.add ((qG).toNat * 7)).block, (qJ.add ((qG).toNat * 7)).off + 4, none⟩ = some (.slice za ((qa qb qG).f4.f0).length jY) ∧ w'.cell? ⟨(qJ.add ((qG).toNat * 7)).block, (qJ.add ((qG).toNat * 7)).off + 5, none⟩ = some (.slice jZ ((qa qb qG).f5).length jX) ∧ w'.cell? ⟨(qJ.add ((qG).toNat * 7)).block, (qJ.add ((qG).toNat * 7)).off + 6, none⟩ = some (.slice (some zp) ((qa qb qG).f6).length jW) ∧ w'.cell? zp = some (.int .i64 (rd ((qa qb qG).f6) 0))) (ds := []) (bA 10 0) (by kernel_rfl) rfl rfl ⟨(blk_cell qc.out 0).trans rfl, (blk_cell qc.out 1).trans rfl, (hc_ HB.out qeW), (hc_ HB.out qeV), (hc_ HB.out qeU), (hc_ HB.out qeT), (hc_ HB.out qeS), (hc_ HB.out qeR), (hc_ HB.out qeQ), (hc_ HB.out qeP)⟩ (fun hHeld => ?_); refine with_tabW jT.tab1 jT.bits1 (fun HT_ HW_ => ?_)
    generalize w6.drew = w7 at qc HB jk zJ zI zD jP yO yN yM yi yh yg zC hHeld ⊢
    refine pu_ HT_ 0 3 (bA 10 1) (v := ?_) (a' := ?_) rfl rfl (by kernel_rfl) (fun _ _ _ h => h) (by rfl) ?_ ?_ ?_; rotate_left; intro w'; go_simp; with_reducible rfl; rotate_left; go_simp; rfl
    refine take_ (i := 1) (N := some 4) (v := ?_) (a' := ?_) (bA 10 3) rfl rfl (take_ofW HT_.out HW_.out (by kernel_rfl)) (fun _ _ _ h => h) (Or.inl ⟨by rfl, ?_⟩) hHeld ?_ ?_
    rotate_left; rintro w' ⟨s0, s1, s2, s3, s4, s5, s6, s7, s8, s9⟩; go_simp; with_reducible rfl; rotate_left; go_simp; rfl
    refine take_ (i := 2) (N := some 5) (v := ?_) (a' := ?_) (bA 10 7) rfl rfl (take_ofW HT_.out HW_.out (by kernel_rfl)) (fun _ _ _ h => h) (Or.inl ⟨by rfl, ?_⟩) hHeld ?_ ?_
    rotate_left; rintro w' ⟨s0, s1, s2, s3, s4, s5, s6, s7, s8, s9⟩; go_simp; with_reducible rfl; rotate_left; go_simp; rfl
    refine one_ (i := 3) (N := some 6) (bA 10 15) rfl rfl (one_of HT_.out (by kernel_rfl)) (by decide) (fun K hK => ?_)
    refine goes_ Try.func178 (by kernel_rfl) rfl #[.agg #[.slice qq qd.length qp, .slice (some qJ) qb.length je]] (by rfl) rfl rfl (by first | rfl | (simp only [List.map_toArray, List.map_cons, List.map_nil]; first | done | rfl)) ?_
    with_reducible refine (Yr.calls _ _ qd _ _ qb qG _ ?qk ?qj ?qw ?qy A2.out).mono ?_
    (case qk => exact cw qW.out HB.out)
    (case qj => exact jb.out)
    (case qw => exact cw yB.out HB.out)
    (case qy => exact QJ.out)
    rintro e w8 ⟨rfl, hb⟩
    refine ⟨_, rfl, ?_⟩
    have n0_ := ak (blk_below (bk qc.out) hb)
    have n1_ := ak (below_step (bw HB.out) hb)
    clear qc
    clear HB
    have qc := n0_
    have HB := n1_
    clear n0_ n1_
    (try clear hb)
    (try clear hb2)
    (try clear hk)
    (try clear hi)
    refine hK.out _ _ ⟨(blk_cell qc.out 0).trans rfl, (blk_cell qc.out 1).trans rfl, (hc_ HB.out qeW), (hc_ HB.out qeV), (hc_ HB.out qeU), (hc_ HB.out qeT), (hc_ HB.out qeS), (hc_ HB.out qeR), (hc_ HB.out qeQ), (hc_ HB.out qeP)⟩ (fun hHeld => ?_)
    clear hK K
    refine norm_ (a' := ?_) ?_ ?_; rotate_left; go_simp; rfl
    refine pu_ HT_ 4 7 (bA 10 31) (v := ?_) (a' := ?_) rfl rfl (by kernel_rfl) (fun _ _ _ h => h) (by rfl) ?_ ?_ ?_; rotate_left; intro w'; go_simp; with_reducible rfl; rotate_left; go_simp; rfl
    refine pu_ HT_ 5 8 (bA 10 63) (v := ?_) (a' := ?_) rfl rfl (by kernel_rfl) (fun _ _ _ h => h) (by rfl) ?_ ?_ ?_; rotate_left; intro w'; go_simp; with_reducible rfl; rotate_left; go_simp; rfl
    refine take_ (i := 6) (N := some 9) (v := ?_) (a' := ?_) (bA 10 127) rfl rfl (take_ofW HT_.out HW_.out (by kernel_rfl)) (fun _ _ _ h => h) (Or.inl ⟨by rfl, ?_⟩) hHeld ?_ ?_
    rotate_left; rintro w' ⟨s0, s1, s2, s3, s4, s5, s6, s7, s8, s9⟩; go_simp; with_reducible rfl; rotate_left; go_simp; rfl
    refine pu_ HT_ 7 10 (bA 10 255) (v := ?_) (a' := ?_) rfl rfl (by kernel_rfl) (fun _ _ _ h => h) (by rfl) ?_ ?_ ?_; rotate_left; intro w'; go_simp; with_reducible rfl; rotate_left; go_simp; rfl
    refine take_ (i := 8) (N := some 11) (v := ?_) (a' := ?_) (bA 10 511) rfl rfl (take_ofW HT_.out HW_.out (by kernel_rfl)) (fun _ _ _ h => h) (Or.inl ⟨by rfl, ?_⟩) hHeld ?_ ?_
    rotate_left; rintro w' ⟨s0, s1, s2, s3, s4, s5, s6, s7, s8, s9⟩; go_simp; with_reducible rfl; rotate_left; go_simp; rfl
    refine pu_ HT_ 9 2 (bA 10 1023) (v := ?_) (a' := ?_) rfl rfl (by kernel_rfl) (fun _ _ _ h => h) (by rfl) ?_ ?_ ?_; rotate_left; intro w'; go_simp; with_reducible rfl; rotate_left; go_simp; rfl
    refine done_ (done_of HT_.out (by kernel_rfl)) ?_
    try go_wp2
    go_ret
    exact ⟨by first | rfl | (simp [errW_none, errW_some] <;> rfl) | (simp [*, errW_none, errW_some] <;> rfl), bw HB.out⟩
   ·rw [if_neg c5] at H
    exact absurd H (by simp)
  ·rw [if_neg c4] at H
   exact absurd H (by simp)
 ·rw [if_neg c3] at H
  exact absurd H (by simp)


/-! ### Jx: function 45 -/
def Jx.f (k : Nat) (qd : List (List Int)) (qb : List (S33)) : Option (Int) := (qC.f k qd qb).bind fun qG => (if qG = true then ((jT.f qd qb).bind fun qx => (some qx)) else (some 0))
set_option maxHeartbeats 8000000 in
set_option maxRecDepth 100000 in
theorem Jx.calls (k : Nat) (qq : Option Addr) (qp : Nat) (qd : List (List Int)) (jA : Option Addr) (je : Nat) (qb : List (S33)) (r : Int) (w : World) (jd : Kd.C (Kd.slice 5 (Kd.int .u8)) w qq qd.length qd) (jg : qd.length ≤ qp) (QR : Kd.C k33 w jA qb.length qb) (Jn : qb.length ≤ je) (h : Jx.f k qd qb = some r) :
  Calls Try.prog 45 #[.agg #[.slice qq qd.length qp, .slice jA qb.length je]] w fun e w' => e = .returned (.int .i64 r) ∧ Below w.heap.size w w' := by
 have qez := Try.underlying59
 have qW := ak jd
 have jb := ak jg
 clear jd jg
 have yB := ak QR
 have QJ := ak Jn
 clear QR Jn
 have HB := ak (Below.refl w.heap.size w)
 have H : ((qC.f k qd qb).bind fun qG => (if qG = true then ((jT.f qd qb).bind fun qx => (some qx)) else (some 0))) = some r := h
 clear h
 replace H := Option.bind_eq_some_iff.mp H
 obtain ⟨qG, A20, H⟩ := H
 replace H : (if qG = true then ((jT.f qd qb).bind fun qx => (some qx)) else (some 0)) = some r := H
 have A2 := ak A20
 clear A20
 by_cases c3 : qG = true
 ·subst c3
  have H1 : ((jT.f qd qb).bind fun qx => (some qx)) = some r := by rw [if_pos rfl] at H; exact H
  clear H
  have H := H1
  clear H1
  replace H := Option.bind_eq_some_iff.mp H
  obtain ⟨qx, A40, H⟩ := H
  replace H : (some qx) = some r := H
  have A4 := ak A40
  clear A40
  obtain rfl := Option.some.inj H
  go_enter Try.func45, Try.ntmps45
  go_wp2_with (first | ((with_reducible refine gate_dst (N := 1) rfl ?_); refine boxed (N := 1) rfl rfl (cs := #[.slice qq qd.length qp, .slice jA qb.length je]) (t := 59) HB.out (by first | (go_simp; done) | (go_simp; rfl)) ?_; clear HB; intro qi w5 hg HB qc qm hb; have jD := qm; clear hb hg; obtain ⟨qdf, qgp, qdd, qgl⟩ := cells2 qc.out) | ((with_reducible refine gate_callee (f := 37) rfl ?_); refine goesL_ (some 4) rfl rfl Try.func37 (by kernel_rfl) rfl #[.agg #[.slice qq qd.length qp, .slice jA qb.length je]] rfl (by first | rfl | (simp only [List.map_toArray, List.map_cons, List.map_nil]; first | done | rfl)) ?_; (with_reducible refine (qC.calls k _ _ qd _ _ qb true _ ?qk ?qj ?qw ?qy A2.out).mono ?_); (case qk => exact cw qW.out HB.out); (case qj => exact jb.out); (case qw => exact cw yB.out HB.out); (case qy => exact QJ.out); rintro e w7 ⟨rfl, hb⟩; refine ⟨_, rfl, ?_⟩; replace qc := ak (blk_below (bk qc.out) hb); replace HB := ak (below_step (bw HB.out) hb); (try clear hb); obtain ⟨qam, qgo, qal, qgk⟩ := cells2 qc.out) | ((with_reducible refine gate_callee (f := 111) rfl ?_); refine goesL_ (some 7) rfl rfl Try.func111 (by kernel_rfl) rfl #[.agg #[.slice qq qd.length qp, .slice jA qb.length je]] rfl (by first | rfl | (simp only [List.map_toArray, List.map_cons, List.map_nil]; first | done | rfl)) ?_; (with_reducible refine (jT.calls _ _ qd _ _ qb qx _ ?qk ?qj ?qw ?qy A4.out).mono ?_); (case qk => exact cw qW.out HB.out); (case qj => exact jb.out); (case qw => exact cw yB.out HB.out); (case qy => exact QJ.out); rintro e w9 ⟨rfl, hb⟩; refine ⟨_, rfl, ?_⟩; replace qc := ak (blk_below (bk qc.out) hb); replace HB := ak (below_step (bw HB.out) hb); (try clear hb)))
  go_ret
  exact ⟨by first | rfl | (simp [errW_none, errW_some] <;> rfl) | (simp [*, errW_none, errW_some] <;> rfl), bw HB.out⟩
 ·replace c3 := Bool.eq_false_iff.mpr c3
  subst c3
  have H1 : (some 0) = some r := by rw [if_neg (show ¬ (false = true) by decide)] at H; exact H
  clear H
  have H := H1
  clear H1
  obtain rfl := Option.some.inj H
  go_enter Try.func45, Try.ntmps45
  go_wp2_with (first | ((with_reducible refine gate_dst (N := 1) rfl ?_); refine boxed (N := 1) rfl rfl (cs := #[.slice qq qd.length qp, .slice jA qb.length je]) (t := 59) HB.out (by first | (go_simp; done) | (go_simp; rfl)) ?_; clear HB; intro qi w10 hg HB qc qm hb; have jD := qm; clear hb hg; obtain ⟨JZ, Yl, JY, Yk⟩ := cells2 qc.out) | ((with_reducible refine gate_callee (f := 37) rfl ?_); refine goesL_ (some 4) rfl rfl Try.func37 (by kernel_rfl) rfl #[.agg #[.slice qq qd.length qp, .slice jA qb.length je]] rfl (by first | rfl | (simp only [List.map_toArray, List.map_cons, List.map_nil]; first | done | rfl)) ?_; (with_reducible refine (qC.calls k _ _ qd _ _ qb false _ ?qk ?qj ?qw ?qy A2.out).mono ?_); (case qk => exact cw qW.out HB.out); (case qj => exact jb.out); (case qw => exact cw yB.out HB.out); (case qy => exact QJ.out); rintro e w12 ⟨rfl, hb⟩; refine ⟨_, rfl, ?_⟩; replace qc := ak (blk_below (bk qc.out) hb); replace HB := ak (below_step (bw HB.out) hb); (try clear hb)))
  go_ret
  exact ⟨by first | rfl | (simp [errW_none, errW_some] <;> rfl) | (simp [*, errW_none, errW_some] <;> rfl), bw HB.out⟩


/-! ### QK: function 9 -/
def QK.f (k : Nat) (qd : List (List Int)) (qb : List (S28)) : Option (Bool) := (ZZ.f k qd qb 1048576).bind fun qG => (if qG < 0 then (some true) else ((zz.f k qd qb).bind fun Yn => ((Zw.f k Yn.1 Yn.2).bind fun zq => ((zz.f k qd qb).bind fun Zt => ((Jx.f k Zt.1 Zt.2).bind fun JC => (if JC = zq then ((zz.f k qd qb).bind fun Ym => ((QB.f k Zt.1 Zt.2 Ym.1 Ym.2).bind fun XX => (if XX = true then (some true) else (none)))) else (none)))))))
set_option maxHeartbeats 8000000 in
set_option maxRecDepth 100000 in
theorem QK.calls (k : Nat) (qq : Option Addr) (qp : Nat) (qd : List (List Int)) (jA : Option Addr) (je : Nat) (qb : List (S28)) (r : Bool) (w : World) (jd : Kd.C (Kd.slice 5 (Kd.int .u8)) w qq qd.length qd) (jg : qd.length ≤ qp) (QR : Kd.C k28 w jA qb.length qb) (Jn : qb.length ≤ je) (h : QK.f k qd qb = some r) :
  Calls Try.prog 9 #[.agg #[.slice qq qd.length qp, .slice jA qb.length je]] w fun e w' => e = .returned (.bool r) ∧ Below w.heap.size w w' := by
 have qtZ := Try.underlying54
 have qez := Try.underlying59
 have qW := ak jd
 have jb := ak jg
 clear jd jg
 have yB := ak QR
 have QJ := ak Jn
 clear QR Jn
 have HB := ak (Below.refl w.heap.size w)
 have H : ((ZZ.f k qd qb 1048576).bind fun qG => (if qG < 0 then (some true) else ((zz.f k qd qb).bind fun Yn => ((Zw.f k Yn.1 Yn.2).bind fun zq => ((zz.f k qd qb).bind fun Zt => ((Jx.f k Zt.1 Zt.2).bind fun JC => (if JC = zq then ((zz.f k qd qb).bind fun Ym => ((QB.f k Zt.1 Zt.2 Ym.1 Ym.2).bind fun XX => (if XX = true then (some true) else (none)))) else (none)))))))) = some r := h
 clear h
 replace H := Option.bind_eq_some_iff.mp H
 obtain ⟨qG, A20, H⟩ := H
 replace H : (if qG < 0 then (some true) else ((zz.f k qd qb).bind fun Yn => ((Zw.f k Yn.1 Yn.2).bind fun zq => ((zz.f k qd qb).bind fun Zt => ((Jx.f k Zt.1 Zt.2).bind fun JC => (if JC = zq then ((zz.f k qd qb).bind fun Ym => ((QB.f k Zt.1 Zt.2 Ym.1 Ym.2).bind fun XX => (if XX = true then (some true) else (none)))) else (none))))))) = some r := H
 have A2 := ak A20
 clear A20
 by_cases c3 : qG < 0
 ·rw [if_pos c3] at H
  have c3b0 : decide (qG < 0) = true := decide_eq_true c3
  clear c3
  obtain rfl := Option.some.inj H
  go_enter Try.func9, Try.ntmps9
  go_wp2_with (first | ((with_reducible refine gate_dst (N := 1) rfl ?_); refine boxed (N := 1) rfl rfl (cs := #[.slice qq qd.length qp, .slice jA qb.length je]) (t := 54) HB.out (by first | (go_simp; done) | (go_simp; rfl)) ?_; clear HB; intro qi w4 hg HB qc qm hb; have jD := qm; clear hb hg; obtain ⟨qgq, qlW, qgm, qlJ⟩ := cells2 qc.out) | ((with_reducible refine gate_callee (f := 34) rfl ?_); refine goesL_ (some 9) rfl rfl Try.func34 (by kernel_rfl) rfl #[.agg #[.slice qq qd.length qp, .slice jA qb.length je], .int .i64 1048576] rfl (by first | rfl | (simp only [List.map_toArray, List.map_cons, List.map_nil]; first | done | rfl)) ?_; (with_reducible refine (ZZ.calls k _ _ qd _ _ qb 1048576 qG _ ?qk ?qj ?qw ?qy A2.out).mono ?_); (case qk => exact cw qW.out HB.out); (case qj => exact jb.out); (case qw => exact cw yB.out HB.out); (case qy => exact QJ.out); rintro e w6 ⟨rfl, hb⟩; refine ⟨_, rfl, ?_⟩; replace qc := ak (blk_below (bk qc.out) hb); replace HB := ak (below_step (by repeat (first | exact bw HB.out | refine below_set ?_ qm.out)) hb); (try clear hb)))
  go_ret
  exact ⟨by first | rfl | (simp [errW_none, errW_some] <;> rfl) | (simp [*, errW_none, errW_some] <;> rfl), by repeat (first | exact bw HB.out | refine below_set ?_ qm.out)⟩
 ·rw [if_neg c3] at H
  have c3b0 : decide (qG < 0) = false := decide_eq_false c3
  clear c3
  replace H := Option.bind_eq_some_iff.mp H
  obtain ⟨⟨qx, zy⟩, A70, H⟩ := H
  replace H : ((Zw.f k qx zy).bind fun zq => ((zz.f k qd qb).bind fun Zt => ((Jx.f k Zt.1 Zt.2).bind fun JC => (if JC = zq then ((zz.f k qd qb).bind fun Ym => ((QB.f k Zt.1 Zt.2 Ym.1 Ym.2).bind fun XX => (if XX = true then (some true) else (none)))) else (none))))) = some r := H
  have A7 := ak A70
  clear A70
  replace H := Option.bind_eq_some_iff.mp H
  obtain ⟨zq, A80, H⟩ := H
  replace H : ((zz.f k qd qb).bind fun Zt => ((Jx.f k Zt.1 Zt.2).bind fun JC => (if JC = zq then ((zz.f k qd qb).bind fun Ym => ((QB.f k Zt.1 Zt.2 Ym.1 Ym.2).bind fun XX => (if XX = true then (some true) else (none)))) else (none)))) = some r := H
  have A8 := ak A80
  clear A80
  replace H := Option.bind_eq_some_iff.mp H
  obtain ⟨⟨jS, yV⟩, A90, H⟩ := H
  replace H : ((Jx.f k jS yV).bind fun JC => (if JC = zq then ((zz.f k qd qb).bind fun Ym => ((QB.f k jS yV Ym.1 Ym.2).bind fun XX => (if XX = true then (some true) else (none)))) else (none))) = some r := H
  have A9 := ak A90
  clear A90
  replace H := Option.bind_eq_some_iff.mp H
  obtain ⟨JC, qen, H⟩ := H
  replace H : (if JC = zq then ((zz.f k qd qb).bind fun Ym => ((QB.f k jS yV Ym.1 Ym.2).bind fun XX => (if XX = true then (some true) else (none)))) else (none)) = some r := H
  have A10 := ak qen
  clear qen
  by_cases c11 : JC = zq
  ·rw [if_pos c11] at H
   have c11b0 : (JC == zq) = true := beq_iff_eq.mpr c11
   have c11b1 : (JC != zq) = false := bne_eq_false_iff_eq.mpr c11
   clear c11
   replace H := Option.bind_eq_some_iff.mp H
   obtain ⟨⟨qon, qom⟩, qej, H⟩ := H
   replace H : ((QB.f k jS yV qon qom).bind fun XX => (if XX = true then (some true) else (none))) = some r := H
   have A12 := ak qej
   clear qej
   replace H := Option.bind_eq_some_iff.mp H
   obtain ⟨XX, qei, H⟩ := H
   replace H : (if XX = true then (some true) else (none)) = some r := H
   have A13 := ak qei
   clear qei
   by_cases c14 : XX = true
   ·subst c14
    have H1 : (some true) = some r := by rw [if_pos rfl] at H; exact H
    clear H
    have H := H1
    clear H1
    obtain rfl := Option.some.inj H
    go_enter Try.func9, Try.ntmps9
    try go_wp2_with (first | ((with_reducible refine gate_dst (N := 1) rfl ?_); refine boxed (N := 1) rfl rfl (cs := #[.slice qq qd.length qp, .slice jA qb.length je]) (t := 54) HB.out (by first | (go_simp; done) | (go_simp; rfl)) ?_; clear HB; intro qi w15 hg HB qc qm hb; have jD := qm; clear hb hg; obtain ⟨YV, Xw, YS, Xq⟩ := cells2 qc.out) | ((with_reducible refine gate_callee (f := 34) rfl ?_); refine goesL_ (some 9) rfl rfl Try.func34 (by kernel_rfl) rfl #[.agg #[.slice qq qd.length qp, .slice jA qb.length je], .int .i64 1048576] rfl (by first | rfl | (simp only [List.map_toArray, List.map_cons, List.map_nil]; first | done | rfl)) ?_; (with_reducible refine (ZZ.calls k _ _ qd _ _ qb 1048576 qG _ ?qk ?qj ?qw ?qy A2.out).mono ?_); (case qk => exact cw qW.out HB.out); (case qj => exact jb.out); (case qw => exact cw yB.out HB.out); (case qy => exact QJ.out); rintro e w17 ⟨rfl, hb⟩; refine ⟨_, rfl, ?_⟩; replace qc := ak (blk_below (bk qc.out) hb); replace HB := ak (below_step (by repeat (first | exact bw HB.out | refine below_set ?_ qm.out)) hb); (try clear hb); obtain ⟨YU, YT, YR, YQ⟩ := cells2 qc.out) | ((with_reducible refine gate_callee (f := 36) rfl ?_); refine goesL_ (some 13) rfl rfl Try.func36 (by kernel_rfl) rfl #[.agg #[.slice qq qd.length qp, .slice jA qb.length je]] rfl (by first | rfl | (simp only [List.map_toArray, List.map_cons, List.map_nil]; first | done | rfl)) ?_; (with_reducible refine (zz.calls k _ _ qd _ _ qb qx zy _ ?qk ?qj ?qw ?qy A7.out).mono ?_); (case qk => exact cw qW.out HB.out); (case qj => exact jb.out); (case qw => exact cw yB.out HB.out); (case qy => exact QJ.out); rintro e w19 ⟨qpd, qol, rfl, ho0, ho1, hb⟩; refine ⟨_, rfl, ?_⟩; have Qg := ak (Kd.S_lower ho0 (below_size (by repeat (first | exact bw HB.out | refine below_set ?_ qm.out)))); have QO := ak (Kd.R_lower ho1 (below_size (by repeat (first | exact bw HB.out | refine below_set ?_ qm.out)))); replace qc := ak (blk_below (bk qc.out) hb); replace HB := ak (below_step (by repeat (first | exact bw HB.out | refine below_set ?_ qm.out)) hb); (try clear hb); (try clear ho0); (try clear ho1); obtain ⟨qwt, qwc, qv0⟩ := Kd.S_slice Qg.out; subst qv0; obtain ⟨qpC, qpr, qpo⟩ := Kd.R_slice QO.out; subst qpo) | ((with_reducible refine gate_callee (f := 44) rfl ?_); refine goesL_ (some 14) rfl rfl Try.func44 (by kernel_rfl) rfl #[.agg #[.slice qwt qx.length qwc, .slice qpC zy.length qpr]] rfl (by first | rfl | (simp only [List.map_toArray, List.map_cons, List.map_nil]; first | done | rfl)) ?_; (with_reducible refine (Zw.calls k _ _ qx _ _ zy zq _ ?qk ?qj ?qw ?qy A8.out).mono ?_); (case qk => repeat (first | exact (Kd.S_reads' Qg.out).2.2 | (with_reducible refine Kd.C_alloc ?_ _) | (with_reducible refine Kd.C_drewN ?_ _) | (with_reducible refine Kd.C_drew ?_))); (case qj => exact (Kd.S_reads' Qg.out).2.1); (case qw => repeat (first | exact (Kd.R_reads' QO.out).2.2 | (with_reducible refine Kd.C_alloc ?_ _) | (with_reducible refine Kd.C_drewN ?_ _) | (with_reducible refine Kd.C_drew ?_))); (case qy => exact (Kd.R_reads' QO.out).2.1); rintro e w22 ⟨rfl, hb⟩; refine ⟨_, rfl, ?_⟩; replace Qg := ak (Kd.S_below (sw Qg.out) hb); replace QO := ak (Kd.R_below (rw_ QO.out) hb); replace qc := ak (blk_below (bk qc.out) hb); replace HB := ak (below_step (by repeat (first | exact bw HB.out | refine below_set ?_ qm.out)) hb); (try clear hb); obtain ⟨qdV, qhs, qdF, qg9⟩ := cells2 qc.out) | ((with_reducible refine gate_callee (f := 36) rfl ?_); refine goesL_ (some 16) rfl rfl Try.func36 (by kernel_rfl) rfl #[.agg #[.slice qq qd.length qp, .slice jA qb.length je]] rfl (by first | rfl | (simp only [List.map_toArray, List.map_cons, List.map_nil]; first | done | rfl)) ?_; (with_reducible refine (zz.calls k _ _ qd _ _ qb jS yV _ ?qk ?qj ?qw ?qy A9.out).mono ?_); (case qk => exact cw qW.out HB.out); (case qj => exact jb.out); (case qw => exact cw yB.out HB.out); (case qy => exact QJ.out); rintro e w24 ⟨qpa, qo9, rfl, ho0, ho1, hb⟩; refine ⟨_, rfl, ?_⟩; have Qe := ak (Kd.S_lower (Kd.S_new' ho0 (Kd.S_lt (sw Qg.out))) (below_size (by repeat (first | exact bw HB.out | refine below_set ?_ qm.out)))); have JT := ak (Kd.R_lower (Kd.R_new' (Kd.R_new' ho1 (Kd.S_lt (sw Qg.out))) (Kd.R_lt (rw_ QO.out))) (below_size (by repeat (first | exact bw HB.out | refine below_set ?_ qm.out)))); replace Qg := ak (Kd.S_elder' (sw Qg.out) (Kd.S_base ho0) hb); replace QO := ak (Kd.R_mono (Kd.R_told (Kd.R_told (Kd.R_old (rw_ QO.out) hb) (Kd.S_base ho0)) (Kd.R_base ho1)) (fun _ h_ => h_.1)); replace qc := ak (blk_below (bk qc.out) hb); replace HB := ak (below_step (by repeat (first | exact bw HB.out | refine below_set ?_ qm.out)) hb); (try clear hb); (try clear ho0); (try clear ho1)) | ((with_reducible refine gate_dst (N := 5) rfl ?_); refine box_event ?hg (N := 5) ?hd (cs := #[.slice none 0 0, .slice none 0 0]) (t := 59) ?hr ?_; (case hd => rfl); (case hg => rfl); (case hr => first | (go_simp; done) | (go_simp; rfl)); intro qhA hg w25 hbox hb; replace Qg := ak (Kd.S_below (sw Qg.out) hb); replace QO := ak (Kd.R_below (rw_ QO.out) hb); replace Qe := ak (Kd.S_below (sw Qe.out) hb); replace JT := ak (Kd.R_below (rw_ JT.out) hb); have Ze := ak (hbox); have qEp := ak ((by rw [hg]; exact (below_size (by repeat (first | exact bw HB.out | refine below_set ?_ qm.out))) : w.heap.size ≤ qhA)); have qhZ := ak ((by rw [hg]; exact (below_size (by repeat (first | exact bw HB.out | refine below_set ?_ qm.out))) : w.heap.size ≤ qhA)); replace HB := ak (below_step (by repeat (first | exact bw HB.out | refine below_set ?_ qm.out)) hb); have qk8 := ak ((by rw [hg]; exact Nat.ne_of_lt (blk_lt (bk qc.out)) : qi ≠ qhA)); have qo6 := ak ((by rw [hg]; exact Nat.ne_of_gt (blk_lt (bk qc.out)) : qhA ≠ qi)); replace qc := ak (blk_below (bk qc.out) hb); clear hb hbox hg; obtain ⟨qc6, qc2, qpn⟩ := Kd.S_slice Qe.out; subst qpn; have qpN := qo6.out; have qpK := qk8.out; obtain ⟨qhp, qho, qg6, qg5⟩ := cells2 Ze.out; obtain ⟨qpB, qpq, qvY⟩ := Kd.R_slice JT.out; subst qvY) | ((with_reducible refine gate_callee (f := 45) rfl ?_); refine goesL_ (some 18) rfl rfl Try.func45 (by kernel_rfl) rfl #[.agg #[.slice qc6 jS.length qc2, .slice qpB yV.length qpq]] rfl (by first | rfl | (simp only [List.map_toArray, List.map_cons, List.map_nil]; first | done | rfl)) ?_; (with_reducible refine (Jx.calls k _ _ jS _ _ yV JC _ ?qk ?qj ?qw ?qy A10.out).mono ?_); (case qk => exact (Kd.S_reads' (far2S Qe.out Ze.out (by decide))).2.2); (case qj => exact (Kd.S_reads' Qe.out).2.1); (case qw => exact (Kd.R_reads' (far2R JT.out Ze.out (by decide))).2.2); (case qy => exact (Kd.R_reads' JT.out).2.1); rintro e w30 ⟨rfl, hb⟩; refine ⟨_, rfl, ?_⟩; replace Qg := ak (Kd.S_below (far2S Qg.out Ze.out (by decide)) hb); replace QO := ak (Kd.R_below (far2R QO.out Ze.out (by decide)) hb); replace Qe := ak (Kd.S_below (far2S Qe.out Ze.out (by decide)) hb); replace JT := ak (Kd.R_below (far2R JT.out Ze.out (by decide)) hb); replace qc := ak (blk_below (qvk qk8.out qc.out) hb); replace Ze := ak (blk_below (qvj Ze.out) hb); replace HB := ak (below_step (by repeat (first | exact bw HB.out | refine below_set ?_ qm.out | refine below_set ?_ qhZ.out)) hb); (try clear hb)))
    have n0_ := ak (Kd.S_drew Qg.out)
    have n1_ := ak (Kd.R_drew QO.out)
    have n2_ := ak (Kd.S_drew Qe.out)
    have n3_ := ak (Kd.R_drew JT.out)
    have n4_ := ak (blk_drew qc.out)
    have n5_ := ak (blk_drew Ze.out)
    have n6_ := ak (below_drew1 HB.out)
    clear Qg
    clear QO
    clear Qe
    clear JT
    clear qc
    clear Ze
    clear HB
    have Qg := n0_
    have QO := n1_
    have Qe := n2_
    have JT := n3_
    have qc := n4_
    have Ze := n5_
    have HB := n6_
    clear n0_ n1_ n2_ n3_ n4_ n5_ n6_
    refine start_ (n := 5) (S := fun w' => w'.cell? ⟨qhA, 0, none⟩ = some (.slice qc6 jS.length qc2) ∧ w'.cell? ⟨qhA, 1, none⟩ = some (.slice qpB yV.length qpq) ∧ w'.cell? ⟨qi, 0, none⟩ = some (.slice qq qd.length qp) ∧ w'.cell? ⟨qi, 1, none⟩ = some (.slice jA qb.length je)) (ds := []) #[false, false, false, false, false] (by kernel_rfl) rfl rfl ⟨(blk_cell Ze.out 0).trans rfl, (blk_cell Ze.out 1).trans rfl, (blk_cell qc.out 0).trans rfl, (blk_cell qc.out 1).trans rfl⟩ (fun hHeld => ?_)
    generalize w30.drew = w31 at Qg QO Qe JT qc Ze HB hHeld ⊢
    refine take_ (i := 0) (N := some 22) (v := ?_) (a' := ?_) #[true, false, false, false, false] rfl rfl (by kernel_rfl) (fun _ _ _ h => h) (Or.inl ⟨by rfl, ?_⟩) hHeld ?_ ?_
    rotate_left; rintro w' ⟨s0, s1, s2, s3⟩; go_simp; with_reducible rfl; rotate_left; go_simp; rfl
    refine take_ (i := 1) (N := some 23) (v := ?_) (a' := ?_) #[true, true, false, false, false] rfl rfl (by kernel_rfl) (fun _ _ _ h => h) (Or.inl ⟨by rfl, ?_⟩) hHeld ?_ ?_
    rotate_left; rintro w' ⟨s0, s1, s2, s3⟩; go_simp; with_reducible rfl; rotate_left; go_simp; rfl
    refine one_ (i := 2) (N := some 24) #[true, true, true, false, false] rfl rfl (by kernel_rfl) (by decide) (fun K hK => ?_)
    refine goes_ Try.func36 (by kernel_rfl) rfl #[.agg #[.slice qq qd.length qp, .slice jA qb.length je]] (by rfl) rfl rfl (by first | rfl | (simp only [List.map_toArray, List.map_cons, List.map_nil]; first | done | rfl)) ?_
    with_reducible refine (zz.calls k _ _ qd _ _ qb qon qom _ ?qk ?qj ?qw ?qy A12.out).mono ?_
    (case qk => exact cw qW.out HB.out)
    (case qj => exact jb.out)
    (case qw => exact cw yB.out HB.out)
    (case qy => exact QJ.out)
    rintro e w32 ⟨qEu, qEs, rfl, ho0, ho1, hb⟩
    refine ⟨_, rfl, ?_⟩
    have n0_ := ak (Kd.S_elder' (sw Qg.out) (Kd.S_base ho0) hb)
    have n1_ := ak (Kd.R_mono (Kd.R_told (Kd.R_told (Kd.R_old (rw_ QO.out) hb) (Kd.S_base ho0)) (Kd.R_base ho1)) (fun _ h_ => h_.1))
    have n2_ := ak (Kd.S_elder' (sw Qe.out) (Kd.S_base ho0) hb)
    have n3_ := ak (Kd.R_mono (Kd.R_told (Kd.R_told (Kd.R_old (rw_ JT.out) hb) (Kd.S_base ho0)) (Kd.R_base ho1)) (fun _ h_ => h_.1))
    have n4_ := ak (Kd.S_lower (Kd.S_new' (Kd.S_new' ho0 (Kd.S_lt (sw Qg.out))) (Kd.S_lt (sw Qe.out))) (below_size (by repeat (first | exact bw HB.out | refine below_set ?_ qm.out | refine below_set ?_ qhZ.out))))
    have n5_ := ak (Kd.R_lower (Kd.R_new' (Kd.R_new' (Kd.R_new' (Kd.R_new' ho1 (Kd.S_lt (sw Qg.out))) (Kd.R_lt (rw_ QO.out))) (Kd.S_lt (sw Qe.out))) (Kd.R_lt (rw_ JT.out))) (below_size (by repeat (first | exact bw HB.out | refine below_set ?_ qm.out | refine below_set ?_ qhZ.out))))
    have n6_ := ak (blk_below (bk qc.out) hb)
    have n7_ := ak (blk_below (bk Ze.out) hb)
    have n8_ := ak (below_step (by repeat (first | exact bw HB.out | refine below_set ?_ qm.out | refine below_set ?_ qhZ.out)) hb)
    clear Qg
    clear QO
    clear Qe
    clear JT
    clear qc
    clear Ze
    clear HB
    have Qg := n0_
    have QO := n1_
    have Qe := n2_
    have JT := n3_
    have qhI := n4_
    have qhH := n5_
    have qc := n6_
    have Ze := n7_
    have HB := n8_
    clear n0_ n1_ n2_ n3_ n4_ n5_ n6_ n7_ n8_
    (try clear hb)
    (try clear hb2)
    (try clear hk)
    (try clear hi)
    (try clear ho0)
    (try clear ho1)
    obtain ⟨qwq, qv9, quu⟩ := Kd.S_slice qhI.out
    (first | subst quu | (injection quu with f1_ f2_ f3_; have f4_ := f1_.symm; have f5_ := f3_.symm; clear f1_ f2_ f3_; subst f4_; subst f5_))
    obtain ⟨qwp, qv8, qut⟩ := Kd.R_slice qhH.out
    (first | subst qut | (injection qut with f1_ f2_ f3_; have f4_ := f1_.symm; have f5_ := f3_.symm; clear f1_ f2_ f3_; subst f4_; subst f5_))
    refine hK.out _ _ ⟨(blk_cell Ze.out 0).trans rfl, (blk_cell Ze.out 1).trans rfl, (blk_cell qc.out 0).trans rfl, (blk_cell qc.out 1).trans rfl⟩ (fun hHeld => ?_)
    clear hK K
    refine norm_ (a' := ?_) ?_ ?_; rotate_left; go_simp; rfl
    refine one_ (i := 3) (N := some 25) #[true, true, true, true, false] rfl rfl (by kernel_rfl) (by decide) (fun K hK => ?_)
    refine goes_ Try.func38 (by kernel_rfl) rfl #[.agg #[.slice qc6 jS.length qc2, .slice qpB yV.length qpq], .agg #[.slice qwq qon.length qv9, .slice qwp qom.length qv8]] (by rfl) rfl rfl (by first | rfl | (simp only [List.map_toArray, List.map_cons, List.map_nil]; first | done | rfl)) ?_
    with_reducible refine (QB.calls k _ _ jS _ _ yV _ _ qon _ _ qom true _ ?qk ?qj ?qw ?qy ?zK ?yz ?yy ?yx A13.out).mono ?_
    (case qk => repeat (first | exact (Kd.S_reads' Qe.out).2.2 | (with_reducible refine Kd.C_alloc ?_ _) | (with_reducible refine Kd.C_drewN ?_ _) | (with_reducible refine Kd.C_drew ?_)))
    (case qj => exact (Kd.S_reads' Qe.out).2.1)
    (case qw => repeat (first | exact (Kd.R_reads' JT.out).2.2 | (with_reducible refine Kd.C_alloc ?_ _) | (with_reducible refine Kd.C_drewN ?_ _) | (with_reducible refine Kd.C_drew ?_)))
    (case qy => exact (Kd.R_reads' JT.out).2.1)
    (case zK => repeat (first | exact (Kd.S_reads' qhI.out).2.2 | (with_reducible refine Kd.C_alloc ?_ _) | (with_reducible refine Kd.C_drewN ?_ _) | (with_reducible refine Kd.C_drew ?_)))
    (case yz => exact (Kd.S_reads' qhI.out).2.1)
    (case yy => repeat (first | exact (Kd.R_reads' qhH.out).2.2 | (with_reducible refine Kd.C_alloc ?_ _) | (with_reducible refine Kd.C_drewN ?_ _) | (with_reducible refine Kd.C_drew ?_)))
    (case yx => exact (Kd.R_reads' qhH.out).2.1)
    rintro e w35 ⟨rfl, hb⟩
    refine ⟨_, rfl, ?_⟩
    have n0_ := ak (Kd.S_below (sw Qg.out) hb)
    have n1_ := ak (Kd.R_below (rw_ QO.out) hb)
    have n2_ := ak (Kd.S_below (sw Qe.out) hb)
    have n3_ := ak (Kd.R_below (rw_ JT.out) hb)
    have n4_ := ak (Kd.S_below (sw qhI.out) hb)
    have n5_ := ak (Kd.R_below (rw_ qhH.out) hb)
    have n6_ := ak (blk_below (bk qc.out) hb)
    have n7_ := ak (blk_below (bk Ze.out) hb)
    have n8_ := ak (below_step (by repeat (first | exact bw HB.out | refine below_set ?_ qm.out | refine below_set ?_ qhZ.out)) hb)
    clear Qg
    clear QO
    clear Qe
    clear JT
    clear qhI
    clear qhH
    clear qc
    clear Ze
    clear HB
    have Qg := n0_
    have QO := n1_
    have Qe := n2_
    have JT := n3_
    have qhI := n4_
    have qhH := n5_
    have qc := n6_
    have Ze := n7_
    have HB := n8_
    clear n0_ n1_ n2_ n3_ n4_ n5_ n6_ n7_ n8_
    (try clear hb)
    (try clear hb2)
    (try clear hk)
    (try clear hi)
    refine hK.out _ _ ⟨(blk_cell Ze.out 0).trans rfl, (blk_cell Ze.out 1).trans rfl, (blk_cell qc.out 0).trans rfl, (blk_cell qc.out 1).trans rfl⟩ (fun hHeld => ?_)
    clear hK K
    refine norm_ (a' := ?_) ?_ ?_; rotate_left; go_simp; rfl
    refine pure_ (i := 4) (N := some 26) (v := ?_) (a' := ?_) #[true, true, true, true, true] rfl rfl (by kernel_rfl) (fun _ _ _ h => h) (Or.inl ⟨by rfl, ?_⟩) ?_ ?_
    rotate_left; intro w'; go_simp; with_reducible rfl; rotate_left; go_simp; rfl
    refine done_ (by kernel_rfl) ?_
    try go_wp2
    go_ret
    exact ⟨by first | rfl | (simp [errW_none, errW_some] <;> rfl) | (simp [*, errW_none, errW_some] <;> rfl), by repeat (first | exact bw HB.out | refine below_set ?_ qm.out | refine below_set ?_ qhZ.out)⟩
   ·replace c14 := Bool.eq_false_iff.mpr c14
    subst c14
    have H1 : (none) = some r := by rw [if_neg (show ¬ (false = true) by decide)] at H; exact H
    clear H
    have H := H1
    clear H1
    exact absurd H (by simp)
  ·rw [if_neg c11] at H
   exact absurd H (by simp)


end Go.Proofs.Ytagedmajlppohaa.Q
