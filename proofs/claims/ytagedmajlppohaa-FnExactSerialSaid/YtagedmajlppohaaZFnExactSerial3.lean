/- Printed by a program of this session (wip/myprint.py), which drives the kit's printer: functions and what their calls do. -/
import Derived.Test.YtagedmajlppohaaZFnExactSerial0
import Derived.Test.YtagedmajlppohaaZFnExactSerial1
import Derived.Test.YtagedmajlppohaaZFnExactSerial2
import Derived.Lib.Bytealg
import Derived.Maps.Own
import Derived.Maps.Views
namespace Go.Proofs.Ytagedmajlppohaa.Q
open Go.RowKit Go Go.Proofs.YtagedmajlppohaaW.PrintWords Go.Proofs.YtagedmajlppohaaW.PrintLast Go.Proofs.YtagedmajlppohaaW.PrintMore
attribute [local go_sem] max2_int min2_int max_two min_two max_three min_three max_four min_four
set_option linter.unusedVariables false
set_option linter.unusedSimpArgs false

/-! ### jU: function 140 -/
def jU.l0 : Nat → Int → List Int → Int → Int → Option (Int)
 | 0, _, _, _, _ => none
 | k + 1, x3, x6, x7, x8 => if x8 < x7 then (if 0 ≤ x8 then (if x8 < (x6.length : Int) then (if (rd x6 x8) = x3 then (jU.l0 k x3 x6 x7 (wrap64 (x8 + 1))) else (some (rd x6 x8))) else (none)) else (none)) else (some x3)
def jU.f (k : Nat) (l0 : List Int) : Option (Int) := jU.l0 k 0 l0 (l0.length : Int) 0
set_option maxHeartbeats 8000000 in
set_option maxRecDepth 100000 in
theorem jU.calls (k : Nat) (A0 : Option Addr) (c0 : Nat) (l0 : List Int) (r : Int) (w : World) (hr0 : Kd.C (Kd.int .i64) w A0 l0.length l0) (hc0 : l0.length ≤ c0) (h : jU.f k l0 = some r) :
  Calls Try.prog 140 #[.slice A0 l0.length c0] w fun e w' => e = .returned (.int .i64 r) ∧ Drawn0 w w' := by
 have HR0 := ak hr0
 have HC0 := ak hc0
 clear hr0 hc0
 have H : (jU.l0 k 0 l0 (l0.length : Int) 0) = some r := h
 clear h
 have H' := ak H
 clear H
 go_enter Try.func140, Try.ntmps140
 go_wp2
 go_loopg [8] k (fun kq v8 w' => ∃ (qr : Int), v8 = .int .i64 qr ∧ Aside0 (jU.l0 kq 0 l0 (l0.length : Int) qr = some r) ∧ Aside0 (kq ≤ k) ∧ Drawn0 w w')
 case atStart => exact ⟨(0), (by first | rfl | (simp; done) | (simp [*]; done)), H', ⟨Nat.le_refl _⟩, by repeat (first | exact Drawn0.refl _ | apply Drawn0.step)⟩
 case round =>
  clear H'
  try clear c1
  obtain ⟨qr, rfl, HA, HK1, ⟨m1, rfl⟩⟩ := hrel
  cases gk with
  | zero => exact absurd HA.out (by simp [jU.l0])
  | succ k1 =>
   have H := HA.out
   clear HA
   simp only [jU.l0] at H
   by_cases c2 : qr < (l0.length : Int)
   ·rw [if_pos c2] at H
    have c2b0 : decide (qr < (l0.length : Int)) = true := decide_eq_true c2
    clear c2
    by_cases c3 : 0 ≤ qr
    ·rw [if_pos c3] at H
     have c3b0 : decide (0 ≤ qr) = true := decide_eq_true c3
     clear c3
     by_cases c4 : qr < (l0.length : Int)
     ·rw [if_pos c4] at H
      have c4b0 : decide (qr < (l0.length : Int)) = true := decide_eq_true c4
      clear c4
      by_cases c5 : (rd l0 qr) = 0
      ·rw [if_pos c5] at H
       have c5b0 : ((rd l0 qr) == 0) = true := beq_iff_eq.mpr c5
       have c5b1 : ((rd l0 qr) != 0) = false := bne_eq_false_iff_eq.mpr c5
       clear c5
       have H' := ak H
       clear H
       have ju : 0 ≤ (qr : Int) := of_decide_eq_true (by first | (with_reducible assumption) | assumption)
       have jt : qr < (l0.length : Int) := of_decide_eq_true (by first | (with_reducible assumption) | assumption)
       obtain ⟨ja, yl, zj⟩ := Kd.at_int HR0.out qr ju jt
       cases yl
       replace ju := eq_true ju
       replace jt := eq_true jt
       go_wp2
       go_roundg k1
       case measure => have := HK1.out; omega
       case rel => exact ⟨(wrap64 (qr + 1)), (by first | rfl | (simp; done) | (simp [*]; done)), H', ⟨by have := HK1.out; omega⟩, by repeat (first | exact Drawn0.refl _ | apply Drawn0.step)⟩
      ·rw [if_neg c5] at H
       have c5b0 : ((rd l0 qr) == 0) = false := beq_eq_false_iff_ne.mpr c5
       have c5b1 : ((rd l0 qr) != 0) = true := bne_iff_ne.mpr c5
       obtain rfl := Option.some.inj H
       have ju : 0 ≤ (qr : Int) := of_decide_eq_true (by first | (with_reducible assumption) | assumption)
       have jt : qr < (l0.length : Int) := of_decide_eq_true (by first | (with_reducible assumption) | assumption)
       obtain ⟨ja, yl, zj⟩ := Kd.at_int HR0.out qr ju jt
       cases yl
       replace ju := eq_true ju
       replace jt := eq_true jt
       go_wp2
       go_ret
       exact ⟨by first | rfl | (simp; done) | (simp [*]; done), by repeat (first | exact Drawn0.refl _ | apply Drawn0.step)⟩
     ·rw [if_neg c4] at H
      exact absurd H (by simp)
    ·rw [if_neg c3] at H
     exact absurd H (by simp)
   ·rw [if_neg c2] at H
    have c2b0 : decide (qr < (l0.length : Int)) = false := decide_eq_false c2
    clear c2
    obtain rfl := Option.some.inj H
    go_wp2
    go_ret
    exact ⟨by first | rfl | (simp; done) | (simp [*]; done), by repeat (first | exact Drawn0.refl _ | apply Drawn0.step)⟩


/-! ### zo: function 207 -/
def zo.f (a0 : Int) : Option (Bool) := some (a0 != a0)
set_option maxHeartbeats 8000000 in
set_option maxRecDepth 100000 in
theorem zo.calls (a0 : Int) (r : Bool) (w : World) (h : zo.f a0 = some r) :
  Calls Try.prog 207 #[.int .i64 a0] w fun e w' => e = .returned (.bool r) ∧ Drawn0 w w' := by
 have H : (some (a0 != a0)) = some r := h
 clear h
 obtain rfl := Option.some.inj H
 go_enter Try.func207, Try.ntmps207
 go_wp2
 go_ret
 exact ⟨by first | rfl | (simp; done) | (simp [*]; done), by repeat (first | exact Drawn0.refl _ | apply Drawn0.step)⟩


/-! ### yf: function 142 -/
def yf.f (a0 : Int) (a1 : Int) : Option (Int) := (zo.f a0).bind fun Zy => ((zo.f a1).bind fun qG => (if Zy = true then (if qG = true then (some 0) else (some (-1))) else (if qG = true then (some 1) else (if a0 < a1 then (some (-1)) else (if a0 > a1 then (some 1) else (some 0))))))
set_option maxHeartbeats 8000000 in
set_option maxRecDepth 100000 in
theorem yf.calls (a0 : Int) (a1 : Int) (r : Int) (w : World) (h : yf.f a0 a1 = some r) :
  Calls Try.prog 142 #[.int .i64 a0, .int .i64 a1] w fun e w' => e = .returned (.int .i64 r) ∧ Drawn0 w w' := by
 have H : ((zo.f a0).bind fun Zy => ((zo.f a1).bind fun qG => (if Zy = true then (if qG = true then (some 0) else (some (-1))) else (if qG = true then (some 1) else (if a0 < a1 then (some (-1)) else (if a0 > a1 then (some 1) else (some 0))))))) = some r := h
 clear h
 replace H := Option.bind_eq_some_iff.mp H
 obtain ⟨Zy, A30, H⟩ := H
 replace H : ((zo.f a1).bind fun qG => (if Zy = true then (if qG = true then (some 0) else (some (-1))) else (if qG = true then (some 1) else (if a0 < a1 then (some (-1)) else (if a0 > a1 then (some 1) else (some 0)))))) = some r := H
 have A3 := ak A30
 clear A30
 replace H := Option.bind_eq_some_iff.mp H
 obtain ⟨qG, A40, H⟩ := H
 replace H : (if Zy = true then (if qG = true then (some 0) else (some (-1))) else (if qG = true then (some 1) else (if a0 < a1 then (some (-1)) else (if a0 > a1 then (some 1) else (some 0))))) = some r := H
 have A4 := ak A40
 clear A40
 by_cases c5 : Zy = true
 ·subst c5
  have H1 : (if qG = true then (some 0) else (some (-1))) = some r := by rw [if_pos rfl] at H; exact H
  clear H
  have H := H1
  clear H1
  by_cases c6 : qG = true
  ·subst c6
   have H1 : (some 0) = some r := by rw [if_pos rfl] at H; exact H
   clear H
   have H := H1
   clear H1
   obtain rfl := Option.some.inj H
   go_enter Try.func142, Try.ntmps142
   go_wp2_with (first | ((with_reducible refine gate_callee (f := 207) rfl ?_); refine goesL_ (some 8) rfl rfl Try.func207 (by kernel_rfl) rfl #[.int .i64 a0] rfl (by first | rfl | (simp only [List.map_toArray, List.map_cons, List.map_nil]; first | done | rfl)) ?_; (with_reducible refine (zo.calls a0 true _ A3.out).mono ?_); rintro e w' ⟨rfl, ⟨nd, rfl⟩⟩; refine ⟨_, rfl, ?_⟩) | ((with_reducible refine gate_callee (f := 207) rfl ?_); refine goesL_ (some 10) rfl rfl Try.func207 (by kernel_rfl) rfl #[.int .i64 a1] rfl (by first | rfl | (simp only [List.map_toArray, List.map_cons, List.map_nil]; first | done | rfl)) ?_; (with_reducible refine (zo.calls a1 true _ A4.out).mono ?_); rintro e w' ⟨rfl, ⟨nd, rfl⟩⟩; refine ⟨_, rfl, ?_⟩))
   go_ret
   exact ⟨by first | rfl | (simp; done) | (simp [*]; done), by repeat (first | exact Drawn0.refl _ | apply Drawn0.step)⟩
  ·replace c6 := Bool.eq_false_iff.mpr c6
   subst c6
   have H1 : (some (-1)) = some r := by rw [if_neg (show ¬ (false = true) by decide)] at H; exact H
   clear H
   have H := H1
   clear H1
   obtain rfl := Option.some.inj H
   go_enter Try.func142, Try.ntmps142
   go_wp2_with (first | ((with_reducible refine gate_callee (f := 207) rfl ?_); refine goesL_ (some 8) rfl rfl Try.func207 (by kernel_rfl) rfl #[.int .i64 a0] rfl (by first | rfl | (simp only [List.map_toArray, List.map_cons, List.map_nil]; first | done | rfl)) ?_; (with_reducible refine (zo.calls a0 true _ A3.out).mono ?_); rintro e w' ⟨rfl, ⟨nd, rfl⟩⟩; refine ⟨_, rfl, ?_⟩) | ((with_reducible refine gate_callee (f := 207) rfl ?_); refine goesL_ (some 10) rfl rfl Try.func207 (by kernel_rfl) rfl #[.int .i64 a1] rfl (by first | rfl | (simp only [List.map_toArray, List.map_cons, List.map_nil]; first | done | rfl)) ?_; (with_reducible refine (zo.calls a1 false _ A4.out).mono ?_); rintro e w' ⟨rfl, ⟨nd, rfl⟩⟩; refine ⟨_, rfl, ?_⟩))
   go_ret
   exact ⟨by first | rfl | (simp; done) | (simp [*]; done), by repeat (first | exact Drawn0.refl _ | apply Drawn0.step)⟩
 ·replace c5 := Bool.eq_false_iff.mpr c5
  subst c5
  have H1 : (if qG = true then (some 1) else (if a0 < a1 then (some (-1)) else (if a0 > a1 then (some 1) else (some 0)))) = some r := by rw [if_neg (show ¬ (false = true) by decide)] at H; exact H
  clear H
  have H := H1
  clear H1
  by_cases c7 : qG = true
  ·subst c7
   have H1 : (some 1) = some r := by rw [if_pos rfl] at H; exact H
   clear H
   have H := H1
   clear H1
   obtain rfl := Option.some.inj H
   go_enter Try.func142, Try.ntmps142
   go_wp2_with (first | ((with_reducible refine gate_callee (f := 207) rfl ?_); refine goesL_ (some 8) rfl rfl Try.func207 (by kernel_rfl) rfl #[.int .i64 a0] rfl (by first | rfl | (simp only [List.map_toArray, List.map_cons, List.map_nil]; first | done | rfl)) ?_; (with_reducible refine (zo.calls a0 false _ A3.out).mono ?_); rintro e w' ⟨rfl, ⟨nd, rfl⟩⟩; refine ⟨_, rfl, ?_⟩) | ((with_reducible refine gate_callee (f := 207) rfl ?_); refine goesL_ (some 10) rfl rfl Try.func207 (by kernel_rfl) rfl #[.int .i64 a1] rfl (by first | rfl | (simp only [List.map_toArray, List.map_cons, List.map_nil]; first | done | rfl)) ?_; (with_reducible refine (zo.calls a1 true _ A4.out).mono ?_); rintro e w' ⟨rfl, ⟨nd, rfl⟩⟩; refine ⟨_, rfl, ?_⟩))
   go_ret
   exact ⟨by first | rfl | (simp; done) | (simp [*]; done), by repeat (first | exact Drawn0.refl _ | apply Drawn0.step)⟩
  ·replace c7 := Bool.eq_false_iff.mpr c7
   subst c7
   have H1 : (if a0 < a1 then (some (-1)) else (if a0 > a1 then (some 1) else (some 0))) = some r := by rw [if_neg (show ¬ (false = true) by decide)] at H; exact H
   clear H
   have H := H1
   clear H1
   by_cases c8 : a0 < a1
   ·rw [if_pos c8] at H
    have c8b0 : decide (a0 < a1) = true := decide_eq_true c8
    clear c8
    obtain rfl := Option.some.inj H
    go_enter Try.func142, Try.ntmps142
    go_wp2_with (first | ((with_reducible refine gate_callee (f := 207) rfl ?_); refine goesL_ (some 8) rfl rfl Try.func207 (by kernel_rfl) rfl #[.int .i64 a0] rfl (by first | rfl | (simp only [List.map_toArray, List.map_cons, List.map_nil]; first | done | rfl)) ?_; (with_reducible refine (zo.calls a0 false _ A3.out).mono ?_); rintro e w' ⟨rfl, ⟨nd, rfl⟩⟩; refine ⟨_, rfl, ?_⟩) | ((with_reducible refine gate_callee (f := 207) rfl ?_); refine goesL_ (some 10) rfl rfl Try.func207 (by kernel_rfl) rfl #[.int .i64 a1] rfl (by first | rfl | (simp only [List.map_toArray, List.map_cons, List.map_nil]; first | done | rfl)) ?_; (with_reducible refine (zo.calls a1 false _ A4.out).mono ?_); rintro e w' ⟨rfl, ⟨nd, rfl⟩⟩; refine ⟨_, rfl, ?_⟩))
    go_ret
    exact ⟨by first | rfl | (simp; done) | (simp [*]; done), by repeat (first | exact Drawn0.refl _ | apply Drawn0.step)⟩
   ·rw [if_neg c8] at H
    have c8b0 : decide (a0 < a1) = false := decide_eq_false c8
    clear c8
    by_cases c9 : a0 > a1
    ·rw [if_pos c9] at H
     have c9b0 : decide (a1 < a0) = true := decide_eq_true c9
     clear c9
     obtain rfl := Option.some.inj H
     go_enter Try.func142, Try.ntmps142
     go_wp2_with (first | ((with_reducible refine gate_callee (f := 207) rfl ?_); refine goesL_ (some 8) rfl rfl Try.func207 (by kernel_rfl) rfl #[.int .i64 a0] rfl (by first | rfl | (simp only [List.map_toArray, List.map_cons, List.map_nil]; first | done | rfl)) ?_; (with_reducible refine (zo.calls a0 false _ A3.out).mono ?_); rintro e w' ⟨rfl, ⟨nd, rfl⟩⟩; refine ⟨_, rfl, ?_⟩) | ((with_reducible refine gate_callee (f := 207) rfl ?_); refine goesL_ (some 10) rfl rfl Try.func207 (by kernel_rfl) rfl #[.int .i64 a1] rfl (by first | rfl | (simp only [List.map_toArray, List.map_cons, List.map_nil]; first | done | rfl)) ?_; (with_reducible refine (zo.calls a1 false _ A4.out).mono ?_); rintro e w' ⟨rfl, ⟨nd, rfl⟩⟩; refine ⟨_, rfl, ?_⟩))
     go_ret
     exact ⟨by first | rfl | (simp; done) | (simp [*]; done), by repeat (first | exact Drawn0.refl _ | apply Drawn0.step)⟩
    ·rw [if_neg c9] at H
     have c9b0 : decide (a1 < a0) = false := decide_eq_false c9
     clear c9
     obtain rfl := Option.some.inj H
     go_enter Try.func142, Try.ntmps142
     go_wp2_with (first | ((with_reducible refine gate_callee (f := 207) rfl ?_); refine goesL_ (some 8) rfl rfl Try.func207 (by kernel_rfl) rfl #[.int .i64 a0] rfl (by first | rfl | (simp only [List.map_toArray, List.map_cons, List.map_nil]; first | done | rfl)) ?_; (with_reducible refine (zo.calls a0 false _ A3.out).mono ?_); rintro e w' ⟨rfl, ⟨nd, rfl⟩⟩; refine ⟨_, rfl, ?_⟩) | ((with_reducible refine gate_callee (f := 207) rfl ?_); refine goesL_ (some 10) rfl rfl Try.func207 (by kernel_rfl) rfl #[.int .i64 a1] rfl (by first | rfl | (simp only [List.map_toArray, List.map_cons, List.map_nil]; first | done | rfl)) ?_; (with_reducible refine (zo.calls a1 false _ A4.out).mono ?_); rintro e w' ⟨rfl, ⟨nd, rfl⟩⟩; refine ⟨_, rfl, ?_⟩))
     go_ret
     exact ⟨by first | rfl | (simp; done) | (simp [*]; done), by repeat (first | exact Drawn0.refl _ | apply Drawn0.step)⟩


/-! ### jv: function 143 -/

theorem jv.push (l : List Int) : ∀ (acc : ByteArray), l.foldl (fun (s : ByteArray) n => s.push n.toNat.toUInt8) acc = ⟨acc.data ++ (l.map fun n => UInt8.ofNat n.toNat).toArray⟩ := by
 induction l with
 | nil => intro acc; simp
 | cons x l ih => intro acc; rw [List.foldl_cons, ih]; simp [ByteArray.push]
theorem jv.loads {P : Program} (w : World) (l : List Int) : ∀ (a : Addr) (acc : ByteArray), (∀ j x, l[j]? = some x → w.cell? (a.add j) = some (.int .u8 x)) →
  (Extern.Bytes.loadBytes a l.length acc).run P w = .ok (l.foldl (fun (s : ByteArray) n => s.push n.toNat.toUInt8) acc) w := by
 induction l with
 | nil => intro a acc h; simp [Extern.Bytes.loadBytes, Sem.run_pure]
 | cons x l ih =>
  intro a acc h
  have h0 := h 0 x rfl
  have ha : a.add 0 = a := by cases a; simp [Addr.add]
  rw [ha] at h0
  have hl : (load a).run P w = .ok (.int .u8 x) w := by go_simp
  simp only [List.length_cons, Extern.Bytes.loadBytes, Sem.run_bind, hl, Result.andThen]
  rw [ih (a.add 1) (acc.push x.toNat.toUInt8) (fun j y hj => by rw [Go.Proofs.YtagedmajlppohaaW.PrintWords.add_add, Nat.add_comm]; exact h (j + 1) y (by simpa using hj))]
  rfl
theorem jv.bytes {P : Program} (w : World) (A : Option Addr) (c : Nat) (l : List Int) (h : Kd.C (Kd.int .u8) w A l.length l) : (Extern.Bytes.bytesOf (.slice A l.length c)).run P w = .ok (strOfNums l) w := by
 cases A with
 | none =>
  have hl : l = [] := by
   cases l with
   | nil => rfl
   | cons x l => obtain ⟨ad, e, _⟩ := h.2.2 (by simp); cases e
  subst hl
  simp [Extern.Bytes.bytesOf, Sem.run_pure, strOfNums]; rfl
 | some a =>
  have := jv.loads (P := P) w l a ByteArray.empty (fun j x hj => by
   have hjl := (List.getElem?_eq_some_iff.1 hj).1
   obtain ⟨ad, e, hc⟩ := Kd.at_int h (j : Int) (by omega) (by omega)
   injection e with e; subst e
   rw [show ((j : Int)).toNat = j from by omega] at hc
   rw [hc]
   simp [rd, List.getD_eq_getElem?_getD, hj])
  simp only [Extern.Bytes.bytesOf]
  rw [this, jv.push]
  simp [strOfNums]
theorem jv.run {P : Program} (w : World) (A0 : Option Addr) (c0 : Nat) (l0 : List Int) (A1 : Option Addr) (c1 : Nat) (l1 : List Int) (h0 : Kd.C (Kd.int .u8) w A0 l0.length l0) (h1 : Kd.C (Kd.int .u8) w A1 l1.length l1) :
  (Extern.BytealgCompare.compare #[.slice A0 l0.length c0, .slice A1 l1.length c1]).run P w = .ok (.int .i64 (Lib.compareBytes (strOfNums l0).data.toList (strOfNums l1).data.toList)) w := by
 change Sem.run P (do pure (goInt (Extern.BytealgCompare.cmp (← Extern.Bytes.bytesOf (.slice A0 l0.length c0)) (← Extern.Bytes.bytesOf (.slice A1 l1.length c1))))) w = _
 simp only [Sem.run_bind, jv.bytes w A0 c0 l0 h0, jv.bytes w A1 c1 l1 h1, Sem.run_pure, Result.andThen]
 rw [Lib.cmp_eq]
 rfl
def jv.f (l0 : List Int) (l1 : List Int) : Option Int := some (Lib.compareBytes (strOfNums l0).data.toList (strOfNums l1).data.toList)
set_option maxHeartbeats 8000000 in
set_option maxRecDepth 100000 in
theorem jv.calls (A0 : Option Addr) (c0 : Nat) (l0 : List Int) (A1 : Option Addr) (c1 : Nat) (l1 : List Int) (r : Int) (w : World) (hr0 : Kd.C (Kd.int .u8) w A0 l0.length l0) (hc0 : l0.length ≤ c0) (hr1 : Kd.C (Kd.int .u8) w A1 l1.length l1) (hc1 : l1.length ≤ c1) (h : jv.f l0 l1 = some r) :
  Calls Try.prog 143 #[.slice A0 l0.length c0, .slice A1 l1.length c1] w fun e w' => e = .returned (.int .i64 r) ∧ Drawn0 w w' := by
 have hx := jv.run (P := Try.prog) w A0 c0 l0 A1 c1 l1 hr0 hr1
 have hr := Option.some.inj h
 rw [hr] at hx
 clear h hr hr0 hr1
 go_enter Try.func143, Try.ntmps143
 go_wp2
 rw [run_callFunc_extern Try.func208 (by kernel_rfl) (by kernel_rfl) (by kernel_rfl) (e := Extern.BytealgCompare.compare) (by kernel_rfl), hx]
 simp only [Result.andThen]
 rw [Oper.upon_value]
 go_wp2
 go_ret
 exact ⟨rfl, Drawn0.refl _⟩


/-! ### jo: function 141 -/
def jo.l0 : Nat → Int → List (List Int) → List (List Int) → Option (Int)
 | 0, _, _, _ => none
 | k + 1, x5, qU, zH => if x5 ≤ (mn (qU.length : Int) (zH.length : Int)) then (if 0 ≤ (wrap64 ((qU.length : Int) - x5)) then (if (wrap64 ((qU.length : Int) - x5)) < (qU.length : Int) then (if 0 ≤ (wrap64 ((zH.length : Int) - x5)) then (if (wrap64 ((zH.length : Int) - x5)) < (zH.length : Int) then ((jv.f (qP qU (wrap64 ((qU.length : Int) - x5))) (qP zH (wrap64 ((zH.length : Int) - x5)))).bind fun qS => (if qS = 0 then (jo.l0 k (wrap64 (x5 + 1)) qU zH) else (some qS))) else (none)) else (none)) else (none)) else (none)) else ((yf.f (qU.length : Int) (zH.length : Int)).bind fun zy => (some zy))
def jo.f (k : Nat) (qd : List (List Int)) (qn : List (List Int)) : Option (Int) := jo.l0 k 1 qd qn
set_option maxHeartbeats 8000000 in
set_option maxRecDepth 100000 in
theorem jo.calls (k : Nat) (qq : Option Addr) (qp : Nat) (qd : List (List Int)) (jn : Option Addr) (jm : Nat) (qn : List (List Int)) (r : Int) (w : World) (jd : Kd.C (Kd.slice 5 (Kd.int .u8)) w qq qd.length qd) (jg : qd.length ≤ qp) (yA : Kd.C (Kd.slice 5 (Kd.int .u8)) w jn qn.length qn) (yS : qn.length ≤ jm) (h : jo.f k qd qn = some r) :
  Calls Try.prog 141 #[.agg #[.slice qq qd.length qp], .agg #[.slice jn qn.length jm]] w fun e w' => e = .returned (.int .i64 r) ∧ Below w.heap.size w w' := by
 have Ys := Try.underlying31
 have qW := ak jd
 have jb := ak jg
 clear jd jg
 have yo := ak yA
 have yE := ak yS
 clear yA yS
 have HB := ak (Below.refl w.heap.size w)
 have H : (jo.l0 k 1 qd qn) = some r := h
 clear h
 have H' := ak H
 clear H
 go_enter Try.func141, Try.ntmps141
 go_wp2_with (first | ((with_reducible refine gate_dst (N := 2) rfl ?_); refine boxed (N := 2) rfl rfl (cs := #[.slice qq qd.length qp]) (t := 31) HB.out (by first | (go_simp; done) | (go_simp; rfl)) ?_; clear HB; intro qi w3 hg HB qc qm hb; have jD := qm; clear hb hg) | ((with_reducible refine gate_dst (N := 3) rfl ?_); refine box_event ?hg (N := 3) ?hd (cs := #[.slice jn qn.length jm]) (t := 31) ?hr ?_; (case hd => rfl); (case hg => rfl); (case hr => first | (go_simp; done) | (go_simp; rfl)); intro qg hg w4 hbox hb; have qf := ak (hbox); have QS := ak ((by rw [hg]; exact (below_size (bw HB.out)) : w.heap.size ≤ qg)); have ji := ak ((by rw [hg]; exact (below_size (bw HB.out)) : w.heap.size ≤ qg)); replace HB := ak (below_step (bw HB.out) hb); have qO := ak ((by rw [hg]; exact Nat.ne_of_lt (blk_lt (bk qc.out)) : qi ≠ qg)); have qN := ak ((by rw [hg]; exact Nat.ne_of_gt (blk_lt (bk qc.out)) : qg ≠ qi)); replace qc := ak (blk_below (bk qc.out) hb); clear hb hbox hg))
 repeat (go_quiet (first | ((with_reducible refine gate_dst (N := 2) rfl ?_); refine boxed (N := 2) rfl rfl (cs := #[.slice qq qd.length qp]) (t := 31) HB.out (by first | (go_simp; done) | (go_simp; rfl)) ?_; clear HB; intro qi w3 hg HB qc qm hb; have jD := qm; clear hb hg) | ((with_reducible refine gate_dst (N := 3) rfl ?_); refine box_event ?hg (N := 3) ?hd (cs := #[.slice jn qn.length jm]) (t := 31) ?hr ?_; (case hd => rfl); (case hg => rfl); (case hr => first | (go_simp; done) | (go_simp; rfl)); intro qg hg w4 hbox hb; have qf := ak (hbox); have QS := ak ((by rw [hg]; exact (below_size (bw HB.out)) : w.heap.size ≤ qg)); have ji := ak ((by rw [hg]; exact (below_size (bw HB.out)) : w.heap.size ≤ qg)); replace HB := ak (below_step (bw HB.out) hb); have qO := ak ((by rw [hg]; exact Nat.ne_of_lt (blk_lt (bk qc.out)) : qi ≠ qg)); have qN := ak ((by rw [hg]; exact Nat.ne_of_gt (blk_lt (bk qc.out)) : qg ≠ qi)); replace qc := ak (blk_below (bk qc.out) hb); clear hb hbox hg)); try go_wp2_with (first | ((with_reducible refine gate_dst (N := 2) rfl ?_); refine boxed (N := 2) rfl rfl (cs := #[.slice qq qd.length qp]) (t := 31) HB.out (by first | (go_simp; done) | (go_simp; rfl)) ?_; clear HB; intro qi w3 hg HB qc qm hb; have jD := qm; clear hb hg) | ((with_reducible refine gate_dst (N := 3) rfl ?_); refine box_event ?hg (N := 3) ?hd (cs := #[.slice jn qn.length jm]) (t := 31) ?hr ?_; (case hd => rfl); (case hg => rfl); (case hr => first | (go_simp; done) | (go_simp; rfl)); intro qg hg w4 hbox hb; have qf := ak (hbox); have QS := ak ((by rw [hg]; exact (below_size (bw HB.out)) : w.heap.size ≤ qg)); have ji := ak ((by rw [hg]; exact (below_size (bw HB.out)) : w.heap.size ≤ qg)); replace HB := ak (below_step (bw HB.out) hb); have qO := ak ((by rw [hg]; exact Nat.ne_of_lt (blk_lt (bk qc.out)) : qi ≠ qg)); have qN := ak ((by rw [hg]; exact Nat.ne_of_gt (blk_lt (bk qc.out)) : qg ≠ qi)); replace qc := ak (blk_below (bk qc.out) hb); clear hb hbox hg)))
 go_loopg [5] k (fun kq v5 w' => ∃ (qh : Int), v5 = .int .i64 qh ∧ Aside0 (jo.l0 kq qh qd qn = some r) ∧ Aside0 (kq ≤ k) ∧ Aside0 (w'.heap[qi]? = some (.cells #[(.slice qq qd.length qp)] 31 (0, 0))) ∧ Aside0 (w'.heap[qg]? = some (.cells #[(.slice jn qn.length jm)] 31 (0, 0))) ∧ Aside0 (Below w.heap.size w w'))
 case atStart => exact ⟨(1), (by first | rfl | (simp; done) | (simp [*]; done)), H', ⟨Nat.le_refl _⟩, ⟨bk qc.out⟩, ⟨bk qf.out⟩, ⟨bw HB.out⟩⟩
 case round =>
  clear H'
  try clear c1
  try clear p2
  obtain ⟨qh, rfl, HA, HK1, qc, qf, HB⟩ := hrel
  cases gk with
  | zero => exact absurd HA.out (by simp [jo.l0])
  | succ k1 =>
   have H := HA.out
   clear HA
   simp only [jo.l0] at H
   obtain ⟨ji5, qlC⟩ : ∃ j_ : Int, (mn (qd.length : Int) (qn.length : Int)) = j_ := ⟨_, rfl⟩
   replace H : (if qh ≤ (ji5) then (if 0 ≤ (wrap64 ((qd.length : Int) - qh)) then (if (wrap64 ((qd.length : Int) - qh)) < (qd.length : Int) then (if 0 ≤ (wrap64 ((qn.length : Int) - qh)) then (if (wrap64 ((qn.length : Int) - qh)) < (qn.length : Int) then ((jv.f (qP qd (wrap64 ((qd.length : Int) - qh))) (qP qn (wrap64 ((qn.length : Int) - qh)))).bind fun qS => (if qS = 0 then (jo.l0 k1 (wrap64 (qh + 1)) qd qn) else (some qS))) else (none)) else (none)) else (none)) else (none)) else ((yf.f (qd.length : Int) (qn.length : Int)).bind fun zy => (some zy))) = some r := by first | (rw [qlC] at H; exact H) | (simp only [qlC] at H ⊢; exact H)
   have qvg : (if (qn.length : Int) < (qd.length : Int) then (qn.length : Int) else (qd.length : Int)) = ji5 := qlC; have hji5_n := qvg; (try simp only [Int.ofNat_lt] at hji5_n)
   by_cases c6 : qh ≤ (ji5)
   ·rw [if_pos c6] at H
    have c6b0 : decide (qh ≤ (ji5)) = true := decide_eq_true c6
    clear c6
    obtain ⟨ji7, qow⟩ : ∃ j_ : Int, (wrap64 ((qd.length : Int) - qh)) = j_ := ⟨_, rfl⟩
    replace H : (if 0 ≤ (ji7) then (if (ji7) < (qd.length : Int) then (if 0 ≤ (wrap64 ((qn.length : Int) - qh)) then (if (wrap64 ((qn.length : Int) - qh)) < (qn.length : Int) then ((jv.f (qP qd (ji7)) (qP qn (wrap64 ((qn.length : Int) - qh)))).bind fun qS => (if qS = 0 then (jo.l0 k1 (wrap64 (qh + 1)) qd qn) else (some qS))) else (none)) else (none)) else (none)) else (none)) = some r := by first | (rw [qow] at H; exact H) | (simp only [qow] at H ⊢; exact H)
    have hji7w : (IntKind.i64.wrap ((qd.length : Int) - qh)) = ji7 := (i64_w _).trans qow
    by_cases c8 : 0 ≤ (ji7)
    ·rw [if_pos c8] at H
     have c8b0 : decide (0 ≤ (ji7)) = true := decide_eq_true c8
     clear c8
     by_cases c9 : (ji7) < (qd.length : Int)
     ·rw [if_pos c9] at H
      have c9b0 : decide ((ji7) < (qd.length : Int)) = true := decide_eq_true c9
      clear c9
      obtain ⟨Xp, qli⟩ : ∃ j_ : Int, (wrap64 ((qn.length : Int) - qh)) = j_ := ⟨_, rfl⟩
      replace H : (if 0 ≤ (Xp) then (if (Xp) < (qn.length : Int) then ((jv.f (qP qd (ji7)) (qP qn (Xp))).bind fun qS => (if qS = 0 then (jo.l0 k1 (wrap64 (qh + 1)) qd qn) else (some qS))) else (none)) else (none)) = some r := by first | (rw [qli] at H; exact H) | (simp only [qli] at H ⊢; exact H)
      have hji10w : (IntKind.i64.wrap ((qn.length : Int) - qh)) = Xp := (i64_w _).trans qli
      by_cases c11 : 0 ≤ (Xp)
      ·rw [if_pos c11] at H
       have c11b0 : decide (0 ≤ (Xp)) = true := decide_eq_true c11
       clear c11
       by_cases c12 : (Xp) < (qn.length : Int)
       ·rw [if_pos c12] at H
        have c12b0 : decide ((Xp) < (qn.length : Int)) = true := decide_eq_true c12
        clear c12
        replace H := Option.bind_eq_some_iff.mp H
        obtain ⟨qS, qei, H⟩ := H
        replace H : (if qS = 0 then (jo.l0 k1 (wrap64 (qh + 1)) qd qn) else (some qS)) = some r := H
        have A13 := ak qei
        clear qei
        by_cases c14 : qS = 0
        ·rw [if_pos c14] at H
         have c14b0 : (qS == 0) = true := beq_iff_eq.mpr c14
         have c14b1 : (qS != 0) = false := bne_eq_false_iff_eq.mpr c14
         clear c14
         have H' := ak H
         clear H
         have qEh := qO.out
         have qDP := qN.out
         obtain ⟨YV, YS⟩ := cells1 qc.out
         obtain ⟨qkG, qjN⟩ := cells1 qf.out
         have zv : 0 ≤ ((ji7) : Int) := of_decide_eq_true (by first | (with_reducible assumption) | assumption)
         have zt : (ji7) < (qd.length : Int) := of_decide_eq_true (by first | (with_reducible assumption) | assumption)
         obtain ⟨qJ, jz, jy, Zg, jP, ya, yb⟩ := Ju qW.out (ji7) zv zt
         cases Zg
         replace jP := hc_ HB.out jP
         have jk := ak yb
         have zk := ak ya
         clear yb ya
         replace zv := eq_true zv
         replace zt := eq_true zt
         have yt : 0 ≤ ((Xp) : Int) := of_decide_eq_true (by first | (with_reducible assumption) | assumption)
         have yr : (Xp) < (qn.length : Int) := of_decide_eq_true (by first | (with_reducible assumption) | assumption)
         obtain ⟨zp, zR, zQ, Yt, zC, QY, Jh⟩ := Ju yo.out (Xp) yt yr
         cases Yt
         replace zC := hc_ HB.out zC
         have yc := ak Jh
         have yd := ak QY
         clear Jh QY
         replace yt := eq_true yt
         replace yr := eq_true yr
         go_wp2_with (first | (go_at_call 143; (with_reducible refine (jv.calls _ _ (qP qd (ji7)) _ _ (qP qn (Xp)) qS _ ?qk ?qj ?qw ?qy A13.out).mono ?_); (case qk => exact cw jk.out HB.out); (case qj => exact zk.out); (case qw => exact cw yc.out HB.out); (case qy => exact yd.out); rintro e w' ⟨rfl, ⟨nd, rfl⟩⟩; (try first | exact ⟨rfl, _, World.drewN_drewN _ _ _⟩ | exact ⟨rfl, _, Eq.trans (World.drewN_drewN _ _ _) (congrArg (World.drewN _) (Nat.add_assoc _ _ _))⟩)))
         repeat (go_quiet (first | (go_at_call 143; (with_reducible refine (jv.calls _ _ (qP qd (ji7)) _ _ (qP qn (Xp)) qS _ ?qk ?qj ?qw ?qy A13.out).mono ?_); (case qk => exact cw jk.out HB.out); (case qj => exact zk.out); (case qw => exact cw yc.out HB.out); (case qy => exact yd.out); rintro e w' ⟨rfl, ⟨nd, rfl⟩⟩; (try first | exact ⟨rfl, _, World.drewN_drewN _ _ _⟩ | exact ⟨rfl, _, Eq.trans (World.drewN_drewN _ _ _) (congrArg (World.drewN _) (Nat.add_assoc _ _ _))⟩))); try go_wp2_with (first | (go_at_call 143; (with_reducible refine (jv.calls _ _ (qP qd (ji7)) _ _ (qP qn (Xp)) qS _ ?qk ?qj ?qw ?qy A13.out).mono ?_); (case qk => exact cw jk.out HB.out); (case qj => exact zk.out); (case qw => exact cw yc.out HB.out); (case qy => exact yd.out); rintro e w' ⟨rfl, ⟨nd, rfl⟩⟩; (try first | exact ⟨rfl, _, World.drewN_drewN _ _ _⟩ | exact ⟨rfl, _, Eq.trans (World.drewN_drewN _ _ _) (congrArg (World.drewN _) (Nat.add_assoc _ _ _))⟩))))
         go_roundg k1
         case measure => have := HK1.out; omega
         case rel => exact ⟨(wrap64 (qh + 1)), (by first | rfl | (simp; done) | (simp [*]; done)), H', ⟨by have := HK1.out; omega⟩, ⟨bk qc.out⟩, ⟨bk qf.out⟩, ⟨bw HB.out⟩⟩
        ·rw [if_neg c14] at H
         have c14b0 : (qS == 0) = false := beq_eq_false_iff_ne.mpr c14
         have c14b1 : (qS != 0) = true := bne_iff_ne.mpr c14
         obtain rfl := Option.some.inj H
         have qov := qO.out
         have qot := qN.out
         obtain ⟨qht, qha⟩ := cells1 qc.out
         obtain ⟨qaI, qaG⟩ := cells1 qf.out
         have zv : 0 ≤ ((ji7) : Int) := of_decide_eq_true (by first | (with_reducible assumption) | assumption)
         have zt : (ji7) < (qd.length : Int) := of_decide_eq_true (by first | (with_reducible assumption) | assumption)
         obtain ⟨qJ, jz, jy, Zg, jP, ya, yb⟩ := Ju qW.out (ji7) zv zt
         cases Zg
         replace jP := hc_ HB.out jP
         have jk := ak yb
         have zk := ak ya
         clear yb ya
         replace zv := eq_true zv
         replace zt := eq_true zt
         have yt : 0 ≤ ((Xp) : Int) := of_decide_eq_true (by first | (with_reducible assumption) | assumption)
         have yr : (Xp) < (qn.length : Int) := of_decide_eq_true (by first | (with_reducible assumption) | assumption)
         obtain ⟨zp, zR, zQ, Yt, zC, QY, Jh⟩ := Ju yo.out (Xp) yt yr
         cases Yt
         replace zC := hc_ HB.out zC
         have yc := ak Jh
         have yd := ak QY
         clear Jh QY
         replace yt := eq_true yt
         replace yr := eq_true yr
         go_wp2_with (first | (go_at_call 143; (with_reducible refine (jv.calls _ _ (qP qd (ji7)) _ _ (qP qn (Xp)) qS _ ?qk ?qj ?qw ?qy A13.out).mono ?_); (case qk => exact cw jk.out HB.out); (case qj => exact zk.out); (case qw => exact cw yc.out HB.out); (case qy => exact yd.out); rintro e w' ⟨rfl, ⟨nd, rfl⟩⟩; (try first | exact ⟨rfl, _, World.drewN_drewN _ _ _⟩ | exact ⟨rfl, _, Eq.trans (World.drewN_drewN _ _ _) (congrArg (World.drewN _) (Nat.add_assoc _ _ _))⟩)))
         repeat (go_quiet (first | (go_at_call 143; (with_reducible refine (jv.calls _ _ (qP qd (ji7)) _ _ (qP qn (Xp)) qS _ ?qk ?qj ?qw ?qy A13.out).mono ?_); (case qk => exact cw jk.out HB.out); (case qj => exact zk.out); (case qw => exact cw yc.out HB.out); (case qy => exact yd.out); rintro e w' ⟨rfl, ⟨nd, rfl⟩⟩; (try first | exact ⟨rfl, _, World.drewN_drewN _ _ _⟩ | exact ⟨rfl, _, Eq.trans (World.drewN_drewN _ _ _) (congrArg (World.drewN _) (Nat.add_assoc _ _ _))⟩))); try go_wp2_with (first | (go_at_call 143; (with_reducible refine (jv.calls _ _ (qP qd (ji7)) _ _ (qP qn (Xp)) qS _ ?qk ?qj ?qw ?qy A13.out).mono ?_); (case qk => exact cw jk.out HB.out); (case qj => exact zk.out); (case qw => exact cw yc.out HB.out); (case qy => exact yd.out); rintro e w' ⟨rfl, ⟨nd, rfl⟩⟩; (try first | exact ⟨rfl, _, World.drewN_drewN _ _ _⟩ | exact ⟨rfl, _, Eq.trans (World.drewN_drewN _ _ _) (congrArg (World.drewN _) (Nat.add_assoc _ _ _))⟩))))
         go_ret
         exact ⟨by first | rfl | (simp [errW_none, errW_some] <;> rfl) | (simp only [← qlC, ← qow, ← qli]; first | rfl | (simp [errW_none, errW_some] <;> rfl)) | (simp [*, errW_none, errW_some] <;> rfl), bw HB.out⟩
       ·rw [if_neg c12] at H
        exact absurd H (by simp)
      ·rw [if_neg c11] at H
       exact absurd H (by simp)
     ·rw [if_neg c9] at H
      exact absurd H (by simp)
    ·rw [if_neg c8] at H
     exact absurd H (by simp)
   ·rw [if_neg c6] at H
    have c6b0 : decide (qh ≤ (ji5)) = false := decide_eq_false c6
    clear c6
    replace H := Option.bind_eq_some_iff.mp H
    obtain ⟨zy, qgB, H⟩ := H
    replace H : (some zy) = some r := H
    have A21 := ak qgB
    clear qgB
    obtain rfl := Option.some.inj H
    have qEc := qO.out
    have qDK := qN.out
    obtain ⟨qdV, qdF⟩ := cells1 qc.out
    obtain ⟨qfY, qfF⟩ := cells1 qf.out
    go_wp2_with (first | (go_at_call 142; (with_reducible refine (yf.calls (qd.length : Int) (qn.length : Int) zy _ A21.out).mono ?_); rintro e w' ⟨rfl, ⟨nd, rfl⟩⟩; (try first | exact ⟨rfl, _, World.drewN_drewN _ _ _⟩ | exact ⟨rfl, _, Eq.trans (World.drewN_drewN _ _ _) (congrArg (World.drewN _) (Nat.add_assoc _ _ _))⟩)))
    repeat (go_quiet (first | (go_at_call 142; (with_reducible refine (yf.calls (qd.length : Int) (qn.length : Int) zy _ A21.out).mono ?_); rintro e w' ⟨rfl, ⟨nd, rfl⟩⟩; (try first | exact ⟨rfl, _, World.drewN_drewN _ _ _⟩ | exact ⟨rfl, _, Eq.trans (World.drewN_drewN _ _ _) (congrArg (World.drewN _) (Nat.add_assoc _ _ _))⟩))); try go_wp2_with (first | (go_at_call 142; (with_reducible refine (yf.calls (qd.length : Int) (qn.length : Int) zy _ A21.out).mono ?_); rintro e w' ⟨rfl, ⟨nd, rfl⟩⟩; (try first | exact ⟨rfl, _, World.drewN_drewN _ _ _⟩ | exact ⟨rfl, _, Eq.trans (World.drewN_drewN _ _ _) (congrArg (World.drewN _) (Nat.add_assoc _ _ _))⟩))))
    go_ret
    exact ⟨by first | rfl | (simp [errW_none, errW_some] <;> rfl) | (simp only [← qlC]; first | rfl | (simp [errW_none, errW_some] <;> rfl)) | (simp [*, errW_none, errW_some] <;> rfl), bw HB.out⟩


/-! ### Zz: function 85 -/
def Zz.f (a0 : Int) : Option (Bool) := if a0 = 2 then (some true) else (if a0 = 5 then (some true) else (if a0 = 6 then (some true) else (some (a0 == 12))))
set_option maxHeartbeats 8000000 in
set_option maxRecDepth 100000 in
theorem Zz.calls (a0 : Int) (r : Bool) (w : World) (h : Zz.f a0 = some r) :
  Calls Try.prog 85 #[.int .i64 a0] w fun e w' => e = .returned (.bool r) ∧ Drawn0 w w' := by
 have H : (if a0 = 2 then (some true) else (if a0 = 5 then (some true) else (if a0 = 6 then (some true) else (some (a0 == 12))))) = some r := h
 clear h
 by_cases c2 : a0 = 2
 ·rw [if_pos c2] at H
  have c2b0 : (a0 == 2) = true := beq_iff_eq.mpr c2
  have c2b1 : (a0 != 2) = false := bne_eq_false_iff_eq.mpr c2
  clear c2
  obtain rfl := Option.some.inj H
  go_enter Try.func85, Try.ntmps85
  go_wp2
  go_ret
  exact ⟨by first | rfl | (simp; done) | (simp [*]; done), by repeat (first | exact Drawn0.refl _ | apply Drawn0.step)⟩
 ·rw [if_neg c2] at H
  have c2b0 : (a0 == 2) = false := beq_eq_false_iff_ne.mpr c2
  have c2b1 : (a0 != 2) = true := bne_iff_ne.mpr c2
  by_cases c3 : a0 = 5
  ·rw [if_pos c3] at H
   have c3b0 : (a0 == 5) = true := beq_iff_eq.mpr c3
   have c3b1 : (a0 != 5) = false := bne_eq_false_iff_eq.mpr c3
   clear c3
   obtain rfl := Option.some.inj H
   go_enter Try.func85, Try.ntmps85
   go_wp2
   go_ret
   exact ⟨by first | rfl | (simp; done) | (simp [*]; done), by repeat (first | exact Drawn0.refl _ | apply Drawn0.step)⟩
  ·rw [if_neg c3] at H
   have c3b0 : (a0 == 5) = false := beq_eq_false_iff_ne.mpr c3
   have c3b1 : (a0 != 5) = true := bne_iff_ne.mpr c3
   by_cases c4 : a0 = 6
   ·rw [if_pos c4] at H
    have c4b0 : (a0 == 6) = true := beq_iff_eq.mpr c4
    have c4b1 : (a0 != 6) = false := bne_eq_false_iff_eq.mpr c4
    clear c4
    obtain rfl := Option.some.inj H
    go_enter Try.func85, Try.ntmps85
    go_wp2
    go_ret
    exact ⟨by first | rfl | (simp; done) | (simp [*]; done), by repeat (first | exact Drawn0.refl _ | apply Drawn0.step)⟩
   ·rw [if_neg c4] at H
    have c4b0 : (a0 == 6) = false := beq_eq_false_iff_ne.mpr c4
    have c4b1 : (a0 != 6) = true := bne_iff_ne.mpr c4
    obtain rfl := Option.some.inj H
    go_enter Try.func85, Try.ntmps85
    go_wp2
    go_ret
    exact ⟨by first | rfl | (simp; done) | (simp [*]; done), by repeat (first | exact Drawn0.refl _ | apply Drawn0.step)⟩


/-! ### YL: function 200 -/
def YL.f (a0 : Int) : Option (List Int) := some (([(a0 / 256) % 256, (a0) % 256] : List Int))
set_option maxHeartbeats 8000000 in
set_option maxRecDepth 100000 in
theorem YL.calls (a0 : Int) (r : List Int) (w : World) (h : YL.f a0 = some r) :
  Calls Try.prog 200 #[.int .i64 a0] w fun e w' => ∃ v0_ : Value, e = .returned (v0_) ∧ Kd.R (Kd.int .u8) 5 w' w.heap.size (fun _ => True) v0_ r ∧ Below w.heap.size w w' := by
 have HB := ak (Below.refl w.heap.size w)
 have H : (some (([(a0 / 256) % 256, (a0) % 256] : List Int))) = some r := h
 clear h
 obtain ⟨ZH, yQ⟩ : ∃ y_ : List Int, y_ = (([(a0 / 256) % 256, (a0) % 256] : List Int)) := ⟨_, rfl⟩
 replace H : (some ZH) = some r := by first | (rw [yQ]; with_reducible exact H) | (have H2_ := (Option.bind_some _ _).symm.trans H; rw [yQ]; with_reducible exact H2_) | (have H2_ := (Option.bind_some _ _).symm.trans H; with_reducible exact H2_) | with_reducible exact H | (rw [yQ]; exact H) | exact H
 have Ya := ak yQ
 clear yQ
 obtain rfl := Option.some.inj H
 go_enter Try.func200, Try.ntmps200
 go_wp2_with (first | ((with_reducible refine gate_dst (N := 8) rfl ?_); refine Kd.R_lit (Kd.int .u8) _ 5 ?hg (N := 8) ?hd (xs := ([(a0 / 256) % 256, (a0) % 256] : List Int)) (inner := [.int .u8 ((a0 / 256) % 256), .int .u8 ((a0) % 256)]) (ok := fun _ => True) (okp := fun _ => True) ?hr ?hp (fun _ hk => hk) trivial (Below.refl _ _) (Nat.le_refl _) (by simp) ?_; (case hd => rfl); (case hg => rfl); (case hr => first | (go_simp; done) | (go_simp; rfl)); (case hp => exact (Reps.one (show Kd.M (Kd.int .u8) _ _ _ ((a0 / 256) % 256) [.int .u8 ((a0 / 256) % 256)] from rfl) (Reps.one (show Kd.M (Kd.int .u8) _ _ _ ((a0) % 256) [.int .u8 ((a0) % 256)] from rfl) (Reps.none _ _)))); intro qaP w2 ho3 hb hg_ hnew_; clear hg_ hnew_; (first | rw [← Ya.out] at ho3 | (simp only [Int.reduceToNat] at ho3; rw [← Ya.out] at ho3)); have Zu := ak (Kd.R_lower ho3 (below_size (bw HB.out))); replace HB := ak (below_step (bw HB.out) hb); clear hb ho3))
 go_ret
 exact ⟨_, by first | rfl | (simp [errW_none, errW_some] <;> rfl) | (simp [*, errW_none, errW_some] <;> rfl), rw_ Zu.out, bw HB.out⟩


/-! ### YF: function 149 -/
def YF.f (a0 : Int) : Option (List Int) := (YL.f (a0 / 65536)).bind fun Zy => ((YL.f a0).bind fun qK => (if Zy.length + qK.length < 140737488355328 then (some (Zy ++ qK)) else (none)))
set_option maxHeartbeats 8000000 in
set_option maxRecDepth 100000 in
theorem YF.calls (a0 : Int) (r : List Int) (w : World) (h : YF.f a0 = some r) :
  Calls Try.prog 149 #[.int .i64 a0] w fun e w' => ∃ v0_ : Value, e = .returned (v0_) ∧ Kd.R (Kd.int .u8) 5 w' w.heap.size (fun _ => True) v0_ r ∧ Below w.heap.size w w' := by
 have HB := ak (Below.refl w.heap.size w)
 have H : ((YL.f (a0 / 65536)).bind fun Zy => ((YL.f a0).bind fun qK => (if Zy.length + qK.length < 140737488355328 then (some (Zy ++ qK)) else (none)))) = some r := h
 clear h
 replace H := Option.bind_eq_some_iff.mp H
 obtain ⟨Zy, A20, H⟩ := H
 replace H : ((YL.f a0).bind fun qK => (if Zy.length + qK.length < 140737488355328 then (some (Zy ++ qK)) else (none))) = some r := H
 have A2 := ak A20
 clear A20
 replace H := Option.bind_eq_some_iff.mp H
 obtain ⟨qK, A30, H⟩ := H
 replace H : (if Zy.length + qK.length < 140737488355328 then (some (Zy ++ qK)) else (none)) = some r := H
 have A3 := ak A30
 clear A30
 by_cases c4 : Zy.length + qK.length < 140737488355328
 ·rw [if_pos c4] at H
  have qwk := ak c4
  clear c4
  obtain ⟨Xn, qbZ⟩ : ∃ y_ : List Int, y_ = (Zy ++ qK) := ⟨_, rfl⟩
  replace H : (some Xn) = some r := by first | (rw [qbZ]; with_reducible exact H) | (have H2_ := (Option.bind_some _ _).symm.trans H; rw [qbZ]; with_reducible exact H2_) | (have H2_ := (Option.bind_some _ _).symm.trans H; with_reducible exact H2_) | with_reducible exact H | (rw [qbZ]; exact H) | exact H
  have qlm := ak qbZ
  clear qbZ
  obtain rfl := Option.some.inj H
  go_enter Try.func149, Try.ntmps149
  go_wp2_with (first | ((with_reducible refine gate_callee (f := 200) rfl ?_); refine goesL_ (some 5) rfl rfl Try.func200 (by kernel_rfl) rfl #[.int .i64 (a0 / 65536)] rfl (by first | rfl | (simp only [List.map_toArray, List.map_cons, List.map_nil]; first | done | rfl)) ?_; (with_reducible refine (YL.calls (a0 / 65536) Zy _ A2.out).mono ?_); rintro e w5 ⟨qaP, rfl, ho0, hb⟩; refine ⟨_, rfl, ?_⟩; have Zu := ak (Kd.R_lower ho0 (below_size (bw HB.out))); replace HB := ak (below_step (bw HB.out) hb); (try clear hb); (try clear ho0)) | ((with_reducible refine gate_callee (f := 200) rfl ?_); refine goesL_ (some 7) rfl rfl Try.func200 (by kernel_rfl) rfl #[.int .i64 a0] rfl (by first | rfl | (simp only [List.map_toArray, List.map_cons, List.map_nil]; first | done | rfl)) ?_; (with_reducible refine (YL.calls a0 qK _ A3.out).mono ?_); rintro e w6 ⟨qh2, rfl, ho0, hb⟩; refine ⟨_, rfl, ?_⟩; have Qf := ak (Kd.R_lower (Kd.R_new' ho0 (Kd.R_lt (rw_ Zu.out))) (below_size (bw HB.out))); replace Zu := ak (Kd.R_elder' (rw_ Zu.out) (Kd.R_base ho0) hb); replace HB := ak (below_step (bw HB.out) hb); (try clear hb); (try clear ho0); obtain ⟨Ao8, co8, eo8⟩ := Kd.R_slice Qf.out; subst eo8) | ((with_reducible refine gate_builtin (b := .append) (xs := #[.tmp 5, .tmp 7]) rfl ?_); at_builtin; refine Kd.R_append_rows (Kd.int .u8) (w0 := w) w.heap.size rfl (.tmp 5) (.tmp 7) 25 5 (.int .u8 0) 1 rfl Try.underlying25 XJ rfl (by decide) (by omega) qaP Zy qK _ _ _ (fun k_ => some k_ ≠ (.slice Ao8 qK.length co8 : Value).ownBlock) (fun _ => False) rfl rfl ?aO ?aR (fun _ _ h => h) (fun _ h => h.elim) ?aF ?aB ?aS ?aL ?_; (case aR => repeat (first | exact (Kd.R_reads' Qf.out).2.2 | (with_reducible refine Kd.C_alloc ?_ _) | (with_reducible refine Kd.C_drewN ?_ _) | (with_reducible refine Kd.C_drew ?_))); (case aB => exact (bw HB.out)); (case aF => exact (fun k_ hk => Kd.fresh' (Kd.R_lt (rw_ Qf.out)) k_ hk)); (case aO => exact (by (with_reducible repeat (first | apply Kd.R_alloc | apply Kd.R_drewN | apply Kd.R_drew)); exact Kd.R_mono Zu.out (fun _ hk => hk.2))); (case aS => exact (below_size (bw HB.out))); (case aL => have := qwk.out; omega); intro qpc w7 ho hb hg hat; rw [← qlm.out] at ho; replace Qf := ak (Kd.R_after (ok := (fun _ => True)) (rw_ Qf.out) hg hat); replace HB := ak (hb); have Xd := ak (ho); clear Zu; clear ho hb hg hat))
  go_ret
  exact ⟨_, by first | rfl | (simp [errW_none, errW_some] <;> rfl) | (simp [*, errW_none, errW_some] <;> rfl), by (with_reducible repeat (first | apply Kd.R_alloc | apply Kd.R_drewN | apply Kd.R_drew)); exact Kd.R_mono Xd.out (fun _ hk => trivial), bw HB.out⟩
 ·rw [if_neg c4] at H
  exact absurd H (by simp)


/-! ### jO: function 156 -/
def jO.l0 : Nat → List Int → List (List Int) → Int → Int → Option (List Int)
 | 0, _, _, _, _ => none
 | k + 1, x3, x8, x9, x10 => if x10 < x9 then (if 0 ≤ x10 then (if x10 < (x8.length : Int) then (if x3.length < 140737488355328 then ((some (x3 ++ [(((qP x8 x10).length : Int)) % 256] : List Int)).bind fun qd3 => (if qd3.length + (qP x8 x10).length < 140737488355328 then (jO.l0 k (qd3 ++ (qP x8 x10)) x8 x9 (wrap64 (x10 + 1))) else (none))) else (none)) else (none)) else (none)) else (if x3.length < 140737488355328 then (some (x3 ++ [0])) else (none))
def jO.f (k : Nat) (qd : List (List Int)) : Option (List Int) := jO.l0 k (([] : List Int)) qd (qd.length : Int) 0
set_option maxHeartbeats 8000000 in
set_option maxRecDepth 100000 in
theorem jO.calls (k : Nat) (qq : Option Addr) (qp : Nat) (qd : List (List Int)) (r : List Int) (w : World) (jd : Kd.C (Kd.slice 5 (Kd.int .u8)) w qq qd.length qd) (jg : qd.length ≤ qp) (h : jO.f k qd = some r) :
  Calls Try.prog 156 #[.agg #[.slice qq qd.length qp]] w fun e w' => ∃ v0_ : Value, e = .returned (v0_) ∧ Kd.R (Kd.int .u8) 5 w' w.heap.size (fun _ => True) v0_ r ∧ Below w.heap.size w w' := by
 have Ys := Try.underlying31
 have qW := ak jd
 have jb := ak jg
 clear jd jg
 have HB := ak (Below.refl w.heap.size w)
 have H : (jO.l0 k (([] : List Int)) qd (qd.length : Int) 0) = some r := h
 clear h
 obtain ⟨qtK, qio⟩ : ∃ y_ : List Int, y_ = (([] : List Int)) := ⟨_, rfl⟩
 replace H : (jO.l0 k qtK qd (qd.length : Int) 0) = some r := by first | (rw [qio]; with_reducible exact H) | (have H2_ := (Option.bind_some _ _).symm.trans H; rw [qio]; with_reducible exact H2_) | (have H2_ := (Option.bind_some _ _).symm.trans H; with_reducible exact H2_) | with_reducible exact H | (rw [qio]; exact H) | exact H
 have qpU := ak qio
 clear qio
 have H' := ak H
 clear H
 go_enter Try.func156, Try.ntmps156
 go_wp2_with (first | ((with_reducible refine gate_dst (N := 1) rfl ?_); refine boxed (N := 1) rfl rfl (cs := #[.slice qq qd.length qp]) (t := 31) HB.out (by first | (go_simp; done) | (go_simp; rfl)) ?_; clear HB; intro qi w2 hg HB qc qm hb; have jD := qm; clear hb hg) | ((with_reducible refine gate_dst (N := 6) rfl ?_); refine Kd.R_lit (Kd.int .u8) _ 5 ?hg (N := 6) ?hd (xs := ([] : List Int)) (inner := []) (ok := fun _ => True) (okp := fun _ => True) ?hr ?hp (fun _ hk => hk) trivial (Below.refl _ _) (Nat.le_refl _) (by simp) ?_; (case hd => rfl); (case hg => rfl); (case hr => first | (go_simp; done) | (go_simp; rfl)); (case hp => exact (Reps.none _ _)); intro qtP w3 ho4 hb hg_ hnew_; clear hg_ hnew_; (first | rw [← qpU.out] at ho4 | (simp only [Int.reduceToNat] at ho4; rw [← qpU.out] at ho4)); have qiy := ak (Kd.R_lower ho4 (below_size (bw HB.out))); replace qc := ak (blk_below (bk qc.out) hb); replace HB := ak (below_step (bw HB.out) hb); clear hb ho4; obtain ⟨qgq, qgm⟩ := cells1 qc.out))
 go_loopg [3, 10] k (fun kq v3 v10 w' => ∃ (jE : List Int) (Zs : Int), v10 = .int .i64 Zs ∧ Aside0 (jO.l0 kq jE qd (qd.length : Int) Zs = some r) ∧ Aside0 (kq ≤ k) ∧ Aside0 (Kd.R (Kd.int .u8) 5 w' w.heap.size (fun _ => True) v3 jE) ∧ Aside0 (w'.heap[qi]? = some (.cells #[(.slice qq qd.length qp)] 31 (0, 0))) ∧ Aside0 (Below w.heap.size w w'))
 case atStart => exact ⟨(qtK), (0), (by first | rfl | (simp; done) | (simp [*]; done)), H', ⟨Nat.le_refl _⟩, ⟨rw_ qiy.out⟩, ⟨bk qc.out⟩, ⟨bw HB.out⟩⟩
 case round =>
  clear H'
  try clear c1
  try clear p2
  try clear qgq
  try clear qgm
  obtain ⟨jE, Zs, rfl, HA, HK1, HO_3, qc, HB⟩ := hrel
  cases gk with
  | zero => exact absurd HA.out (by simp [jO.l0])
  | succ k1 =>
   have H := HA.out
   clear HA
   simp only [jO.l0] at H
   by_cases c6 : Zs < (qd.length : Int)
   ·rw [if_pos c6] at H
    have c6b0 : decide (Zs < (qd.length : Int)) = true := decide_eq_true c6
    clear c6
    by_cases c7 : 0 ≤ Zs
    ·rw [if_pos c7] at H
     have c7b0 : decide (0 ≤ Zs) = true := decide_eq_true c7
     clear c7
     by_cases c8 : Zs < (qd.length : Int)
     ·rw [if_pos c8] at H
      have c8b0 : decide (Zs < (qd.length : Int)) = true := decide_eq_true c8
      clear c8
      by_cases c9 : jE.length < 140737488355328
      ·rw [if_pos c9] at H
       have qwj := ak c9
       clear c9
       obtain ⟨qd3, qb0⟩ : ∃ y_ : List Int, y_ = (jE ++ [(((qP qd Zs).length : Int)) % 256]) := ⟨_, rfl⟩
       replace H : (if qd3.length + (qP qd Zs).length < 140737488355328 then (jO.l0 k1 (qd3 ++ (qP qd Zs)) qd (qd.length : Int) (wrap64 (Zs + 1))) else (none)) = some r := by first | (rw [qb0]; with_reducible exact H) | (have H2_ := (Option.bind_some _ _).symm.trans H; rw [qb0]; with_reducible exact H2_) | (have H2_ := (Option.bind_some _ _).symm.trans H; with_reducible exact H2_) | with_reducible exact H | (rw [qb0]; exact H) | exact H
       have qoC := ak qb0
       clear qb0
       by_cases c10 : qd3.length + (qP qd Zs).length < 140737488355328
       ·rw [if_pos c10] at H
        have qvz := ak c10
        clear c10
        obtain ⟨qlo, qbY⟩ : ∃ y_ : List Int, y_ = (qd3 ++ (qP qd Zs)) := ⟨_, rfl⟩
        replace H : (jO.l0 k1 qlo qd (qd.length : Int) (wrap64 (Zs + 1))) = some r := by first | (rw [qbY]; with_reducible exact H) | (have H2_ := (Option.bind_some _ _).symm.trans H; rw [qbY]; with_reducible exact H2_) | (have H2_ := (Option.bind_some _ _).symm.trans H; with_reducible exact H2_) | with_reducible exact H | (rw [qbY]; exact H) | exact H
        have qoB := ak qbY
        clear qbY
        have H' := ak H
        clear H
        have yX : 0 ≤ (Zs : Int) := of_decide_eq_true (by first | (with_reducible assumption) | assumption)
        have yW : Zs < (qd.length : Int) := of_decide_eq_true (by first | (with_reducible assumption) | assumption)
        obtain ⟨YB, qo7, qo4, XL, zs, qfc, qfo⟩ := Ju qW.out Zs yX yW
        cases XL
        replace zs := hc_ HB.out zs
        have qoj := ak qfo
        have qtH := ak qfc
        clear qfo qfc
        replace yX := eq_true yX
        replace yW := eq_true yW
        go_wp2_with (first | ((with_reducible refine gate_builtin (b := .append) (xs := #[.tmp 14, .tmp 18]) rfl ?_); at_builtin; refine Kd.R_append (Kd.int .u8) (w0 := w) w.heap.size rfl (.tmp 14) (.tmp 18) 25 5 (.int .u8 0) 1 rfl Try.underlying25 XJ rfl (by decide) (by omega) u3 jE ((((qP qd Zs).length : Int)) % 256) [.int .u8 ((((qP qd Zs).length : Int)) % 256)] (fun _ => True) (fun _ => False) rfl rfl ?aP (fun _ hk => hk.elim) ?aF ?aO ?aB ?aS ?aL ?_; (case aP => exact rfl); (case aB => exact (bw HB.out)); (case aF => exact (fun _ _ => trivial)); (case aO => exact (rw_ HO_3.out)); (case aS => exact (below_size (bw HB.out))); (case aL => have := qwj.out; omega); intro qol w11 ho hb hg hat; rw [← qoC.out] at ho; replace qc := ak (blk_grown (bk qc.out) hg (Kd.R_ne HO_3.out qc.out (by decide))); replace HB := ak (hb); have QO := ak (ho); clear HO_3; clear ho hb hg hat) | ((with_reducible refine gate_builtin (b := .append) (xs := #[.tmp 19, .tmp 20]) rfl ?_); at_builtin; refine Kd.R_append_rows (Kd.int .u8) (w0 := w) w.heap.size rfl (.tmp 19) (.tmp 20) 25 5 (.int .u8 0) 1 rfl Try.underlying25 XJ rfl (by decide) (by omega) qol qd3 (qP qd Zs) _ _ _ (fun _ => True) (fun _ => False) rfl rfl ?aO ?aR (fun _ _ h => h) (fun _ h => h.elim) ?aF ?aB ?aS ?aL ?_; (case aR => exact cw qoj.out HB.out); (case aB => exact (bw HB.out)); (case aF => exact (fun _ _ => trivial)); (case aO => exact (rw_ QO.out)); (case aS => exact (below_size (bw HB.out))); (case aL => have := qvz.out; omega); intro qpb w12 ho hb hg hat; rw [← qoB.out] at ho; replace qc := ak (blk_grown (bk qc.out) hg (Kd.R_ne QO.out qc.out (by decide))); replace HB := ak (hb); have qaL := ak (ho); clear QO; clear ho hb hg hat))
        go_roundg k1
        case measure => have := HK1.out; omega
        case rel => exact ⟨(qlo), (wrap64 (Zs + 1)), (by first | rfl | (simp; done) | (simp [*]; done)), H', ⟨by have := HK1.out; omega⟩, ⟨rw_ qaL.out⟩, ⟨bk qc.out⟩, ⟨bw HB.out⟩⟩
       ·rw [if_neg c10] at H
        exact absurd H (by simp)
      ·rw [if_neg c9] at H
       exact absurd H (by simp)
     ·rw [if_neg c8] at H
      exact absurd H (by simp)
    ·rw [if_neg c7] at H
     exact absurd H (by simp)
   ·rw [if_neg c6] at H
    have c6b0 : decide (Zs < (qd.length : Int)) = false := decide_eq_false c6
    clear c6
    by_cases c13 : jE.length < 140737488355328
    ·rw [if_pos c13] at H
     have qvw := ak c13
     clear c13
     obtain ⟨qgg, Xa⟩ : ∃ y_ : List Int, y_ = (jE ++ [0]) := ⟨_, rfl⟩
     replace H : (some qgg) = some r := by first | (rw [Xa]; with_reducible exact H) | (have H2_ := (Option.bind_some _ _).symm.trans H; rw [Xa]; with_reducible exact H2_) | (have H2_ := (Option.bind_some _ _).symm.trans H; with_reducible exact H2_) | with_reducible exact H | (rw [Xa]; exact H) | exact H
     have qhB := ak Xa
     clear Xa
     obtain rfl := Option.some.inj H
     go_wp2_with (first | ((with_reducible refine gate_builtin (b := .append) (xs := #[.tmp 23, .tmp 24]) rfl ?_); at_builtin; refine Kd.R_append (Kd.int .u8) (w0 := w) w.heap.size rfl (.tmp 23) (.tmp 24) 25 5 (.int .u8 0) 1 rfl Try.underlying25 XJ rfl (by decide) (by omega) u3 jE 0 [.int .u8 0] (fun _ => True) (fun _ => False) rfl rfl ?aP (fun _ hk => hk.elim) ?aF ?aO ?aB ?aS ?aL ?_; (case aP => exact rfl); (case aB => exact (bw HB.out)); (case aF => exact (fun _ _ => trivial)); (case aO => exact (rw_ HO_3.out)); (case aS => exact (below_size (bw HB.out))); (case aL => have := qvw.out; omega); intro qlq w14 ho hb hg hat; rw [← qhB.out] at ho; replace qc := ak (blk_grown (bk qc.out) hg (Kd.R_ne HO_3.out qc.out (by decide))); replace HB := ak (hb); have qdo := ak (ho); clear HO_3; clear ho hb hg hat))
     go_ret
     exact ⟨_, by first | rfl | (simp [errW_none, errW_some] <;> rfl) | (simp [*, errW_none, errW_some] <;> rfl), rw_ qdo.out, bw HB.out⟩
    ·rw [if_neg c13] at H
     exact absurd H (by simp)


/-! ### js: function 144 -/
def js.l0 : Nat → List Int → List Int → Int → Int → Option (List Int)
 | 0, _, _, _, _ => none
 | k + 1, x3, x21, x22, x23 => if x23 < x22 then (if 0 ≤ x23 then (if x23 < (x21.length : Int) then ((YF.f (rd x21 x23)).bind fun jS => (if x3.length + jS.length < 140737488355328 then (js.l0 k (x3 ++ jS) x21 x22 (wrap64 (x23 + 1))) else (none))) else (none)) else (none)) else (some x3)
def js.f (k : Nat) (qd : List (List Int)) (qu : Int) (qH : Int) (qF : Int) (qA : List (List Int)) (qt : List Int) (qo : List Int) : Option (List Int) := if qu = 1 then ((YF.f qF).bind fun qG => (some qG)) else ((Zz.f qu).bind fun qS => (if qS = true then ((jO.f k qA).bind fun zy => (js.l0 k zy qo (qo.length : Int) 0)) else ((some (([((qt.length : Int)) % 256] : List Int) : List Int)).bind fun qaa => (if qaa.length + qt.length < 140737488355328 then (some (qaa ++ qt)) else (none)))))
set_option maxHeartbeats 8000000 in
set_option maxRecDepth 100000 in
theorem js.calls (k : Nat) (qq : Option Addr) (qp : Nat) (qd : List (List Int)) (qu : Int) (qH : Int) (qF : Int) (jC : Option Addr) (jB : Nat) (qA : List (List Int)) (jK : Option Addr) (jJ : Nat) (qt : List Int) (jM : Option Addr) (jL : Nat) (qo : List Int) (r : List Int) (w : World) (jd : Kd.C (Kd.slice 5 (Kd.int .u8)) w qq qd.length qd) (jg : qd.length ≤ qp) (QF : Kd.C (Kd.slice 5 (Kd.int .u8)) w jC qA.length qA) (QI : qA.length ≤ jB) (QE : Kd.C (Kd.int .u8) w jK qt.length qt) (QH : qt.length ≤ jJ) (QD : Kd.C (Kd.int .i64) w jM qo.length qo) (QG : qo.length ≤ jL) (h : js.f k qd qu qH qF qA qt qo = some r) :
  Calls Try.prog 144 #[.agg #[.slice qq qd.length qp, .int .i64 qu, .int .i64 qH, .int .i64 qF, .slice jC qA.length jB, .slice jK qt.length jJ, .slice jM qo.length jL]] w fun e w' => ∃ v0_ : Value, e = .returned (v0_) ∧ Kd.R (Kd.int .u8) 5 w' w.heap.size (fun _ => True) v0_ r ∧ Below w.heap.size w w' := by
 have qak := Try.underlying33
 have Ys := Try.underlying31
 have qW := ak jd
 have jb := ak jg
 clear jd jg
 have Jo := ak QF
 have Jp := ak QI
 clear QF QI
 have ZF := ak QE
 have Yp := ak QH
 clear QE QH
 have Qd := ak QD
 have YP := ak QG
 clear QD QG
 have HB := ak (Below.refl w.heap.size w)
 have H : (if qu = 1 then ((YF.f qF).bind fun qG => (some qG)) else ((Zz.f qu).bind fun qS => (if qS = true then ((jO.f k qA).bind fun zy => (js.l0 k zy qo (qo.length : Int) 0)) else ((some (([((qt.length : Int)) % 256] : List Int) : List Int)).bind fun qaa => (if qaa.length + qt.length < 140737488355328 then (some (qaa ++ qt)) else (none)))))) = some r := h
 clear h
 by_cases c2 : qu = 1
 ·rw [if_pos c2] at H
  have c2b0 : (qu == 1) = true := beq_iff_eq.mpr c2
  have c2b1 : (qu != 1) = false := bne_eq_false_iff_eq.mpr c2
  clear c2
  replace H := Option.bind_eq_some_iff.mp H
  obtain ⟨qG, A30, H⟩ := H
  replace H : (some qG) = some r := H
  have A3 := ak A30
  clear A30
  obtain rfl := Option.some.inj H
  go_enter Try.func144, Try.ntmps144
  go_wp2_with (first | ((with_reducible refine gate_dst (N := 1) rfl ?_); refine boxed (N := 1) rfl rfl (cs := #[.slice qq qd.length qp, .int .i64 qu, .int .i64 qH, .int .i64 qF, .slice jC qA.length jB, .slice jK qt.length jJ, .slice jM qo.length jL]) (t := 33) HB.out (by first | (go_simp; done) | (go_simp; rfl)) ?_; clear HB; intro qi w4 hg HB qc qm hb; have jD := qm; clear hb hg; obtain ⟨qgq, qlW, qo3, qo2, qo1, qo0, qoZ, qgm, qlJ, qoX, qoW, qoV, qoU, qoT⟩ := cells7 qc.out) | ((with_reducible refine gate_callee (f := 149) rfl ?_); refine goesL_ (some 12) rfl rfl Try.func149 (by kernel_rfl) rfl #[.int .i64 qF] rfl (by first | rfl | (simp only [List.map_toArray, List.map_cons, List.map_nil]; first | done | rfl)) ?_; (with_reducible refine (YF.calls qF qG _ A3.out).mono ?_); rintro e w6 ⟨qtP, rfl, ho0, hb⟩; refine ⟨_, rfl, ?_⟩; have qiy := ak (Kd.R_lower ho0 (below_size (bw HB.out))); replace qc := ak (blk_below (bk qc.out) hb); replace HB := ak (below_step (bw HB.out) hb); (try clear hb); (try clear ho0)))
  go_ret
  exact ⟨_, by first | rfl | (simp [errW_none, errW_some] <;> rfl) | (simp [*, errW_none, errW_some] <;> rfl), rw_ qiy.out, bw HB.out⟩
 ·rw [if_neg c2] at H
  have c2b0 : (qu == 1) = false := beq_eq_false_iff_ne.mpr c2
  have c2b1 : (qu != 1) = true := bne_iff_ne.mpr c2
  replace H := Option.bind_eq_some_iff.mp H
  obtain ⟨qS, A70, H⟩ := H
  replace H : (if qS = true then ((jO.f k qA).bind fun zy => (js.l0 k zy qo (qo.length : Int) 0)) else ((some (([((qt.length : Int)) % 256] : List Int) : List Int)).bind fun qaa => (if qaa.length + qt.length < 140737488355328 then (some (qaa ++ qt)) else (none)))) = some r := H
  have A7 := ak A70
  clear A70
  by_cases c8 : qS = true
  ·subst c8
   have H1 : ((jO.f k qA).bind fun zy => (js.l0 k zy qo (qo.length : Int) 0)) = some r := by rw [if_pos rfl] at H; exact H
   clear H
   have H := H1
   clear H1
   replace H := Option.bind_eq_some_iff.mp H
   obtain ⟨zy, A90, H⟩ := H
   replace H : (js.l0 k zy qo (qo.length : Int) 0) = some r := H
   have A9 := ak A90
   clear A90
   have H' := ak H
   clear H
   go_enter Try.func144, Try.ntmps144
   go_wp2_with (first | ((with_reducible refine gate_dst (N := 1) rfl ?_); refine boxed (N := 1) rfl rfl (cs := #[.slice qq qd.length qp, .int .i64 qu, .int .i64 qH, .int .i64 qF, .slice jC qA.length jB, .slice jK qt.length jJ, .slice jM qo.length jL]) (t := 33) HB.out (by first | (go_simp; done) | (go_simp; rfl)) ?_; clear HB; intro qi w10 hg HB qc qm hb; have jD := qm; clear hb hg; obtain ⟨JZ, Yl, qbS, qbR, qbQ, qbP, qbO, JY, Yk, qbA, qbz, qby, qbx, qbw⟩ := cells7 qc.out) | ((with_reducible refine gate_callee (f := 85) rfl ?_); refine goesL_ (some 16) rfl rfl Try.func85 (by kernel_rfl) rfl #[.int .i64 qu] rfl (by first | rfl | (simp only [List.map_toArray, List.map_cons, List.map_nil]; first | done | rfl)) ?_; (with_reducible refine (Zz.calls qu true _ A7.out).mono ?_); rintro e w' ⟨rfl, ⟨nd, rfl⟩⟩; refine ⟨_, rfl, ?_⟩) | ((with_reducible refine gate_callee (f := 156) rfl ?_); refine goesL_ (some 19) rfl rfl Try.func156 (by kernel_rfl) rfl #[.agg #[.slice jC qA.length jB]] rfl (by first | rfl | (simp only [List.map_toArray, List.map_cons, List.map_nil]; first | done | rfl)) ?_; (with_reducible refine (jO.calls k _ _ qA zy _ ?qk ?qj A9.out).mono ?_); (case qk => repeat (first | exact (Kd.C_below Jo.out (bw HB.out)) | (with_reducible refine Kd.C_alloc ?_ _) | (with_reducible refine Kd.C_drewN ?_ _) | (with_reducible refine Kd.C_drew ?_))); (case qj => exact Jp.out); rintro e w12 ⟨qol, rfl, ho0, hb⟩; refine ⟨_, rfl, ?_⟩; have QO := ak (Kd.R_lower ho0 (below_size (bw HB.out))); replace qc := ak (blk_below (bk qc.out) hb); replace HB := ak (below_step (bw HB.out) hb); (try clear hb); (try clear ho0); obtain ⟨QN, JO, XB, XA, Xz, Xy, Xx, QM, JN, Xv, Xu, Xt, Xs, Xr⟩ := cells7 qc.out))
   go_loopg [3, 23] k (fun kq v3 v23 w' => ∃ (jE : List Int) (YO : Int), v23 = .int .i64 YO ∧ Aside0 (js.l0 kq jE qo (qo.length : Int) YO = some r) ∧ Aside0 (kq ≤ k) ∧ Aside0 (Kd.R (Kd.int .u8) 5 w' w.heap.size (fun _ => True) v3 jE) ∧ Aside0 (w'.heap[qi]? = some (.cells #[(.slice qq qd.length qp), .int .i64 qu, .int .i64 qH, .int .i64 qF, (.slice jC qA.length jB), (.slice jK qt.length jJ), (.slice jM qo.length jL)] 33 (0, 0))) ∧ Aside0 (Below w.heap.size w w'))
   case atStart => exact ⟨(zy), (0), (by first | rfl | (simp; done) | (simp [*]; done)), H', ⟨Nat.le_refl _⟩, ⟨rw_ QO.out⟩, ⟨bk qc.out⟩, ⟨bw HB.out⟩⟩
   case round =>
    clear H'
    try clear c1
    try clear c2
    try clear c2b0
    try clear c2b1
    try clear p2
    try clear c8
    try clear JZ
    try clear Yl
    try clear qbS
    try clear qbR
    try clear qbQ
    try clear qbP
    try clear qbO
    try clear QN
    try clear JO
    try clear XB
    try clear XA
    try clear Xz
    try clear Xy
    try clear Xx
    try clear qgq
    try clear qlW
    try clear qo3
    try clear qo2
    try clear qo1
    try clear qo0
    try clear qoZ
    try clear JY
    try clear Yk
    try clear qbA
    try clear qbz
    try clear qby
    try clear qbx
    try clear qbw
    try clear QM
    try clear JN
    try clear Xv
    try clear Xu
    try clear Xt
    try clear Xs
    try clear Xr
    try clear qgm
    try clear qlJ
    try clear qoX
    try clear qoW
    try clear qoV
    try clear qoU
    try clear qoT
    obtain ⟨jE, YO, rfl, HA, HK1, HO_3, qc, HB⟩ := hrel
    cases gk with
    | zero => exact absurd HA.out (by simp [js.l0])
    | succ k1 =>
     have H := HA.out
     clear HA
     simp only [js.l0] at H
     by_cases c14 : YO < (qo.length : Int)
     ·rw [if_pos c14] at H
      have c14b0 : decide (YO < (qo.length : Int)) = true := decide_eq_true c14
      clear c14
      by_cases c15 : 0 ≤ YO
      ·rw [if_pos c15] at H
       have c15b0 : decide (0 ≤ YO) = true := decide_eq_true c15
       clear c15
       by_cases c16 : YO < (qo.length : Int)
       ·rw [if_pos c16] at H
        have c16b0 : decide (YO < (qo.length : Int)) = true := decide_eq_true c16
        clear c16
        replace H := Option.bind_eq_some_iff.mp H
        obtain ⟨jS, qmg, H⟩ := H
        replace H : (if jE.length + jS.length < 140737488355328 then (js.l0 k1 (jE ++ jS) qo (qo.length : Int) (wrap64 (YO + 1))) else (none)) = some r := H
        have A17 := ak qmg
        clear qmg
        by_cases c18 : jE.length + jS.length < 140737488355328
        ·rw [if_pos c18] at H
         have qvu := ak c18
         clear c18
         obtain ⟨qtI, qij⟩ : ∃ y_ : List Int, y_ = (jE ++ jS) := ⟨_, rfl⟩
         replace H : (js.l0 k1 qtI qo (qo.length : Int) (wrap64 (YO + 1))) = some r := by first | (rw [qij]; with_reducible exact H) | (have H2_ := (Option.bind_some _ _).symm.trans H; rw [qij]; with_reducible exact H2_) | (have H2_ := (Option.bind_some _ _).symm.trans H; with_reducible exact H2_) | with_reducible exact H | (rw [qij]; exact H) | exact H
         have qvo := ak qij
         clear qij
         have H' := ak H
         clear H
         have Xh : 0 ≤ (YO : Int) := of_decide_eq_true (by first | (with_reducible assumption) | assumption)
         have Xg : YO < (qo.length : Int) := of_decide_eq_true (by first | (with_reducible assumption) | assumption)
         obtain ⟨qeu, qf9, YH⟩ := Kd.at_int Qd.out YO Xh Xg
         cases qf9
         replace YH := hc_ HB.out YH
         replace Xh := eq_true Xh
         replace Xg := eq_true Xg
         go_wp2_with (first | ((with_reducible refine gate_callee (f := 149) rfl ?_); refine goesL_ (some 29) rfl rfl Try.func149 (by kernel_rfl) rfl #[.int .i64 (rd qo YO)] rfl (by first | rfl | (simp only [List.map_toArray, List.map_cons, List.map_nil]; first | done | rfl)) ?_; (with_reducible refine (YF.calls (rd qo YO) jS _ A17.out).mono ?_); rintro e w19 ⟨qpa, rfl, ho0, hb⟩; refine ⟨_, rfl, ?_⟩; have Qe := ak (Kd.R_lower (Kd.R_new' ho0 (Kd.R_lt (rw_ HO_3.out))) (below_size (bw HB.out))); replace HO_3 := ak (Kd.R_elder' (rw_ HO_3.out) (Kd.R_base ho0) hb); replace qc := ak (blk_below (bk qc.out) hb); replace HB := ak (below_step (bw HB.out) hb); (try clear hb); (try clear ho0); obtain ⟨qpC, qpr, qpo⟩ := Kd.R_slice Qe.out; subst qpo) | ((with_reducible refine gate_builtin (b := .append) (xs := #[.tmp 27, .tmp 29]) rfl ?_); at_builtin; refine Kd.R_append_rows (Kd.int .u8) (w0 := w) w.heap.size rfl (.tmp 27) (.tmp 29) 25 5 (.int .u8 0) 1 rfl Try.underlying25 XJ rfl (by decide) (by omega) u3 jE jS _ _ _ (fun k_ => some k_ ≠ (.slice qpC jS.length qpr : Value).ownBlock) (fun _ => False) rfl rfl ?aO ?aR (fun _ _ h => h) (fun _ h => h.elim) ?aF ?aB ?aS ?aL ?_; (case aR => repeat (first | exact (Kd.R_reads' Qe.out).2.2 | (with_reducible refine Kd.C_alloc ?_ _) | (with_reducible refine Kd.C_drewN ?_ _) | (with_reducible refine Kd.C_drew ?_))); (case aB => exact (bw HB.out)); (case aF => exact (fun k_ hk => Kd.fresh' (Kd.R_lt (rw_ Qe.out)) k_ hk)); (case aO => exact (by (with_reducible repeat (first | apply Kd.R_alloc | apply Kd.R_drewN | apply Kd.R_drew)); exact Kd.R_mono HO_3.out (fun _ hk => hk.2))); (case aS => exact (below_size (bw HB.out))); (case aL => have := qvu.out; omega); intro qo9 w20 ho hb hg hat; rw [← qvo.out] at ho; replace qc := ak (blk_grown (bk qc.out) hg (Kd.R_ne HO_3.out qc.out (by decide))); replace Qe := ak (Kd.R_after (ok := (fun _ => True)) (rw_ Qe.out) hg hat); replace HB := ak (hb); have JT := ak (ho); clear HO_3; clear ho hb hg hat))
         go_roundg k1
         case measure => have := HK1.out; omega
         case rel => exact ⟨(qtI), (wrap64 (YO + 1)), (by first | rfl | (simp; done) | (simp [*]; done)), H', ⟨by have := HK1.out; omega⟩, ⟨by (with_reducible repeat (first | apply Kd.R_alloc | apply Kd.R_drewN | apply Kd.R_drew)); exact Kd.R_mono JT.out (fun _ hk => trivial)⟩, ⟨bk qc.out⟩, ⟨bw HB.out⟩⟩
        ·rw [if_neg c18] at H
         exact absurd H (by simp)
       ·rw [if_neg c16] at H
        exact absurd H (by simp)
      ·rw [if_neg c15] at H
       exact absurd H (by simp)
     ·rw [if_neg c14] at H
      have c14b0 : decide (YO < (qo.length : Int)) = false := decide_eq_false c14
      clear c14
      obtain rfl := Option.some.inj H
      go_wp2
      go_ret
      exact ⟨_, by first | rfl | (simp [errW_none, errW_some] <;> rfl) | (simp [*, errW_none, errW_some] <;> rfl), rw_ HO_3.out, bw HB.out⟩
  ·replace c8 := Bool.eq_false_iff.mpr c8
   subst c8
   have H1 : ((some (([((qt.length : Int)) % 256] : List Int) : List Int)).bind fun qaa => (if qaa.length + qt.length < 140737488355328 then (some (qaa ++ qt)) else (none))) = some r := by rw [if_neg (show ¬ (false = true) by decide)] at H; exact H
   clear H
   have H := H1
   clear H1
   obtain ⟨qaa, qii⟩ : ∃ y_ : List Int, y_ = (([((qt.length : Int)) % 256] : List Int)) := ⟨_, rfl⟩
   replace H : (if qaa.length + qt.length < 140737488355328 then (some (qaa ++ qt)) else (none)) = some r := by first | (rw [qii]; with_reducible exact H) | (have H2_ := (Option.bind_some _ _).symm.trans H; rw [qii]; with_reducible exact H2_) | (have H2_ := (Option.bind_some _ _).symm.trans H; with_reducible exact H2_) | with_reducible exact H | (rw [qii]; exact H) | exact H
   have qpT := ak qii
   clear qii
   by_cases c22 : qaa.length + qt.length < 140737488355328
   ·rw [if_pos c22] at H
    have qvs := ak c22
    clear c22
    obtain ⟨qvE, qih⟩ : ∃ y_ : List Int, y_ = (qaa ++ qt) := ⟨_, rfl⟩
    replace H : (some qvE) = some r := by first | (rw [qih]; with_reducible exact H) | (have H2_ := (Option.bind_some _ _).symm.trans H; rw [qih]; with_reducible exact H2_) | (have H2_ := (Option.bind_some _ _).symm.trans H; with_reducible exact H2_) | with_reducible exact H | (rw [qih]; exact H) | exact H
    have qvn := ak qih
    clear qih
    obtain rfl := Option.some.inj H
    go_enter Try.func144, Try.ntmps144
    go_wp2_with (first | ((with_reducible refine gate_dst (N := 1) rfl ?_); refine boxed (N := 1) rfl rfl (cs := #[.slice qq qd.length qp, .int .i64 qu, .int .i64 qH, .int .i64 qF, .slice jC qA.length jB, .slice jK qt.length jJ, .slice jM qo.length jL]) (t := 33) HB.out (by first | (go_simp; done) | (go_simp; rfl)) ?_; clear HB; intro qi w23 hg HB qc qm hb; have jD := qm; clear hb hg; obtain ⟨qfY, qhr, qkF, qkE, qkD, qkC, qkB, qfF, qg8, qjM, qjL, qjK, qjJ, qjI⟩ := cells7 qc.out) | ((with_reducible refine gate_callee (f := 85) rfl ?_); refine goesL_ (some 16) rfl rfl Try.func85 (by kernel_rfl) rfl #[.int .i64 qu] rfl (by first | rfl | (simp only [List.map_toArray, List.map_cons, List.map_nil]; first | done | rfl)) ?_; (with_reducible refine (Zz.calls qu false _ A7.out).mono ?_); rintro e w' ⟨rfl, ⟨nd, rfl⟩⟩; refine ⟨_, rfl, ?_⟩) | ((with_reducible refine gate_dst (N := 37) rfl ?_); refine Kd.R_lit (Kd.int .u8) _ 5 ?hg (N := 37) ?hd (xs := ([((qt.length : Int)) % 256] : List Int)) (inner := [.int .u8 (((qt.length : Int)) % 256)]) (ok := fun _ => True) (okp := fun _ => True) ?hr ?hp (fun _ hk => hk) trivial (Below.refl _ _) (Nat.le_refl _) (by simp) ?_; (case hd => rfl); (case hg => rfl); (case hr => first | (go_simp; done) | (go_simp; rfl)); (case hp => exact (Reps.one (show Kd.M (Kd.int .u8) _ _ _ (((qt.length : Int)) % 256) [.int .u8 (((qt.length : Int)) % 256)] from rfl) (Reps.none _ _))); intro qvH w25 qly hb hg_ hnew_; clear hg_ hnew_; (first | rw [← qpT.out] at qly | (simp only [Int.reduceToNat] at qly; rw [← qpT.out] at qly)); have qoO := ak (Kd.R_lower qly (below_size (bw HB.out))); replace qc := ak (blk_below (bk qc.out) hb); replace HB := ak (below_step (bw HB.out) hb); clear hb qly; obtain ⟨qku, qkt, qn9, qn8, qn7, qn6, qn5, qjB, qjA, qnh, qng, qnf, qne, qnd⟩ := cells7 qc.out) | ((with_reducible refine gate_builtin (b := .append) (xs := #[.tmp 37, .tmp 39]) rfl ?_); at_builtin; refine Kd.R_append_rows (Kd.int .u8) (w0 := w) w.heap.size rfl (.tmp 37) (.tmp 39) 25 5 (.int .u8 0) 1 rfl Try.underlying25 XJ rfl (by decide) (by omega) qvH qaa qt _ _ _ (fun _ => True) (fun _ => False) rfl rfl ?aO ?aR (fun _ _ h => h) (fun _ h => h.elim) ?aF ?aB ?aS ?aL ?_; (case aR => exact cw ZF.out HB.out); (case aB => exact (bw HB.out)); (case aF => exact (fun _ _ => trivial)); (case aO => exact (rw_ qoO.out)); (case aS => exact (below_size (bw HB.out))); (case aL => have := qvs.out; omega); intro qEt w28 ho hb hg hat; rw [← qvn.out] at ho; replace qc := ak (blk_grown (bk qc.out) hg (Kd.R_ne qoO.out qc.out (by decide))); replace HB := ak (hb); have qvB := ak (ho); clear qoO; clear ho hb hg hat))
    go_ret
    exact ⟨_, by first | rfl | (simp [errW_none, errW_some] <;> rfl) | (simp [*, errW_none, errW_some] <;> rfl), rw_ qvB.out, bw HB.out⟩
   ·rw [if_neg c22] at H
    exact absurd H (by simp)


/-! ### ze: function 64 -/
def ze.f (k : Nat) (qd : List (List Int)) (qu : Int) (qH : Int) (qF : Int) (qA : List (List Int)) (qt : List Int) (qo : List Int) (qn : List (List Int)) (zO : Int) (yv : Int) (yu : Int) (zG : List (List Int)) (zF : List Int) (zE : List Int) : Option (Int) := (jo.f k qd qn).bind fun qx => ((yf.f qu zO).bind fun qK => ((js.f k qd qu qH qF qA qt qo).bind fun qS => ((js.f k qn zO yv yu zG zF zE).bind fun jQ => ((jv.f qS jQ).bind fun zb => ((jU.f k (([qx, qK, zb] : List Int))).bind fun Zx => (some Zx))))))
def ze.T1 : Bool × List (List Nat × List Nat) := (true, [([], []), ([0], [0]), ([], []), ([2], [2]), ([1, 3], [1, 3]), ([], []), ([5], [5]), ([], []), ([7], [7]), ([6, 8, 4], [6, 8]), ([], []), ([10, 9], [10]), ([], []), ([12, 11], [12]), ([11, 13, 13], [11, 13]), ([4, 9, 14], [4, 9, 14]), ([15, 14], [15]), ([16, 16, 0, 1, 2, 3, 4, 5, 6, 7, 8, 9, 10, 11, 12, 13, 14, 15, 16], [16])])
def ze.B1 : List Nat := [0, 1, 0, 4, 15, 0, 32, 0, 128, 511, 0, 2047, 0, 8191, 16383, 32767, 65535, 131071]
theorem ze.tab1 : rtab .any (opsOf Try.f64 1) = ze.T1 := by kernel_rfl
theorem ze.bits1 : waitsOk ze.T1.2 ze.B1 = true := by kernel_rfl
set_option maxHeartbeats 8000000 in
set_option maxRecDepth 100000 in
theorem ze.calls (k : Nat) (qq : Option Addr) (qp : Nat) (qd : List (List Int)) (qu : Int) (qH : Int) (qF : Int) (jC : Option Addr) (jB : Nat) (qA : List (List Int)) (jK : Option Addr) (jJ : Nat) (qt : List Int) (jM : Option Addr) (jL : Nat) (qo : List Int) (jn : Option Addr) (jm : Nat) (qn : List (List Int)) (zO : Int) (yv : Int) (yu : Int) (ZY : Option Addr) (ZX : Nat) (zG : List (List Int)) (Yh : Option Addr) (Yc : Nat) (zF : List Int) (Yv : Option Addr) (Yu : Nat) (zE : List Int) (r : Int) (w : World) (jd : Kd.C (Kd.slice 5 (Kd.int .u8)) w qq qd.length qd) (jg : qd.length ≤ qp) (QF : Kd.C (Kd.slice 5 (Kd.int .u8)) w jC qA.length qA) (QI : qA.length ≤ jB) (QE : Kd.C (Kd.int .u8) w jK qt.length qt) (QH : qt.length ≤ jJ) (QD : Kd.C (Kd.int .i64) w jM qo.length qo) (QG : qo.length ≤ jL) (yA : Kd.C (Kd.slice 5 (Kd.int .u8)) w jn qn.length qn) (yS : qn.length ≤ jm) (qeq : Kd.C (Kd.slice 5 (Kd.int .u8)) w ZY zG.length zG) (qet : zG.length ≤ ZX) (qep : Kd.C (Kd.int .u8) w Yh zF.length zF) (qes : zF.length ≤ Yc) (qeo : Kd.C (Kd.int .i64) w Yv zE.length zE) (qer : zE.length ≤ Yu) (h : ze.f k qd qu qH qF qA qt qo qn zO yv yu zG zF zE = some r) :
  Calls Try.prog 64 #[.agg #[.slice qq qd.length qp, .int .i64 qu, .int .i64 qH, .int .i64 qF, .slice jC qA.length jB, .slice jK qt.length jJ, .slice jM qo.length jL], .agg #[.slice jn qn.length jm, .int .i64 zO, .int .i64 yv, .int .i64 yu, .slice ZY zG.length ZX, .slice Yh zF.length Yc, .slice Yv zE.length Yu]] w fun e w' => e = .returned (.int .i64 r) ∧ Below w.heap.size w w' := by
 have qak := Try.underlying33
 have Ys := Try.underlying31
 have qW := ak jd
 have jb := ak jg
 clear jd jg
 have Jo := ak QF
 have Jp := ak QI
 clear QF QI
 have ZF := ak QE
 have Yp := ak QH
 clear QE QH
 have Qd := ak QD
 have YP := ak QG
 clear QD QG
 have yo := ak yA
 have yE := ak yS
 clear yA yS
 have qew := ak qeq
 have qey := ak qet
 clear qeq qet
 have qgd := ak qep
 have qge := ak qes
 clear qep qes
 have qhD := ak qeo
 have qhS := ak qer
 clear qeo qer
 have HB := ak (Below.refl w.heap.size w)
 have H : ((jo.f k qd qn).bind fun qx => ((yf.f qu zO).bind fun qK => ((js.f k qd qu qH qF qA qt qo).bind fun qS => ((js.f k qn zO yv yu zG zF zE).bind fun jQ => ((jv.f qS jQ).bind fun zb => ((jU.f k (([qx, qK, zb] : List Int))).bind fun Zx => (some Zx))))))) = some r := h
 clear h
 replace H := Option.bind_eq_some_iff.mp H
 obtain ⟨qx, A30, H⟩ := H
 replace H : ((yf.f qu zO).bind fun qK => ((js.f k qd qu qH qF qA qt qo).bind fun qS => ((js.f k qn zO yv yu zG zF zE).bind fun jQ => ((jv.f qS jQ).bind fun zb => ((jU.f k (([qx, qK, zb] : List Int))).bind fun Zx => (some Zx)))))) = some r := H
 have A3 := ak A30
 clear A30
 replace H := Option.bind_eq_some_iff.mp H
 obtain ⟨qK, A40, H⟩ := H
 replace H : ((js.f k qd qu qH qF qA qt qo).bind fun qS => ((js.f k qn zO yv yu zG zF zE).bind fun jQ => ((jv.f qS jQ).bind fun zb => ((jU.f k (([qx, qK, zb] : List Int))).bind fun Zx => (some Zx))))) = some r := H
 have A4 := ak A40
 clear A40
 replace H := Option.bind_eq_some_iff.mp H
 obtain ⟨qS, A50, H⟩ := H
 replace H : ((js.f k qn zO yv yu zG zF zE).bind fun jQ => ((jv.f qS jQ).bind fun zb => ((jU.f k (([qx, qK, zb] : List Int))).bind fun Zx => (some Zx)))) = some r := H
 have A5 := ak A50
 clear A50
 replace H := Option.bind_eq_some_iff.mp H
 obtain ⟨jQ, A60, H⟩ := H
 replace H : ((jv.f qS jQ).bind fun zb => ((jU.f k (([qx, qK, zb] : List Int))).bind fun Zx => (some Zx))) = some r := H
 have A6 := ak A60
 clear A60
 replace H := Option.bind_eq_some_iff.mp H
 obtain ⟨zb, A70, H⟩ := H
 replace H : ((jU.f k (([qx, qK, zb] : List Int))).bind fun Zx => (some Zx)) = some r := H
 have A7 := ak A70
 clear A70
 obtain ⟨qgg, Xa⟩ : ∃ y_ : List Int, y_ = (([qx, qK, zb] : List Int)) := ⟨_, rfl⟩
 replace H : ((jU.f k qgg).bind fun Zx => (some Zx)) = some r := by first | (rw [Xa]; with_reducible exact H) | (have H2_ := (Option.bind_some _ _).symm.trans H; rw [Xa]; with_reducible exact H2_) | (have H2_ := (Option.bind_some _ _).symm.trans H; with_reducible exact H2_) | with_reducible exact H | (rw [Xa]; exact H) | exact H
 have qhB := ak Xa
 clear Xa
 replace H := Option.bind_eq_some_iff.mp H
 obtain ⟨Zx, A80, H⟩ := H
 replace H : (some Zx) = some r := H
 have A8 := ak A80
 clear A80
 obtain rfl := Option.some.inj H
 go_enter Try.func64, Try.ntmps64
 try go_wp2_with (first | ((with_reducible refine gate_dst (N := 2) rfl ?_); refine boxed (N := 2) rfl rfl (cs := #[.slice qq qd.length qp, .int .i64 qu, .int .i64 qH, .int .i64 qF, .slice jC qA.length jB, .slice jK qt.length jJ, .slice jM qo.length jL]) (t := 33) HB.out (by first | (go_simp; done) | (go_simp; rfl)) ?_; clear HB; intro qi w9 hg HB qc qm hb; have jD := qm; clear hb hg) | ((with_reducible refine gate_dst (N := 3) rfl ?_); refine box_event ?hg (N := 3) ?hd (cs := #[.slice jn qn.length jm, .int .i64 zO, .int .i64 yv, .int .i64 yu, .slice ZY zG.length ZX, .slice Yh zF.length Yc, .slice Yv zE.length Yu]) (t := 33) ?hr ?_; (case hd => rfl); (case hg => rfl); (case hr => first | (go_simp; done) | (go_simp; rfl)); intro qg hg w10 hbox hb; have qf := ak (hbox); have QS := ak ((by rw [hg]; exact (below_size (bw HB.out)) : w.heap.size ≤ qg)); have ji := ak ((by rw [hg]; exact (below_size (bw HB.out)) : w.heap.size ≤ qg)); replace HB := ak (below_step (bw HB.out) hb); have qO := ak ((by rw [hg]; exact Nat.ne_of_lt (blk_lt (bk qc.out)) : qi ≠ qg)); have qN := ak ((by rw [hg]; exact Nat.ne_of_gt (blk_lt (bk qc.out)) : qg ≠ qi)); replace qc := ak (blk_below (bk qc.out) hb); clear hb hbox hg))
 have n0_ := ak (blk_drew qc.out)
 have n1_ := ak (blk_drew qf.out)
 have n2_ := ak (below_drew1 HB.out)
 clear qc
 clear qf
 clear HB
 have qc := n0_
 have qf := n1_
 have HB := n2_
 clear n0_ n1_ n2_
 refine start_ (n := 18) (S := fun w' => w'.cell? ⟨qi, 0, none⟩ = some (.slice qq qd.length qp) ∧ w'.cell? ⟨qi, 1, none⟩ = some (.int .i64 qu) ∧ w'.cell? ⟨qi, 2, none⟩ = some (.int .i64 qH) ∧ w'.cell? ⟨qi, 3, none⟩ = some (.int .i64 qF) ∧ w'.cell? ⟨qi, 4, none⟩ = some (.slice jC qA.length jB) ∧ w'.cell? ⟨qi, 5, none⟩ = some (.slice jK qt.length jJ) ∧ w'.cell? ⟨qi, 6, none⟩ = some (.slice jM qo.length jL) ∧ w'.cell? ⟨qg, 0, none⟩ = some (.slice jn qn.length jm) ∧ w'.cell? ⟨qg, 1, none⟩ = some (.int .i64 zO) ∧ w'.cell? ⟨qg, 2, none⟩ = some (.int .i64 yv) ∧ w'.cell? ⟨qg, 3, none⟩ = some (.int .i64 yu) ∧ w'.cell? ⟨qg, 4, none⟩ = some (.slice ZY zG.length ZX) ∧ w'.cell? ⟨qg, 5, none⟩ = some (.slice Yh zF.length Yc) ∧ w'.cell? ⟨qg, 6, none⟩ = some (.slice Yv zE.length Yu)) (ds := []) (bA 18 0) (by kernel_rfl) rfl rfl ⟨(blk_cell qc.out 0).trans rfl, (blk_cell qc.out 1).trans rfl, (blk_cell qc.out 2).trans rfl, (blk_cell qc.out 3).trans rfl, (blk_cell qc.out 4).trans rfl, (blk_cell qc.out 5).trans rfl, (blk_cell qc.out 6).trans rfl, (blk_cell qf.out 0).trans rfl, (blk_cell qf.out 1).trans rfl, (blk_cell qf.out 2).trans rfl, (blk_cell qf.out 3).trans rfl, (blk_cell qf.out 4).trans rfl, (blk_cell qf.out 5).trans rfl, (blk_cell qf.out 6).trans rfl⟩ (fun hHeld => ?_); refine with_tabW ze.tab1 ze.bits1 (fun HT_ HW_ => ?_)
 generalize w10.drew = w11 at qc qf HB hHeld ⊢
 refine pu_ HT_ 0 5 (bA 18 1) (v := ?_) (a' := ?_) rfl rfl (by kernel_rfl) (fun _ _ _ h => h) (by rfl) ?_ ?_ ?_; rotate_left; intro w'; go_simp; with_reducible rfl; rotate_left; go_simp; rfl
 refine pu_ HT_ 2 7 (bA 18 5) (v := ?_) (a' := ?_) rfl rfl (by kernel_rfl) (fun _ _ _ h => h) (by rfl) ?_ ?_ ?_; rotate_left; intro w'; go_simp; with_reducible rfl; rotate_left; go_simp; rfl
 refine pu_ HT_ 5 10 (bA 18 37) (v := ?_) (a' := ?_) rfl rfl (by kernel_rfl) (fun _ _ _ h => h) (by rfl) ?_ ?_ ?_; rotate_left; intro w'; go_simp; with_reducible rfl; rotate_left; go_simp; rfl
 refine pu_ HT_ 7 12 (bA 18 165) (v := ?_) (a' := ?_) rfl rfl (by kernel_rfl) (fun _ _ _ h => h) (by rfl) ?_ ?_ ?_; rotate_left; intro w'; go_simp; with_reducible rfl; rotate_left; go_simp; rfl
 refine take_ (i := 1) (N := some 6) (v := ?_) (a' := ?_) (bA 18 167) rfl rfl (take_ofW HT_.out HW_.out (by kernel_rfl)) (fun _ _ _ h => h) (Or.inl ⟨by rfl, ?_⟩) hHeld ?_ ?_
 rotate_left; rintro w' ⟨s0, s1, s2, s3, s4, s5, s6, s7, s8, s9, s10, s11, s12, s13⟩; go_simp; with_reducible rfl; rotate_left; go_simp; rfl
 refine take_ (i := 3) (N := some 8) (v := ?_) (a' := ?_) (bA 18 175) rfl rfl (take_ofW HT_.out HW_.out (by kernel_rfl)) (fun _ _ _ h => h) (Or.inl ⟨by rfl, ?_⟩) hHeld ?_ ?_
 rotate_left; rintro w' ⟨s0, s1, s2, s3, s4, s5, s6, s7, s8, s9, s10, s11, s12, s13⟩; go_simp; with_reducible rfl; rotate_left; go_simp; rfl
 refine take_ (i := 6) (N := some 11) (v := ?_) (a' := ?_) (bA 18 239) rfl rfl (take_ofW HT_.out HW_.out (by kernel_rfl)) (fun _ _ _ h => h) (Or.inl ⟨by rfl, ?_⟩) hHeld ?_ ?_
 rotate_left; rintro w' ⟨s0, s1, s2, s3, s4, s5, s6, s7, s8, s9, s10, s11, s12, s13⟩; go_simp; with_reducible rfl; rotate_left; go_simp; rfl
 refine take_ (i := 8) (N := some 13) (v := ?_) (a' := ?_) (bA 18 495) rfl rfl (take_ofW HT_.out HW_.out (by kernel_rfl)) (fun _ _ _ h => h) (Or.inl ⟨by rfl, ?_⟩) hHeld ?_ ?_
 rotate_left; rintro w' ⟨s0, s1, s2, s3, s4, s5, s6, s7, s8, s9, s10, s11, s12, s13⟩; go_simp; with_reducible rfl; rotate_left; go_simp; rfl
 refine take_ (i := 10) (N := some 15) (v := ?_) (a' := ?_) (bA 18 1519) rfl rfl (take_ofW HT_.out HW_.out (by kernel_rfl)) (fun _ _ _ h => h) (Or.inl ⟨by rfl, ?_⟩) hHeld ?_ ?_
 rotate_left; rintro w' ⟨s0, s1, s2, s3, s4, s5, s6, s7, s8, s9, s10, s11, s12, s13⟩; go_simp; with_reducible rfl; rotate_left; go_simp; rfl
 refine take_ (i := 12) (N := some 17) (v := ?_) (a' := ?_) (bA 18 5615) rfl rfl (take_ofW HT_.out HW_.out (by kernel_rfl)) (fun _ _ _ h => h) (Or.inl ⟨by rfl, ?_⟩) hHeld ?_ ?_
 rotate_left; rintro w' ⟨s0, s1, s2, s3, s4, s5, s6, s7, s8, s9, s10, s11, s12, s13⟩; go_simp; with_reducible rfl; rotate_left; go_simp; rfl
 refine one_ (i := 4) (N := some 9) (bA 18 5631) rfl rfl (one_of HT_.out (by kernel_rfl)) (by decide) (fun K hK => ?_)
 refine goes_ Try.func141 (by kernel_rfl) rfl #[.agg #[.slice qq qd.length qp], .agg #[.slice jn qn.length jm]] (by rfl) rfl rfl (by first | rfl | (simp only [List.map_toArray, List.map_cons, List.map_nil]; first | done | rfl)) ?_
 with_reducible refine (jo.calls k _ _ qd _ _ qn qx _ ?qk ?qj ?qw ?qy A3.out).mono ?_
 (case qk => exact cw qW.out HB.out)
 (case qj => exact jb.out)
 (case qw => exact cw yo.out HB.out)
 (case qy => exact yE.out)
 rintro e w12 ⟨rfl, hb⟩
 refine ⟨_, rfl, ?_⟩
 have n0_ := ak (blk_below (bk qc.out) hb)
 have n1_ := ak (blk_below (bk qf.out) hb)
 have n2_ := ak (below_step (bw HB.out) hb)
 clear qc
 clear qf
 clear HB
 have qc := n0_
 have qf := n1_
 have HB := n2_
 clear n0_ n1_ n2_
 (try clear hb)
 (try clear hb2)
 (try clear hk)
 (try clear hi)
 refine hK.out _ _ ⟨(blk_cell qc.out 0).trans rfl, (blk_cell qc.out 1).trans rfl, (blk_cell qc.out 2).trans rfl, (blk_cell qc.out 3).trans rfl, (blk_cell qc.out 4).trans rfl, (blk_cell qc.out 5).trans rfl, (blk_cell qc.out 6).trans rfl, (blk_cell qf.out 0).trans rfl, (blk_cell qf.out 1).trans rfl, (blk_cell qf.out 2).trans rfl, (blk_cell qf.out 3).trans rfl, (blk_cell qf.out 4).trans rfl, (blk_cell qf.out 5).trans rfl, (blk_cell qf.out 6).trans rfl⟩ (fun hHeld => ?_)
 clear hK K
 refine norm_ (a' := ?_) ?_ ?_; rotate_left; go_simp; rfl
 refine one_ (i := 9) (N := some 14) (bA 18 6143) rfl rfl (one_of HT_.out (by kernel_rfl)) (by decide) (fun K hK => ?_)
 refine goes_ Try.func142 (by kernel_rfl) rfl #[.int .i64 qu, .int .i64 zO] (by rfl) rfl rfl (by first | rfl | (simp only [List.map_toArray, List.map_cons, List.map_nil]; first | done | rfl)) ?_
 with_reducible refine (yf.calls qu zO qK _ A4.out).mono ?_
 rintro e w' ⟨rfl, ⟨nd, rfl⟩⟩
 refine ⟨_, rfl, ?_⟩
 refine hK.out _ _ ⟨(blk_cell qc.out 0).trans rfl, (blk_cell qc.out 1).trans rfl, (blk_cell qc.out 2).trans rfl, (blk_cell qc.out 3).trans rfl, (blk_cell qc.out 4).trans rfl, (blk_cell qc.out 5).trans rfl, (blk_cell qc.out 6).trans rfl, (blk_cell qf.out 0).trans rfl, (blk_cell qf.out 1).trans rfl, (blk_cell qf.out 2).trans rfl, (blk_cell qf.out 3).trans rfl, (blk_cell qf.out 4).trans rfl, (blk_cell qf.out 5).trans rfl, (blk_cell qf.out 6).trans rfl⟩ (fun hHeld => ?_)
 clear hK K
 refine norm_ (a' := ?_) ?_ ?_; rotate_left; go_simp; rfl
 refine one_ (i := 11) (N := some 16) (bA 18 8191) rfl rfl (one_of HT_.out (by kernel_rfl)) (by decide) (fun K hK => ?_)
 refine goes_ Try.func144 (by kernel_rfl) rfl #[.agg #[.slice qq qd.length qp, .int .i64 qu, .int .i64 qH, .int .i64 qF, .slice jC qA.length jB, .slice jK qt.length jJ, .slice jM qo.length jL]] (by rfl) rfl rfl (by first | rfl | (simp only [List.map_toArray, List.map_cons, List.map_nil]; first | done | rfl)) ?_
 with_reducible refine (js.calls k _ _ qd qu qH qF _ _ qA _ _ qt _ _ qo qS _ ?qk ?qj ?qw ?qy ?zK ?yz ?yy ?yx A5.out).mono ?_
 (case qk => repeat (first | exact (Kd.C_below qW.out (bw HB.out)) | (with_reducible refine Kd.C_alloc ?_ _) | (with_reducible refine Kd.C_drewN ?_ _) | (with_reducible refine Kd.C_drew ?_)))
 (case qj => exact jb.out)
 (case qw => repeat (first | exact (Kd.C_below Jo.out (bw HB.out)) | (with_reducible refine Kd.C_alloc ?_ _) | (with_reducible refine Kd.C_drewN ?_ _) | (with_reducible refine Kd.C_drew ?_)))
 (case qy => exact Jp.out)
 (case zK => repeat (first | exact (Kd.C_below ZF.out (bw HB.out)) | (with_reducible refine Kd.C_alloc ?_ _) | (with_reducible refine Kd.C_drewN ?_ _) | (with_reducible refine Kd.C_drew ?_)))
 (case yz => exact Yp.out)
 (case yy => repeat (first | exact (Kd.C_below Qd.out (bw HB.out)) | (with_reducible refine Kd.C_alloc ?_ _) | (with_reducible refine Kd.C_drewN ?_ _) | (with_reducible refine Kd.C_drew ?_)))
 (case yx => exact YP.out)
 rintro e w13 ⟨qd5, rfl, ho0, hb⟩
 refine ⟨_, rfl, ?_⟩
 have n0_ := ak (Kd.R_lower ho0 (below_size (bw HB.out)))
 have n1_ := ak (blk_below (bk qc.out) hb)
 have n2_ := ak (blk_below (bk qf.out) hb)
 have n3_ := ak (below_step (bw HB.out) hb)
 clear qc
 clear qf
 clear HB
 have yp := n0_
 have qc := n1_
 have qf := n2_
 have HB := n3_
 clear n0_ n1_ n2_ n3_
 (try clear hb)
 (try clear hb2)
 (try clear hk)
 (try clear hi)
 (try clear ho0)
 refine hK.out _ _ ⟨(blk_cell qc.out 0).trans rfl, (blk_cell qc.out 1).trans rfl, (blk_cell qc.out 2).trans rfl, (blk_cell qc.out 3).trans rfl, (blk_cell qc.out 4).trans rfl, (blk_cell qc.out 5).trans rfl, (blk_cell qc.out 6).trans rfl, (blk_cell qf.out 0).trans rfl, (blk_cell qf.out 1).trans rfl, (blk_cell qf.out 2).trans rfl, (blk_cell qf.out 3).trans rfl, (blk_cell qf.out 4).trans rfl, (blk_cell qf.out 5).trans rfl, (blk_cell qf.out 6).trans rfl⟩ (fun hHeld => ?_)
 clear hK K
 refine norm_ (a' := ?_) ?_ ?_; rotate_left; go_simp; rfl
 refine one_ (i := 13) (N := some 18) (bA 18 16383) rfl rfl (one_of HT_.out (by kernel_rfl)) (by decide) (fun K hK => ?_)
 refine goes_ Try.func144 (by kernel_rfl) rfl #[.agg #[.slice jn qn.length jm, .int .i64 zO, .int .i64 yv, .int .i64 yu, .slice ZY zG.length ZX, .slice Yh zF.length Yc, .slice Yv zE.length Yu]] (by rfl) rfl rfl (by first | rfl | (simp only [List.map_toArray, List.map_cons, List.map_nil]; first | done | rfl)) ?_
 with_reducible refine (js.calls k _ _ qn zO yv yu _ _ zG _ _ zF _ _ zE jQ _ ?qk ?qj ?qw ?qy ?zK ?yz ?yy ?yx A6.out).mono ?_
 (case qk => exact cw yo.out HB.out)
 (case qj => exact yE.out)
 (case qw => exact cw qew.out HB.out)
 (case qy => exact qey.out)
 (case zK => exact cw qgd.out HB.out)
 (case yz => exact qge.out)
 (case yy => exact cw qhD.out HB.out)
 (case yx => exact qhS.out)
 rintro e w14 ⟨qvI, rfl, ho0, hb⟩
 refine ⟨_, rfl, ?_⟩
 have n0_ := ak (Kd.R_elder' (rw_ yp.out) (Kd.R_base ho0) hb)
 have n1_ := ak (Kd.R_lower (Kd.R_new' ho0 (Kd.R_lt (rw_ yp.out))) (below_size (bw HB.out)))
 have n2_ := ak (blk_below (bk qc.out) hb)
 have n3_ := ak (blk_below (bk qf.out) hb)
 have n4_ := ak (below_step (bw HB.out) hb)
 clear yp
 clear qc
 clear qf
 clear HB
 have yp := n0_
 have qdb := n1_
 have qc := n2_
 have qf := n3_
 have HB := n4_
 clear n0_ n1_ n2_ n3_ n4_
 (try clear hb)
 (try clear hb2)
 (try clear hk)
 (try clear hi)
 (try clear ho0)
 obtain ⟨qwv, qwe, quy⟩ := Kd.R_slice yp.out
 (first | subst quy | (injection quy with f1_ f2_ f3_; have f4_ := f1_.symm; have f5_ := f3_.symm; clear f1_ f2_ f3_; subst f4_; subst f5_))
 obtain ⟨qia, qh7, qoz⟩ := Kd.R_slice qdb.out
 (first | subst qoz | (injection qoz with f1_ f2_ f3_; have f4_ := f1_.symm; have f5_ := f3_.symm; clear f1_ f2_ f3_; subst f4_; subst f5_))
 refine hK.out _ _ ⟨(blk_cell qc.out 0).trans rfl, (blk_cell qc.out 1).trans rfl, (blk_cell qc.out 2).trans rfl, (blk_cell qc.out 3).trans rfl, (blk_cell qc.out 4).trans rfl, (blk_cell qc.out 5).trans rfl, (blk_cell qc.out 6).trans rfl, (blk_cell qf.out 0).trans rfl, (blk_cell qf.out 1).trans rfl, (blk_cell qf.out 2).trans rfl, (blk_cell qf.out 3).trans rfl, (blk_cell qf.out 4).trans rfl, (blk_cell qf.out 5).trans rfl, (blk_cell qf.out 6).trans rfl⟩ (fun hHeld => ?_)
 clear hK K
 refine norm_ (a' := ?_) ?_ ?_; rotate_left; go_simp; rfl
 refine one_ (i := 14) (N := some 19) (bA 18 32767) rfl rfl (one_of HT_.out (by kernel_rfl)) (by decide) (fun K hK => ?_)
 refine goes_ Try.func143 (by kernel_rfl) rfl #[.slice qwv qS.length qwe, .slice qia jQ.length qh7] (by rfl) rfl rfl (by first | rfl | (simp only [List.map_toArray, List.map_cons, List.map_nil]; first | done | rfl)) ?_
 with_reducible refine (jv.calls _ _ qS _ _ jQ zb _ ?qk ?qj ?qw ?qy A7.out).mono ?_
 (case qk => repeat (first | exact (Kd.R_reads' yp.out).2.2 | (with_reducible refine Kd.C_alloc ?_ _) | (with_reducible refine Kd.C_drewN ?_ _) | (with_reducible refine Kd.C_drew ?_)))
 (case qj => exact (Kd.R_reads' yp.out).2.1)
 (case qw => repeat (first | exact (Kd.R_reads' qdb.out).2.2 | (with_reducible refine Kd.C_alloc ?_ _) | (with_reducible refine Kd.C_drewN ?_ _) | (with_reducible refine Kd.C_drew ?_)))
 (case qy => exact (Kd.R_reads' qdb.out).2.1)
 rintro e w' ⟨rfl, ⟨nd, rfl⟩⟩
 refine ⟨_, rfl, ?_⟩
 refine hK.out _ _ ⟨(blk_cell qc.out 0).trans rfl, (blk_cell qc.out 1).trans rfl, (blk_cell qc.out 2).trans rfl, (blk_cell qc.out 3).trans rfl, (blk_cell qc.out 4).trans rfl, (blk_cell qc.out 5).trans rfl, (blk_cell qc.out 6).trans rfl, (blk_cell qf.out 0).trans rfl, (blk_cell qf.out 1).trans rfl, (blk_cell qf.out 2).trans rfl, (blk_cell qf.out 3).trans rfl, (blk_cell qf.out 4).trans rfl, (blk_cell qf.out 5).trans rfl, (blk_cell qf.out 6).trans rfl⟩ (fun hHeld => ?_)
 clear hK K
 refine norm_ (a' := ?_) ?_ ?_; rotate_left; go_simp; rfl
 refine one_ (i := 15) (N := some 20) (bA 18 65535) rfl rfl (one_of HT_.out (by kernel_rfl)) (by decide) (fun K hK => ?_)
 refine Kd.R_lit_step (Kd.int .i64) _ 3 ?hg (N := 20) ?hd (xs := ([qx, qK, zb] : List Int)) (inner := [.int .i64 qx, .int .i64 qK, .int .i64 zb]) (ok := fun _ => True) (okp := fun _ => True) ?hr ?hp (fun _ hk => hk) trivial (Below.refl _ _) (Nat.le_refl _) (by simp) ?_; (case hd => rfl); (case hg => rfl); (case hr => first | (go_simp; done) | (go_simp; rfl)); (case hp => exact (Reps.one (show Kd.M (Kd.int .i64) _ _ _ qx [.int .i64 qx] from rfl) (Reps.one (show Kd.M (Kd.int .i64) _ _ _ qK [.int .i64 qK] from rfl) (Reps.one (show Kd.M (Kd.int .i64) _ _ _ zb [.int .i64 zb] from rfl) (Reps.none _ _)))))
 intro qlq w17 qlz hb hg_ hnew_
 clear hg_ hnew_
 (first | rw [← qhB.out] at qlz | (simp only [Int.reduceToNat] at qlz; rw [← qhB.out] at qlz))
 have n0_ := ak (Kd.R_below (rw_ yp.out) hb)
 have n1_ := ak (Kd.R_below (rw_ qdb.out) hb)
 have n2_ := ak (Kd.R_lower qlz (below_size (bw HB.out)))
 have n3_ := ak (blk_below (bk qc.out) hb)
 have n4_ := ak (blk_below (bk qf.out) hb)
 have n5_ := ak (below_step (bw HB.out) hb)
 clear yp
 clear qdb
 clear qc
 clear qf
 clear HB
 have yp := n0_
 have qdb := n1_
 have qdo := n2_
 have qc := n3_
 have qf := n4_
 have HB := n5_
 clear n0_ n1_ n2_ n3_ n4_ n5_
 clear hb qlz
 obtain ⟨qmc, ql9, qh5⟩ := Kd.R_slice qdo.out
 (first | subst qh5 | (injection qh5 with f1_ f2_ f3_; have f4_ := f1_.symm; have f5_ := f3_.symm; clear f1_ f2_ f3_; subst f4_; subst f5_))
 refine hK.out _ _ ⟨(blk_cell qc.out 0).trans rfl, (blk_cell qc.out 1).trans rfl, (blk_cell qc.out 2).trans rfl, (blk_cell qc.out 3).trans rfl, (blk_cell qc.out 4).trans rfl, (blk_cell qc.out 5).trans rfl, (blk_cell qc.out 6).trans rfl, (blk_cell qf.out 0).trans rfl, (blk_cell qf.out 1).trans rfl, (blk_cell qf.out 2).trans rfl, (blk_cell qf.out 3).trans rfl, (blk_cell qf.out 4).trans rfl, (blk_cell qf.out 5).trans rfl, (blk_cell qf.out 6).trans rfl⟩ (fun hHeld => ?_)
 clear hK K
 refine norm_ (a' := ?_) ?_ ?_; rotate_left; go_simp; rfl
 refine one_ (i := 16) (N := some 21) (bA 18 131071) rfl rfl (one_of HT_.out (by kernel_rfl)) (by decide) (fun K hK => ?_)
 refine goes_ Try.func140 (by kernel_rfl) rfl #[.slice qmc qgg.length ql9] (by rfl) rfl rfl (by first | rfl | (simp only [List.map_toArray, List.map_cons, List.map_nil]; first | done | rfl)) ?_
 with_reducible refine (jU.calls k _ _ qgg Zx _ ?qk ?qj A8.out).mono ?_
 (case qk => repeat (first | exact (Kd.R_reads' qdo.out).2.2 | (with_reducible refine Kd.C_alloc ?_ _) | (with_reducible refine Kd.C_drewN ?_ _) | (with_reducible refine Kd.C_drew ?_)))
 (case qj => exact (Kd.R_reads' qdo.out).2.1)
 rintro e w' ⟨rfl, ⟨nd, rfl⟩⟩
 refine ⟨_, rfl, ?_⟩
 refine hK.out _ _ ⟨(blk_cell qc.out 0).trans rfl, (blk_cell qc.out 1).trans rfl, (blk_cell qc.out 2).trans rfl, (blk_cell qc.out 3).trans rfl, (blk_cell qc.out 4).trans rfl, (blk_cell qc.out 5).trans rfl, (blk_cell qc.out 6).trans rfl, (blk_cell qf.out 0).trans rfl, (blk_cell qf.out 1).trans rfl, (blk_cell qf.out 2).trans rfl, (blk_cell qf.out 3).trans rfl, (blk_cell qf.out 4).trans rfl, (blk_cell qf.out 5).trans rfl, (blk_cell qf.out 6).trans rfl⟩ (fun hHeld => ?_)
 clear hK K
 refine norm_ (a' := ?_) ?_ ?_; rotate_left; go_simp; rfl
 refine pu_ HT_ 17 4 (bA 18 262143) (v := ?_) (a' := ?_) rfl rfl (by kernel_rfl) (fun _ _ _ h => h) (by rfl) ?_ ?_ ?_; rotate_left; intro w'; go_simp; with_reducible rfl; rotate_left; go_simp; rfl
 refine done_ (done_of HT_.out (by kernel_rfl)) ?_
 try go_wp2
 go_ret
 exact ⟨by first | rfl | (simp [errW_none, errW_some] <;> rfl) | (simp [*, errW_none, errW_some] <;> rfl), bw HB.out⟩


/-! ### YY: function 233 -/

set_option maxHeartbeats 2000000 in
theorem YY.calls (g : Nat) (lb : Array Value) (eg : ∀ args w, (callFunc g args).run Try.prog w = .ok (.enter g args) w) (p : List Int → Bool) (A0 : Option Addr) (c0 : Nat) (l0 : List (List Int)) (w : World) (hr0 : Kd.C (Kd.slice 5 (Kd.int .u8)) w A0 l0.length l0)
  (hp : ∀ (W : World) (A : Option Addr) (c : Nat) (x : List Int), Below w.heap.size w W → Kd.C (Kd.int .u8) W A x.length x → x.length ≤ c → Calls Try.prog g (#[.slice A x.length c] ++ lb) W fun e w' => e = .returned (.bool (p x)) ∧ Below w.heap.size w w') :
  Calls Try.prog 233 #[.slice A0 l0.length c0, .func (.func g) #[] lb] w fun e w' => (∃ r : Int, e = .returned (.int .i64 r) ∧ decide (0 ≤ r) = l0.any p) ∧ Below w.heap.size w w' := by
 have HR0 := ak hr0
 have hbig : l0.length ≤ 9223372036854775807 := hr0.2.1
 have HP := ak hp
 clear hr0 hp
 go_enter Try.func233, Try.ntmps233
 go_wp2
 go_loopg [5, 8] l0.length (fun gg _ s8 wr => ∃ kk : Nat, kk ≤ l0.length ∧ l0.length - kk ≤ gg ∧ s8 = .int .i64 kk ∧ Aside0 (Below w.heap.size w wr) ∧ Aside0 ((l0.take kk).any p = false))
 case atStart => exact ⟨0, Nat.zero_le _, by omega, rfl, ⟨Below.refl _ w⟩, ⟨by simp⟩⟩
 case round =>
  obtain ⟨kk, hkk, hg, rfl, BW, AF⟩ := hrel
  by_cases hlt : kk < l0.length
  ·obtain ⟨ad, A1, c1, rfl, hcell, hc1, hC1⟩ := Ju HR0.out (kk : Int) (by omega) (by omega)
   replace hcell := hc_ BW.out hcell
   have hcall := HP.out wr A1 c1 (qP l0 (kk : Int)) BW.out (Kd.C_below hC1 BW.out) hc1
   have hx : Aside0 (l0.take (kk + 1) = l0.take kk ++ [qP l0 (kk : Int)]) := ⟨by
    rw [List.take_succ_eq_append_getElem hlt]; simp [qP, List.getD_eq_getElem?_getD, hlt]⟩
   clear hC1 hc1
   generalize qP l0 (kk : Int) = y at hcell hcall hx
   have hltz : (kk : Int) < (l0.length : Int) := by omega
   rw [show ((kk : Int)).toNat = kk from by omega] at hcell
   cases hq : p y with
   | true =>
    rw [hq] at hcall
    go_wp2_with (go_at_fn g; refine hcall.mono ?_; rintro e w' ⟨rfl, hb'⟩)
    go_ret
    refine ⟨⟨_, rfl, ?_⟩, hb'⟩
    have : l0.any p = true := by
     rw [← List.take_append_drop (kk + 1) l0, hx.out]; simp [hq]
    rw [this]; simp
   | false =>
    rw [hq] at hcall
    go_wp2_with (go_at_fn g; refine hcall.mono ?_; rintro e w' ⟨rfl, hb'⟩)
    go_roundg (l0.length - (kk + 1))
    case measure => omega
    case rel => exact ⟨kk + 1, by omega, by omega, by go_num, ⟨hb'⟩, ⟨by rw [hx.out, List.any_append, AF.out]; simp [hq]⟩⟩
  ·have hltz : ¬ (kk : Int) < (l0.length : Int) := by omega
   go_wp2
   go_ret
   refine ⟨⟨_, rfl, ?_⟩, BW.out⟩
   have := AF.out
   rw [List.take_of_length_le (by omega)] at this
   rw [this]; rfl


/-! ### YD: function 218 -/

set_option maxHeartbeats 2000000 in
theorem YD.calls (g : Nat) (lb : Array Value) (eg : ∀ args w, (callFunc g args).run Try.prog w = .ok (.enter g args) w) (p : List Int → Bool) (A0 : Option Addr) (c0 : Nat) (l0 : List (List Int)) (w : World) (hr0 : Kd.C (Kd.slice 5 (Kd.int .u8)) w A0 l0.length l0)
  (hp : ∀ (W : World) (A : Option Addr) (c : Nat) (x : List Int), Below w.heap.size w W → Kd.C (Kd.int .u8) W A x.length x → x.length ≤ c → Calls Try.prog g (#[.slice A x.length c] ++ lb) W fun e w' => e = .returned (.bool (p x)) ∧ Below w.heap.size w w') :
  Calls Try.prog 218 #[.slice A0 l0.length c0, .func (.func g) #[] lb] w fun e w' => e = .returned (.bool (l0.any p)) ∧ Below w.heap.size w w' := by
 have hc := YY.calls g lb eg p A0 c0 l0 w hr0 hp
 generalize l0.any p = q at hc ⊢
 clear hp hr0
 go_enter Try.func218, Try.ntmps218
 go_wp2_with (go_at_call 233; refine hc.mono ?_; rintro e w' ⟨⟨r, rfl, rfl⟩, hb'⟩)
 go_ret
 exact ⟨rfl, hb'⟩


/-! ### qcb: function 219 -/

set_option maxHeartbeats 2000000 in
/-- What is handed to ContainsFunc: the predicate's contrary; the predicate lies in a variable. -/
theorem qcb.calls (g : Nat) (lb : Array Value) (eg : ∀ args w, (callFunc g args).run Try.prog w = .ok (.enter g args) w) (q : Bool) (A : Option Addr) (n c : Nat) (B : Nat) (w w0 : World) (hv : w.cell? ⟨B, 0, none⟩ = some (.func (.func g) #[] lb))
  (hp : Calls Try.prog g (#[.slice A n c] ++ lb) w fun e w' => e = .returned (.bool q) ∧ Below w0.heap.size w0 w') :
  Calls Try.prog 219 #[.slice A n c, .pointer (some ⟨B, 0, none⟩)] w fun e w' => e = .returned (.bool (!q)) ∧ Below w0.heap.size w0 w' := by
 go_enter Try.func219, Try.ntmps219
 go_wp2_with (go_at_fn g; refine hp.mono ?_; rintro e w' ⟨rfl, hb'⟩)
 go_ret
 exact ⟨rfl, hb'⟩


/-! ### qdn: function 154 -/

set_option maxHeartbeats 2000000 in
theorem qdn.calls (g : Nat) (lb : Array Value) (eg : ∀ args w, (callFunc g args).run Try.prog w = .ok (.enter g args) w) (p : List Int → Bool) (A0 : Option Addr) (c0 : Nat) (l0 : List (List Int)) (w : World) (hr0 : Kd.C (Kd.slice 5 (Kd.int .u8)) w A0 l0.length l0)
  (hp : ∀ (W : World) (A : Option Addr) (c : Nat) (x : List Int), Below w.heap.size w W → Kd.C (Kd.int .u8) W A x.length x → x.length ≤ c → Calls Try.prog g (#[.slice A x.length c] ++ lb) W fun e w' => e = .returned (.bool (p x)) ∧ Below W.heap.size W w') :
  Calls Try.prog 154 #[.slice A0 l0.length c0, .func (.func g) #[] lb] w fun e w' => e = .returned (.bool (l0.all p)) ∧ Below w.heap.size w w' := by
 have eg2 : ∀ args w, (callFunc 219 args).run Try.prog w = .ok (.enter 219 args) w := enters_of Try.func219 (by kernel_rfl) rfl
 have hb0 : Below w.heap.size w (w.alloc (.cells #[.func (.func g) #[] lb] 43)) := below_alloc (Below.refl _ _) _
 have hc := YD.calls 219 #[.pointer (some ⟨w.heap.size, 0, none⟩)] eg2 (fun x => !p x) A0 c0 l0 (w.alloc (.cells #[.func (.func g) #[] lb] 43)) (Kd.C_below hr0 hb0) (fun W A c x hW hC hc =>
  qcb.calls g lb eg (p x) A x.length c w.heap.size W _ ((hW.cell (p := ⟨w.heap.size, 0, none⟩) (by simp)).trans (by simp)) ((hp W A c x (hb0.trans (hW.mono (by simp))) hC hc).mono fun e w' ⟨he, hb⟩ => ⟨he, hW.trans (hb.mono hW.size)⟩))
 have e1 : (l0.any fun x => !p x) = !(l0.all p) := by rw [List.all_eq_not_any_not]; simp
 rw [e1] at hc
 generalize l0.all p = q at hc ⊢
 clear hp hr0 e1
 go_enter Try.func154, Try.ntmps154
 go_wp2_with (go_at_call 218; refine hc.mono ?_; rintro e w' ⟨rfl, hb'⟩)
 go_ret
 exact ⟨by simp, hb0.trans (hb'.mono (by simp))⟩


/-! ### YX: function 238 -/

set_option maxHeartbeats 2000000 in
theorem YX.calls (g : Nat) (lb : Array Value) (eg : ∀ args w, (callFunc g args).run Try.prog w = .ok (.enter g args) w) (p : Int → Bool) (A0 : Option Addr) (c0 : Nat) (l0 : List Int) (w : World) (hr0 : Kd.C (Kd.int .u8) w A0 l0.length l0)
  (hp : ∀ (W : World) (x : Int), Below w.heap.size w W → Calls Try.prog g (#[.int .u8 x] ++ lb) W fun e w' => e = .returned (.bool (p x)) ∧ Below w.heap.size w w') :
  Calls Try.prog 238 #[.slice A0 l0.length c0, .func (.func g) #[] lb] w fun e w' => (∃ r : Int, e = .returned (.int .i64 r) ∧ decide (0 ≤ r) = l0.any p) ∧ Below w.heap.size w w' := by
 have HR0 := ak hr0
 have hbig : l0.length ≤ 9223372036854775807 := hr0.2.1
 have HP := ak hp
 clear hr0 hp
 go_enter Try.func238, Try.ntmps238
 go_wp2
 go_loopg [5, 8] l0.length (fun gg _ s8 wr => ∃ kk : Nat, kk ≤ l0.length ∧ l0.length - kk ≤ gg ∧ s8 = .int .i64 kk ∧ Aside0 (Below w.heap.size w wr) ∧ Aside0 ((l0.take kk).any p = false))
 case atStart => exact ⟨0, Nat.zero_le _, by omega, rfl, ⟨Below.refl _ w⟩, ⟨by simp⟩⟩
 case round =>
  obtain ⟨kk, hkk, hg, rfl, BW, AF⟩ := hrel
  by_cases hlt : kk < l0.length
  ·obtain ⟨ad, rfl, hcell⟩ := Kd.at_int HR0.out (kk : Int) (by omega) (by omega)
   replace hcell := hc_ BW.out hcell
   have hcall := HP.out wr (rd l0 (kk : Int)) BW.out
   have hx : Aside0 (l0.take (kk + 1) = l0.take kk ++ [rd l0 (kk : Int)]) := ⟨by
    rw [List.take_succ_eq_append_getElem hlt]; simp [rd, List.getD_eq_getElem?_getD, hlt]⟩
   generalize rd l0 (kk : Int) = y at hcell hcall hx
   have hltz : (kk : Int) < (l0.length : Int) := by omega
   rw [show ((kk : Int)).toNat = kk from by omega] at hcell
   cases hq : p y with
   | true =>
    rw [hq] at hcall
    go_wp2_with (go_at_fn g; refine hcall.mono ?_; rintro e w' ⟨rfl, hb'⟩)
    go_ret
    refine ⟨⟨_, rfl, ?_⟩, hb'⟩
    have : l0.any p = true := by
     rw [← List.take_append_drop (kk + 1) l0, hx.out]; simp [hq]
    rw [this]; simp
   | false =>
    rw [hq] at hcall
    go_wp2_with (go_at_fn g; refine hcall.mono ?_; rintro e w' ⟨rfl, hb'⟩)
    go_roundg (l0.length - (kk + 1))
    case measure => omega
    case rel => exact ⟨kk + 1, by omega, by omega, by go_num, ⟨hb'⟩, ⟨by rw [hx.out, List.any_append, AF.out]; simp [hq]⟩⟩
  ·have hltz : ¬ (kk : Int) < (l0.length : Int) := by omega
   go_wp2
   go_ret
   refine ⟨⟨_, rfl, ?_⟩, BW.out⟩
   have := AF.out
   rw [List.take_of_length_le (by omega)] at this
   rw [this]; rfl


/-! ### YC: function 234 -/

set_option maxHeartbeats 2000000 in
theorem YC.calls (g : Nat) (lb : Array Value) (eg : ∀ args w, (callFunc g args).run Try.prog w = .ok (.enter g args) w) (p : Int → Bool) (A0 : Option Addr) (c0 : Nat) (l0 : List Int) (w : World) (hr0 : Kd.C (Kd.int .u8) w A0 l0.length l0)
  (hp : ∀ (W : World) (x : Int), Below w.heap.size w W → Calls Try.prog g (#[.int .u8 x] ++ lb) W fun e w' => e = .returned (.bool (p x)) ∧ Below w.heap.size w w') :
  Calls Try.prog 234 #[.slice A0 l0.length c0, .func (.func g) #[] lb] w fun e w' => e = .returned (.bool (l0.any p)) ∧ Below w.heap.size w w' := by
 have hc := YX.calls g lb eg p A0 c0 l0 w hr0 hp
 generalize l0.any p = q at hc ⊢
 clear hp hr0
 go_enter Try.func234, Try.ntmps234
 go_wp2_with (go_at_call 238; refine hc.mono ?_; rintro e w' ⟨⟨r, rfl, rfl⟩, hb'⟩)
 go_ret
 exact ⟨rfl, hb'⟩


/-! ### qca: function 235 -/

set_option maxHeartbeats 2000000 in
/-- What is handed to ContainsFunc: the predicate's contrary; the predicate lies in a variable. -/
theorem qca.calls (g : Nat) (lb : Array Value) (eg : ∀ args w, (callFunc g args).run Try.prog w = .ok (.enter g args) w) (q : Bool) (x : Int) (B : Nat) (w w0 : World) (hv : w.cell? ⟨B, 0, none⟩ = some (.func (.func g) #[] lb))
  (hp : Calls Try.prog g (#[.int .u8 x] ++ lb) w fun e w' => e = .returned (.bool q) ∧ Below w0.heap.size w0 w') :
  Calls Try.prog 235 #[.int .u8 x, .pointer (some ⟨B, 0, none⟩)] w fun e w' => e = .returned (.bool (!q)) ∧ Below w0.heap.size w0 w' := by
 go_enter Try.func235, Try.ntmps235
 go_wp2_with (go_at_fn g; refine hp.mono ?_; rintro e w' ⟨rfl, hb'⟩)
 go_ret
 exact ⟨rfl, hb'⟩


/-! ### qdm: function 220 -/

set_option maxHeartbeats 2000000 in
theorem qdm.calls (g : Nat) (lb : Array Value) (eg : ∀ args w, (callFunc g args).run Try.prog w = .ok (.enter g args) w) (p : Int → Bool) (A0 : Option Addr) (c0 : Nat) (l0 : List Int) (w : World) (hr0 : Kd.C (Kd.int .u8) w A0 l0.length l0)
  (hp : ∀ (W : World) (x : Int), Below w.heap.size w W → Calls Try.prog g (#[.int .u8 x] ++ lb) W fun e w' => e = .returned (.bool (p x)) ∧ Below W.heap.size W w') :
  Calls Try.prog 220 #[.slice A0 l0.length c0, .func (.func g) #[] lb] w fun e w' => e = .returned (.bool (l0.all p)) ∧ Below w.heap.size w w' := by
 have eg2 : ∀ args w, (callFunc 235 args).run Try.prog w = .ok (.enter 235 args) w := enters_of Try.func235 (by kernel_rfl) rfl
 have hb0 : Below w.heap.size w (w.alloc (.cells #[.func (.func g) #[] lb] 221)) := below_alloc (Below.refl _ _) _
 have hc := YC.calls 235 #[.pointer (some ⟨w.heap.size, 0, none⟩)] eg2 (fun x => !p x) A0 c0 l0 (w.alloc (.cells #[.func (.func g) #[] lb] 221)) (Kd.C_below hr0 hb0) (fun W x hW =>
  qca.calls g lb eg (p x) x w.heap.size W _ ((hW.cell (p := ⟨w.heap.size, 0, none⟩) (by simp)).trans (by simp)) ((hp W x (hb0.trans (hW.mono (by simp)))).mono fun e w' ⟨he, hb⟩ => ⟨he, hW.trans (hb.mono hW.size)⟩))
 have e1 : (l0.any fun x => !p x) = !(l0.all p) := by rw [List.all_eq_not_any_not]; simp
 rw [e1] at hc
 generalize l0.all p = q at hc ⊢
 clear hp hr0 e1
 go_enter Try.func220, Try.ntmps220
 go_wp2_with (go_at_call 234; refine hc.mono ?_; rintro e w' ⟨rfl, hb'⟩)
 go_ret
 exact ⟨by simp, hb0.trans (hb'.mono (by simp))⟩


/-! ### YG: function 221 -/
def YG.f (a0 : Int) : Option (Bool) := if a0 ≥ 97 then (if a0 ≤ 122 then (some true) else (if a0 ≥ 48 then (if a0 ≤ 57 then (some true) else (some (a0 == 45))) else (some (a0 == 45)))) else (if a0 ≥ 48 then (if a0 ≤ 57 then (some true) else (some (a0 == 45))) else (some (a0 == 45)))
set_option maxHeartbeats 8000000 in
set_option maxRecDepth 100000 in
theorem YG.calls (a0 : Int) (r : Bool) (w : World) (h : YG.f a0 = some r) :
  Calls Try.prog 221 #[.int .u8 a0] w fun e w' => e = .returned (.bool r) ∧ Drawn0 w w' := by
 have H : (if a0 ≥ 97 then (if a0 ≤ 122 then (some true) else (if a0 ≥ 48 then (if a0 ≤ 57 then (some true) else (some (a0 == 45))) else (some (a0 == 45)))) else (if a0 ≥ 48 then (if a0 ≤ 57 then (some true) else (some (a0 == 45))) else (some (a0 == 45)))) = some r := h
 clear h
 by_cases c2 : a0 ≥ 97
 ·rw [if_pos c2] at H
  have c2b0 : decide (97 ≤ a0) = true := decide_eq_true c2
  clear c2
  by_cases c3 : a0 ≤ 122
  ·rw [if_pos c3] at H
   have c3b0 : decide (a0 ≤ 122) = true := decide_eq_true c3
   clear c3
   obtain rfl := Option.some.inj H
   go_enter Try.func221, Try.ntmps221
   go_wp2
   go_ret
   exact ⟨by first | rfl | (simp; done) | (simp [*]; done), by repeat (first | exact Drawn0.refl _ | apply Drawn0.step)⟩
  ·rw [if_neg c3] at H
   have c3b0 : decide (a0 ≤ 122) = false := decide_eq_false c3
   clear c3
   by_cases c4 : a0 ≥ 48
   ·rw [if_pos c4] at H
    have c4b0 : decide (48 ≤ a0) = true := decide_eq_true c4
    clear c4
    by_cases c5 : a0 ≤ 57
    ·rw [if_pos c5] at H
     have c5b0 : decide (a0 ≤ 57) = true := decide_eq_true c5
     clear c5
     obtain rfl := Option.some.inj H
     go_enter Try.func221, Try.ntmps221
     go_wp2
     go_ret
     exact ⟨by first | rfl | (simp; done) | (simp [*]; done), by repeat (first | exact Drawn0.refl _ | apply Drawn0.step)⟩
    ·rw [if_neg c5] at H
     have c5b0 : decide (a0 ≤ 57) = false := decide_eq_false c5
     clear c5
     obtain rfl := Option.some.inj H
     go_enter Try.func221, Try.ntmps221
     go_wp2
     go_ret
     exact ⟨by first | rfl | (simp; done) | (simp [*]; done), by repeat (first | exact Drawn0.refl _ | apply Drawn0.step)⟩
   ·rw [if_neg c4] at H
    have c4b0 : decide (48 ≤ a0) = false := decide_eq_false c4
    clear c4
    obtain rfl := Option.some.inj H
    go_enter Try.func221, Try.ntmps221
    go_wp2
    go_ret
    exact ⟨by first | rfl | (simp; done) | (simp [*]; done), by repeat (first | exact Drawn0.refl _ | apply Drawn0.step)⟩
 ·rw [if_neg c2] at H
  have c2b0 : decide (97 ≤ a0) = false := decide_eq_false c2
  clear c2
  by_cases c6 : a0 ≥ 48
  ·rw [if_pos c6] at H
   have c6b0 : decide (48 ≤ a0) = true := decide_eq_true c6
   clear c6
   by_cases c7 : a0 ≤ 57
   ·rw [if_pos c7] at H
    have c7b0 : decide (a0 ≤ 57) = true := decide_eq_true c7
    clear c7
    obtain rfl := Option.some.inj H
    go_enter Try.func221, Try.ntmps221
    go_wp2
    go_ret
    exact ⟨by first | rfl | (simp; done) | (simp [*]; done), by repeat (first | exact Drawn0.refl _ | apply Drawn0.step)⟩
   ·rw [if_neg c7] at H
    have c7b0 : decide (a0 ≤ 57) = false := decide_eq_false c7
    clear c7
    obtain rfl := Option.some.inj H
    go_enter Try.func221, Try.ntmps221
    go_wp2
    go_ret
    exact ⟨by first | rfl | (simp; done) | (simp [*]; done), by repeat (first | exact Drawn0.refl _ | apply Drawn0.step)⟩
  ·rw [if_neg c6] at H
   have c6b0 : decide (48 ≤ a0) = false := decide_eq_false c6
   clear c6
   obtain rfl := Option.some.inj H
   go_enter Try.func221, Try.ntmps221
   go_wp2
   go_ret
   exact ⟨by first | rfl | (simp; done) | (simp [*]; done), by repeat (first | exact Drawn0.refl _ | apply Drawn0.step)⟩


/-! ### jG: function 155 -/

def jG.byte (x : Int) : Bool := (decide (97 ≤ x) && decide (x ≤ 122)) || (decide (48 ≤ x) && decide (x ≤ 57)) || x == 45
theorem jG.byte_f (x : Int) : YG.f x = some (jG.byte x) := by
 unfold YG.f jG.byte
 by_cases h1 : 97 ≤ x <;> by_cases h2 : x ≤ 122 <;> by_cases h3 : 48 ≤ x <;> by_cases h4 : x ≤ 57 <;> by_cases h5 : x = 45 <;> simp [*] <;> omega
def jG.v (l0 : List Int) : Bool := decide (1 ≤ l0.length) && decide (l0.length ≤ 15) && l0.all jG.byte
def jG.f (l0 : List Int) : Option Bool := some (jG.v l0)
set_option maxHeartbeats 8000000 in
set_option maxRecDepth 100000 in
theorem jG.calls (A0 : Option Addr) (c0 : Nat) (l0 : List Int) (r : Bool) (w : World) (hr0 : Kd.C (Kd.int .u8) w A0 l0.length l0) (hc0 : l0.length ≤ c0) (h : jG.f l0 = some r) :
  Calls Try.prog 155 #[.slice A0 l0.length c0] w fun e w' => e = .returned (.bool r) ∧ Below w.heap.size w w' := by
 have eg : ∀ args w, (callFunc 221 args).run Try.prog w = .ok (.enter 221 args) w := enters_of Try.func221 (by kernel_rfl) rfl
 have ha := qdm.calls 221 #[] eg jG.byte A0 c0 l0 w hr0 (fun W x hW => (YG.calls x _ W (jG.byte_f x)).mono fun e w' ⟨he, hd⟩ => ⟨he, hd.below⟩)
 have hbig : l0.length ≤ 9223372036854775807 := hr0.2.1
 have hrv : r = jG.v l0 := (Option.some.inj h).symm
 subst hrv
 unfold jG.v
 clear h hr0
 generalize l0.all jG.byte = q at ha ⊢
 by_cases h1 : 1 ≤ l0.length
 ·by_cases h2 : l0.length ≤ 15
  ·rw [decide_eq_true h1, decide_eq_true h2]
   simp only [Bool.true_and]
   go_enter Try.func155, Try.ntmps155
   go_wp2_with (first | (go_at_call 220; refine ha.mono ?_; rintro e w' ⟨rfl, hb'⟩) | (go_at_call 83; go_in))
   go_ret
   exact ⟨rfl, hb'⟩
  ·rw [decide_eq_true h1, decide_eq_false h2]
   simp only [Bool.and_false, Bool.false_and]
   go_enter Try.func155, Try.ntmps155
   go_wp2
   go_ret
   exact ⟨rfl, Below.refl _ _⟩
 ·rw [decide_eq_false h1]
  simp only [Bool.false_and]
  go_enter Try.func155, Try.ntmps155
  go_wp2
  go_ret
  exact ⟨rfl, Below.refl _ _⟩


/-! ### jf: function 74 -/

def jf.v (l : List (List Int)) : Bool := decide (l.length ≤ 6) && l.all jG.v
def jf.f (l : List (List Int)) : Option Bool := some (jf.v l)
set_option maxHeartbeats 8000000 in
set_option maxRecDepth 100000 in
theorem jf.calls (qq : Option Addr) (qp : Nat) (qd : List (List Int)) (r : Bool) (w : World) (jd : Kd.C (Kd.slice 5 (Kd.int .u8)) w qq qd.length qd) (jg : qd.length ≤ qp) (h : jf.f qd = some r) :
  Calls Try.prog 74 #[.agg #[.slice qq qd.length qp]] w fun e w' => e = .returned (.bool r) ∧ Below w.heap.size w w' := by
 have hu := Try.underlying31
 have eg : ∀ args w, (callFunc 155 args).run Try.prog w = .ok (.enter 155 args) w := enters_of Try.func155 (by kernel_rfl) rfl
 have hb0 : Below w.heap.size w (w.alloc (.cells #[.slice qq qd.length qp] 31)) := below_alloc (Below.refl _ _) _
 have ha := fun (W : World) (hW : Below w.heap.size w W) => qdn.calls 155 #[] eg jG.v qq qp qd W (Kd.C_below jd hW) (fun W2 A c x hW2 hC hc => (jG.calls A c x _ W2 hC hc rfl))
 have hbig : qd.length ≤ 9223372036854775807 := jd.2.1
 have hrv : r = jf.v qd := (Option.some.inj h).symm
 subst hrv
 unfold jf.v
 clear h jd
 have HA := ak ha
 clear ha
 generalize qd.all jG.v = q at HA ⊢
 by_cases h2 : qd.length ≤ 6
 ·rw [decide_eq_true h2]
  simp only [Bool.true_and]
  go_enter Try.func74, Try.ntmps74
  go_wp2_with (go_at_call 154; refine (HA.out _ hb0).mono ?_; rintro e w' ⟨rfl, hb'⟩)
  go_ret
  exact ⟨rfl, hb0.trans (hb'.mono (by simp))⟩
 ·rw [decide_eq_false h2]
  simp only [Bool.false_and]
  go_enter Try.func74, Try.ntmps74
  go_wp2
  go_ret
  exact ⟨rfl, hb0⟩


/-! ### jN: function 162 -/

def jN.v (t : Int) : ByteArray := if t = 1 then ⟨#[65]⟩ else if t = 2 then ⟨#[78, 83]⟩ else if t = 5 then ⟨#[67, 78, 65, 77, 69]⟩ else if t = 6 then ⟨#[83, 79, 65]⟩ else if t = 12 then ⟨#[80, 84, 82]⟩ else if t = 16 then ⟨#[84, 88, 84]⟩ else if t = 49 then ⟨#[68, 72, 67, 73, 68]⟩ else ⟨#[]⟩
def jN.f (t : Int) : Option ByteArray := if -9223372036854775808 ≤ t ∧ t ≤ 9223372036854775807 then some (jN.v t) else none
theorem jN.inv {e : TypeId} (he : Try.prog.underlying e = some .string) {v : Value} {z : DataW Unit × List MemPlace} (h : plainElem Try.prog e v = some z) : ∃ s : ByteArray, v = .string s ∧ z = (.lit (.string s.data.toList), []) ∧ s.size ≤ maxLen := by
 unfold plainElem at h
 rw [he] at h
 cases v <;> simp at h
 exact ⟨_, rfl, h.2.symm, h.1⟩
theorem jN.ne {a b : Int} (h : ¬ a = b) : (Lit.int .i64 a) ≠ Lit.int .i64 b := fun e => h (by injection e)
set_option maxHeartbeats 8000000 in
set_option maxRecDepth 100000 in
theorem jN.calls (a0 : Int) (r : ByteArray) (w : World) (h : jN.f a0 = some r) :
  Calls Try.prog 162 #[.int .i64 a0] w fun e w' => e = .returned (.string r) ∧ Below w.heap.size w w' := by
 have hw : (Lit.int .i64 a0).wf = true := by
  unfold jN.f at h; split at h
  ·exact WalkArith.wf_i64 (by assumption)
  ·cases h
 have hr : jN.v a0 = r := by
  unfold jN.f at h; split at h
  ·exact Option.some.inj h
  ·cases h
 clear h
 have law : Go.Maps.Keyed Try.prog 3 := Go.Maps.int_keyed Try.underlying3
 have um := Try.underlying222
 have us := Try.underlying9
 have key : ∀ n : Int, (Lit.int .i64 n).wf = true → keyOf Try.prog 3 (.int .i64 n) = some (.int .i64 n) := fun n hn => Go.Maps.keyOf_int_mk Try.underlying3 hn
 have el : ∀ s : ByteArray, s.size ≤ maxLen → plainElem (H := Unit) Try.prog 9 (.string s) = some (.lit (.string s.data.toList), []) := fun s hs => plainElem_string us hs
 have o0 := World.ownsMap_made (H := Unit) w Try.prog 3 (plainElem Try.prog 9)
 obtain ⟨w1, r1, o1, g1⟩ := o0.update law um (by unfold maxLen; omega) (key 1 (by decide)) (el ⟨#[65]⟩ (by decide))
 obtain ⟨w2, r2, o2, g2⟩ := o1.update law um (by unfold maxLen; omega) (key 2 (by decide)) (el ⟨#[78, 83]⟩ (by decide))
 obtain ⟨w3, r3, o3, g3⟩ := o2.update law um (by unfold maxLen; omega) (key 5 (by decide)) (el ⟨#[67, 78, 65, 77, 69]⟩ (by decide))
 obtain ⟨w4, r4, o4, g4⟩ := o3.update law um (by unfold maxLen; omega) (key 6 (by decide)) (el ⟨#[83, 79, 65]⟩ (by decide))
 obtain ⟨w5, r5, o5, g5⟩ := o4.update law um (by unfold maxLen; omega) (key 12 (by decide)) (el ⟨#[80, 84, 82]⟩ (by decide))
 obtain ⟨w6, r6, o6, g6⟩ := o5.update law um (by unfold maxLen; omega) (key 16 (by decide)) (el ⟨#[84, 88, 84]⟩ (by decide))
 obtain ⟨w7, r7, o7, g7⟩ := o6.update law um (by unfold maxLen; omega) (key 49 (by decide)) (el ⟨#[68, 72, 67, 73, 68]⟩ (by decide))
 obtain ⟨v, ps, rl, hv⟩ := o7.lookup law um (z := .string ⟨#[]⟩) (by kernel_rfl) (el ⟨#[]⟩ (by decide)) (key a0 hw)
 obtain ⟨s, rfl, hs, _⟩ := jN.inv us hv
 have hB : Below w.heap.size w w7 := by
  have b0 := below_alloc (Below.refl w.heap.size w) (.map #[] 0)
  refine Below.grown (Below.grown (Below.grown (Below.grown (Below.grown (Below.grown (Below.grown b0 g1 ?_ ?_) g2 ?_ ?_) g3 ?_ ?_) g4 ?_ ?_) g5 ?_ ?_) g6 ?_ ?_) g7 ?_ ?_
  all_goals first
   | (intro j hj; cases hj; exact Nat.le_refl _)
   | (have := b0.size; have := g1.size; have := g2.size; have := g3.size; have := g4.size; have := g5.size; have := g6.size; omega)
 have e : s = jN.v a0 := by
  simp only [Prod.mk.injEq] at hs
  have hat := hs.1
  have fin : ∀ {l : ByteArray}, (DataW.lit (.string l.data.toList) : DataW Unit) = .lit (.string s.data.toList) → s = l := fun {l} he => by
   simp at he
   cases s; cases l; simp at he; rw [he]
  have im : ∀ {D : DataW Unit} {k d}, Go.Maps.IsMap D → Go.Maps.IsMap (D.put k d) := fun {D k d} ⟨es, he⟩ => by subst he; exact ⟨_, rfl⟩
  have i0 : Go.Maps.IsMap (DataW.map [] : DataW Unit) := ⟨_, rfl⟩
  unfold jN.v
  by_cases h7 : a0 = 49
  ·subst h7
   rw [Go.Maps.atKey_put_same (im (im (im (im (im (im i0)))))) (by trivial)] at hat
   exact fin hat
  rw [Go.Maps.atKey_put_other (jN.ne h7)] at hat
  by_cases h6 : a0 = 16
  ·subst h6
   rw [Go.Maps.atKey_put_same (im (im (im (im (im i0))))) (by trivial)] at hat
   exact fin hat
  rw [Go.Maps.atKey_put_other (jN.ne h6)] at hat
  by_cases h5 : a0 = 12
  ·subst h5
   rw [Go.Maps.atKey_put_same (im (im (im (im i0)))) (by trivial)] at hat
   exact fin hat
  rw [Go.Maps.atKey_put_other (jN.ne h5)] at hat
  by_cases h4 : a0 = 6
  ·subst h4
   rw [Go.Maps.atKey_put_same (im (im (im i0))) (by trivial)] at hat
   exact fin hat
  rw [Go.Maps.atKey_put_other (jN.ne h4)] at hat
  by_cases h3 : a0 = 5
  ·subst h3
   rw [Go.Maps.atKey_put_same (im (im i0)) (by trivial)] at hat
   exact fin hat
  rw [Go.Maps.atKey_put_other (jN.ne h3)] at hat
  by_cases h2 : a0 = 2
  ·subst h2
   rw [Go.Maps.atKey_put_same (im i0) (by trivial)] at hat
   exact fin hat
  rw [Go.Maps.atKey_put_other (jN.ne h2)] at hat
  by_cases h1 : a0 = 1
  ·subst h1
   rw [Go.Maps.atKey_put_same i0 (by trivial)] at hat
   exact fin hat
  rw [Go.Maps.atKey_put_other (jN.ne h1)] at hat
  rw [if_neg h1, if_neg h2, if_neg h3, if_neg h4, if_neg h5, if_neg h6, if_neg h7]
  exact fin hat
 have HB := ak hB
 subst e
 clear o0 o1 o2 o3 o4 o5 o6 o7 g1 g2 g3 g4 g5 g6 g7 hB hs hv key el law hw
 subst hr
 generalize jN.v a0 = s at rl ⊢
 have hmm := @run_makeMap Try.prog
 go_enter Try.func162, Try.ntmps162
 go_wp2
 go_ret
 exact ⟨rfl, HB.out⟩


/-! ### Zb: function 82 -/

def Zb.f (a0 : Int) : Option Bool := (jN.f a0).bind fun t => some (!t.toList.isEmpty)
set_option maxHeartbeats 8000000 in
set_option maxRecDepth 100000 in
theorem Zb.calls (a0 : Int) (r : Bool) (w : World) (h : Zb.f a0 = some r) :
  Calls Try.prog 82 #[.int .i64 a0] w fun e w' => e = .returned (.bool r) ∧ Below w.heap.size w w' := by
 obtain ⟨s, hs, hr⟩ := Option.bind_eq_some_iff.mp h
 have hr := Option.some.inj hr
 subst hr
 have HC := ak hs
 clear h hs
 go_enter Try.func82, Try.ntmps82
 go_wp2_with (go_at_call 162; refine (jN.calls a0 s _ HC.out).mono ?_; rintro e w' ⟨rfl, hb⟩)
 go_ret
 exact ⟨by first | rfl | simp, hb⟩


/-! ### zX: function 83 -/
def zX.f (a0 : Int) (a1 : Int) (a2 : Int) : Option (Bool) := if a1 ≤ a0 then (some (decide (a0 ≤ a2))) else (some false)
set_option maxHeartbeats 8000000 in
set_option maxRecDepth 100000 in
theorem zX.calls (a0 : Int) (a1 : Int) (a2 : Int) (r : Bool) (w : World) (h : zX.f a0 a1 a2 = some r) :
  Calls Try.prog 83 #[.int .i64 a0, .int .i64 a1, .int .i64 a2] w fun e w' => e = .returned (.bool r) ∧ Drawn0 w w' := by
 have H : (if a1 ≤ a0 then (some (decide (a0 ≤ a2))) else (some false)) = some r := h
 clear h
 by_cases c4 : a1 ≤ a0
 ·rw [if_pos c4] at H
  have c4b0 : decide (a1 ≤ a0) = true := decide_eq_true c4
  clear c4
  obtain rfl := Option.some.inj H
  go_enter Try.func83, Try.ntmps83
  go_wp2
  go_ret
  exact ⟨by first | rfl | (simp; done) | (simp [*]; done), by repeat (first | exact Drawn0.refl _ | apply Drawn0.step)⟩
 ·rw [if_neg c4] at H
  have c4b0 : decide (a1 ≤ a0) = false := decide_eq_false c4
  clear c4
  obtain rfl := Option.some.inj H
  go_enter Try.func83, Try.ntmps83
  go_wp2
  go_ret
  exact ⟨by first | rfl | (simp; done) | (simp [*]; done), by repeat (first | exact Drawn0.refl _ | apply Drawn0.step)⟩


/-! ### Za: function 138 -/
def Za.f (a0 : Int) : Option (Bool) := (zX.f a0 0 4294967295).bind fun Zy => (some Zy)
set_option maxHeartbeats 8000000 in
set_option maxRecDepth 100000 in
theorem Za.calls (a0 : Int) (r : Bool) (w : World) (h : Za.f a0 = some r) :
  Calls Try.prog 138 #[.int .i64 a0] w fun e w' => e = .returned (.bool r) ∧ Drawn0 w w' := by
 have H : ((zX.f a0 0 4294967295).bind fun Zy => (some Zy)) = some r := h
 clear h
 replace H := Option.bind_eq_some_iff.mp H
 obtain ⟨Zy, A20, H⟩ := H
 replace H : (some Zy) = some r := H
 have A2 := ak A20
 clear A20
 obtain rfl := Option.some.inj H
 go_enter Try.func138, Try.ntmps138
 go_wp2_with (first | ((with_reducible refine gate_callee (f := 83) rfl ?_); refine goesL_ (some 4) rfl rfl Try.func83 (by kernel_rfl) rfl #[.int .i64 a0, .int .i64 0, .int .i64 4294967295] rfl (by first | rfl | (simp only [List.map_toArray, List.map_cons, List.map_nil]; first | done | rfl)) ?_; (with_reducible refine (zX.calls a0 0 4294967295 Zy _ A2.out).mono ?_); rintro e w' ⟨rfl, ⟨nd, rfl⟩⟩; refine ⟨_, rfl, ?_⟩))
 go_ret
 exact ⟨by first | rfl | (simp; done) | (simp [*]; done), by repeat (first | exact Drawn0.refl _ | apply Drawn0.step)⟩


/-! ### Qm: function 139 -/
def Qm.f (a0 : Int) : Option (Bool) := if a0 = 16 then (some true) else (some (a0 == 49))
set_option maxHeartbeats 8000000 in
set_option maxRecDepth 100000 in
theorem Qm.calls (a0 : Int) (r : Bool) (w : World) (h : Qm.f a0 = some r) :
  Calls Try.prog 139 #[.int .i64 a0] w fun e w' => e = .returned (.bool r) ∧ Drawn0 w w' := by
 have H : (if a0 = 16 then (some true) else (some (a0 == 49))) = some r := h
 clear h
 by_cases c2 : a0 = 16
 ·rw [if_pos c2] at H
  have c2b0 : (a0 == 16) = true := beq_iff_eq.mpr c2
  have c2b1 : (a0 != 16) = false := bne_eq_false_iff_eq.mpr c2
  clear c2
  obtain rfl := Option.some.inj H
  go_enter Try.func139, Try.ntmps139
  go_wp2
  go_ret
  exact ⟨by first | rfl | (simp; done) | (simp [*]; done), by repeat (first | exact Drawn0.refl _ | apply Drawn0.step)⟩
 ·rw [if_neg c2] at H
  have c2b0 : (a0 == 16) = false := beq_eq_false_iff_ne.mpr c2
  have c2b1 : (a0 != 16) = true := bne_iff_ne.mpr c2
  obtain rfl := Option.some.inj H
  go_enter Try.func139, Try.ntmps139
  go_wp2
  go_ret
  exact ⟨by first | rfl | (simp; done) | (simp [*]; done), by repeat (first | exact Drawn0.refl _ | apply Drawn0.step)⟩


/-! ### qM: function 63 -/
mutual
def qM.j0 : Nat → Bool → List (List Int) → Int → Int → Int → List (List Int) → List Int → List Int → Option (Bool)
 | 0, _, _, _, _, _, _, _, _ => none
 | k + 1, x22, qU, qB, QL, yY, yG, yF, zB => if x22 = true then (some false) else (if qB = 6 then (if (zB.length : Int) = 2 then (if 0 < (zB.length : Int) then ((Za.f (rd zB 0)).bind fun zy => (if zy = true then (if 1 < (zB.length : Int) then ((zX.f (rd zB 1) 0 100000).bind fun jQ => (qM.j1 k jQ qU qB QL yY yG yF zB)) else (none)) else (qM.j1 k false qU qB QL yY yG yF zB))) else (none)) else (qM.j1 k false qU qB QL yY yG yF zB)) else (qM.j1 k ((zB.length : Int) == 0) qU qB QL yY yG yF zB))
def qM.j1 : Nat → Bool → List (List Int) → Int → Int → Int → List (List Int) → List Int → List Int → Option (Bool)
 | 0, _, _, _, _, _, _, _, _ => none
 | k + 1, x3, qU, qB, QL, yY, yG, yF, zB => if yY = 0 then (qM.j2 k x3 true qU qB QL yY yG yF zB) else (if qB = 1 then ((Za.f yY).bind fun zq => (qM.j2 k x3 zq qU qB QL yY yG yF zB)) else (qM.j2 k x3 false qU qB QL yY yG yF zB))
def qM.j2 : Nat → Bool → Bool → List (List Int) → Int → Int → Int → List (List Int) → List Int → List Int → Option (Bool)
 | 0, _, _, _, _, _, _, _, _, _ => none
 | k + 1, x3, x4, qU, qB, QL, yY, yG, yF, zB => if (yG.length : Int) = 0 then (qM.j3 k x3 x4 true qU qB QL yY yG yF zB) else ((Zz.f qB).bind fun jS => (if jS = true then ((jf.f yG).bind fun zb => (qM.j3 k x3 x4 zb qU qB QL yY yG yF zB)) else (qM.j3 k x3 x4 false qU qB QL yY yG yF zB)))
def qM.j3 : Nat → Bool → Bool → Bool → List (List Int) → Int → Int → Int → List (List Int) → List Int → List Int → Option (Bool)
 | 0, _, _, _, _, _, _, _, _, _, _ => none
 | k + 1, x3, x4, x5, qU, qB, QL, yY, yG, yF, zB => if (yF.length : Int) = 0 then (if x3 = true then (if x4 = true then (if x5 = true then (some true) else (some false)) else (some false)) else (some false)) else ((Qm.f qB).bind fun qh3 => (if qh3 = true then (if x3 = true then (if x4 = true then (if x5 = true then (some (decide ((yF.length : Int) ≤ 40))) else (some false)) else (some false)) else (some false)) else (if x3 = true then (if x4 = true then (if x5 = true then (some false) else (some false)) else (some false)) else (some false))))
end
def qM.f (k : Nat) (qd : List (List Int)) (qu : Int) (qH : Int) (qF : Int) (qA : List (List Int)) (qt : List Int) (qo : List Int) : Option (Bool) := (jf.f qd).bind fun qG => (if qG = true then ((Zb.f qu).bind fun qx => (if qx = true then ((zX.f qH 0 100000).bind fun qK => (qM.j0 k (!qK) qd qu qH qF qA qt qo)) else (qM.j0 k true qd qu qH qF qA qt qo))) else (qM.j0 k true qd qu qH qF qA qt qo))
set_option maxHeartbeats 8000000 in
set_option maxRecDepth 100000 in
theorem qM.calls (k : Nat) (qq : Option Addr) (qp : Nat) (qd : List (List Int)) (qu : Int) (qH : Int) (qF : Int) (jC : Option Addr) (jB : Nat) (qA : List (List Int)) (jK : Option Addr) (jJ : Nat) (qt : List Int) (jM : Option Addr) (jL : Nat) (qo : List Int) (r : Bool) (w : World) (jd : Kd.C (Kd.slice 5 (Kd.int .u8)) w qq qd.length qd) (jg : qd.length ≤ qp) (QF : Kd.C (Kd.slice 5 (Kd.int .u8)) w jC qA.length qA) (QI : qA.length ≤ jB) (QE : Kd.C (Kd.int .u8) w jK qt.length qt) (QH : qt.length ≤ jJ) (QD : Kd.C (Kd.int .i64) w jM qo.length qo) (QG : qo.length ≤ jL) (h : qM.f k qd qu qH qF qA qt qo = some r) :
  Calls Try.prog 63 #[.agg #[.slice qq qd.length qp, .int .i64 qu, .int .i64 qH, .int .i64 qF, .slice jC qA.length jB, .slice jK qt.length jJ, .slice jM qo.length jL]] w fun e w' => e = .returned (.bool r) ∧ Below w.heap.size w w' := by
 have qak := Try.underlying33
 have Ys := Try.underlying31
 have qW := ak jd
 have jb := ak jg
 clear jd jg
 have Jo := ak QF
 have Jp := ak QI
 clear QF QI
 have ZF := ak QE
 have Yp := ak QH
 clear QE QH
 have Qd := ak QD
 have YP := ak QG
 clear QD QG
 have HB := ak (Below.refl w.heap.size w)
 have H : ((jf.f qd).bind fun qG => (if qG = true then ((Zb.f qu).bind fun qx => (if qx = true then ((zX.f qH 0 100000).bind fun qK => (qM.j0 k (!qK) qd qu qH qF qA qt qo)) else (qM.j0 k true qd qu qH qF qA qt qo))) else (qM.j0 k true qd qu qH qF qA qt qo))) = some r := h
 clear h
 have HC2 := ak H
 clear H
 go_enter Try.func63, Try.ntmps63
 go_upto_region 1 with (first | ((with_reducible refine gate_dst (N := 1) rfl ?_); (try (refine gate_guard (by rfl) ?_; dsimp only)); refine boxed (N := 1) rfl rfl (cs := #[.slice qq qd.length qp, .int .i64 qu, .int .i64 qH, .int .i64 qF, .slice jC qA.length jB, .slice jK qt.length jJ, .slice jM qo.length jL]) (t := 33) HB.out (by first | (go_simp; done) | (go_simp; rfl)) ?_; clear HB; intro qi w3 hg HB qc qm hb; have jD := qm; clear hb hg))
 (try simp only [Act.put, List.setIfInBounds_toArray, List.set_cons_zero, List.set_cons_succ])
 go_cut [22] (fun v22 wc => ∃ (kq : Nat) (qla : Bool), v22 = .bool qla ∧ Aside0 (qM.j0 kq qla qd qu qH qF qA qt qo = some r) ∧ Aside0 (kq ≤ k) ∧ Aside0 (wc.heap[qi]? = some (.cells #[(.slice qq qd.length qp), .int .i64 qu, .int .i64 qH, .int .i64 qF, (.slice jC qA.length jB), (.slice jK qt.length jJ), (.slice jM qo.length jL)] 33 (0, 0))) ∧ Aside0 (Below w.heap.size w wc))
 case first =>
  have H := HC2.out
  clear HC2
  replace H := Option.bind_eq_some_iff.mp H
  obtain ⟨qG, A40, H⟩ := H
  replace H : (if qG = true then ((Zb.f qu).bind fun qx => (if qx = true then ((zX.f qH 0 100000).bind fun qK => (qM.j0 k (!qK) qd qu qH qF qA qt qo)) else (qM.j0 k true qd qu qH qF qA qt qo))) else (qM.j0 k true qd qu qH qF qA qt qo)) = some r := H
  have A4 := ak A40
  clear A40
  by_cases c5 : qG = true
  ·subst c5
   have H1 : ((Zb.f qu).bind fun qx => (if qx = true then ((zX.f qH 0 100000).bind fun qK => (qM.j0 k (!qK) qd qu qH qF qA qt qo)) else (qM.j0 k true qd qu qH qF qA qt qo))) = some r := by rw [if_pos rfl] at H; exact H
   clear H
   have H := H1
   clear H1
   replace H := Option.bind_eq_some_iff.mp H
   obtain ⟨qx, A60, H⟩ := H
   replace H : (if qx = true then ((zX.f qH 0 100000).bind fun qK => (qM.j0 k (!qK) qd qu qH qF qA qt qo)) else (qM.j0 k true qd qu qH qF qA qt qo)) = some r := H
   have A6 := ak A60
   clear A60
   by_cases c7 : qx = true
   ·subst c7
    have H1 : ((zX.f qH 0 100000).bind fun qK => (qM.j0 k (!qK) qd qu qH qF qA qt qo)) = some r := by rw [if_pos rfl] at H; exact H
    clear H
    have H := H1
    clear H1
    replace H := Option.bind_eq_some_iff.mp H
    obtain ⟨qK, A80, H⟩ := H
    replace H : (qM.j0 k (!qK) qd qu qH qF qA qt qo) = some r := H
    have A8 := ak A80
    clear A80
    have H' := ak H
    clear H
    obtain ⟨Js, Zo, qaZ, qaY, qaX, qaW, qaV, Jr, Zn, qaU, qaT, qaS, qaR, qaQ⟩ := cells7 qc.out
    go_wp2_with (first | ((with_reducible refine gate_callee (f := 74) rfl ?_); refine goesL_ (some 9) rfl rfl Try.func74 (by kernel_rfl) rfl #[.agg #[.slice qq qd.length qp]] rfl (by first | rfl | (simp only [List.map_toArray, List.map_cons, List.map_nil]; first | done | rfl)) ?_; (with_reducible refine (jf.calls _ _ qd true _ ?qk ?qj A4.out).mono ?_); (case qk => exact cw qW.out HB.out); (case qj => exact jb.out); rintro e w10 ⟨rfl, hb⟩; refine ⟨_, rfl, ?_⟩; replace qc := ak (blk_below (bk qc.out) hb); replace HB := ak (below_step (bw HB.out) hb); (try clear hb); obtain ⟨JZ, Yl, qbS, qbR, qbQ, qbP, qbO, JY, Yk, qbA, qbz, qby, qbx, qbw⟩ := cells7 qc.out) | (go_at_call 82; (with_reducible refine (Zb.calls qu true _ A6.out).mono ?_); rintro e w12 ⟨rfl, hb⟩; replace qc := ak (blk_below (bk qc.out) hb); replace HB := ak (below_step (bw HB.out) hb); (try clear hb); obtain ⟨QN, JO, XB, XA, Xz, Xy, Xx, QM, JN, Xv, Xu, Xt, Xs, Xr⟩ := cells7 qc.out) | (go_at_call 83; (with_reducible refine (zX.calls qH 0 100000 qK _ A8.out).mono ?_); rintro e w' ⟨rfl, ⟨nd, rfl⟩⟩))
    go_meet
    case rel => exact ⟨_, (!qK), (by first | rfl | (simp; done) | (simp [*]; done)), H', ⟨by first | omega | exact Nat.le_refl _⟩, ⟨bk qc.out⟩, ⟨bw HB.out⟩⟩
   ·replace c7 := Bool.eq_false_iff.mpr c7
    subst c7
    have H1 : (qM.j0 k true qd qu qH qF qA qt qo) = some r := by rw [if_neg (show ¬ (false = true) by decide)] at H; exact H
    clear H
    have H := H1
    clear H1
    have H' := ak H
    clear H
    obtain ⟨XW, qaJ, qcW, qcV, qcU, qcT, qcS, XU, qaH, qcB, qcA, qcz, qcy, qcx⟩ := cells7 qc.out
    go_wp2_with (first | ((with_reducible refine gate_callee (f := 74) rfl ?_); refine goesL_ (some 9) rfl rfl Try.func74 (by kernel_rfl) rfl #[.agg #[.slice qq qd.length qp]] rfl (by first | rfl | (simp only [List.map_toArray, List.map_cons, List.map_nil]; first | done | rfl)) ?_; (with_reducible refine (jf.calls _ _ qd true _ ?qk ?qj A4.out).mono ?_); (case qk => exact cw qW.out HB.out); (case qj => exact jb.out); rintro e w15 ⟨rfl, hb⟩; refine ⟨_, rfl, ?_⟩; replace qc := ak (blk_below (bk qc.out) hb); replace HB := ak (below_step (bw HB.out) hb); (try clear hb); obtain ⟨YV, Xw, qbN, qbM, qbL, qbK, qbJ, YS, Xq, qbv, qbu, qbt, qbs, qbr⟩ := cells7 qc.out) | (go_at_call 82; (with_reducible refine (Zb.calls qu false _ A6.out).mono ?_); rintro e w17 ⟨rfl, hb⟩; replace qc := ak (blk_below (bk qc.out) hb); replace HB := ak (below_step (bw HB.out) hb); (try clear hb)))
    go_meet
    case rel => exact ⟨_, (true), (by first | rfl | (simp; done) | (simp [*]; done)), H', ⟨by first | omega | exact Nat.le_refl _⟩, ⟨bk qc.out⟩, ⟨bw HB.out⟩⟩
  ·replace c5 := Bool.eq_false_iff.mpr c5
   subst c5
   have H1 : (qM.j0 k true qd qu qH qF qA qt qo) = some r := by rw [if_neg (show ¬ (false = true) by decide)] at H; exact H
   clear H
   have H := H1
   clear H1
   have H' := ak H
   clear H
   obtain ⟨YU, YT, qcP, qcO, qcN, qcM, qcL, YR, YQ, qcu, qct, qcs, qcr, qcq⟩ := cells7 qc.out
   go_wp2_with (first | ((with_reducible refine gate_callee (f := 74) rfl ?_); refine goesL_ (some 9) rfl rfl Try.func74 (by kernel_rfl) rfl #[.agg #[.slice qq qd.length qp]] rfl (by first | rfl | (simp only [List.map_toArray, List.map_cons, List.map_nil]; first | done | rfl)) ?_; (with_reducible refine (jf.calls _ _ qd false _ ?qk ?qj A4.out).mono ?_); (case qk => exact cw qW.out HB.out); (case qj => exact jb.out); rintro e w19 ⟨rfl, hb⟩; refine ⟨_, rfl, ?_⟩; replace qc := ak (blk_below (bk qc.out) hb); replace HB := ak (below_step (bw HB.out) hb); (try clear hb)))
   go_meet
   case rel => exact ⟨_, (true), (by first | rfl | (simp; done) | (simp [*]; done)), H', ⟨by first | omega | exact Nat.le_refl _⟩, ⟨bk qc.out⟩, ⟨bw HB.out⟩⟩
 case rest =>
  clear HC2
  try clear p2
  try clear c5
  try clear c6
  try clear c7
  try clear JZ
  try clear Yl
  try clear qbS
  try clear qbR
  try clear qbQ
  try clear qbP
  try clear qbO
  try clear QN
  try clear JO
  try clear XB
  try clear XA
  try clear Xz
  try clear Xy
  try clear Xx
  try clear XW
  try clear qaJ
  try clear qcW
  try clear qcV
  try clear qcU
  try clear qcT
  try clear qcS
  try clear YV
  try clear Xw
  try clear qbN
  try clear qbM
  try clear qbL
  try clear qbK
  try clear qbJ
  try clear YU
  try clear YT
  try clear qcP
  try clear qcO
  try clear qcN
  try clear qcM
  try clear qcL
  try clear Js
  try clear Zo
  try clear qaZ
  try clear qaY
  try clear qaX
  try clear qaW
  try clear qaV
  try clear JY
  try clear Yk
  try clear qbA
  try clear qbz
  try clear qby
  try clear qbx
  try clear qbw
  try clear QM
  try clear JN
  try clear Xv
  try clear Xu
  try clear Xt
  try clear Xs
  try clear Xr
  try clear XU
  try clear qaH
  try clear qcB
  try clear qcA
  try clear qcz
  try clear qcy
  try clear qcx
  try clear YS
  try clear Xq
  try clear qbv
  try clear qbu
  try clear qbt
  try clear qbs
  try clear qbr
  try clear YR
  try clear YQ
  try clear qcu
  try clear qct
  try clear qcs
  try clear qcr
  try clear qcq
  try clear Jr
  try clear Zn
  try clear qaU
  try clear qaT
  try clear qaS
  try clear qaR
  try clear qaQ
  obtain ⟨kq, qla, rfl, HA, HJ1, qc, HB⟩ := hcut
  cases kq with
  | zero => exact absurd HA.out (by simp [qM.j0])
  | succ kj1 =>
   have H := HA.out
   clear HA
   simp only [qM.j0] at H
   by_cases c20 : qla = true
   ·subst c20
    have H1 : (some false) = some r := by rw [if_pos rfl] at H; exact H
    clear H
    have H := H1
    clear H1
    obtain rfl := Option.some.inj H
    go_wp2
    go_ret
    exact ⟨by first | rfl | (simp [errW_none, errW_some] <;> rfl) | (simp [*, errW_none, errW_some] <;> rfl), bw HB.out⟩
   ·replace c20 := Bool.eq_false_iff.mpr c20
    subst c20
    have H1 : (if qu = 6 then (if (qo.length : Int) = 2 then (if 0 < (qo.length : Int) then ((Za.f (rd qo 0)).bind fun zy => (if zy = true then (if 1 < (qo.length : Int) then ((zX.f (rd qo 1) 0 100000).bind fun jQ => (qM.j1 kj1 jQ qd qu qH qF qA qt qo)) else (none)) else (qM.j1 kj1 false qd qu qH qF qA qt qo))) else (none)) else (qM.j1 kj1 false qd qu qH qF qA qt qo)) else (qM.j1 kj1 ((qo.length : Int) == 0) qd qu qH qF qA qt qo)) = some r := by rw [if_neg (show ¬ (false = true) by decide)] at H; exact H
    clear H
    have H := H1
    clear H1
    have qpy := ak H
    clear H
    obtain ⟨XV, qbI, qcJ, qcI, qcH, qcG, qcF, XT, qbq, qco, qcn, qcm, qcl, qck⟩ := cells7 qc.out
    go_upto_if 29 with (fail)
    go_cut [3] (fun v3 wc => ∃ (kq : Nat) (YN : Bool), v3 = .bool YN ∧ Aside0 (qM.j1 kq YN qd qu qH qF qA qt qo = some r) ∧ Aside0 (kq ≤ kj1) ∧ Aside0 (wc.heap[qi]? = some (.cells #[(.slice qq qd.length qp), .int .i64 qu, .int .i64 qH, .int .i64 qF, (.slice jC qA.length jB), (.slice jK qt.length jJ), (.slice jM qo.length jL)] 33 (0, 0))) ∧ Aside0 (Below w.heap.size w wc))
    case first =>
     have H := qpy.out
     clear qpy
     by_cases c23 : qu = 6
     ·rw [if_pos c23] at H
      have c23b0 : (qu == 6) = true := beq_iff_eq.mpr c23
      have c23b1 : (qu != 6) = false := bne_eq_false_iff_eq.mpr c23
      clear c23
      (first | rw [c23b0] | (simp only [i64_w, i32_w]; rw [c23b0]) | skip)
      by_cases c24 : (qo.length : Int) = 2
      ·rw [if_pos c24] at H
       have c24b0 : ((qo.length : Int) == 2) = true := beq_iff_eq.mpr c24
       have c24b1 : ((qo.length : Int) != 2) = false := bne_eq_false_iff_eq.mpr c24
       clear c24
       by_cases c25 : 0 < (qo.length : Int)
       ·rw [if_pos c25] at H
        have c25b0 : decide (0 < (qo.length : Int)) = true := decide_eq_true c25
        have c25b1 : decide (0 < qo.length) = true := decide_eq_true (by omega)
        clear c25
        replace H := Option.bind_eq_some_iff.mp H
        obtain ⟨zy, quR, H⟩ := H
        replace H : (if zy = true then (if 1 < (qo.length : Int) then ((zX.f (rd qo 1) 0 100000).bind fun jQ => (qM.j1 kj1 jQ qd qu qH qF qA qt qo)) else (none)) else (qM.j1 kj1 false qd qu qH qF qA qt qo)) = some r := H
        have A26 := ak quR
        clear quR
        by_cases c27 : zy = true
        ·subst c27
         have H1 : (if 1 < (qo.length : Int) then ((zX.f (rd qo 1) 0 100000).bind fun jQ => (qM.j1 kj1 jQ qd qu qH qF qA qt qo)) else (none)) = some r := by rw [if_pos rfl] at H; exact H
         clear H
         have H := H1
         clear H1
         by_cases c28 : 1 < (qo.length : Int)
         ·rw [if_pos c28] at H
          have c28b0 : decide (1 < (qo.length : Int)) = true := decide_eq_true c28
          have c28b1 : decide (1 < qo.length) = true := decide_eq_true (by omega)
          clear c28
          replace H := Option.bind_eq_some_iff.mp H
          obtain ⟨jQ, quQ, H⟩ := H
          replace H : (qM.j1 kj1 jQ qd qu qH qF qA qt qo) = some r := H
          have A29 := ak quQ
          clear quQ
          have H' := ak H
          clear H
          obtain ⟨qfQ, qhm, qhl, qhk, qhj, qhi, qhh, qfx, qg3, qg2, qg1, qg0, qgZ, qgY⟩ := cells7 qc.out
          have yX : 0 ≤ (0 : Int) := (by omega)
          have yW : 0 < (qo.length : Int) := of_decide_eq_true (by first | (with_reducible assumption) | assumption)
          obtain ⟨YB, XL, zs⟩ := Kd.at_int Qd.out 0 yX yW
          cases XL
          have qie : (0 < qo.length) = True := eq_true (by omega)
          (try rw [show ((0 : Int)).toNat = 0 from rfl] at zs)
          (try rw [Addr.add_zero'] at zs)
          replace zs := hc_ HB.out zs
          replace yX := eq_true yX
          replace yW := eq_true yW
          go_wp2_with (first | (go_at_call 138; (with_reducible refine (Za.calls (rd qo 0) true _ A26.out).mono ?_); rintro e w' ⟨rfl, ⟨nd, rfl⟩⟩; have Qk : 0 ≤ (1 : Int) := (by omega); have Qj : 1 < (qo.length : Int) := of_decide_eq_true (by first | (with_reducible assumption) | assumption); obtain ⟨YA, XK, zZ⟩ := Kd.at_int Qd.out 1 Qk Qj; obtain rfl : YB = YA := (by injection XK); (try simp only [show (1 : Int).toNat = 1 from rfl, Nat.reduceMul, Nat.reduceEqDiff, Go.Addr.add, ↓reduceIte] at zZ); have qpE : (1 < qo.length) = True := eq_true (by omega); (try rw [show ((1 : Int)).toNat = 1 from rfl] at zZ); replace zZ := hc_ HB.out zZ; replace Qk := eq_true Qk; replace Qj := eq_true Qj) | (go_at_call 83; (with_reducible refine (zX.calls (rd qo 1) 0 100000 jQ _ A29.out).mono ?_); rintro e w' ⟨rfl, ⟨nd, rfl⟩⟩))
          go_meet
          case rel => exact ⟨_, (jQ), (by first | rfl | (simp; done) | (simp [*]; done)), H', ⟨by have := HJ1.out; first | omega | exact Nat.le_refl _⟩, ⟨bk qc.out⟩, ⟨bw HB.out⟩⟩
         ·rw [if_neg c28] at H
          exact absurd H (by simp)
        ·replace c27 := Bool.eq_false_iff.mpr c27
         subst c27
         have H1 : (qM.j1 kj1 false qd qu qH qF qA qt qo) = some r := by rw [if_neg (show ¬ (false = true) by decide)] at H; exact H
         clear H
         have H := H1
         clear H1
         have H' := ak H
         clear H
         obtain ⟨qdT, qdS, qfP, qfO, qfN, qfM, qfL, qdD, qdC, qfw, qfv, qfu, qft, qfs⟩ := cells7 qc.out
         have yX : 0 ≤ (0 : Int) := (by omega)
         have yW : 0 < (qo.length : Int) := of_decide_eq_true (by first | (with_reducible assumption) | assumption)
         obtain ⟨YB, XL, zs⟩ := Kd.at_int Qd.out 0 yX yW
         cases XL
         have qie : (0 < qo.length) = True := eq_true (by omega)
         (try rw [show ((0 : Int)).toNat = 0 from rfl] at zs)
         (try rw [Addr.add_zero'] at zs)
         replace zs := hc_ HB.out zs
         replace yX := eq_true yX
         replace yW := eq_true yW
         go_wp2_with (first | (go_at_call 138; (with_reducible refine (Za.calls (rd qo 0) false _ A26.out).mono ?_); rintro e w' ⟨rfl, ⟨nd, rfl⟩⟩))
         go_meet
         case rel => exact ⟨_, (false), (by first | rfl | (simp; done) | (simp [*]; done)), H', ⟨by have := HJ1.out; first | omega | exact Nat.le_refl _⟩, ⟨bk qc.out⟩, ⟨bw HB.out⟩⟩
       ·rw [if_neg c25] at H
        exact absurd H (by simp)
      ·rw [if_neg c24] at H
       have c24b0 : ((qo.length : Int) == 2) = false := beq_eq_false_iff_ne.mpr c24
       have c24b1 : ((qo.length : Int) != 2) = true := bne_iff_ne.mpr c24
       have H' := ak H
       clear H
       obtain ⟨qbH, qbG, qbF, qbE, qbD, qbC, qbB, qbp, qbo, qbn, qbm, qbl, qbk, qbj⟩ := cells7 qc.out
       go_wp2
       go_meet
       case rel => exact ⟨_, (false), (by first | rfl | (simp; done) | (simp [*]; done)), H', ⟨by have := HJ1.out; first | omega | exact Nat.le_refl _⟩, ⟨bk qc.out⟩, ⟨bw HB.out⟩⟩
     ·rw [if_neg c23] at H
      have c23b0 : (qu == 6) = false := beq_eq_false_iff_ne.mpr c23
      have c23b1 : (qu != 6) = true := bne_iff_ne.mpr c23
      (first | rw [c23b0] | (simp only [i64_w, i32_w]; rw [c23b0]) | skip)
      have H' := ak H
      clear H
      go_wp2
      go_meet
      case rel => exact ⟨_, (((qo.length : Int) == 0)), (by first | rfl | (simp; done) | (simp [*]; done)), H', ⟨by have := HJ1.out; first | omega | exact Nat.le_refl _⟩, ⟨bk qc.out⟩, ⟨bw HB.out⟩⟩
    case rest =>
     clear qpy
     try clear p1
     try clear q1
     try clear hx1
     try clear qi1
     try clear c2
     try clear p2
     try clear c5
     try clear c6
     try clear c7
     try clear p10
     try clear q10
     try clear qoq
     try clear qtQ
     try clear c20
     try clear c23
     try clear c23b0
     try clear c23b1
     try clear c24
     try clear c24b0
     try clear c24b1
     try clear c25
     try clear c25b0
     try clear c25b1
     try clear c27
     try clear c28
     try clear c28b0
     try clear c28b1
     try clear JZ
     try clear Yl
     try clear qbS
     try clear qbR
     try clear qbQ
     try clear qbP
     try clear qbO
     try clear QN
     try clear JO
     try clear XB
     try clear XA
     try clear Xz
     try clear Xy
     try clear Xx
     try clear XW
     try clear qaJ
     try clear qcW
     try clear qcV
     try clear qcU
     try clear qcT
     try clear qcS
     try clear YV
     try clear Xw
     try clear qbN
     try clear qbM
     try clear qbL
     try clear qbK
     try clear qbJ
     try clear YU
     try clear YT
     try clear qcP
     try clear qcO
     try clear qcN
     try clear qcM
     try clear qcL
     try clear XV
     try clear qbI
     try clear qcJ
     try clear qcI
     try clear qcH
     try clear qcG
     try clear qcF
     try clear qfQ
     try clear qhm
     try clear qhl
     try clear qhk
     try clear qhj
     try clear qhi
     try clear qhh
     try clear qdT
     try clear qdS
     try clear qfP
     try clear qfO
     try clear qfN
     try clear qfM
     try clear qfL
     try clear qbH
     try clear qbG
     try clear qbF
     try clear qbE
     try clear qbD
     try clear qbC
     try clear qbB
     try clear Js
     try clear Zo
     try clear qaZ
     try clear qaY
     try clear qaX
     try clear qaW
     try clear qaV
     try clear JY
     try clear Yk
     try clear qbA
     try clear qbz
     try clear qby
     try clear qbx
     try clear qbw
     try clear QM
     try clear JN
     try clear Xv
     try clear Xu
     try clear Xt
     try clear Xs
     try clear Xr
     try clear XU
     try clear qaH
     try clear qcB
     try clear qcA
     try clear qcz
     try clear qcy
     try clear qcx
     try clear YS
     try clear Xq
     try clear qbv
     try clear qbu
     try clear qbt
     try clear qbs
     try clear qbr
     try clear YR
     try clear YQ
     try clear qcu
     try clear qct
     try clear qcs
     try clear qcr
     try clear qcq
     try clear XT
     try clear qbq
     try clear qco
     try clear qcn
     try clear qcm
     try clear qcl
     try clear qck
     try clear qfx
     try clear qg3
     try clear qg2
     try clear qg1
     try clear qg0
     try clear qgZ
     try clear qgY
     try clear qdD
     try clear qdC
     try clear qfw
     try clear qfv
     try clear qfu
     try clear qft
     try clear qfs
     try clear qbp
     try clear qbo
     try clear qbn
     try clear qbm
     try clear qbl
     try clear qbk
     try clear qbj
     try clear Jr
     try clear Zn
     try clear qaU
     try clear qaT
     try clear qaS
     try clear qaR
     try clear qaQ
     try clear zs
     try clear zZ
     try clear yX
     try clear Qk
     try clear p2
     try clear yW
     try clear Qj
     obtain ⟨kq, YN, rfl, HA, qk2, qc, HB⟩ := hcut
     cases kq with
     | zero => exact absurd HA.out (by simp [qM.j1])
     | succ qtS =>
      have H := HA.out
      clear HA
      simp only [qM.j1] at H
      have qpv := ak H
      clear H
      go_upto_region 6 with (fail)
      go_cut [4] (fun v4 wc => ∃ (kq : Nat) (Yx : Bool), v4 = .bool Yx ∧ Aside0 (qM.j2 kq YN Yx qd qu qH qF qA qt qo = some r) ∧ Aside0 (kq ≤ qtS) ∧ Aside0 (wc.heap[qi]? = some (.cells #[(.slice qq qd.length qp), .int .i64 qu, .int .i64 qH, .int .i64 qF, (.slice jC qA.length jB), (.slice jK qt.length jJ), (.slice jM qo.length jL)] 33 (0, 0))) ∧ Aside0 (Below w.heap.size w wc))
      case first =>
       have H := qpv.out
       clear qpv
       by_cases c34 : qF = 0
       ·rw [if_pos c34] at H
        have c34b0 : (qF == 0) = true := beq_iff_eq.mpr c34
        have c34b1 : (qF != 0) = false := bne_eq_false_iff_eq.mpr c34
        clear c34
        (first | rw [c34b0] | (simp only [i64_w, i32_w]; rw [c34b0]) | skip)
        have H' := ak H
        clear H
        obtain ⟨qcE, qcD, qdR, qdQ, qdP, qdO, qdN, qcj, qci, qdB, qdA, qdz, qdy, qdx⟩ := cells7 qc.out
        go_wp2
        go_meet
        case rel => exact ⟨_, (true), (by first | rfl | (simp; done) | (simp [*]; done)), H', ⟨by have := HJ1.out; have := qk2.out; first | omega | exact Nat.le_refl _⟩, ⟨bk qc.out⟩, ⟨bw HB.out⟩⟩
       ·rw [if_neg c34] at H
        have c34b0 : (qF == 0) = false := beq_eq_false_iff_ne.mpr c34
        have c34b1 : (qF != 0) = true := bne_iff_ne.mpr c34
        (first | rw [c34b0] | (simp only [i64_w, i32_w]; rw [c34b0]) | skip)
        by_cases c36 : qu = 1
        ·rw [if_pos c36] at H
         have c36b0 : (qu == 1) = true := beq_iff_eq.mpr c36
         have c36b1 : (qu != 1) = false := bne_eq_false_iff_eq.mpr c36
         clear c36
         replace H := Option.bind_eq_some_iff.mp H
         obtain ⟨zq, quM, H⟩ := H
         replace H : (qM.j2 qtS YN zq qd qu qH qF qA qt qo) = some r := H
         have A37 := ak quM
         clear quM
         have H' := ak H
         clear H
         obtain ⟨qnS, qnR, qnQ, qnP, qnO, qnN, qnM, qm0, qmZ, qmY, qmX, qmW, qmV, qmU⟩ := cells7 qc.out
         go_wp2_with (first | (go_at_call 138; (with_reducible refine (Za.calls qF zq _ A37.out).mono ?_); rintro e w' ⟨rfl, ⟨nd, rfl⟩⟩))
         go_meet
         case rel => exact ⟨_, (zq), (by first | rfl | (simp; done) | (simp [*]; done)), H', ⟨by have := HJ1.out; have := qk2.out; first | omega | exact Nat.le_refl _⟩, ⟨bk qc.out⟩, ⟨bw HB.out⟩⟩
        ·rw [if_neg c36] at H
         have c36b0 : (qu == 1) = false := beq_eq_false_iff_ne.mpr c36
         have c36b1 : (qu != 1) = true := bne_iff_ne.mpr c36
         have H' := ak H
         clear H
         obtain ⟨qkl, qkk, qkj, qki, qkh, qkg, qkf, qjs, qjr, qjq, qjp, qjo, qjn, qjm⟩ := cells7 qc.out
         go_wp2
         go_meet
         case rel => exact ⟨_, (false), (by first | rfl | (simp; done) | (simp [*]; done)), H', ⟨by have := HJ1.out; have := qk2.out; first | omega | exact Nat.le_refl _⟩, ⟨bk qc.out⟩, ⟨bw HB.out⟩⟩
      case rest =>
       clear qpv
       try clear p1
       try clear q1
       try clear hx1
       try clear qi1
       try clear c2
       try clear p2
       try clear c3
       try clear c5
       try clear c6
       try clear c7
       try clear p10
       try clear q10
       try clear qoq
       try clear qtQ
       try clear c20
       try clear c23
       try clear c23b0
       try clear c23b1
       try clear c24
       try clear c24b0
       try clear c24b1
       try clear c25
       try clear c25b0
       try clear c25b1
       try clear c27
       try clear c28
       try clear c28b0
       try clear c28b1
       try clear c34
       try clear c34b0
       try clear c34b1
       try clear c36
       try clear c36b0
       try clear c36b1
       try clear JZ
       try clear Yl
       try clear qbS
       try clear qbR
       try clear qbQ
       try clear qbP
       try clear qbO
       try clear QN
       try clear JO
       try clear XB
       try clear XA
       try clear Xz
       try clear Xy
       try clear Xx
       try clear XW
       try clear qaJ
       try clear qcW
       try clear qcV
       try clear qcU
       try clear qcT
       try clear qcS
       try clear YV
       try clear Xw
       try clear qbN
       try clear qbM
       try clear qbL
       try clear qbK
       try clear qbJ
       try clear YU
       try clear YT
       try clear qcP
       try clear qcO
       try clear qcN
       try clear qcM
       try clear qcL
       try clear XV
       try clear qbI
       try clear qcJ
       try clear qcI
       try clear qcH
       try clear qcG
       try clear qcF
       try clear qfQ
       try clear qhm
       try clear qhl
       try clear qhk
       try clear qhj
       try clear qhi
       try clear qhh
       try clear qdT
       try clear qdS
       try clear qfP
       try clear qfO
       try clear qfN
       try clear qfM
       try clear qfL
       try clear qbH
       try clear qbG
       try clear qbF
       try clear qbE
       try clear qbD
       try clear qbC
       try clear qbB
       try clear qcE
       try clear qcD
       try clear qdR
       try clear qdQ
       try clear qdP
       try clear qdO
       try clear qdN
       try clear qnS
       try clear qnR
       try clear qnQ
       try clear qnP
       try clear qnO
       try clear qnN
       try clear qnM
       try clear qkl
       try clear qkk
       try clear qkj
       try clear qki
       try clear qkh
       try clear qkg
       try clear qkf
       try clear Js
       try clear Zo
       try clear qaZ
       try clear qaY
       try clear qaX
       try clear qaW
       try clear qaV
       try clear JY
       try clear Yk
       try clear qbA
       try clear qbz
       try clear qby
       try clear qbx
       try clear qbw
       try clear QM
       try clear JN
       try clear Xv
       try clear Xu
       try clear Xt
       try clear Xs
       try clear Xr
       try clear XU
       try clear qaH
       try clear qcB
       try clear qcA
       try clear qcz
       try clear qcy
       try clear qcx
       try clear YS
       try clear Xq
       try clear qbv
       try clear qbu
       try clear qbt
       try clear qbs
       try clear qbr
       try clear YR
       try clear YQ
       try clear qcu
       try clear qct
       try clear qcs
       try clear qcr
       try clear qcq
       try clear XT
       try clear qbq
       try clear qco
       try clear qcn
       try clear qcm
       try clear qcl
       try clear qck
       try clear qfx
       try clear qg3
       try clear qg2
       try clear qg1
       try clear qg0
       try clear qgZ
       try clear qgY
       try clear qdD
       try clear qdC
       try clear qfw
       try clear qfv
       try clear qfu
       try clear qft
       try clear qfs
       try clear qbp
       try clear qbo
       try clear qbn
       try clear qbm
       try clear qbl
       try clear qbk
       try clear qbj
       try clear qcj
       try clear qci
       try clear qdB
       try clear qdA
       try clear qdz
       try clear qdy
       try clear qdx
       try clear qm0
       try clear qmZ
       try clear qmY
       try clear qmX
       try clear qmW
       try clear qmV
       try clear qmU
       try clear qjs
       try clear qjr
       try clear qjq
       try clear qjp
       try clear qjo
       try clear qjn
       try clear qjm
       try clear Jr
       try clear Zn
       try clear qaU
       try clear qaT
       try clear qaS
       try clear qaR
       try clear qaQ
       try clear zs
       try clear zZ
       try clear p1
       try clear p10
       try clear yX
       try clear Qk
       try clear p2
       try clear q1
       try clear q10
       try clear yW
       try clear Qj
       obtain ⟨kq, Yx, rfl, HA, qpt, qc, HB⟩ := hcut
       cases kq with
       | zero => exact absurd HA.out (by simp [qM.j2])
       | succ qiX =>
        have H := HA.out
        clear HA
        simp only [qM.j2] at H
        have qpu := ak H
        clear H
        go_upto_region 7 with (fail)
        go_cut [5] (fun v5 wc => ∃ (kq : Nat) (Xl : Bool), v5 = .bool Xl ∧ Aside0 (qM.j3 kq YN Yx Xl qd qu qH qF qA qt qo = some r) ∧ Aside0 (kq ≤ qiX) ∧ Aside0 (wc.heap[qi]? = some (.cells #[(.slice qq qd.length qp), .int .i64 qu, .int .i64 qH, .int .i64 qF, (.slice jC qA.length jB), (.slice jK qt.length jJ), (.slice jM qo.length jL)] 33 (0, 0))) ∧ Aside0 (Below w.heap.size w wc))
        case first =>
         have H := qpu.out
         clear qpu
         by_cases c41 : (qA.length : Int) = 0
         ·rw [if_pos c41] at H
          have c41b0 : ((qA.length : Int) == 0) = true := beq_iff_eq.mpr c41
          have c41b1 : ((qA.length : Int) != 0) = false := bne_eq_false_iff_eq.mpr c41
          clear c41
          (first | rw [c41b0] | (simp only [i64_w, i32_w]; rw [c41b0]) | skip)
          have H' := ak H
          clear H
          obtain ⟨qke, qnL, qnK, qnJ, qnI, qnH, qnG, qjl, qmT, qmS, qmR, qmQ, qmP, qmO⟩ := cells7 qc.out
          go_wp2
          go_meet
          case rel => exact ⟨_, (true), (by first | rfl | (simp; done) | (simp [*]; done)), H', ⟨by have := HJ1.out; have := qk2.out; have := qpt.out; first | omega | exact Nat.le_refl _⟩, ⟨bk qc.out⟩, ⟨bw HB.out⟩⟩
         ·rw [if_neg c41] at H
          have c41b0 : ((qA.length : Int) == 0) = false := beq_eq_false_iff_ne.mpr c41
          have c41b1 : ((qA.length : Int) != 0) = true := bne_iff_ne.mpr c41
          have c41b2 : ¬ (qA = []) := fun h_ => c41 (by rw [h_]; rfl)
          (first | rw [c41b0] | (simp only [i64_w, i32_w]; rw [c41b0]) | skip)
          replace H := Option.bind_eq_some_iff.mp H
          obtain ⟨jS, quJ, H⟩ := H
          replace H : (if jS = true then ((jf.f qA).bind fun zb => (qM.j3 qiX YN Yx zb qd qu qH qF qA qt qo)) else (qM.j3 qiX YN Yx false qd qu qH qF qA qt qo)) = some r := H
          have A43 := ak quJ
          clear quJ
          by_cases c44 : jS = true
          ·subst c44
           have H1 : ((jf.f qA).bind fun zb => (qM.j3 qiX YN Yx zb qd qu qH qF qA qt qo)) = some r := by rw [if_pos rfl] at H; exact H
           clear H
           have H := H1
           clear H1
           replace H := Option.bind_eq_some_iff.mp H
           obtain ⟨zb, quI, H⟩ := H
           replace H : (qM.j3 qiX YN Yx zb qd qu qH qF qA qt qo) = some r := H
           have A45 := ak quI
           clear quI
           have H' := ak H
           clear H
           obtain ⟨qkd, qkc, qkb, qka, qj9, qj8, qj7, qjk, qjj, qji, qjh, qjg, qjf, qje⟩ := cells7 qc.out
           go_wp2_with (first | (go_at_call 85; (with_reducible refine (Zz.calls qu true _ A43.out).mono ?_); rintro e w' ⟨rfl, ⟨nd, rfl⟩⟩) | (go_at_call 74; (with_reducible refine (jf.calls _ _ qA zb _ ?qk ?qj A45.out).mono ?_); (case qk => repeat (first | exact (Kd.C_below Jo.out (bw HB.out)) | (with_reducible refine Kd.C_alloc ?_ _) | (with_reducible refine Kd.C_drewN ?_ _) | (with_reducible refine Kd.C_drew ?_))); (case qj => exact Jp.out); rintro e w47 ⟨rfl, hb⟩; replace qc := ak (blk_below (bk qc.out) hb); replace HB := ak (below_step (bw HB.out) hb); (try clear hb)))
           go_meet
           case rel => exact ⟨_, (zb), (by first | rfl | (simp; done) | (simp [*]; done)), H', ⟨by have := HJ1.out; have := qk2.out; have := qpt.out; first | omega | exact Nat.le_refl _⟩, ⟨bk qc.out⟩, ⟨bw HB.out⟩⟩
          ·replace c44 := Bool.eq_false_iff.mpr c44
           subst c44
           have H1 : (qM.j3 qiX YN Yx false qd qu qH qF qA qt qo) = some r := by rw [if_neg (show ¬ (false = true) by decide)] at H; exact H
           clear H
           have H := H1
           clear H1
           have H' := ak H
           clear H
           obtain ⟨qj6, qj5, qj4, qj3, qj2, qj1, qj0, qjd, qjc, qjb, qja, qi9, qi8, qi7⟩ := cells7 qc.out
           go_wp2_with (first | (go_at_call 85; (with_reducible refine (Zz.calls qu false _ A43.out).mono ?_); rintro e w' ⟨rfl, ⟨nd, rfl⟩⟩))
           go_meet
           case rel => exact ⟨_, (false), (by first | rfl | (simp; done) | (simp [*]; done)), H', ⟨by have := HJ1.out; have := qk2.out; have := qpt.out; first | omega | exact Nat.le_refl _⟩, ⟨bk qc.out⟩, ⟨bw HB.out⟩⟩
        case rest =>
         clear qpu
         try clear p1
         try clear q1
         try clear hx1
         try clear qi1
         try clear c2
         try clear p2
         try clear c3
         try clear c4
         try clear c5
         try clear c6
         try clear c7
         try clear p10
         try clear q10
         try clear qoq
         try clear qtQ
         try clear c20
         try clear c23
         try clear c23b0
         try clear c23b1
         try clear c24
         try clear c24b0
         try clear c24b1
         try clear c25
         try clear c25b0
         try clear c25b1
         try clear c27
         try clear c28
         try clear c28b0
         try clear c28b1
         try clear c34
         try clear c34b0
         try clear c34b1
         try clear c36
         try clear c36b0
         try clear c36b1
         try clear c41
         try clear c41b0
         try clear c41b1
         try clear c41b2
         try clear c44
         try clear JZ
         try clear Yl
         try clear qbS
         try clear qbR
         try clear qbQ
         try clear qbP
         try clear qbO
         try clear QN
         try clear JO
         try clear XB
         try clear XA
         try clear Xz
         try clear Xy
         try clear Xx
         try clear XW
         try clear qaJ
         try clear qcW
         try clear qcV
         try clear qcU
         try clear qcT
         try clear qcS
         try clear YV
         try clear Xw
         try clear qbN
         try clear qbM
         try clear qbL
         try clear qbK
         try clear qbJ
         try clear YU
         try clear YT
         try clear qcP
         try clear qcO
         try clear qcN
         try clear qcM
         try clear qcL
         try clear XV
         try clear qbI
         try clear qcJ
         try clear qcI
         try clear qcH
         try clear qcG
         try clear qcF
         try clear qfQ
         try clear qhm
         try clear qhl
         try clear qhk
         try clear qhj
         try clear qhi
         try clear qhh
         try clear qdT
         try clear qdS
         try clear qfP
         try clear qfO
         try clear qfN
         try clear qfM
         try clear qfL
         try clear qbH
         try clear qbG
         try clear qbF
         try clear qbE
         try clear qbD
         try clear qbC
         try clear qbB
         try clear qcE
         try clear qcD
         try clear qdR
         try clear qdQ
         try clear qdP
         try clear qdO
         try clear qdN
         try clear qnS
         try clear qnR
         try clear qnQ
         try clear qnP
         try clear qnO
         try clear qnN
         try clear qnM
         try clear qkl
         try clear qkk
         try clear qkj
         try clear qki
         try clear qkh
         try clear qkg
         try clear qkf
         try clear qke
         try clear qnL
         try clear qnK
         try clear qnJ
         try clear qnI
         try clear qnH
         try clear qnG
         try clear qkd
         try clear qkc
         try clear qkb
         try clear qka
         try clear qj9
         try clear qj8
         try clear qj7
         try clear qj6
         try clear qj5
         try clear qj4
         try clear qj3
         try clear qj2
         try clear qj1
         try clear qj0
         try clear Js
         try clear Zo
         try clear qaZ
         try clear qaY
         try clear qaX
         try clear qaW
         try clear qaV
         try clear JY
         try clear Yk
         try clear qbA
         try clear qbz
         try clear qby
         try clear qbx
         try clear qbw
         try clear QM
         try clear JN
         try clear Xv
         try clear Xu
         try clear Xt
         try clear Xs
         try clear Xr
         try clear XU
         try clear qaH
         try clear qcB
         try clear qcA
         try clear qcz
         try clear qcy
         try clear qcx
         try clear YS
         try clear Xq
         try clear qbv
         try clear qbu
         try clear qbt
         try clear qbs
         try clear qbr
         try clear YR
         try clear YQ
         try clear qcu
         try clear qct
         try clear qcs
         try clear qcr
         try clear qcq
         try clear XT
         try clear qbq
         try clear qco
         try clear qcn
         try clear qcm
         try clear qcl
         try clear qck
         try clear qfx
         try clear qg3
         try clear qg2
         try clear qg1
         try clear qg0
         try clear qgZ
         try clear qgY
         try clear qdD
         try clear qdC
         try clear qfw
         try clear qfv
         try clear qfu
         try clear qft
         try clear qfs
         try clear qbp
         try clear qbo
         try clear qbn
         try clear qbm
         try clear qbl
         try clear qbk
         try clear qbj
         try clear qcj
         try clear qci
         try clear qdB
         try clear qdA
         try clear qdz
         try clear qdy
         try clear qdx
         try clear qm0
         try clear qmZ
         try clear qmY
         try clear qmX
         try clear qmW
         try clear qmV
         try clear qmU
         try clear qjs
         try clear qjr
         try clear qjq
         try clear qjp
         try clear qjo
         try clear qjn
         try clear qjm
         try clear qjl
         try clear qmT
         try clear qmS
         try clear qmR
         try clear qmQ
         try clear qmP
         try clear qmO
         try clear qjk
         try clear qjj
         try clear qji
         try clear qjh
         try clear qjg
         try clear qjf
         try clear qje
         try clear qjd
         try clear qjc
         try clear qjb
         try clear qja
         try clear qi9
         try clear qi8
         try clear qi7
         try clear Jr
         try clear Zn
         try clear qaU
         try clear qaT
         try clear qaS
         try clear qaR
         try clear qaQ
         try clear zs
         try clear zZ
         try clear p1
         try clear p10
         try clear yX
         try clear Qk
         try clear p2
         try clear q1
         try clear q10
         try clear yW
         try clear Qj
         obtain ⟨kq, Xl, rfl, HA, qEI, qc, HB⟩ := hcut
         cases kq with
         | zero => exact absurd HA.out (by simp [qM.j3])
         | succ qEw =>
          have H := HA.out
          clear HA
          simp only [qM.j3] at H
          by_cases c49 : (qt.length : Int) = 0
          ·rw [if_pos c49] at H
           have c49b0 : ((qt.length : Int) == 0) = true := beq_iff_eq.mpr c49
           have c49b1 : ((qt.length : Int) != 0) = false := bne_eq_false_iff_eq.mpr c49
           clear c49
           by_cases c50 : YN = true
           ·subst c50
            have H1 : (if Yx = true then (if Xl = true then (some true) else (some false)) else (some false)) = some r := by rw [if_pos rfl] at H; exact H
            clear H
            have H := H1
            clear H1
            by_cases c51 : Yx = true
            ·subst c51
             have H1 : (if Xl = true then (some true) else (some false)) = some r := by rw [if_pos rfl] at H; exact H
             clear H
             have H := H1
             clear H1
             by_cases c52 : Xl = true
             ·subst c52
              have H1 : (some true) = some r := by rw [if_pos rfl] at H; exact H
              clear H
              have H := H1
              clear H1
              obtain rfl := Option.some.inj H
              obtain ⟨qnF, qnE, qsW, qsV, qsU, qsT, qsS, qmN, qmM, qrh, qrg, qrf, qre, qrd⟩ := cells7 qc.out
              go_wp2
              go_ret
              exact ⟨by first | rfl | (simp [errW_none, errW_some] <;> rfl) | (simp [*, errW_none, errW_some] <;> rfl), bw HB.out⟩
             ·replace c52 := Bool.eq_false_iff.mpr c52
              subst c52
              have H1 : (some false) = some r := by rw [if_neg (show ¬ (false = true) by decide)] at H; exact H
              clear H
              have H := H1
              clear H1
              obtain rfl := Option.some.inj H
              obtain ⟨qsR, qsQ, qsP, qsO, qsN, qsM, qsL, qrc, qrb, qra, qq9, qq8, qq7, qq6⟩ := cells7 qc.out
              go_wp2
              go_ret
              exact ⟨by first | rfl | (simp [errW_none, errW_some] <;> rfl) | (simp [*, errW_none, errW_some] <;> rfl), bw HB.out⟩
            ·replace c51 := Bool.eq_false_iff.mpr c51
             subst c51
             have H1 : (some false) = some r := by rw [if_neg (show ¬ (false = true) by decide)] at H; exact H
             clear H
             have H := H1
             clear H1
             obtain rfl := Option.some.inj H
             obtain ⟨qsK, qsJ, qsI, qsH, qsG, qsF, qsE, qq5, qq4, qq3, qq2, qq1, qq0, qqZ⟩ := cells7 qc.out
             go_wp2
             go_ret
             exact ⟨by first | rfl | (simp [errW_none, errW_some] <;> rfl) | (simp [*, errW_none, errW_some] <;> rfl), bw HB.out⟩
           ·replace c50 := Bool.eq_false_iff.mpr c50
            subst c50
            have H1 : (some false) = some r := by rw [if_neg (show ¬ (false = true) by decide)] at H; exact H
            clear H
            have H := H1
            clear H1
            obtain rfl := Option.some.inj H
            obtain ⟨qsD, qsC, qBn, qBm, qBl, qBk, qBj, qqY, qqX, qyK, qyJ, qyI, qyH, qyG⟩ := cells7 qc.out
            go_wp2
            go_ret
            exact ⟨by first | rfl | (simp [errW_none, errW_some] <;> rfl) | (simp [*, errW_none, errW_some] <;> rfl), bw HB.out⟩
          ·rw [if_neg c49] at H
           have c49b0 : ((qt.length : Int) == 0) = false := beq_eq_false_iff_ne.mpr c49
           have c49b1 : ((qt.length : Int) != 0) = true := bne_iff_ne.mpr c49
           have c49b2 : ¬ (qt = []) := fun h_ => c49 (by rw [h_]; rfl)
           replace H := Option.bind_eq_some_iff.mp H
           obtain ⟨qh3, quE, H⟩ := H
           replace H : (if qh3 = true then (if YN = true then (if Yx = true then (if Xl = true then (some (decide ((qt.length : Int) ≤ 40))) else (some false)) else (some false)) else (some false)) else (if YN = true then (if Yx = true then (if Xl = true then (some false) else (some false)) else (some false)) else (some false))) = some r := H
           have A57 := ak quE
           clear quE
           by_cases c58 : qh3 = true
           ·subst c58
            have H1 : (if YN = true then (if Yx = true then (if Xl = true then (some (decide ((qt.length : Int) ≤ 40))) else (some false)) else (some false)) else (some false)) = some r := by rw [if_pos rfl] at H; exact H
            clear H
            have H := H1
            clear H1
            by_cases c59 : YN = true
            ·subst c59
             have H1 : (if Yx = true then (if Xl = true then (some (decide ((qt.length : Int) ≤ 40))) else (some false)) else (some false)) = some r := by rw [if_pos rfl] at H; exact H
             clear H
             have H := H1
             clear H1
             by_cases c60 : Yx = true
             ·subst c60
              have H1 : (if Xl = true then (some (decide ((qt.length : Int) ≤ 40))) else (some false)) = some r := by rw [if_pos rfl] at H; exact H
              clear H
              have H := H1
              clear H1
              by_cases c61 : Xl = true
              ·subst c61
               have H1 : (some (decide ((qt.length : Int) ≤ 40))) = some r := by rw [if_pos rfl] at H; exact H
               clear H
               have H := H1
               clear H1
               obtain rfl := Option.some.inj H
               obtain ⟨qsp, qso, qsn, qsm, qsl, qsk, qsj, qqK, qqJ, qqI, qqH, qqG, qqF, qqE⟩ := cells7 qc.out
               go_wp2_with (first | (go_at_call 139; (with_reducible refine (Qm.calls qu true _ A57.out).mono ?_); rintro e w' ⟨rfl, ⟨nd, rfl⟩⟩))
               go_ret
               exact ⟨by first | rfl | (simp [errW_none, errW_some] <;> rfl) | (simp [*, errW_none, errW_some] <;> rfl), bw HB.out⟩
              ·replace c61 := Bool.eq_false_iff.mpr c61
               subst c61
               have H1 : (some false) = some r := by rw [if_neg (show ¬ (false = true) by decide)] at H; exact H
               clear H
               have H := H1
               clear H1
               obtain rfl := Option.some.inj H
               obtain ⟨qjZ, qjY, qjX, qjW, qjV, qjU, qjT, qi6, qi5, qi4, qi3, qi2, qi0, qiZ⟩ := cells7 qc.out
               go_wp2_with (first | (go_at_call 139; (with_reducible refine (Qm.calls qu true _ A57.out).mono ?_); rintro e w' ⟨rfl, ⟨nd, rfl⟩⟩))
               go_ret
               exact ⟨by first | rfl | (simp [errW_none, errW_some] <;> rfl) | (simp [*, errW_none, errW_some] <;> rfl), bw HB.out⟩
             ·replace c60 := Bool.eq_false_iff.mpr c60
              subst c60
              have H1 : (some false) = some r := by rw [if_neg (show ¬ (false = true) by decide)] at H; exact H
              clear H
              have H := H1
              clear H1
              obtain rfl := Option.some.inj H
              obtain ⟨qnB, qnA, qBg, qBf, qBe, qBd, qBc, qmJ, qmI, qyD, qyC, qyB, qyA, qyz⟩ := cells7 qc.out
              go_wp2_with (first | (go_at_call 139; (with_reducible refine (Qm.calls qu true _ A57.out).mono ?_); rintro e w' ⟨rfl, ⟨nd, rfl⟩⟩))
              go_ret
              exact ⟨by first | rfl | (simp [errW_none, errW_some] <;> rfl) | (simp [*, errW_none, errW_some] <;> rfl), bw HB.out⟩
            ·replace c59 := Bool.eq_false_iff.mpr c59
             subst c59
             have H1 : (some false) = some r := by rw [if_neg (show ¬ (false = true) by decide)] at H; exact H
             clear H
             have H := H1
             clear H1
             obtain rfl := Option.some.inj H
             obtain ⟨qBb, qBa, qA9, qA8, qA7, qA6, qA5, qyy, qyx, qyw, qyv, qyu, qyt, qys⟩ := cells7 qc.out
             go_wp2_with (first | (go_at_call 139; (with_reducible refine (Qm.calls qu true _ A57.out).mono ?_); rintro e w' ⟨rfl, ⟨nd, rfl⟩⟩))
             go_ret
             exact ⟨by first | rfl | (simp [errW_none, errW_some] <;> rfl) | (simp [*, errW_none, errW_some] <;> rfl), bw HB.out⟩
           ·replace c58 := Bool.eq_false_iff.mpr c58
            subst c58
            have H1 : (if YN = true then (if Yx = true then (if Xl = true then (some false) else (some false)) else (some false)) else (some false)) = some r := by rw [if_neg (show ¬ (false = true) by decide)] at H; exact H
            clear H
            have H := H1
            clear H1
            by_cases c66 : YN = true
            ·subst c66
             have H1 : (if Yx = true then (if Xl = true then (some false) else (some false)) else (some false)) = some r := by rw [if_pos rfl] at H; exact H
             clear H
             have H := H1
             clear H1
             by_cases c67 : Yx = true
             ·subst c67
              have H1 : (if Xl = true then (some false) else (some false)) = some r := by rw [if_pos rfl] at H; exact H
              clear H
              have H := H1
              clear H1
              by_cases c68 : Xl = true
              ·subst c68
               have H1 : (some false) = some r := by rw [if_pos rfl] at H; exact H
               clear H
               have H := H1
               clear H1
               obtain rfl := Option.some.inj H
               obtain ⟨qr6, qr5, qA4, qA3, qA2, qA1, qA0, qqr, qqq, qyr, qyq, qyp, qyo, qyn⟩ := cells7 qc.out
               go_wp2_with (first | (go_at_call 139; (with_reducible refine (Qm.calls qu false _ A57.out).mono ?_); rintro e w' ⟨rfl, ⟨nd, rfl⟩⟩))
               go_ret
               exact ⟨by first | rfl | (simp [errW_none, errW_some] <;> rfl) | (simp [*, errW_none, errW_some] <;> rfl), bw HB.out⟩
              ·replace c68 := Bool.eq_false_iff.mpr c68
               subst c68
               have H1 : (some false) = some r := by rw [if_neg (show ¬ (false = true) by decide)] at H; exact H
               clear H
               have H := H1
               clear H1
               obtain rfl := Option.some.inj H
               obtain ⟨qr4, qr3, qr2, qr1, qr0, qrZ, qrY, qqp, qqo, qqn, qqm, qql, qqk, qqj⟩ := cells7 qc.out
               go_wp2_with (first | (go_at_call 139; (with_reducible refine (Qm.calls qu false _ A57.out).mono ?_); rintro e w' ⟨rfl, ⟨nd, rfl⟩⟩))
               go_ret
               exact ⟨by first | rfl | (simp [errW_none, errW_some] <;> rfl) | (simp [*, errW_none, errW_some] <;> rfl), bw HB.out⟩
             ·replace c67 := Bool.eq_false_iff.mpr c67
              subst c67
              have H1 : (some false) = some r := by rw [if_neg (show ¬ (false = true) by decide)] at H; exact H
              clear H
              have H := H1
              clear H1
              obtain rfl := Option.some.inj H
              obtain ⟨qnx, qnw, qnv, qnu, qnt, qns, qnr, qmF, qmE, qmD, qmC, qmB, qmA, qmz⟩ := cells7 qc.out
              go_wp2_with (first | (go_at_call 139; (with_reducible refine (Qm.calls qu false _ A57.out).mono ?_); rintro e w' ⟨rfl, ⟨nd, rfl⟩⟩))
              go_ret
              exact ⟨by first | rfl | (simp [errW_none, errW_some] <;> rfl) | (simp [*, errW_none, errW_some] <;> rfl), bw HB.out⟩
            ·replace c66 := Bool.eq_false_iff.mpr c66
             subst c66
             have H1 : (some false) = some r := by rw [if_neg (show ¬ (false = true) by decide)] at H; exact H
             clear H
             have H := H1
             clear H1
             obtain rfl := Option.some.inj H
             obtain ⟨qAZ, qAY, qAX, qAW, qAV, qAU, qAT, qym, qyl, qyk, qyj, qyi, qyh, qyg⟩ := cells7 qc.out
             go_wp2_with (first | (go_at_call 139; (with_reducible refine (Qm.calls qu false _ A57.out).mono ?_); rintro e w' ⟨rfl, ⟨nd, rfl⟩⟩))
             go_ret
             exact ⟨by first | rfl | (simp [errW_none, errW_some] <;> rfl) | (simp [*, errW_none, errW_some] <;> rfl), bw HB.out⟩


/-! ### zY: function 223 -/

/-- Where the first element stands of which q holds; -1: nowhere. -/
def zY.idx (q : S33 → Option Bool) : List S33 → Int → Option Int
 | [], _ => some (-1)
 | x :: l, i => (q x).bind fun b => if b = true then some i else zY.idx q l (i + 1)
set_option maxHeartbeats 2000000 in
theorem zY.calls (g : Nat) (lb : Array Value) (eg : ∀ args w, (callFunc g args).run Try.prog w = .ok (.enter g args) w) (q : S33 → Option Bool) (A0 : Option Addr) (c0 : Nat) (l0 : List S33) (r : Int) (w : World) (hr0 : Kd.C k33 w A0 l0.length l0)
  (hp : ∀ (W : World) (cs : List Value) (x : S33) (b : Bool), Below w.heap.size w W → k33.K W x cs → q x = some b → Calls Try.prog g (#[.agg cs.toArray] ++ lb) W fun e w' => e = .returned (.bool b) ∧ Below W.heap.size W w') (h : zY.idx q l0 0 = some r) :
  Calls Try.prog 223 #[.slice A0 l0.length c0, .func (.func g) #[] lb] w fun e w' => e = .returned (.int .i64 r) ∧ Below w.heap.size w w' := by
 have HR0 := ak hr0
 have hbig : l0.length ≤ 9223372036854775807 := hr0.2.1
 have HP := ak hp
 have HX := ak h
 clear hr0 hp h
 go_enter Try.func223, Try.ntmps223
 go_wp2
 go_loopg [5, 8] l0.length (fun gg _ s8 wr => ∃ kk : Nat, kk ≤ l0.length ∧ l0.length - kk ≤ gg ∧ s8 = .int .i64 kk ∧ Aside0 (Below w.heap.size w wr) ∧ Aside0 (zY.idx q (l0.drop kk) (kk : Int) = some r))
 case atStart => exact ⟨0, Nat.zero_le _, by omega, rfl, ⟨Below.refl _ w⟩, ⟨by simpa using HX.out⟩⟩
 case round =>
  clear HX
  obtain ⟨kk, hkk, hg, rfl, BW, AF⟩ := hrel
  by_cases hlt : kk < l0.length
  ·obtain ⟨ad, c, rfl, hcl, hK, hcc⟩ := Kd.C_get HR0.out z33 (kk : Int) (by omega) (by omega)
   have hcl : c.length = 7 := hcl
   obtain ⟨x0, x1, x2, x3, x4, x5, x6, rfl⟩ : ∃ x0 x1 x2 x3 x4 x5 x6 : Value, c = [x0, x1, x2, x3, x4, x5, x6] := by
    match c, hcl with
    | [x0, x1, x2, x3, x4, x5, x6], _ => exact ⟨x0, x1, x2, x3, x4, x5, x6, rfl⟩
   have hK1 := k33.K_below BW.out hK
   have hcc : ∀ j u, [x0, x1, x2, x3, x4, x5, x6][j]? = some u → wr.cell? (ad.add (kk * 7 + j)) = some u := fun j u hj => by
    have := hcc j u hj
    rw [show ((kk : Int)).toNat = kk from by omega] at this
    exact hc_ BW.out this
   have hx : l0.drop kk = l0.getD ((kk : Int)).toNat z33 :: l0.drop (kk + 1) := by
    rw [List.drop_eq_getElem_cons hlt, show ((kk : Int)).toNat = kk from by omega]; simp [List.getD_eq_getElem?_getD, hlt]
   have AF1 := AF.out
   rw [hx] at AF1
   simp only [zY.idx] at AF1
   clear AF hx hK
   generalize l0.getD ((kk : Int)).toNat z33 = y at hK1 AF1
   obtain ⟨b, hb, AF2⟩ := Option.bind_eq_some_iff.1 AF1
   clear AF1
   have hcall := (HP.out wr _ y b BW.out hK1 hb).mono (fun e w' (h : e = .returned (.bool b) ∧ Below wr.heap.size wr w') => (⟨h.1, below_step BW.out h.2⟩ : e = .returned (.bool b) ∧ Below w.heap.size w w'))
   clear hK1 hb
   have hc0 : wr.cell? (ad.add (kk * 7)) = some x0 := by simpa using hcc 0 _ rfl
   have hc1 : wr.cell? ⟨(ad.add (kk * 7)).block, (ad.add (kk * 7)).off + 1, none⟩ = some x1 := by rw [← add_field _ _ 1 (by omega)]; exact hcc 1 _ rfl
   have hc2 : wr.cell? ⟨(ad.add (kk * 7)).block, (ad.add (kk * 7)).off + 2, none⟩ = some x2 := by rw [← add_field _ _ 2 (by omega)]; exact hcc 2 _ rfl
   have hc3 : wr.cell? ⟨(ad.add (kk * 7)).block, (ad.add (kk * 7)).off + 3, none⟩ = some x3 := by rw [← add_field _ _ 3 (by omega)]; exact hcc 3 _ rfl
   have hc4 : wr.cell? ⟨(ad.add (kk * 7)).block, (ad.add (kk * 7)).off + 4, none⟩ = some x4 := by rw [← add_field _ _ 4 (by omega)]; exact hcc 4 _ rfl
   have hc5 : wr.cell? ⟨(ad.add (kk * 7)).block, (ad.add (kk * 7)).off + 5, none⟩ = some x5 := by rw [← add_field _ _ 5 (by omega)]; exact hcc 5 _ rfl
   have hc6 : wr.cell? ⟨(ad.add (kk * 7)).block, (ad.add (kk * 7)).off + 6, none⟩ = some x6 := by rw [← add_field _ _ 6 (by omega)]; exact hcc 6 _ rfl
   clear hcc
   have hltz : (kk : Int) < (l0.length : Int) := by omega
   cases b with
   | true =>
    go_wp2_with (go_at_fn g; refine hcall.mono ?_; rintro e w' ⟨rfl, hb'⟩)
    go_ret
    refine ⟨?_, hb'⟩
    have := Option.some.inj AF2
    rw [← this]; rfl
   | false =>
    have AF3 := ak AF2
    clear AF2
    go_wp2_with (go_at_fn g; refine hcall.mono ?_; rintro e w' ⟨rfl, hb'⟩)
    go_roundg (l0.length - (kk + 1))
    case measure => omega
    case rel => exact ⟨kk + 1, by omega, by omega, by go_num, ⟨hb'⟩, ⟨by have := AF3.out; simpa using this⟩⟩
  ·have hltz : ¬ (kk : Int) < (l0.length : Int) := by omega
   have AF1 := AF.out
   rw [List.drop_of_length_le (by omega)] at AF1
   have := Option.some.inj AF1
   clear AF AF1
   go_wp2
   go_ret
   exact ⟨by rw [← this]; rfl, BW.out⟩


/-! ### qh0: function 172 -/

set_option maxHeartbeats 2000000 in
theorem qh0.calls (g : Nat) (lb : Array Value) (eg : ∀ args w, (callFunc g args).run Try.prog w = .ok (.enter g args) w) (q : S33 → Option Bool) (A0 : Option Addr) (c0 : Nat) (l0 : List S33) (r : Int) (w : World) (hr0 : Kd.C k33 w A0 l0.length l0)
  (hp : ∀ (W : World) (cs : List Value) (x : S33) (b : Bool), Below w.heap.size w W → k33.K W x cs → q x = some b → Calls Try.prog g (#[.agg cs.toArray] ++ lb) W fun e w' => e = .returned (.bool b) ∧ Below W.heap.size W w') (h : zY.idx q l0 0 = some r) :
  Calls Try.prog 172 #[.slice A0 l0.length c0, .func (.func g) #[] lb] w fun e w' => e = .returned (.bool (decide (0 ≤ r))) ∧ Below w.heap.size w w' := by
 have hc := zY.calls g lb eg q A0 c0 l0 r w hr0 hp h
 clear hp hr0 h
 go_enter Try.func172, Try.ntmps172
 go_wp2_with (go_at_call 223; refine hc.mono ?_; rintro e w' ⟨rfl, hb'⟩)
 go_ret
 exact ⟨rfl, hb'⟩


/-! ### qk7: function 173 -/

set_option maxHeartbeats 2000000 in
/-- What is handed to ContainsFunc: the predicate's contrary; the predicate lies in a variable. -/
theorem qk7.calls (g : Nat) (lb : Array Value) (eg : ∀ args w, (callFunc g args).run Try.prog w = .ok (.enter g args) w) (q : Bool) (x : S33) (cs : List Value) (B : Nat) (w : World) (hK : k33.K w x cs) (hv : w.cell? ⟨B, 0, none⟩ = some (.func (.func g) #[] lb))
  (hp : ∀ W : World, Below w.heap.size w W → Calls Try.prog g (#[.agg cs.toArray] ++ lb) W fun e w' => e = .returned (.bool q) ∧ Below W.heap.size W w') :
  Calls Try.prog 173 #[.agg cs.toArray, .pointer (some ⟨B, 0, none⟩)] w fun e w' => e = .returned (.bool (!q)) ∧ Below w.heap.size w w' := by
 obtain ⟨A0, c0, A4, c4, A5, c5, A6, c6, rfl, l0, g0, l4, g4, l5, g5, l6, g6⟩ := k33_open hK
 have HB := ak (Below.refl w.heap.size w)
 have HV := ak hv
 have HP := ak hp
 clear hK hv hp l0 g0 l4 g4 l5 g5 l6 g6
 go_enter Try.func173, Try.ntmps173
 go_wp2_with (first | ((with_reducible refine gate_dst (N := 2) rfl ?_); refine boxed (N := 2) rfl rfl (cs := #[.slice A0 x.f0.f0.length c0, .int .i64 x.f1, .int .i64 x.f2, .int .i64 x.f3, .slice A4 x.f4.f0.length c4, .slice A5 x.f5.length c5, .slice A6 x.f6.length c6]) (t := 33) HB.out (by first | (go_simp; done) | (go_simp; rfl)) ?_; clear HB; intro gb w2 hg HB BK GE hb; clear hg hb; obtain ⟨hz0, hz1, hz2, hz3, hz4, hz5, hz6, hf0, hf1, hf2, hf3, hf4, hf5, hf6⟩ := cells7 BK.out; have hv := (HB.out.cell (World.block_lt_of_cell? w _ HV.out)).trans HV.out) | (go_at_fn g; refine (HP.out _ HB.out).mono ?_; rintro e w3 ⟨rfl, hb⟩))
 go_ret
 exact ⟨rfl, below_step HB.out hb⟩


/-! ### yq: function 100 -/

def yq.q (k : Nat) (x : S33) : Option Bool := qM.f k x.f0.f0 x.f1 x.f2 x.f3 x.f4.f0 x.f5 x.f6
def yq.f (k : Nat) (l0 : List S33) : Option Bool := (zY.idx (fun x => (yq.q k x).map (fun b => !b)) l0 0).map fun r => !decide (0 ≤ r)
set_option maxHeartbeats 2000000 in
theorem yq.any (g : Nat) (lb : Array Value) (eg : ∀ args w, (callFunc g args).run Try.prog w = .ok (.enter g args) w) (q : S33 → Option Bool) (A0 : Option Addr) (c0 : Nat) (l0 : List S33) (r : Int) (w : World) (hr0 : Kd.C k33 w A0 l0.length l0)
  (hp : ∀ (W : World) (cs : List Value) (x : S33) (b : Bool), Below w.heap.size w W → k33.K W x cs → q x = some b → Calls Try.prog g (#[.agg cs.toArray] ++ lb) W fun e w' => e = .returned (.bool b) ∧ Below W.heap.size W w') (h : zY.idx (fun x => (q x).map (fun b => !b)) l0 0 = some r) :
  Calls Try.prog 100 #[.slice A0 l0.length c0, .func (.func g) #[] lb] w fun e w' => e = .returned (.bool (!decide (0 ≤ r))) ∧ Below w.heap.size w w' := by
 have eg2 : ∀ args w, (callFunc 173 args).run Try.prog w = .ok (.enter 173 args) w := enters_of Try.func173 (by kernel_rfl) rfl
 have hb0 : Below w.heap.size w (w.alloc (.cells #[.func (.func g) #[] lb] 97)) := below_alloc (Below.refl _ _) _
 have hc := qh0.calls 173 #[.pointer (some ⟨w.heap.size, 0, none⟩)] eg2 (fun x => (q x).map (fun b => !b)) A0 c0 l0 r (w.alloc (.cells #[.func (.func g) #[] lb] 97)) (Kd.C_below hr0 hb0) (fun W cs x b hW hK hq => by
  obtain ⟨b', hb', rfl⟩ := Option.map_eq_some_iff.1 hq
  exact qk7.calls g lb eg b' x cs w.heap.size W hK ((hW.cell (p := ⟨w.heap.size, 0, none⟩) (by simp)).trans (by simp)) (fun W2 hW2 => hp W2 cs x b' ((hb0.trans (hW.mono (by simp))).trans (hW2.mono (hb0.trans (hW.mono (by simp))).size)) (k33.K_below hW2 hK) hb')) h
 clear hp hr0 h
 go_enter Try.func100, Try.ntmps100
 go_wp2_with (go_at_call 172; refine hc.mono ?_; rintro e w' ⟨rfl, hb'⟩)
 go_ret
 exact ⟨rfl, hb0.trans (hb'.mono (by simp))⟩
set_option maxHeartbeats 2000000 in
theorem yq.calls (k : Nat) (A0 : Option Addr) (c0 : Nat) (l0 : List S33) (r : Bool) (w : World) (hr0 : Kd.C k33 w A0 l0.length l0) (hc0 : l0.length ≤ c0) (h : yq.f k l0 = some r) :
  Calls Try.prog 100 #[.slice A0 l0.length c0, .func (.func 63) #[] #[]] w fun e w' => e = .returned (.bool r) ∧ Below w.heap.size w w' := by
 have eg : ∀ args w, (callFunc 63 args).run Try.prog w = .ok (.enter 63 args) w := enters_of Try.func63 (by kernel_rfl) rfl
 obtain ⟨i, hi, rfl⟩ := Option.map_eq_some_iff.1 h
 refine yq.any 63 #[] eg (yq.q k) A0 c0 l0 i w hr0 (fun W cs x b hW hK hq => ?_) hi
 obtain ⟨A0, c0, A4, c4, A5, c5, A6, c6, rfl, l0, g0, l4, g4, l5, g5, l6, g6⟩ := k33_open hK
 exact qM.calls k _ _ x.f0.f0 x.f1 x.f2 x.f3 _ _ x.f4.f0 _ _ x.f5 _ _ x.f6 b W g0 l0 g4 l4 g5 l5 g6 l6 hq


/-! ### jh: function 174 -/

def jh.v (p : List Int → List Int → Bool) (l0 l1 : List (List Int)) : Bool := decide (l0.length = l1.length) && (l0.zip l1).all fun z => p z.1 z.2
set_option maxHeartbeats 8000000 in
set_option maxRecDepth 100000 in
theorem jh.calls (g : Nat) (lb : Array Value) (eg : ∀ args w, (callFunc g args).run Try.prog w = .ok (.enter g args) w) (p : List Int → List Int → Bool) (A0 : Option Addr) (c0 : Nat) (l0 : List (List Int)) (A1 : Option Addr) (c1 : Nat) (l1 : List (List Int)) (w : World) (hr0 : Kd.C (Kd.slice 5 (Kd.int .u8)) w A0 l0.length l0) (hr1 : Kd.C (Kd.slice 5 (Kd.int .u8)) w A1 l1.length l1)
  (hp : ∀ (W : World) (A : Option Addr) (c : Nat) (x : List Int) (A' : Option Addr) (c' : Nat) (x' : List Int), Kd.C (Kd.int .u8) W A x.length x → x.length ≤ c → Kd.C (Kd.int .u8) W A' x'.length x' → x'.length ≤ c' → Calls Try.prog g (#[.slice A x.length c, .slice A' x'.length c'] ++ lb) W fun e w' => e = .returned (.bool (p x x')) ∧ Drawn0 W w') :
  Calls Try.prog 174 #[.slice A0 l0.length c0, .slice A1 l1.length c1, .func (.func g) #[] lb] w fun e w' => e = .returned (.bool (jh.v p l0 l1)) ∧ ∃ m, w' = w.drewN m := by
 have HR0 := ak hr0
 have HR1 := ak hr1
 have hbig : l0.length ≤ 9223372036854775807 := hr0.2.1
 have qEm : l1.length ≤ 9223372036854775807 := hr1.2.1
 have HP := ak hp
 clear hr0 hr1 hp
 by_cases hl : l0.length = l1.length
 ·have hne : (l0.length != l1.length) = false := by simp [hl]
  have hne' : ((l0.length : Int) != (l1.length : Int)) = false := by simp [hl]
  have HL := ak hl
  clear hl
  go_enter Try.func174, Try.ntmps174
  go_wp2
  go_loopg [17] l0.length (fun gg s17 wr => ∃ kk m : Nat, kk ≤ l0.length ∧ l0.length - kk ≤ gg ∧ s17 = .int .i64 kk ∧ wr = w.drewN m ∧ Aside0 (((l0.take kk).zip (l1.take kk)).all (fun z => p z.1 z.2) = true))
  case atStart => exact ⟨0, 0, Nat.zero_le _, by omega, rfl, rfl, ⟨by simp⟩⟩
  case round =>
   obtain ⟨kk, m, hkk, hg, rfl, rfl, AF⟩ := hrel
   by_cases hlt : kk < l0.length
   ·have qt3 : kk < l1.length := by have := HL.out; omega
    obtain ⟨ad, B0, d0, rfl, hcell, hd0, hC0⟩ := Ju HR0.out (kk : Int) (by omega) (by omega)
    obtain ⟨ad1, B1, d1, rfl, hcell1, hd1, hC1⟩ := Ju HR1.out (kk : Int) (by omega) (by omega)
    have hcall := HP.out (w.drewN m) B0 d0 (qP l0 (kk : Int)) B1 d1 (qP l1 (kk : Int)) (Kd.C_drewN hC0 m) hd0 (Kd.C_drewN hC1 m) hd1
    have hx : Aside0 ((l0.take (kk + 1)).zip (l1.take (kk + 1)) = (l0.take kk).zip (l1.take kk) ++ [(qP l0 (kk : Int), qP l1 (kk : Int))]) := ⟨by
     rw [List.take_succ_eq_append_getElem hlt, List.take_succ_eq_append_getElem qt3, List.zip_append (by simp; omega)]
     simp [qP, List.getD_eq_getElem?_getD, hlt, qt3]⟩
    clear hC0 hC1 hd0 hd1
    rw [show ((kk : Int)).toNat = kk from by omega] at hcell hcell1
    generalize qP l0 (kk : Int) = y at hcell hcall hx
    generalize qP l1 (kk : Int) = y1 at hcell1 hcall hx
    have hltz : (kk : Int) < (l0.length : Int) := by omega
    have qEl : (kk : Int) < (l1.length : Int) := by omega
    cases hq : p y y1 with
    | true =>
     rw [hq] at hcall
     go_wp2_with (go_at_fn g; refine hcall.mono ?_; rintro e w' ⟨rfl, ⟨q, rfl⟩⟩)
     go_roundg (l0.length - (kk + 1))
     case measure => omega
     case rel => exact ⟨kk + 1, _, by omega, by omega, by go_num, rfl, ⟨by rw [hx.out, List.all_append, AF.out]; simp [hq]⟩⟩
    | false =>
     rw [hq] at hcall
     go_wp2_with (go_at_fn g; refine hcall.mono ?_; rintro e w' ⟨rfl, ⟨q, rfl⟩⟩)
     go_ret
     refine ⟨?_, _, rfl⟩
     have : jh.v p l0 l1 = false := by
      unfold jh.v
      have h2 : l0.zip l1 = (l0.take (kk + 1)).zip (l1.take (kk + 1)) ++ (l0.drop (kk + 1)).zip (l1.drop (kk + 1)) := by
       conv => lhs; rw [← List.take_append_drop (kk + 1) l0, ← List.take_append_drop (kk + 1) l1]
       rw [List.zip_append (by simp; omega)]
      rw [h2, hx.out]; simp [hq]
     rw [this]; rfl
   ·have hltz : ¬ (kk : Int) < (l0.length : Int) := by omega
    go_wp2
    go_ret
    refine ⟨?_, m, rfl⟩
    have h1 := AF.out
    have h2 := HL.out
    rw [List.take_of_length_le (by omega), List.take_of_length_le (by omega)] at h1
    unfold jh.v
    rw [h1, decide_eq_true h2]; rfl
 ·have hne : (l0.length != l1.length) = true := by simp [hl]
  have hne' : ((l0.length : Int) != (l1.length : Int)) = true := by simp; omega
  have hv : jh.v p l0 l1 = false := by unfold jh.v; rw [decide_eq_false hl]; rfl
  rw [hv]
  clear hl hv
  go_enter Try.func174, Try.ntmps174
  go_wp2
  go_ret
  exact ⟨rfl, 0, rfl⟩


/-! ### qc9: function 175 -/
def qc9.f (l0 : List Int) (l1 : List Int) : Option (Bool) := some ((strOfNums l0).toList == (strOfNums l1).toList)
set_option maxHeartbeats 8000000 in
set_option maxRecDepth 100000 in
theorem qc9.calls (A0 : Option Addr) (c0 : Nat) (l0 : List Int) (A1 : Option Addr) (c1 : Nat) (l1 : List Int) (r : Bool) (w : World) (hr0 : Kd.C (Kd.int .u8) w A0 l0.length l0) (hc0 : l0.length ≤ c0) (hr1 : Kd.C (Kd.int .u8) w A1 l1.length l1) (hc1 : l1.length ≤ c1) (h : qc9.f l0 l1 = some r) :
  Calls Try.prog 175 #[.slice A0 l0.length c0, .slice A1 l1.length c1] w fun e w' => e = .returned (.bool r) ∧ Drawn0 w w' := by
 have HR0 := ak hr0
 have HC0 := ak hc0
 clear hr0 hc0
 have HR1 := ak hr1
 have HC1 := ak hc1
 clear hr1 hc1
 have H : (some ((strOfNums l0).toList == (strOfNums l1).toList)) = some r := h
 clear h
 obtain rfl := Option.some.inj H
 have qEB := Kd.C_string (P := Try.prog) (A := A0) (c := c0) Try.underlying25 Try.underlying5 Try.underlying9 HR0.out
 have qEA := Kd.C_string (P := Try.prog) (A := A1) (c := c1) Try.underlying25 Try.underlying5 Try.underlying9 HR1.out
 go_enter Try.func175, Try.ntmps175
 go_wp2
 go_ret
 exact ⟨by first | rfl | (simp; done) | (simp [*]; done), by repeat (first | exact Drawn0.refl _ | apply Drawn0.step)⟩


/-! ### qZ: function 101 -/

def qZ.eq (x y : List Int) : Bool := (strOfNums x).toList == (strOfNums y).toList
def qZ.v (l0 l1 : List (List Int)) : Bool := decide (l1.length ≤ l0.length) && jh.v qZ.eq (l0.drop (l0.length - l1.length)) l1
def qZ.f (l0 l1 : List (List Int)) : Option Bool := if l0.length ≤ 140737488355328 ∧ l1.length ≤ 140737488355328 then some (qZ.v l0 l1) else none
set_option maxHeartbeats 8000000 in
set_option maxRecDepth 100000 in
theorem qZ.calls (qq : Option Addr) (qp : Nat) (qd : List (List Int)) (jn : Option Addr) (jm : Nat) (qn : List (List Int)) (r : Bool) (w : World) (jd : Kd.C (Kd.slice 5 (Kd.int .u8)) w qq qd.length qd) (jg : qd.length ≤ qp) (yA : Kd.C (Kd.slice 5 (Kd.int .u8)) w jn qn.length qn) (yS : qn.length ≤ jm) (h : qZ.f qd qn = some r) :
  Calls Try.prog 101 #[.agg #[.slice qq qd.length qp], .agg #[.slice jn qn.length jm]] w fun e w' => e = .returned (.bool r) ∧ Below w.heap.size w w' := by
 have hu := Try.underlying31
 have eg : ∀ args w, (callFunc 175 args).run Try.prog w = .ok (.enter 175 args) w := enters_of Try.func175 (by kernel_rfl) rfl
 have hb0 : Below w.heap.size w ((w.alloc (.cells #[.slice qq qd.length qp] 31)).alloc (.cells #[.slice jn qn.length jm] 31)) := below_alloc (below_alloc (Below.refl _ _) _) _
 have hlm : qd.length ≤ 140737488355328 ∧ qn.length ≤ 140737488355328 := by
  unfold qZ.f at h; split at h
  ·assumption
  ·cases h
 have hrv : qZ.v qd qn = r := by unfold qZ.f at h; rw [if_pos hlm] at h; exact Option.some.inj h
 subst hrv
 obtain ⟨hm0, hm1⟩ := hlm
 unfold qZ.v
 clear h
 by_cases h2 : qn.length ≤ qd.length
 ·obtain ⟨i0, hi0, _, qor, _⟩ := info_parts qlt
  have hcut := cut_from (P := Try.prog) 22 25 .i64 Try.underlying22 hi0 1 qor qq qd.length qp ((qd.length : Int) - (qn.length : Int)) (by omega) (by omega)
  have hC := fun (W : World) (hW : Below w.heap.size w W) => Kd.C_below (Kd.C_drop (m := qd.length - qn.length) (c := qp) jd (by omega) jg) hW
  rw [show ((qd.length : Int) - (qn.length : Int)).toNat = qd.length - qn.length by omega, show qd.length - (qd.length - qn.length) = qn.length by omega] at hcut
  have hln : (qd.drop (qd.length - qn.length)).length = qn.length := by simp; omega
  have hcall := fun (W : World) (hW : Below w.heap.size w W) => jh.calls 175 #[] eg qZ.eq _ (qp - (qd.length - qn.length)) (qd.drop (qd.length - qn.length)) jn jm qn W (hC W hW) (Kd.C_below yA hW) (fun W2 A c x A' c' x' h1 h3 h4 h5 => qc9.calls A c x A' c' x' _ W2 h1 h3 h4 h5 rfl)
  have hsz : (Kd.slice 5 (Kd.int .u8)).sz = 1 := rfl
  rw [hsz, hln] at hcall
  have HCALL := ak hcall
  clear hC hcall jd yA hln hsz hi0 qor
  rw [decide_eq_true h2]
  simp only [Bool.true_and]
  generalize jh.v qZ.eq (qd.drop (qd.length - qn.length)) qn = q at HCALL ⊢
  generalize (if qp = qd.length - qn.length then qq else qq.map (·.add ((qd.length - qn.length) * 1))) = A9 at hcut HCALL
  generalize qp - (qd.length - qn.length) = c9 at hcut HCALL
  have hle : (qn.length : Int) ≤ (qd.length : Int) := by omega
  have qvO : decide ((0 : Int) ≤ (qd.length : Int) - (qn.length : Int)) = true := by simp; omega
  have hmax : ∀ (W : World), True := fun _ => trivial
  go_enter Try.func101, Try.ntmps101
  go_wp2
  go_quiet ((go_at_call 174; exact Calls.quiet_of (HCALL.out _ (by exact pw_below_drewN hb0 _))))
  go_wp2
  go_ret
  exact ⟨rfl, pw_below_drewN hb0 _⟩
 ·rw [decide_eq_false h2]
  simp only [Bool.false_and]
  have qvO : decide ((0 : Int) ≤ (qd.length : Int) - (qn.length : Int)) = false := by simp; omega
  have hle : (qd.length : Int) < (qn.length : Int) := by omega
  go_enter Try.func101, Try.ntmps101
  go_wp2
  go_quiet (fail)
  go_wp2
  go_ret
  exact ⟨rfl, pw_below_drewN hb0 _⟩


/-! ### ye: function 102 -/
def ye.f (k : Nat) (qd : List (List Int)) (qn : List (List Int)) : Option (Bool) := (jo.f k qd qn).bind fun qx => (some (qx == 0))
set_option maxHeartbeats 8000000 in
set_option maxRecDepth 100000 in
theorem ye.calls (k : Nat) (qq : Option Addr) (qp : Nat) (qd : List (List Int)) (jn : Option Addr) (jm : Nat) (qn : List (List Int)) (r : Bool) (w : World) (jd : Kd.C (Kd.slice 5 (Kd.int .u8)) w qq qd.length qd) (jg : qd.length ≤ qp) (yA : Kd.C (Kd.slice 5 (Kd.int .u8)) w jn qn.length qn) (yS : qn.length ≤ jm) (h : ye.f k qd qn = some r) :
  Calls Try.prog 102 #[.agg #[.slice qq qd.length qp], .agg #[.slice jn qn.length jm]] w fun e w' => e = .returned (.bool r) ∧ Below w.heap.size w w' := by
 have Ys := Try.underlying31
 have qW := ak jd
 have jb := ak jg
 clear jd jg
 have yo := ak yA
 have yE := ak yS
 clear yA yS
 have HB := ak (Below.refl w.heap.size w)
 have H : ((jo.f k qd qn).bind fun qx => (some (qx == 0))) = some r := h
 clear h
 replace H := Option.bind_eq_some_iff.mp H
 obtain ⟨qx, A30, H⟩ := H
 replace H : (some (qx == 0)) = some r := H
 have A3 := ak A30
 clear A30
 obtain rfl := Option.some.inj H
 go_enter Try.func102, Try.ntmps102
 go_wp2_with (first | ((with_reducible refine gate_dst (N := 2) rfl ?_); refine boxed (N := 2) rfl rfl (cs := #[.slice qq qd.length qp]) (t := 31) HB.out (by first | (go_simp; done) | (go_simp; rfl)) ?_; clear HB; intro qi w4 hg HB qc qm hb; have jD := qm; clear hb hg) | ((with_reducible refine gate_dst (N := 3) rfl ?_); refine box_event ?hg (N := 3) ?hd (cs := #[.slice jn qn.length jm]) (t := 31) ?hr ?_; (case hd => rfl); (case hg => rfl); (case hr => first | (go_simp; done) | (go_simp; rfl)); intro qg hg w5 hbox hb; have qf := ak (hbox); have QS := ak ((by rw [hg]; exact (below_size (bw HB.out)) : w.heap.size ≤ qg)); have ji := ak ((by rw [hg]; exact (below_size (bw HB.out)) : w.heap.size ≤ qg)); replace HB := ak (below_step (bw HB.out) hb); have qO := ak ((by rw [hg]; exact Nat.ne_of_lt (blk_lt (bk qc.out)) : qi ≠ qg)); have qN := ak ((by rw [hg]; exact Nat.ne_of_gt (blk_lt (bk qc.out)) : qg ≠ qi)); replace qc := ak (blk_below (bk qc.out) hb); clear hb hbox hg; have qt2 := qO.out; have qt1 := qN.out; obtain ⟨qb6, qb3⟩ := cells1 qc.out; obtain ⟨qam, qal⟩ := cells1 qf.out) | ((with_reducible refine gate_callee (f := 141) rfl ?_); refine goesL_ (some 7) rfl rfl Try.func141 (by kernel_rfl) rfl #[.agg #[.slice qq qd.length qp], .agg #[.slice jn qn.length jm]] rfl (by first | rfl | (simp only [List.map_toArray, List.map_cons, List.map_nil]; first | done | rfl)) ?_; (with_reducible refine (jo.calls k _ _ qd _ _ qn qx _ ?qk ?qj ?qw ?qy A3.out).mono ?_); (case qk => exact cw qW.out HB.out); (case qj => exact jb.out); (case qw => exact cw yo.out HB.out); (case qy => exact yE.out); rintro e w9 ⟨rfl, hb⟩; refine ⟨_, rfl, ?_⟩; replace qc := ak (blk_below (bk qc.out) hb); replace qf := ak (blk_below (bk qf.out) hb); replace HB := ak (below_step (bw HB.out) hb); (try clear hb)))
 go_ret
 exact ⟨by first | rfl | (simp [errW_none, errW_some] <;> rfl) | (simp [*, errW_none, errW_some] <;> rfl), bw HB.out⟩


end Go.Proofs.Ytagedmajlppohaa.Q
