/- Printed by a program of this session (wip/myprint.py), which drives the kit's printer: functions and what their calls do. -/
import Derived.Test.YtagedmajlppohaaZFnExactCacheOk0
import Derived.Test.YtagedmajlppohaaZFnExactCacheOk1
import Derived.Test.YtagedmajlppohaaZFnExactCacheOk2
import Derived.Maps.Own
import Derived.Maps.Views
import Derived.Lib.Bytealg
namespace Go.Proofs.Ytagedmajlppohaa.Q
open Go.RowKit Go Go.Proofs.YtagedmajlppohaaW.PrintWords Go.Proofs.YtagedmajlppohaaW.PrintLast Go.Proofs.YtagedmajlppohaaW.PrintMore
attribute [local go_sem] min2_int min_two
set_option linter.unusedVariables false
set_option linter.unusedSimpArgs false

/-! ### qdz: function 154 -/

set_option maxHeartbeats 2000000 in
theorem qdz.calls (g : Nat) (lb : Array Value) (eg : ∀ args w, (callFunc g args).run Try.prog w = .ok (.enter g args) w) (p : List Int → Bool) (A0 : Option Addr) (c0 : Nat) (l0 : List (List Int)) (w : World) (hr0 : Kd.C (Kd.slice 5 (Kd.int .u8)) w A0 l0.length l0)
  (hp : ∀ (W : World) (A : Option Addr) (c : Nat) (x : List Int), Below w.heap.size w W → Kd.C (Kd.int .u8) W A x.length x → x.length ≤ c → Calls Try.prog g (#[.slice A x.length c] ++ lb) W fun e w' => e = .returned (.bool (p x)) ∧ Below W.heap.size W w') :
  Calls Try.prog 154 #[.slice A0 l0.length c0, .func (.func g) #[] lb] w fun e w' => e = .returned (.bool (l0.all p)) ∧ Below w.heap.size w w' := by
 have eg2 : ∀ args w, (callFunc 219 args).run Try.prog w = .ok (.enter 219 args) w := enters_of Try.func219 (by kernel_rfl) rfl;have hb0 : Below w.heap.size w (w.alloc (.cells #[.func (.func g) #[] lb] 43)) := below_alloc (Below.refl _ _) _
 have hc := Xf.calls 219 #[.pointer (some ⟨w.heap.size, 0, none⟩)] eg2 (fun x => !p x) A0 c0 l0 (w.alloc (.cells #[.func (.func g) #[] lb] 43)) (Kd.C_below hr0 hb0) (fun W A c x hW hC hc =>
  qcK.calls g lb eg (p x) A x.length c w.heap.size W _ ((hW.cell (p := ⟨w.heap.size, 0, none⟩) (by simp)).trans (by simp)) ((hp W A c x (hb0.trans (hW.mono (by simp))) hC hc).mono fun e w' ⟨he, hb⟩ => ⟨he, hW.trans (hb.mono hW.size)⟩))
 have e1 : (l0.any fun x => !p x) = !(l0.all p) := by rw [List.all_eq_not_any_not]; simp
 rw [e1] at hc;generalize l0.all p = q at hc ⊢;clear hp hr0 e1;go_enter Try.func154, Try.ntmps154;go_wp2_with (go_at_call 218; refine hc.mono ?_; rintro e w' ⟨rfl, hb'⟩);go_ret;exact ⟨by simp, hb0.trans (hb'.mono (by simp))⟩

/-! ### XL: function 238 -/

set_option maxHeartbeats 2000000 in
theorem XL.calls (g : Nat) (lb : Array Value) (eg : ∀ args w, (callFunc g args).run Try.prog w = .ok (.enter g args) w) (p : Int → Bool) (A0 : Option Addr) (c0 : Nat) (l0 : List Int) (w : World) (hr0 : Kd.C (Kd.int .u8) w A0 l0.length l0)
  (hp : ∀ (W : World) (x : Int), Below w.heap.size w W → Calls Try.prog g (#[.int .u8 x] ++ lb) W fun e w' => e = .returned (.bool (p x)) ∧ Below w.heap.size w w') :
  Calls Try.prog 238 #[.slice A0 l0.length c0, .func (.func g) #[] lb] w fun e w' => (∃ r : Int, e = .returned (.int .i64 r) ∧ decide (0 ≤ r) = l0.any p) ∧ Below w.heap.size w w' := by
 have HR0 := ak hr0;have hbig : l0.length ≤ 9223372036854775807 := hr0.2.1;have HP := ak hp;clear hr0 hp;go_enter Try.func238, Try.ntmps238;go_wp2;go_loopg [5, 8] l0.length (fun gg _ s8 wr => ∃ kk : Nat, kk ≤ l0.length ∧ l0.length - kk ≤ gg ∧ s8 = .int .i64 kk ∧ Aside0 (Below w.heap.size w wr) ∧ Aside0 ((l0.take kk).any p = false))
 case atStart => exact ⟨0, Nat.zero_le _, by omega, rfl, ⟨Below.refl _ w⟩, ⟨by simp⟩⟩
 case round =>
  obtain ⟨kk, hkk, hg, rfl, BW, AF⟩ := hrel;by_cases hlt : kk < l0.length
  ·obtain ⟨ad, rfl, hcell⟩ := Kd.at_int HR0.out (kk : Int) (by omega) (by omega);replace hcell := pw_cell_below BW.out hcell;have hcall := HP.out wr (rd l0 (kk : Int)) BW.out
   have hx : Aside0 (l0.take (kk + 1) = l0.take kk ++ [rd l0 (kk : Int)]) := ⟨by
    rw [List.take_succ_eq_append_getElem hlt]; simp [rd, List.getD_eq_getElem?_getD, hlt]⟩
   generalize rd l0 (kk : Int) = y at hcell hcall hx;have hltz : (kk : Int) < (l0.length : Int) := by omega
   rw [show ((kk : Int)).toNat = kk from by omega] at hcell;cases hq : p y with
   | true =>
    rw [hq] at hcall;go_wp2_with (go_at_fn g; refine hcall.mono ?_; rintro e w' ⟨rfl, hb'⟩);go_ret;refine ⟨⟨_, rfl, ?_⟩, hb'⟩
    have : l0.any p = true := by
     rw [← List.take_append_drop (kk + 1) l0, hx.out]; simp [hq]
    rw [this]; simp
   | false =>
    rw [hq] at hcall;go_wp2_with (go_at_fn g; refine hcall.mono ?_; rintro e w' ⟨rfl, hb'⟩);go_roundg (l0.length - (kk + 1));case measure => omega
    case rel => exact ⟨kk + 1, by omega, by omega, by go_num, ⟨hb'⟩, ⟨by rw [hx.out, List.any_append, AF.out]; simp [hq]⟩⟩
  ·have hltz : ¬ (kk : Int) < (l0.length : Int) := by omega
   go_wp2;go_ret;refine ⟨⟨_, rfl, ?_⟩, BW.out⟩;have := AF.out;rw [List.take_of_length_le (by omega)] at this;rw [this]; rfl

/-! ### Xe: function 234 -/

set_option maxHeartbeats 2000000 in
theorem Xe.calls (g : Nat) (lb : Array Value) (eg : ∀ args w, (callFunc g args).run Try.prog w = .ok (.enter g args) w) (p : Int → Bool) (A0 : Option Addr) (c0 : Nat) (l0 : List Int) (w : World) (hr0 : Kd.C (Kd.int .u8) w A0 l0.length l0)
  (hp : ∀ (W : World) (x : Int), Below w.heap.size w W → Calls Try.prog g (#[.int .u8 x] ++ lb) W fun e w' => e = .returned (.bool (p x)) ∧ Below w.heap.size w w') :
  Calls Try.prog 234 #[.slice A0 l0.length c0, .func (.func g) #[] lb] w fun e w' => e = .returned (.bool (l0.any p)) ∧ Below w.heap.size w w' := by
 have hc := XL.calls g lb eg p A0 c0 l0 w hr0 hp;generalize l0.any p = q at hc ⊢;clear hp hr0;go_enter Try.func234, Try.ntmps234;go_wp2_with (go_at_call 238; refine hc.mono ?_; rintro e w' ⟨⟨r, rfl, rfl⟩, hb'⟩);go_ret;exact ⟨rfl, hb'⟩

/-! ### qcJ: function 235 -/

set_option maxHeartbeats 2000000 in
/-- What is handed to ContainsFunc: the predicate's contrary; the predicate lies in a variable. -/
theorem qcJ.calls (g : Nat) (lb : Array Value) (eg : ∀ args w, (callFunc g args).run Try.prog w = .ok (.enter g args) w) (q : Bool) (x : Int) (B : Nat) (w w0 : World) (hv : w.cell? ⟨B, 0, none⟩ = some (.func (.func g) #[] lb))
  (hp : Calls Try.prog g (#[.int .u8 x] ++ lb) w fun e w' => e = .returned (.bool q) ∧ Below w0.heap.size w0 w') :
  Calls Try.prog 235 #[.int .u8 x, .pointer (some ⟨B, 0, none⟩)] w fun e w' => e = .returned (.bool (!q)) ∧ Below w0.heap.size w0 w' := by
 go_enter Try.func235, Try.ntmps235;go_wp2_with (go_at_fn g; refine hp.mono ?_; rintro e w' ⟨rfl, hb'⟩);go_ret;exact ⟨rfl, hb'⟩

/-! ### qdy: function 220 -/

set_option maxHeartbeats 2000000 in
theorem qdy.calls (g : Nat) (lb : Array Value) (eg : ∀ args w, (callFunc g args).run Try.prog w = .ok (.enter g args) w) (p : Int → Bool) (A0 : Option Addr) (c0 : Nat) (l0 : List Int) (w : World) (hr0 : Kd.C (Kd.int .u8) w A0 l0.length l0)
  (hp : ∀ (W : World) (x : Int), Below w.heap.size w W → Calls Try.prog g (#[.int .u8 x] ++ lb) W fun e w' => e = .returned (.bool (p x)) ∧ Below W.heap.size W w') :
  Calls Try.prog 220 #[.slice A0 l0.length c0, .func (.func g) #[] lb] w fun e w' => e = .returned (.bool (l0.all p)) ∧ Below w.heap.size w w' := by
 have eg2 : ∀ args w, (callFunc 235 args).run Try.prog w = .ok (.enter 235 args) w := enters_of Try.func235 (by kernel_rfl) rfl;have hb0 : Below w.heap.size w (w.alloc (.cells #[.func (.func g) #[] lb] 221)) := below_alloc (Below.refl _ _) _
 have hc := Xe.calls 235 #[.pointer (some ⟨w.heap.size, 0, none⟩)] eg2 (fun x => !p x) A0 c0 l0 (w.alloc (.cells #[.func (.func g) #[] lb] 221)) (Kd.C_below hr0 hb0) (fun W x hW =>
  qcJ.calls g lb eg (p x) x w.heap.size W _ ((hW.cell (p := ⟨w.heap.size, 0, none⟩) (by simp)).trans (by simp)) ((hp W x (hb0.trans (hW.mono (by simp)))).mono fun e w' ⟨he, hb⟩ => ⟨he, hW.trans (hb.mono hW.size)⟩))
 have e1 : (l0.any fun x => !p x) = !(l0.all p) := by rw [List.all_eq_not_any_not]; simp
 rw [e1] at hc;generalize l0.all p = q at hc ⊢;clear hp hr0 e1;go_enter Try.func220, Try.ntmps220;go_wp2_with (go_at_call 234; refine hc.mono ?_; rintro e w' ⟨rfl, hb'⟩);go_ret;exact ⟨by simp, hb0.trans (hb'.mono (by simp))⟩

/-! ### Xk: function 221 -/
def Xk.f (a0 : Int) : Option (Bool) := if a0 ≥ 97 then (if a0 ≤ 122 then (some true) else (if a0 ≥ 48 then (if a0 ≤ 57 then (some true) else (some (a0 == 45))) else (some (a0 == 45)))) else (if a0 ≥ 48 then (if a0 ≤ 57 then (some true) else (some (a0 == 45))) else (some (a0 == 45)))
set_option maxHeartbeats 8000000 in
set_option maxRecDepth 100000 in
theorem Xk.calls (a0 : Int) (r : Bool) (w : World) (h : Xk.f a0 = some r) :
  Calls Try.prog 221 #[.int .u8 a0] w fun e w' => e = .returned (.bool r) ∧ Drawn0 w w' := by
 have H : (if a0 ≥ 97 then (if a0 ≤ 122 then (some true) else (if a0 ≥ 48 then (if a0 ≤ 57 then (some true) else (some (a0 == 45))) else (some (a0 == 45)))) else (if a0 ≥ 48 then (if a0 ≤ 57 then (some true) else (some (a0 == 45))) else (some (a0 == 45)))) = some r := h;clear h;replace H := ih H;obtain ⟨c2b0, H⟩ | ⟨c2b0, H⟩ := H
 ·replace H := ip H;obtain ⟨c3b0, H⟩ | ⟨c3b0, H⟩ := H
  ·obtain rfl := Option.some.inj H;go_enter Try.func221, Try.ntmps221;go_wp2;go_ret;exact ⟨o2, od⟩
  ·replace H := ih H;obtain ⟨c4b0, H⟩ | ⟨c4b0, H⟩ := H
   ·replace H := ip H;obtain ⟨c5b0, H⟩ | ⟨c5b0, H⟩ := H
    ·obtain rfl := Option.some.inj H;go_enter Try.func221, Try.ntmps221;go_wp2;go_ret;exact ⟨o2, od⟩
    ·obtain rfl := Option.some.inj H;go_enter Try.func221, Try.ntmps221;go_wp2;go_ret;exact ⟨o2, od⟩
   ·obtain rfl := Option.some.inj H;go_enter Try.func221, Try.ntmps221;go_wp2;go_ret;exact ⟨o2, od⟩
 ·replace H := ih H;obtain ⟨c6b0, H⟩ | ⟨c6b0, H⟩ := H
  ·replace H := ip H;obtain ⟨c7b0, H⟩ | ⟨c7b0, H⟩ := H
   ·obtain rfl := Option.some.inj H;go_enter Try.func221, Try.ntmps221;go_wp2;go_ret;exact ⟨o2, od⟩
   ·obtain rfl := Option.some.inj H;go_enter Try.func221, Try.ntmps221;go_wp2;go_ret;exact ⟨o2, od⟩
  ·obtain rfl := Option.some.inj H;go_enter Try.func221, Try.ntmps221;go_wp2;go_ret;exact ⟨o2, od⟩

/-! ### jS: function 155 -/

def jS.byte (x : Int) : Bool := (decide (97 ≤ x) && decide (x ≤ 122)) || (decide (48 ≤ x) && decide (x ≤ 57)) || x == 45
theorem jS.byte_f (x : Int) : Xk.f x = some (jS.byte x) := by
 unfold Xk.f jS.byte;by_cases h1 : 97 ≤ x <;> by_cases h2 : x ≤ 122 <;> by_cases h3 : 48 ≤ x <;> by_cases h4 : x ≤ 57 <;> by_cases h5 : x = 45 <;> simp [*] <;> omega
def jS.v (l0 : List Int) : Bool := decide (1 ≤ l0.length) && decide (l0.length ≤ 15) && l0.all jS.byte
def jS.f (l0 : List Int) : Option Bool := some (jS.v l0)
set_option maxHeartbeats 8000000 in
set_option maxRecDepth 100000 in
theorem jS.calls (A0 : Option Addr) (c0 : Nat) (l0 : List Int) (r : Bool) (w : World) (hr0 : Kd.C (Kd.int .u8) w A0 l0.length l0) (hc0 : l0.length ≤ c0) (h : jS.f l0 = some r) :
  Calls Try.prog 155 #[.slice A0 l0.length c0] w fun e w' => e = .returned (.bool r) ∧ Below w.heap.size w w' := by
 have eg : ∀ args w, (callFunc 221 args).run Try.prog w = .ok (.enter 221 args) w := enters_of Try.func221 (by kernel_rfl) rfl;have ha := qdy.calls 221 #[] eg jS.byte A0 c0 l0 w hr0 (fun W x hW => (Xk.calls x _ W (jS.byte_f x)).mono fun e w' ⟨he, hd⟩ => ⟨he, hd.below⟩);have hbig : l0.length ≤ 9223372036854775807 := hr0.2.1;have hrv : r = jS.v l0 := (Option.some.inj h).symm;subst hrv;unfold jS.v;clear h hr0;generalize l0.all jS.byte = q at ha ⊢;by_cases h1 : 1 ≤ l0.length
 ·by_cases h2 : l0.length ≤ 15
  ·rw [decide_eq_true h1, decide_eq_true h2];simp only [Bool.true_and];go_enter Try.func155, Try.ntmps155;go_wp2_with (first | (go_at_call 220;refine ha.mono ?_;rintro e w' ⟨rfl, hb'⟩) | (go_at_call 83;go_in));go_ret;exact ⟨rfl, hb'⟩
  ·rw [decide_eq_true h1, decide_eq_false h2];simp only [Bool.and_false, Bool.false_and];go_enter Try.func155, Try.ntmps155;go_wp2;go_ret;exact ⟨rfl, Below.refl _ _⟩
 ·rw [decide_eq_false h1];simp only [Bool.false_and];go_enter Try.func155, Try.ntmps155;go_wp2;go_ret;exact ⟨rfl, Below.refl _ _⟩

/-! ### jf: function 74 -/

def jf.v (l : List (List Int)) : Bool := decide (l.length ≤ 6) && l.all jS.v
def jf.f (l : List (List Int)) : Option Bool := some (jf.v l)
set_option maxHeartbeats 8000000 in
set_option maxRecDepth 100000 in
theorem jf.calls (jH : Option Addr) (jG : Nat) (ql : List (List Int)) (r : Bool) (w : World) (jJ : Kd.C (Kd.slice 5 (Kd.int .u8)) w jH ql.length ql) (jW : ql.length ≤ jG) (h : jf.f ql = some r) :
  Calls Try.prog 74 #[.agg #[.slice jH ql.length jG]] w fun e w' => e = .returned (.bool r) ∧ Below w.heap.size w w' := by
 have hu := Try.underlying31;have eg : ∀ args w, (callFunc 155 args).run Try.prog w = .ok (.enter 155 args) w := enters_of Try.func155 (by kernel_rfl) rfl;have hb0 : Below w.heap.size w (w.alloc (.cells #[.slice jH ql.length jG] 31)) := below_alloc (Below.refl _ _) _;have ha := fun (W : World) (hW : Below w.heap.size w W) => qdz.calls 155 #[] eg jS.v jH jG ql W (Kd.C_below jJ hW) (fun W2 A c x hW2 hC hc => (jS.calls A c x _ W2 hC hc rfl))
 have hbig : ql.length ≤ 9223372036854775807 := jJ.2.1;have hrv : r = jf.v ql := (Option.some.inj h).symm;subst hrv;unfold jf.v;clear h jJ;have HA := ak ha;clear ha;generalize ql.all jS.v = q at HA ⊢;by_cases h2 : ql.length ≤ 6
 ·rw [decide_eq_true h2];simp only [Bool.true_and];go_enter Try.func74, Try.ntmps74;go_wp2_with (go_at_call 154; refine (HA.out _ hb0).mono ?_; rintro e w' ⟨rfl, hb'⟩);go_ret;exact ⟨rfl, hb0.trans (hb'.mono (by simp))⟩
 ·rw [decide_eq_false h2];simp only [Bool.false_and];go_enter Try.func74, Try.ntmps74;go_wp2;go_ret;exact ⟨rfl, hb0⟩

/-! ### zf: function 162 -/

def zf.v (t : Int) : ByteArray := if t = 1 then ⟨#[65]⟩ else if t = 2 then ⟨#[78, 83]⟩ else if t = 5 then ⟨#[67, 78, 65, 77, 69]⟩ else if t = 6 then ⟨#[83, 79, 65]⟩ else if t = 12 then ⟨#[80, 84, 82]⟩ else if t = 16 then ⟨#[84, 88, 84]⟩ else if t = 49 then ⟨#[68, 72, 67, 73, 68]⟩ else ⟨#[]⟩
def zf.f (t : Int) : Option ByteArray := if -9223372036854775808 ≤ t ∧ t ≤ 9223372036854775807 then some (zf.v t) else none
theorem zf.inv {e : TypeId} (he : Try.prog.underlying e = some .string) {v : Value} {z : DataW Unit × List MemPlace} (h : plainElem Try.prog e v = some z) : ∃ s : ByteArray, v = .string s ∧ z = (.lit (.string s.data.toList), []) ∧ s.size ≤ maxLen := by
 unfold plainElem at h;rw [he] at h;cases v <;> simp at h
 exact ⟨_, rfl, h.2.symm, h.1⟩
theorem zf.ne {a b : Int} (h : ¬ a = b) : (Lit.int .i64 a) ≠ Lit.int .i64 b := fun e => h (by injection e)
set_option maxHeartbeats 8000000 in
set_option maxRecDepth 100000 in
theorem zf.calls (a0 : Int) (r : ByteArray) (w : World) (h : zf.f a0 = some r) :
  Calls Try.prog 162 #[.int .i64 a0] w fun e w' => e = .returned (.string r) ∧ Below w.heap.size w w' := by
 have hw : (Lit.int .i64 a0).wf = true := by
  unfold zf.f at h; split at h
  ·exact WalkArith.wf_i64 (by assumption)
  ·cases h
 have hr : zf.v a0 = r := by
  unfold zf.f at h; split at h
  ·exact Option.some.inj h
  ·cases h
 clear h;have law : Go.Maps.Keyed Try.prog 3 := Go.Maps.int_keyed Try.underlying3;have um := Try.underlying222;have us := Try.underlying9;have key : ∀ n : Int, (Lit.int .i64 n).wf = true → keyOf Try.prog 3 (.int .i64 n) = some (.int .i64 n) := fun n hn => Go.Maps.keyOf_int_mk Try.underlying3 hn
 have el : ∀ s : ByteArray, s.size ≤ maxLen → plainElem (H := Unit) Try.prog 9 (.string s) = some (.lit (.string s.data.toList), []) := fun s hs => plainElem_string us hs
 have o0 := World.ownsMap_made (H := Unit) w Try.prog 3 (plainElem Try.prog 9);obtain ⟨w1, r1, o1, g1⟩ := o0.update law um (by unfold maxLen; omega) (key 1 (by decide)) (el ⟨#[65]⟩ (by decide));obtain ⟨w2, r2, o2, g2⟩ := o1.update law um (by unfold maxLen; omega) (key 2 (by decide)) (el ⟨#[78, 83]⟩ (by decide));obtain ⟨w3, r3, o3, g3⟩ := o2.update law um (by unfold maxLen; omega) (key 5 (by decide)) (el ⟨#[67, 78, 65, 77, 69]⟩ (by decide));obtain ⟨w4, r4, o4, g4⟩ := o3.update law um (by unfold maxLen; omega) (key 6 (by decide)) (el ⟨#[83, 79, 65]⟩ (by decide));obtain ⟨w5, r5, o5, g5⟩ := o4.update law um (by unfold maxLen; omega) (key 12 (by decide)) (el ⟨#[80, 84, 82]⟩ (by decide));obtain ⟨w6, r6, o6, g6⟩ := o5.update law um (by unfold maxLen; omega) (key 16 (by decide)) (el ⟨#[84, 88, 84]⟩ (by decide));obtain ⟨w7, r7, o7, g7⟩ := o6.update law um (by unfold maxLen; omega) (key 49 (by decide)) (el ⟨#[68, 72, 67, 73, 68]⟩ (by decide));obtain ⟨v, ps, rl, hv⟩ := o7.lookup law um (z := .string ⟨#[]⟩) (by kernel_rfl) (el ⟨#[]⟩ (by decide)) (key a0 hw);obtain ⟨s, rfl, hs, _⟩ := zf.inv us hv
 have hB : Below w.heap.size w w7 := by
  have b0 := below_alloc (Below.refl w.heap.size w) (.map #[] 0);refine Below.grown (Below.grown (Below.grown (Below.grown (Below.grown (Below.grown (Below.grown b0 g1 ?_ ?_) g2 ?_ ?_) g3 ?_ ?_) g4 ?_ ?_) g5 ?_ ?_) g6 ?_ ?_) g7 ?_ ?_
  all_goals first
   | (intro j hj; cases hj; exact Nat.le_refl _)
   | (have := b0.size; have := g1.size; have := g2.size; have := g3.size; have := g4.size; have := g5.size; have := g6.size; omega)
 have e : s = zf.v a0 := by
  simp only [Prod.mk.injEq] at hs;have hat := hs.1
  have fin : ∀ {l : ByteArray}, (DataW.lit (.string l.data.toList) : DataW Unit) = .lit (.string s.data.toList) → s = l := fun {l} he => by
   simp at he
   cases s; cases l; simp at he; rw [he]
  have im : ∀ {D : DataW Unit} {k d}, Go.Maps.IsMap D → Go.Maps.IsMap (D.put k d) := fun {D k d} ⟨es, he⟩ => by subst he; exact ⟨_, rfl⟩
  have i0 : Go.Maps.IsMap (DataW.map [] : DataW Unit) := ⟨_, rfl⟩;unfold zf.v;by_cases h7 : a0 = 49
  ·subst h7;rw [Go.Maps.atKey_put_same (im (im (im (im (im (im i0)))))) (by trivial)] at hat;exact fin hat
  rw [Go.Maps.atKey_put_other (zf.ne h7)] at hat;by_cases h6 : a0 = 16
  ·subst h6;rw [Go.Maps.atKey_put_same (im (im (im (im (im i0))))) (by trivial)] at hat;exact fin hat
  rw [Go.Maps.atKey_put_other (zf.ne h6)] at hat;by_cases h5 : a0 = 12
  ·subst h5;rw [Go.Maps.atKey_put_same (im (im (im (im i0)))) (by trivial)] at hat;exact fin hat
  rw [Go.Maps.atKey_put_other (zf.ne h5)] at hat;by_cases h4 : a0 = 6
  ·subst h4;rw [Go.Maps.atKey_put_same (im (im (im i0))) (by trivial)] at hat;exact fin hat
  rw [Go.Maps.atKey_put_other (zf.ne h4)] at hat;by_cases h3 : a0 = 5
  ·subst h3;rw [Go.Maps.atKey_put_same (im (im i0)) (by trivial)] at hat;exact fin hat
  rw [Go.Maps.atKey_put_other (zf.ne h3)] at hat;by_cases h2 : a0 = 2
  ·subst h2;rw [Go.Maps.atKey_put_same (im i0) (by trivial)] at hat;exact fin hat
  rw [Go.Maps.atKey_put_other (zf.ne h2)] at hat;by_cases h1 : a0 = 1
  ·subst h1;rw [Go.Maps.atKey_put_same i0 (by trivial)] at hat;exact fin hat
  rw [Go.Maps.atKey_put_other (zf.ne h1)] at hat;rw [if_neg h1, if_neg h2, if_neg h3, if_neg h4, if_neg h5, if_neg h6, if_neg h7];exact fin hat
 have HB := ak hB;subst e;clear o0 o1 o2 o3 o4 o5 o6 o7 g1 g2 g3 g4 g5 g6 g7 hB hs hv key el law hw;subst hr;generalize zf.v a0 = s at rl ⊢;have hmm := @run_makeMap Try.prog;go_enter Try.func162, Try.ntmps162;go_wp2;go_ret;exact ⟨rfl, HB.out⟩

/-! ### QD: function 82 -/

def QD.f (a0 : Int) : Option Bool := (zf.f a0).bind fun t => some (!t.toList.isEmpty)
set_option maxHeartbeats 8000000 in
set_option maxRecDepth 100000 in
theorem QD.calls (a0 : Int) (r : Bool) (w : World) (h : QD.f a0 = some r) :
  Calls Try.prog 82 #[.int .i64 a0] w fun e w' => e = .returned (.bool r) ∧ Below w.heap.size w w' := by
 obtain ⟨s, hs, hr⟩ := Option.bind_eq_some_iff.mp h;have hr := Option.some.inj hr;subst hr;have HC := ak hs;clear h hs;go_enter Try.func82, Try.ntmps82;go_wp2_with (go_at_call 162; refine (zf.calls a0 s _ HC.out).mono ?_; rintro e w' ⟨rfl, hb⟩);go_ret;exact ⟨by first | rfl | simp, hb⟩

/-! ### jj: function 83 -/
def jj.f (a0 : Int) (a1 : Int) (a2 : Int) : Option (Bool) := if a1 ≤ a0 then (some (decide (a0 ≤ a2))) else (some false)
set_option maxHeartbeats 8000000 in
set_option maxRecDepth 100000 in
theorem jj.calls (a0 : Int) (a1 : Int) (a2 : Int) (r : Bool) (w : World) (h : jj.f a0 a1 a2 = some r) :
  Calls Try.prog 83 #[.int .i64 a0, .int .i64 a1, .int .i64 a2] w fun e w' => e = .returned (.bool r) ∧ Drawn0 w w' := by
 have H : (if a1 ≤ a0 then (some (decide (a0 ≤ a2))) else (some false)) = some r := h;clear h;replace H := ip H;obtain ⟨c4b0, H⟩ | ⟨c4b0, H⟩ := H
 ·obtain rfl := Option.some.inj H;go_enter Try.func83, Try.ntmps83;go_wp2;go_ret;exact ⟨o2, od⟩
 ·obtain rfl := Option.some.inj H;go_enter Try.func83, Try.ntmps83;go_wp2;go_ret;exact ⟨o2, od⟩

/-! ### zP: function 207 -/
def zP.f (a0 : Int) : Option (Bool) := some (a0 != a0)
set_option maxHeartbeats 8000000 in
set_option maxRecDepth 100000 in
theorem zP.calls (a0 : Int) (r : Bool) (w : World) (h : zP.f a0 = some r) :
  Calls Try.prog 207 #[.int .i64 a0] w fun e w' => e = .returned (.bool r) ∧ Drawn0 w w' := by
 have H : (some (a0 != a0)) = some r := h;clear h;obtain rfl := Option.some.inj H;go_enter Try.func207, Try.ntmps207;go_wp2;go_ret;exact ⟨o2, od⟩

/-! ### yt: function 142 -/
def yt.f (a0 : Int) (a1 : Int) : Option (Int) := (zP.f a0).bind fun Zi => ((zP.f a1).bind fun ji => (if Zi = true then (if ji = true then (some 0) else (some (-1))) else (if ji = true then (some 1) else (if a0 < a1 then (some (-1)) else (if a0 > a1 then (some 1) else (some 0))))))
set_option maxHeartbeats 8000000 in
set_option maxRecDepth 100000 in
theorem yt.calls (a0 : Int) (a1 : Int) (r : Int) (w : World) (h : yt.f a0 a1 = some r) :
  Calls Try.prog 142 #[.int .i64 a0, .int .i64 a1] w fun e w' => e = .returned (.int .i64 r) ∧ Drawn0 w w' := by
 have H : ((zP.f a0).bind fun Zi => ((zP.f a1).bind fun ji => (if Zi = true then (if ji = true then (some 0) else (some (-1))) else (if ji = true then (some 1) else (if a0 < a1 then (some (-1)) else (if a0 > a1 then (some 1) else (some 0))))))) = some r := h;clear h;replace H := bnd H;obtain ⟨Zi, A3, H⟩ := H;replace H := bnd H;obtain ⟨ji, A4, H⟩ := H;replace H := ib H;obtain ⟨rfl, H⟩ | ⟨rfl, H⟩ := H
 ·replace H := ib H;obtain ⟨rfl, H⟩ | ⟨rfl, H⟩ := H
  ·obtain rfl := Option.some.inj H;go_enter Try.func142, Try.ntmps142;go_wp2_with (first | ((with_reducible refine gate_callee (f := 207) rfl ?_);refine glD 8 rfl rfl Try.func207 (zP.calls a0 true _ A3.out) (fun nd => ?_)) | ((with_reducible refine gate_callee (f := 207) rfl ?_);refine glD 10 rfl rfl Try.func207 (zP.calls a1 true _ A4.out) (fun nd => ?_)));go_ret;exact ⟨o2, od⟩
  ·obtain rfl := Option.some.inj H;go_enter Try.func142, Try.ntmps142;go_wp2_with (first | ((with_reducible refine gate_callee (f := 207) rfl ?_);refine glD 8 rfl rfl Try.func207 (zP.calls a0 true _ A3.out) (fun nd => ?_)) | ((with_reducible refine gate_callee (f := 207) rfl ?_);refine glD 10 rfl rfl Try.func207 (zP.calls a1 false _ A4.out) (fun nd => ?_)));go_ret;exact ⟨o2, od⟩
 ·replace H := ib H;obtain ⟨rfl, H⟩ | ⟨rfl, H⟩ := H
  ·obtain rfl := Option.some.inj H;go_enter Try.func142, Try.ntmps142;go_wp2_with (first | ((with_reducible refine gate_callee (f := 207) rfl ?_);refine glD 8 rfl rfl Try.func207 (zP.calls a0 false _ A3.out) (fun nd => ?_)) | ((with_reducible refine gate_callee (f := 207) rfl ?_);refine glD 10 rfl rfl Try.func207 (zP.calls a1 true _ A4.out) (fun nd => ?_)));go_ret;exact ⟨o2, od⟩
  ·replace H := ip H;obtain ⟨c8b0, H⟩ | ⟨c8b0, H⟩ := H
   ·obtain rfl := Option.some.inj H;go_enter Try.func142, Try.ntmps142;go_wp2_with (first | ((with_reducible refine gate_callee (f := 207) rfl ?_);refine glD 8 rfl rfl Try.func207 (zP.calls a0 false _ A3.out) (fun nd => ?_)) | ((with_reducible refine gate_callee (f := 207) rfl ?_);refine glD 10 rfl rfl Try.func207 (zP.calls a1 false _ A4.out) (fun nd => ?_)));go_ret;exact ⟨o2, od⟩
   ·replace H := ig H;obtain ⟨c9b0, H⟩ | ⟨c9b0, H⟩ := H
    ·obtain rfl := Option.some.inj H;go_enter Try.func142, Try.ntmps142;go_wp2_with (first | ((with_reducible refine gate_callee (f := 207) rfl ?_);refine glD 8 rfl rfl Try.func207 (zP.calls a0 false _ A3.out) (fun nd => ?_)) | ((with_reducible refine gate_callee (f := 207) rfl ?_);refine glD 10 rfl rfl Try.func207 (zP.calls a1 false _ A4.out) (fun nd => ?_)));go_ret;exact ⟨o2, od⟩
    ·obtain rfl := Option.some.inj H;go_enter Try.func142, Try.ntmps142;go_wp2_with (first | ((with_reducible refine gate_callee (f := 207) rfl ?_);refine glD 8 rfl rfl Try.func207 (zP.calls a0 false _ A3.out) (fun nd => ?_)) | ((with_reducible refine gate_callee (f := 207) rfl ?_);refine glD 10 rfl rfl Try.func207 (zP.calls a1 false _ A4.out) (fun nd => ?_)));go_ret;exact ⟨o2, od⟩

/-! ### zv: function 143 -/

theorem zv.push (l : List Int) : ∀ (acc : ByteArray), l.foldl (fun (s : ByteArray) n => s.push n.toNat.toUInt8) acc = ⟨acc.data ++ (l.map fun n => UInt8.ofNat n.toNat).toArray⟩ := by
 induction l with
 | nil => intro acc; simp
 | cons x l ih => intro acc; rw [List.foldl_cons, ih]; simp [ByteArray.push]
theorem zv.loads {P : Program} (w : World) (l : List Int) : ∀ (a : Addr) (acc : ByteArray), (∀ j x, l[j]? = some x → w.cell? (a.add j) = some (.int .u8 x)) →
  (Extern.Bytes.loadBytes a l.length acc).run P w = .ok (l.foldl (fun (s : ByteArray) n => s.push n.toNat.toUInt8) acc) w := by
 induction l with
 | nil => intro a acc h; simp [Extern.Bytes.loadBytes, Sem.run_pure]
 | cons x l ih =>
  intro a acc h;have h0 := h 0 x rfl;have ha : a.add 0 = a := by cases a; simp [Addr.add]
  rw [ha] at h0;have hl : (load a).run P w = .ok (.int .u8 x) w := by go_simp
  simp only [List.length_cons, Extern.Bytes.loadBytes, Sem.run_bind, hl, Result.andThen];rw [ih (a.add 1) (acc.push x.toNat.toUInt8) (fun j y hj => by rw [Go.Proofs.YtagedmajlppohaaW.PrintWords.add_add, Nat.add_comm]; exact h (j + 1) y (by simpa using hj))];rfl
theorem zv.bytes {P : Program} (w : World) (A : Option Addr) (c : Nat) (l : List Int) (h : Kd.C (Kd.int .u8) w A l.length l) : (Extern.Bytes.bytesOf (.slice A l.length c)).run P w = .ok (strOfNums l) w := by
 cases A with
 | none =>
  have hl : l = [] := by
   cases l with
   | nil => rfl
   | cons x l => obtain ⟨ad, e, _⟩ := h.2.2 (by simp); cases e
  subst hl;simp [Extern.Bytes.bytesOf, Sem.run_pure, strOfNums]; rfl
 | some a =>
  have := zv.loads (P := P) w l a ByteArray.empty (fun j x hj => by
   have hjl := (List.getElem?_eq_some_iff.1 hj).1;obtain ⟨ad, e, hc⟩ := Kd.at_int h (j : Int) (by omega) (by omega);injection e with e; subst e
   rw [show ((j : Int)).toNat = j from by omega] at hc;rw [hc]
   simp [rd, List.getD_eq_getElem?_getD, hj])
  simp only [Extern.Bytes.bytesOf];rw [this, zv.push];simp [strOfNums]
theorem zv.run {P : Program} (w : World) (A0 : Option Addr) (c0 : Nat) (l0 : List Int) (A1 : Option Addr) (c1 : Nat) (l1 : List Int) (h0 : Kd.C (Kd.int .u8) w A0 l0.length l0) (h1 : Kd.C (Kd.int .u8) w A1 l1.length l1) :
  (Extern.BytealgCompare.compare #[.slice A0 l0.length c0, .slice A1 l1.length c1]).run P w = .ok (.int .i64 (Lib.compareBytes (strOfNums l0).data.toList (strOfNums l1).data.toList)) w := by
 change Sem.run P (do pure (goInt (Extern.BytealgCompare.cmp (← Extern.Bytes.bytesOf (.slice A0 l0.length c0)) (← Extern.Bytes.bytesOf (.slice A1 l1.length c1))))) w = _;simp only [Sem.run_bind, zv.bytes w A0 c0 l0 h0, zv.bytes w A1 c1 l1 h1, Sem.run_pure, Result.andThen];rw [Lib.cmp_eq];rfl
def zv.f (l0 : List Int) (l1 : List Int) : Option Int := some (Lib.compareBytes (strOfNums l0).data.toList (strOfNums l1).data.toList)
set_option maxHeartbeats 8000000 in
set_option maxRecDepth 100000 in
theorem zv.calls (A0 : Option Addr) (c0 : Nat) (l0 : List Int) (A1 : Option Addr) (c1 : Nat) (l1 : List Int) (r : Int) (w : World) (hr0 : Kd.C (Kd.int .u8) w A0 l0.length l0) (hc0 : l0.length ≤ c0) (hr1 : Kd.C (Kd.int .u8) w A1 l1.length l1) (hc1 : l1.length ≤ c1) (h : zv.f l0 l1 = some r) :
  Calls Try.prog 143 #[.slice A0 l0.length c0, .slice A1 l1.length c1] w fun e w' => e = .returned (.int .i64 r) ∧ Drawn0 w w' := by
 have hx := zv.run (P := Try.prog) w A0 c0 l0 A1 c1 l1 hr0 hr1;have hr := Option.some.inj h;rw [hr] at hx;clear h hr hr0 hr1;go_enter Try.func143, Try.ntmps143;go_wp2;rw [run_callFunc_extern Try.func208 (by kernel_rfl) (by kernel_rfl) (by kernel_rfl) (e := Extern.BytealgCompare.compare) (by kernel_rfl), hx];simp only [Result.andThen];rw [Oper.upon_value];go_wp2;go_ret;exact ⟨rfl, Drawn0.refl _⟩

/-! ### js: function 141 -/
def js.l0 : Nat → Int → List (List Int) → List (List Int) → Option (Int)
 | 0, _, _, _ => none
 | k + 1, x5, qT, QI => if x5 ≤ (mn (qT.length : Int) (QI.length : Int)) then (if 0 ≤ (wrap64 ((qT.length : Int) - x5)) then (if (wrap64 ((qT.length : Int) - x5)) < (qT.length : Int) then (if 0 ≤ (wrap64 ((QI.length : Int) - x5)) then (if (wrap64 ((QI.length : Int) - x5)) < (QI.length : Int) then ((zv.f (je qT (wrap64 ((qT.length : Int) - x5))) (je QI (wrap64 ((QI.length : Int) - x5)))).bind fun jA => (if jA = 0 then (js.l0 k (wrap64 (x5 + 1)) qT QI) else (some jA))) else (none)) else (none)) else (none)) else (none)) else ((yt.f (qT.length : Int) (QI.length : Int)).bind fun YT => (some YT))
def js.f (k : Nat) (ql : List (List Int)) (qu : List (List Int)) : Option (Int) := js.l0 k 1 ql qu
set_option maxHeartbeats 8000000 in
set_option maxRecDepth 100000 in
theorem js.calls (k : Nat) (jH : Option Addr) (jG : Nat) (ql : List (List Int)) (Qd : Option Addr) (yY : Nat) (qu : List (List Int)) (r : Int) (w : World) (jJ : Kd.C (Kd.slice 5 (Kd.int .u8)) w jH ql.length ql) (jW : ql.length ≤ jG) (QH : Kd.C (Kd.slice 5 (Kd.int .u8)) w Qd qu.length qu) (Jg : qu.length ≤ yY) (h : js.f k ql qu = some r) :
  Calls Try.prog 141 #[.agg #[.slice jH ql.length jG], .agg #[.slice Qd qu.length yY]] w fun e w' => e = .returned (.int .i64 r) ∧ Below w.heap.size w w' := by
 have XB := Try.underlying31;have jC := ak jJ;have jT := ak jW;clear jJ jW;have yp := ak QH;have yC := ak Jg;clear QH Jg;have HB := ak (Below.refl w.heap.size w);have H : (js.l0 k 1 ql qu) = some r := h;clear h;have H' := ak H;clear H;go_enter Try.func141, Try.ntmps141;go_wp2_with (first | ((with_reducible refine gate_dst (N := 2) rfl ?_);refine bxd (N := 2) rfl HB ?_;clear HB;intro qt w3 hg HB qc qD hb;have jK := qD;clear hb hg) | ((with_reducible refine gate_dst (N := 3) rfl ?_);refine bxe (N := 3) rfl ?_;intro qE hg w4 hbox hb;have qi := ak (hbox);have jB := b3s hg bs;have yZ := jB;replace HB := b2s bs hb;have qx := b4 hg qc;have qw := b5 hg qc;replace qc := b1 qc hb;clear hb hbox hg));repeat (go_quiet (first | ((with_reducible refine gate_dst (N := 2) rfl ?_);refine bxd (N := 2) rfl HB ?_;clear HB;intro qt w3 hg HB qc qD hb;have jK := qD;clear hb hg) | ((with_reducible refine gate_dst (N := 3) rfl ?_);refine bxe (N := 3) rfl ?_;intro qE hg w4 hbox hb;have qi := ak (hbox);have jB := b3s hg bs;have yZ := jB;replace HB := b2s bs hb;have qx := b4 hg qc;have qw := b5 hg qc;replace qc := b1 qc hb;clear hb hbox hg)); try go_wp2_with (first | ((with_reducible refine gate_dst (N := 2) rfl ?_);refine bxd (N := 2) rfl HB ?_;clear HB;intro qt w3 hg HB qc qD hb;have jK := qD;clear hb hg) | ((with_reducible refine gate_dst (N := 3) rfl ?_);refine bxe (N := 3) rfl ?_;intro qE hg w4 hbox hb;have qi := ak (hbox);have jB := b3s hg bs;have yZ := jB;replace HB := b2s bs hb;have qx := b4 hg qc;have qw := b5 hg qc;replace qc := b1 qc hb;clear hb hbox hg)))
 go_loopg [5] k (fun kq v5 w' => ∃ (qm : Int), v5 = .int .i64 qm ∧ Aside0 (js.l0 kq qm ql qu = some r) ∧ Aside0 (kq ≤ k) ∧ Aside0 (w'.heap[qt]? = some (.cells #[(.slice jH ql.length jG)] 31 (0, 0))) ∧ Aside0 (w'.heap[qE]? = some (.cells #[(.slice Qd qu.length yY)] 31 (0, 0))) ∧ Aside0 (Below w.heap.size w w'))
 case atStart => exact ⟨(1), o2, H', ⟨Nat.le_refl _⟩, ⟨bk qc.out⟩, ⟨bk qi.out⟩, ⟨bs⟩⟩
 case round =>
  clear H';obtain ⟨qm, rfl, HA, HK1, qc, qi, HB⟩ := hrel;cases gk with
  | zero => exact absurd HA.out (by simp [js.l0])
  | succ k1 =>
   have H := HA.out;clear HA;simp only [js.l0] at H;obtain ⟨ji5, qls⟩ : ∃ j_ : Int, (mn (ql.length : Int) (qu.length : Int)) = j_ := ⟨_, rfl⟩;(first | rw [qls] at H | simp only [qls] at H)
   have qxz : (if (qu.length : Int) < (ql.length : Int) then (qu.length : Int) else (ql.length : Int)) = ji5 := qls; have hji5_n := qxz; (try simp only [Int.ofNat_lt] at hji5_n);replace H := ip H;obtain ⟨c6b0, H⟩ | ⟨c6b0, H⟩ := H
   ·obtain ⟨ji7, qqI⟩ : ∃ j_ : Int, (wrap64 ((ql.length : Int) - qm)) = j_ := ⟨_, rfl⟩;(first | rw [qqI] at H | simp only [qqI] at H)
    have hji7w : (IntKind.i64.wrap ((ql.length : Int) - qm)) = ji7 := (i64_w _).trans qqI;replace H := ipN H;obtain ⟨c8b0, H⟩ := H;replace H := ipN H;obtain ⟨c9b0, H⟩ := H;obtain ⟨qgB, qk0⟩ : ∃ j_ : Int, (wrap64 ((qu.length : Int) - qm)) = j_ := ⟨_, rfl⟩;(first | rw [qk0] at H | simp only [qk0] at H)
    have hji10w : (IntKind.i64.wrap ((qu.length : Int) - qm)) = qgB := (i64_w _).trans qk0;replace H := ipN H;obtain ⟨c11b0, H⟩ := H;replace H := ipN H;obtain ⟨c12b0, H⟩ := H;replace H := bnd H;obtain ⟨jA, A13, H⟩ := H;replace H := ie H;obtain ⟨c14b0, c14b1, H⟩ | ⟨c14b0, c14b1, H⟩ := H
    ·have H' := ak H;clear H;have qxw := qx.out;have qxn := qw.out;obtain ⟨XJ, XI⟩ := cells1 qc.out;obtain ⟨qf8, qfG⟩ := cells1 qi.out;obtain ⟨qqP, XE, XD, rfl, Zd, JJ, Qc, qcn, qcm⟩ := el_L10 jC HB (ji7);obtain ⟨JA, QG, QF, rfl, qA, zx, jz, yr, yq⟩ := el_L10 yp HB (qgB);go_wp2_with ((go_at_call 143;(with_reducible refine (zv.calls _ _ (je ql (ji7)) _ _ (je qu (qgB)) jA _ (cv Qc HB) JJ.out (cv jz HB) zx.out A13.out).mono ?_);rintro e w' ⟨rfl, ⟨nd, rfl⟩⟩;(try first | exact ⟨rfl, _, World.drewN_drewN _ _ _⟩ | exact ⟨rfl, _, Eq.trans (World.drewN_drewN _ _ _) (congrArg (World.drewN _) (Nat.add_assoc _ _ _))⟩)));repeat (go_quiet ((go_at_call 143;(with_reducible refine (zv.calls _ _ (je ql (ji7)) _ _ (je qu (qgB)) jA _ (cv Qc HB) JJ.out (cv jz HB) zx.out A13.out).mono ?_);rintro e w' ⟨rfl, ⟨nd, rfl⟩⟩;(try first | exact ⟨rfl, _, World.drewN_drewN _ _ _⟩ | exact ⟨rfl, _, Eq.trans (World.drewN_drewN _ _ _) (congrArg (World.drewN _) (Nat.add_assoc _ _ _))⟩))); try go_wp2_with ((go_at_call 143;(with_reducible refine (zv.calls _ _ (je ql (ji7)) _ _ (je qu (qgB)) jA _ (cv Qc HB) JJ.out (cv jz HB) zx.out A13.out).mono ?_);rintro e w' ⟨rfl, ⟨nd, rfl⟩⟩;(try first | exact ⟨rfl, _, World.drewN_drewN _ _ _⟩ | exact ⟨rfl, _, Eq.trans (World.drewN_drewN _ _ _) (congrArg (World.drewN _) (Nat.add_assoc _ _ _))⟩))))
     go_roundg k1;case measure => have := HK1.out; omega
     case rel => exact ⟨(wrap64 (qm + 1)), o2, H', ⟨by have := HK1.out; omega⟩, ⟨bk qc.out⟩, ⟨bk qi.out⟩, ⟨bs⟩⟩
    ·obtain rfl := Option.some.inj H;have qDb := qx.out;have qCI := qw.out;obtain ⟨qf7, qfF⟩ := cells1 qc.out;obtain ⟨qdZ, qdL⟩ := cells1 qi.out;obtain ⟨qqP, XE, XD, rfl, Zd, JJ, Qc, qcn, qcm⟩ := el_L10 jC HB (ji7);obtain ⟨JA, QG, QF, rfl, qA, zx, jz, yr, yq⟩ := el_L10 yp HB (qgB);go_wp2_with ((go_at_call 143;(with_reducible refine (zv.calls _ _ (je ql (ji7)) _ _ (je qu (qgB)) jA _ (cv Qc HB) JJ.out (cv jz HB) zx.out A13.out).mono ?_);rintro e w' ⟨rfl, ⟨nd, rfl⟩⟩;(try first | exact ⟨rfl, _, World.drewN_drewN _ _ _⟩ | exact ⟨rfl, _, Eq.trans (World.drewN_drewN _ _ _) (congrArg (World.drewN _) (Nat.add_assoc _ _ _))⟩)));repeat (go_quiet ((go_at_call 143;(with_reducible refine (zv.calls _ _ (je ql (ji7)) _ _ (je qu (qgB)) jA _ (cv Qc HB) JJ.out (cv jz HB) zx.out A13.out).mono ?_);rintro e w' ⟨rfl, ⟨nd, rfl⟩⟩;(try first | exact ⟨rfl, _, World.drewN_drewN _ _ _⟩ | exact ⟨rfl, _, Eq.trans (World.drewN_drewN _ _ _) (congrArg (World.drewN _) (Nat.add_assoc _ _ _))⟩))); try go_wp2_with ((go_at_call 143;(with_reducible refine (zv.calls _ _ (je ql (ji7)) _ _ (je qu (qgB)) jA _ (cv Qc HB) JJ.out (cv jz HB) zx.out A13.out).mono ?_);rintro e w' ⟨rfl, ⟨nd, rfl⟩⟩;(try first | exact ⟨rfl, _, World.drewN_drewN _ _ _⟩ | exact ⟨rfl, _, Eq.trans (World.drewN_drewN _ _ _) (congrArg (World.drewN _) (Nat.add_assoc _ _ _))⟩))))
     go_ret;exact ⟨by first | rfl | (simp [errW_none, errW_some] <;> rfl) | (simp only [← qls, ← qqI, ← qk0]; first | rfl | (simp [errW_none, errW_some] <;> rfl)) | (simp [*, errW_none, errW_some] <;> rfl), bs⟩
   ·replace H := bnd H;obtain ⟨YT, A21, H⟩ := H;obtain rfl := Option.some.inj H;have qxu := qx.out;have qxl := qw.out;obtain ⟨qcW, qcN⟩ := cells1 qc.out;obtain ⟨qij, qhJ⟩ := cells1 qi.out;go_wp2_with ((go_at_call 142;(with_reducible refine (yt.calls (ql.length : Int) (qu.length : Int) YT _ A21.out).mono ?_);rintro e w' ⟨rfl, ⟨nd, rfl⟩⟩;(try first | exact ⟨rfl, _, World.drewN_drewN _ _ _⟩ | exact ⟨rfl, _, Eq.trans (World.drewN_drewN _ _ _) (congrArg (World.drewN _) (Nat.add_assoc _ _ _))⟩)));repeat (go_quiet ((go_at_call 142;(with_reducible refine (yt.calls (ql.length : Int) (qu.length : Int) YT _ A21.out).mono ?_);rintro e w' ⟨rfl, ⟨nd, rfl⟩⟩;(try first | exact ⟨rfl, _, World.drewN_drewN _ _ _⟩ | exact ⟨rfl, _, Eq.trans (World.drewN_drewN _ _ _) (congrArg (World.drewN _) (Nat.add_assoc _ _ _))⟩))); try go_wp2_with ((go_at_call 142;(with_reducible refine (yt.calls (ql.length : Int) (qu.length : Int) YT _ A21.out).mono ?_);rintro e w' ⟨rfl, ⟨nd, rfl⟩⟩;(try first | exact ⟨rfl, _, World.drewN_drewN _ _ _⟩ | exact ⟨rfl, _, Eq.trans (World.drewN_drewN _ _ _) (congrArg (World.drewN _) (Nat.add_assoc _ _ _))⟩))))
    go_ret;exact ⟨by first | rfl | (simp [errW_none, errW_some] <;> rfl) | (simp only [← qls]; first | rfl | (simp [errW_none, errW_some] <;> rfl)) | (simp [*, errW_none, errW_some] <;> rfl), bs⟩

/-! ### yM: function 102 -/
def yM.f (k : Nat) (ql : List (List Int)) (qu : List (List Int)) : Option (Bool) := (js.f k ql qu).bind fun jh => (some (jh == 0))
set_option maxHeartbeats 8000000 in
set_option maxRecDepth 100000 in
theorem yM.calls (k : Nat) (jH : Option Addr) (jG : Nat) (ql : List (List Int)) (Qd : Option Addr) (yY : Nat) (qu : List (List Int)) (r : Bool) (w : World) (jJ : Kd.C (Kd.slice 5 (Kd.int .u8)) w jH ql.length ql) (jW : ql.length ≤ jG) (QH : Kd.C (Kd.slice 5 (Kd.int .u8)) w Qd qu.length qu) (Jg : qu.length ≤ yY) (h : yM.f k ql qu = some r) :
  Calls Try.prog 102 #[.agg #[.slice jH ql.length jG], .agg #[.slice Qd qu.length yY]] w fun e w' => e = .returned (.bool r) ∧ Below w.heap.size w w' := by
 have XB := Try.underlying31;have jC := ak jJ;have jT := ak jW;clear jJ jW;have yp := ak QH;have yC := ak Jg;clear QH Jg;have HB := ak (Below.refl w.heap.size w);have H : ((js.f k ql qu).bind fun jh => (some (jh == 0))) = some r := h;clear h;replace H := bnd H;obtain ⟨jh, A3, H⟩ := H;obtain rfl := Option.some.inj H;go_enter Try.func102, Try.ntmps102;go_wp2_with (first | ((with_reducible refine gate_dst (N := 2) rfl ?_);refine bxd (N := 2) rfl HB ?_;clear HB;intro qt w4 hg HB qc qD hb;have jK := qD;clear hb hg) | ((with_reducible refine gate_dst (N := 3) rfl ?_);refine bxe (N := 3) rfl ?_;intro qE hg w5 hbox hb;have qi := ak (hbox);have jB := b3s hg bs;have yZ := jB;replace HB := b2s bs hb;have qx := b4 hg qc;have qw := b5 hg qc;replace qc := b1 qc hb;clear hb hbox hg;have qwc := qx.out;have qwa := qw.out;obtain ⟨qq8, qq1⟩ := cells1 qc.out;obtain ⟨qdl, qdi⟩ := cells1 qi.out) | ((with_reducible refine gate_callee (f := 141) rfl ?_);refine glB 7 rfl rfl Try.func141 (js.calls k _ _ ql _ _ qu jh _ (cv jC HB) jT.out (cv yp HB) yC.out A3.out) (fun w9 hb => ?_);replace qc := b1 qc hb;replace qi := b1 qi hb;replace HB := b2s bs hb;(try clear hb)));go_ret;exact ⟨o1, bs⟩

/-! ### jF: function 140 -/
def jF.l0 : Nat → Int → List Int → Int → Int → Option (Int)
 | 0, _, _, _, _ => none
 | k + 1, x3, x6, x7, x8 => if x8 < x7 then (if 0 ≤ x8 then (if x8 < (x6.length : Int) then (if (rd x6 x8) = x3 then (jF.l0 k x3 x6 x7 (wrap64 (x8 + 1))) else (some (rd x6 x8))) else (none)) else (none)) else (some x3)
def jF.f (k : Nat) (l0 : List Int) : Option (Int) := jF.l0 k 0 l0 (l0.length : Int) 0
set_option maxHeartbeats 8000000 in
set_option maxRecDepth 100000 in
theorem jF.calls (k : Nat) (A0 : Option Addr) (c0 : Nat) (l0 : List Int) (r : Int) (w : World) (hr0 : Kd.C (Kd.int .i64) w A0 l0.length l0) (hc0 : l0.length ≤ c0) (h : jF.f k l0 = some r) :
  Calls Try.prog 140 #[.slice A0 l0.length c0] w fun e w' => e = .returned (.int .i64 r) ∧ Drawn0 w w' := by
 have HR0 := ak hr0;have HC0 := ak hc0;clear hr0 hc0;have H : (jF.l0 k 0 l0 (l0.length : Int) 0) = some r := h;clear h;have H' := ak H;clear H;go_enter Try.func140, Try.ntmps140;go_wp2;go_loopg [8] k (fun kq v8 w' => ∃ (qi2 : Int), v8 = .int .i64 qi2 ∧ Aside0 (jF.l0 kq 0 l0 (l0.length : Int) qi2 = some r) ∧ Aside0 (kq ≤ k) ∧ Drawn0 w w')
 case atStart => exact ⟨(0), o2, H', ⟨Nat.le_refl _⟩, od⟩
 case round =>
  clear H';obtain ⟨qi2, rfl, HA, HK1, ⟨m1, rfl⟩⟩ := hrel;cases gk with
  | zero => exact absurd HA.out (by simp [jF.l0])
  | succ k1 =>
   have H := HA.out;clear HA;simp only [jF.l0] at H;replace H := ip H;obtain ⟨c2b0, H⟩ | ⟨c2b0, H⟩ := H
   ·replace H := ipN H;obtain ⟨c3b0, H⟩ := H;replace H := ipN H;obtain ⟨c4b0, H⟩ := H;replace H := ie H;obtain ⟨c5b0, c5b1, H⟩ | ⟨c5b0, c5b1, H⟩ := H
    ·have H' := ak H;clear H;obtain ⟨qg, rfl, zt, Zg, Zf⟩ := el0_int HR0 qi2;go_wp2;go_roundg k1;case measure => have := HK1.out; omega
     case rel => exact ⟨(wrap64 (qi2 + 1)), o2, H', ⟨by have := HK1.out; omega⟩, od⟩
    ·obtain rfl := Option.some.inj H;obtain ⟨qg, rfl, zt, Zg, Zf⟩ := el0_int HR0 qi2;go_wp2;go_ret;exact ⟨o2, od⟩
   ·obtain rfl := Option.some.inj H;go_wp2;go_ret;exact ⟨o2, od⟩

/-! ### ZY: function 85 -/
def ZY.f (a0 : Int) : Option (Bool) := if a0 = 2 then (some true) else (if a0 = 5 then (some true) else (if a0 = 6 then (some true) else (some (a0 == 12))))
set_option maxHeartbeats 8000000 in
set_option maxRecDepth 100000 in
theorem ZY.calls (a0 : Int) (r : Bool) (w : World) (h : ZY.f a0 = some r) :
  Calls Try.prog 85 #[.int .i64 a0] w fun e w' => e = .returned (.bool r) ∧ Drawn0 w w' := by
 have H : (if a0 = 2 then (some true) else (if a0 = 5 then (some true) else (if a0 = 6 then (some true) else (some (a0 == 12))))) = some r := h;clear h;replace H := ie H;obtain ⟨c2b0, c2b1, H⟩ | ⟨c2b0, c2b1, H⟩ := H
 ·obtain rfl := Option.some.inj H;go_enter Try.func85, Try.ntmps85;go_wp2;go_ret;exact ⟨o2, od⟩
 ·replace H := ie H;obtain ⟨c3b0, c3b1, H⟩ | ⟨c3b0, c3b1, H⟩ := H
  ·obtain rfl := Option.some.inj H;go_enter Try.func85, Try.ntmps85;go_wp2;go_ret;exact ⟨o2, od⟩
  ·replace H := ie H;obtain ⟨c4b0, c4b1, H⟩ | ⟨c4b0, c4b1, H⟩ := H
   ·obtain rfl := Option.some.inj H;go_enter Try.func85, Try.ntmps85;go_wp2;go_ret;exact ⟨o2, od⟩
   ·obtain rfl := Option.some.inj H;go_enter Try.func85, Try.ntmps85;go_wp2;go_ret;exact ⟨o2, od⟩

/-! ### XU: function 200 -/
def XU.f (a0 : Int) : Option (List Int) := some (([(a0 / 256) % 256, (a0) % 256] : List Int))
set_option maxHeartbeats 8000000 in
set_option maxRecDepth 100000 in
theorem XU.calls (a0 : Int) (r : List Int) (w : World) (h : XU.f a0 = some r) :
  Calls Try.prog 200 #[.int .i64 a0] w fun e w' => ∃ v0_ : Value, e = .returned (v0_) ∧ Kd.R (Kd.int .u8) 5 w' w.heap.size (fun _ => True) v0_ r ∧ Below w.heap.size w w' := by
 have HB := ak (Below.refl w.heap.size w);have H : (some (([(a0 / 256) % 256, (a0) % 256] : List Int))) = some r := h;clear h;obtain ⟨Yn, Zv⟩ : ∃ y_ : List Int, y_ = (([(a0 / 256) % 256, (a0) % 256] : List Int)) := ⟨_, rfl⟩;(try with_reducible replace H := bnS H)
 (try rw [← Zv] at H)
 have ZT := ak Zv;clear Zv;obtain rfl := Option.some.inj H;go_enter Try.func200, Try.ntmps200;go_wp2_with (((with_reducible refine gate_dst (N := 8) rfl ?_);refine Kd.R_lit (Kd.int .u8) _ 5 ?hg (N := 8) ?hd (xs := ([(a0 / 256) % 256, (a0) % 256] : List Int)) (inner := [.int .u8 ((a0 / 256) % 256), .int .u8 ((a0) % 256)]) (ok := fun _ => True) (okp := fun _ => True) ?hr ?hp (fun _ hk => hk) trivial (Below.refl _ _) (Nat.le_refl _) (by simp) ?_;(case hd => rfl);(case hg => rfl);(case hr => first | (go_simp; done) | (go_simp; rfl));(case hp => exact (Reps.one (show Kd.M (Kd.int .u8) _ _ _ ((a0 / 256) % 256) [.int .u8 ((a0 / 256) % 256)] from rfl) (Reps.one (show Kd.M (Kd.int .u8) _ _ _ ((a0) % 256) [.int .u8 ((a0) % 256)] from rfl) (Reps.none _ _))));intro qa9 w2 ho3 hb hg_ hnew_;clear hg_ hnew_;(first | rw [← ZT.out] at ho3 | (simp only [Int.reduceToNat] at ho3; rw [← ZT.out] at ho3));have Zx := ak (Kd.R_lower ho3 (below_size (bw HB.out)));replace HB := b2 HB hb;clear hb ho3));go_ret;exact ⟨_, o1, rw_ Zx.out, bw HB.out⟩

/-! ### Xi: function 149 -/
def Xi.f (a0 : Int) : Option (List Int) := (XU.f (a0 / 65536)).bind fun Zi => ((XU.f a0).bind fun qM => (if Zi.length + qM.length < 140737488355328 then (some (Zi ++ qM)) else (none)))
set_option maxHeartbeats 8000000 in
set_option maxRecDepth 100000 in
theorem Xi.calls (a0 : Int) (r : List Int) (w : World) (h : Xi.f a0 = some r) :
  Calls Try.prog 149 #[.int .i64 a0] w fun e w' => ∃ v0_ : Value, e = .returned (v0_) ∧ Kd.R (Kd.int .u8) 5 w' w.heap.size (fun _ => True) v0_ r ∧ Below w.heap.size w w' := by
 have HB := ak (Below.refl w.heap.size w);have H : ((XU.f (a0 / 65536)).bind fun Zi => ((XU.f a0).bind fun qM => (if Zi.length + qM.length < 140737488355328 then (some (Zi ++ qM)) else (none)))) = some r := h;clear h;replace H := bnd H;obtain ⟨Zi, A2, H⟩ := H;replace H := bnd H;obtain ⟨qM, A3, H⟩ := H;by_cases c4 : Zi.length + qM.length < 140737488355328
 ·rw [if_pos c4] at H;have qyu := ak c4;clear c4;obtain ⟨qci, qgG⟩ : ∃ y_ : List Int, y_ = (Zi ++ qM) := ⟨_, rfl⟩;(try with_reducible replace H := bnS H)
  (try rw [← qgG] at H)
  have qk5 := ak qgG;clear qgG;obtain rfl := Option.some.inj H;go_enter Try.func149, Try.ntmps149;go_wp2_with (first | ((with_reducible refine gate_callee (f := 200) rfl ?_);refine glG 5 rfl rfl Try.func200 (XU.calls (a0 / 65536) Zi _ A2.out) ?_;rintro e w5 ⟨qa9, rfl, ho0, hb⟩;refine ⟨_, rfl, ?_⟩;have Zx := ak (Kd.R_lower ho0 (below_size (bw HB.out)));replace HB := b2 HB hb;(try clear hb);(try clear ho0)) | ((with_reducible refine gate_callee (f := 200) rfl ?_);refine glG 7 rfl rfl Try.func200 (XU.calls a0 qM _ A3.out) ?_;rintro e w6 ⟨qgS, rfl, ho0, hb⟩;refine ⟨_, rfl, ?_⟩;have Qh := ak (Kd.R_lower (Kd.R_new' ho0 (Kd.R_lt (rw_ Zx.out))) (below_size (bw HB.out)));replace Zx := ak (Kd.R_elder' (rw_ Zx.out) (Kd.R_base ho0) hb);replace HB := b2 HB hb;(try clear hb);(try clear ho0);obtain ⟨Ao8, co8, eo8⟩ := Kd.R_slice Qh.out;subst eo8) | ((with_reducible refine gate_builtin (b := .append) (xs := #[.tmp 5, .tmp 7]) rfl ?_);at_builtin;refine Kd.R_append_rows (Kd.int .u8) (w0 := w) w.heap.size rfl (.tmp 5) (.tmp 7) 25 5 (.int .u8 0) 1 rfl Try.underlying25 qaQ rfl (by decide) (by omega) qa9 Zi qM _ _ _ (fun k_ => some k_ ≠ (.slice Ao8 qM.length co8 : Value).ownBlock) (fun _ => False) rfl rfl ?aO ?aR (fun _ _ h => h) (fun _ h => h.elim) ?aF ?aB ?aS ?aL ?_;(case aR => repeat (first | exact (Kd.R_reads' Qh.out).2.2 | (with_reducible refine Kd.C_alloc ?_ _) | (with_reducible refine Kd.C_drewN ?_ _) | (with_reducible refine Kd.C_drew ?_)));(case aB => exact (bw HB.out));(case aF => exact (fun k_ hk => Kd.fresh' (Kd.R_lt (rw_ Qh.out)) k_ hk));(case aO => exact (rw_ (Kd.R_mono Zx.out (fun _ hk => hk.2))));(case aS => exact (below_size (bw HB.out)));(case aL => have := qyu.out; omega);intro qri w7 ho hb hg hat;rw [← qk5.out] at ho;replace Qh := ak (Kd.R_after (ok := (fun _ => True)) (rw_ Qh.out) hg hat);replace HB := ak (hb);have XS := ak (ho);clear Zx;clear ho hb hg hat));go_ret;exact ⟨_, o1, by (with_reducible repeat (first | apply Kd.R_alloc | apply Kd.R_drewN | apply Kd.R_drew)); exact Kd.R_mono XS.out (fun _ hk => trivial), bw HB.out⟩
 ·rw [if_neg c4] at H;exact absurd H (by simp)

/-! ### zK: function 156 -/
def zK.l0 : Nat → List Int → List (List Int) → Int → Int → Option (List Int)
 | 0, _, _, _, _ => none
 | k + 1, x3, x8, x9, x10 => if x10 < x9 then (if 0 ≤ x10 then (if x10 < (x8.length : Int) then (if x3.length < 140737488355328 then ((some (x3 ++ [(((je x8 x10).length : Int)) % 256] : List Int)).bind fun qi1 => (if qi1.length + (je x8 x10).length < 140737488355328 then (zK.l0 k (qi1 ++ (je x8 x10)) x8 x9 (wrap64 (x10 + 1))) else (none))) else (none)) else (none)) else (none)) else (if x3.length < 140737488355328 then (some (x3 ++ [0])) else (none))
def zK.f (k : Nat) (ql : List (List Int)) : Option (List Int) := zK.l0 k (([] : List Int)) ql (ql.length : Int) 0
set_option maxHeartbeats 8000000 in
set_option maxRecDepth 100000 in
theorem zK.calls (k : Nat) (jH : Option Addr) (jG : Nat) (ql : List (List Int)) (r : List Int) (w : World) (jJ : Kd.C (Kd.slice 5 (Kd.int .u8)) w jH ql.length ql) (jW : ql.length ≤ jG) (h : zK.f k ql = some r) :
  Calls Try.prog 156 #[.agg #[.slice jH ql.length jG]] w fun e w' => ∃ v0_ : Value, e = .returned (v0_) ∧ Kd.R (Kd.int .u8) 5 w' w.heap.size (fun _ => True) v0_ r ∧ Below w.heap.size w w' := by
 have XB := Try.underlying31;have jC := ak jJ;have jT := ak jW;clear jJ jW;have HB := ak (Below.refl w.heap.size w);have H : (zK.l0 k (([] : List Int)) ql (ql.length : Int) 0) = some r := h;clear h;replace H : ∃ qqm : List Int, qqm = (([] : List Int)) ∧ (zK.l0 k qqm ql (ql.length : Int) 0) = some r := ⟨_, rfl, H⟩;obtain ⟨qqm, qrL, H⟩ := H;have qrY := ak qrL;clear qrL;have H' := ak H;clear H;go_enter Try.func156, Try.ntmps156;go_wp2_with (first | ((with_reducible refine gate_dst (N := 1) rfl ?_);refine bxd (N := 1) rfl HB ?_;clear HB;intro qt w2 hg HB qc qD hb;have jK := qD;clear hb hg) | ((with_reducible refine gate_dst (N := 6) rfl ?_);refine Kd.R_lit (Kd.int .u8) _ 5 ?hg (N := 6) ?hd (xs := ([] : List Int)) (inner := []) (ok := fun _ => True) (okp := fun _ => True) ?hr ?hp (fun _ hk => hk) trivial (Below.refl _ _) (Nat.le_refl _) (by simp) ?_;(case hd => rfl);(case hg => rfl);(case hr => first | (go_simp; done) | (go_simp; rfl));(case hp => exact (Reps.none _ _));intro qvW w3 ho4 hb hg_ hnew_;clear hg_ hnew_;(first | rw [← qrY.out] at ho4 | (simp only [Int.reduceToNat] at ho4; rw [← qrY.out] at ho4));have qi0 := ak (Kd.R_lower ho4 (below_size bs));replace qc := b1 qc hb;replace HB := b2s bs hb;clear hb ho4;obtain ⟨qg7, qg0⟩ := cells1 qc.out));go_loopg [3, 10] k (fun kq v3 v10 w' => ∃ (zd : List Int) (qcj : Int), v10 = .int .i64 qcj ∧ Aside0 (zK.l0 kq zd ql (ql.length : Int) qcj = some r) ∧ Aside0 (kq ≤ k) ∧ Aside0 (Kd.R (Kd.int .u8) 5 w' w.heap.size (fun _ => True) v3 zd) ∧ Aside0 (w'.heap[qt]? = some (.cells #[(.slice jH ql.length jG)] 31 (0, 0))) ∧ Aside0 (Below w.heap.size w w'))
 case atStart => exact ⟨(qqm), (0), o2, H', ⟨Nat.le_refl _⟩, ⟨rw_ qi0.out⟩, ⟨bk qc.out⟩, ⟨bs⟩⟩
 case round =>
  clear H';(try clear qg7)
  (try clear qg0)
  obtain ⟨zd, qcj, rfl, HA, HK1, HO_3, qc, HB⟩ := hrel;cases gk with
  | zero => exact absurd HA.out (by simp [zK.l0])
  | succ k1 =>
   have H := HA.out;clear HA;simp only [zK.l0] at H;replace H := ip H;obtain ⟨c6b0, H⟩ | ⟨c6b0, H⟩ := H
   ·replace H := ipN H;obtain ⟨c7b0, H⟩ := H;replace H := ipN H;obtain ⟨c8b0, H⟩ := H;by_cases c9 : zd.length < 140737488355328
    ·rw [if_pos c9] at H;have qyt := ak c9;clear c9;obtain ⟨qi1, qqE⟩ : ∃ y_ : List Int, y_ = (zd ++ [(((je ql qcj).length : Int)) % 256]) := ⟨_, rfl⟩;(try with_reducible replace H := bnS H)
     (try rw [← qqE] at H)
     have qxI := ak qqE;clear qqE;by_cases c10 : qi1.length + (je ql qcj).length < 140737488355328
     ·rw [if_pos c10] at H;have qxO := ak c10;clear c10;obtain ⟨qeF, qgF⟩ : ∃ y_ : List Int, y_ = (qi1 ++ (je ql qcj)) := ⟨_, rfl⟩;(try with_reducible replace H := bnS H)
      (try rw [← qgF] at H)
      have qiA := ak qgF;clear qgF;have H' := ak H;clear H;obtain ⟨jX, yG, yF, rfl, zU, qcg, qbB, JL, JK⟩ := el_L10 jC HB qcj;go_wp2_with (first | ((with_reducible refine gate_builtin (b := .append) (xs := #[.tmp 14, .tmp 18]) rfl ?_);at_builtin;refine Kd.R_append (Kd.int .u8) (w0 := w) w.heap.size rfl (.tmp 14) (.tmp 18) 25 5 (.int .u8 0) 1 rfl Try.underlying25 qaQ rfl (by decide) (by omega) u3 zd ((((je ql qcj).length : Int)) % 256) [.int .u8 ((((je ql qcj).length : Int)) % 256)] (fun _ => True) (fun _ => False) rfl rfl ?aP (fun _ hk => hk.elim) ?aF ?aO ?aB ?aS ?aL ?_;(case aP => exact rfl);(case aB => exact bs);(case aF => exact (fun _ _ => trivial));(case aO => exact (rw_ HO_3.out));(case aS => exact (below_size bs));(case aL => have := qyt.out; omega);intro qvV w11 ho hb hg hat;rw [← qxI.out] at ho;replace qc := ak (blk_grown (bk qc.out) hg (Kd.R_ne HO_3.out qc.out (by decide)));replace HB := ak (hb);have qiZ := ak (ho);clear HO_3;clear ho hb hg hat) | ((with_reducible refine gate_builtin (b := .append) (xs := #[.tmp 19, .tmp 20]) rfl ?_);at_builtin;refine Kd.R_append_rows (Kd.int .u8) (w0 := w) w.heap.size rfl (.tmp 19) (.tmp 20) 25 5 (.int .u8 0) 1 rfl Try.underlying25 qaQ rfl (by decide) (by omega) qvV qi1 (je ql qcj) _ _ _ (fun _ => True) (fun _ => False) rfl rfl ?aO ?aR (fun _ _ h => h) (fun _ h => h.elim) ?aF ?aB ?aS ?aL ?_;(case aR => exact cw qbB.out HB.out);(case aB => exact bs);(case aF => exact (fun _ _ => trivial));(case aO => exact (rw_ qiZ.out));(case aS => exact (below_size bs));(case aL => have := qxO.out; omega);intro qx2 w12 ho hb hg hat;rw [← qiA.out] at ho;replace qc := ak (blk_grown (bk qc.out) hg (Kd.R_ne qiZ.out qc.out (by decide)));replace HB := ak (hb);have qeD := ak (ho);clear qiZ;clear ho hb hg hat));go_roundg k1;case measure => have := HK1.out; omega
      case rel => exact ⟨(qeF), (wrap64 (qcj + 1)), o2, H', ⟨by have := HK1.out; omega⟩, ⟨rw_ qeD.out⟩, ⟨bk qc.out⟩, ⟨bs⟩⟩
     ·rw [if_neg c10] at H;exact absurd H (by simp)
    ·rw [if_neg c9] at H;exact absurd H (by simp)
   ·by_cases c13 : zd.length < 140737488355328
    ·rw [if_pos c13] at H;have qxM := ak c13;clear c13;obtain ⟨qvO, qgE⟩ : ∃ y_ : List Int, y_ = (zd ++ [0]) := ⟨_, rfl⟩;(try with_reducible replace H := bnS H)
     (try rw [← qgE] at H)
     have qk4 := ak qgE;clear qgE;obtain rfl := Option.some.inj H;go_wp2_with (((with_reducible refine gate_builtin (b := .append) (xs := #[.tmp 23, .tmp 24]) rfl ?_);at_builtin;refine Kd.R_append (Kd.int .u8) (w0 := w) w.heap.size rfl (.tmp 23) (.tmp 24) 25 5 (.int .u8 0) 1 rfl Try.underlying25 qaQ rfl (by decide) (by omega) u3 zd 0 [.int .u8 0] (fun _ => True) (fun _ => False) rfl rfl ?aP (fun _ hk => hk.elim) ?aF ?aO ?aB ?aS ?aL ?_;(case aP => exact rfl);(case aB => exact bs);(case aF => exact (fun _ _ => trivial));(case aO => exact (rw_ HO_3.out));(case aS => exact (below_size bs));(case aL => have := qxM.out; omega);intro qk8 w14 ho hb hg hat;rw [← qk4.out] at ho;replace qc := ak (blk_grown (bk qc.out) hg (Kd.R_ne HO_3.out qc.out (by decide)));replace HB := ak (hb);have qiY := ak (ho);clear HO_3;clear ho hb hg hat));go_ret;exact ⟨_, o1, rw_ qiY.out, bs⟩
    ·rw [if_neg c13] at H;exact absurd H (by simp)

/-! ### zw: function 144 -/
def zw.l0 : Nat → List Int → List Int → Int → Int → Option (List Int)
 | 0, _, _, _, _ => none
 | k + 1, x3, x21, x22, x23 => if x23 < x22 then (if 0 ≤ x23 then (if x23 < (x21.length : Int) then ((Xi.f (rd x21 x23)).bind fun yH => (if x3.length + yH.length < 140737488355328 then (zw.l0 k (x3 ++ yH) x21 x22 (wrap64 (x23 + 1))) else (none))) else (none)) else (none)) else (some x3)
def zw.f (k : Nat) (ql : List (List Int)) (qo : Int) (qV : Int) (jm : Int) (qU : List (List Int)) (qN : List Int) (qF : List Int) : Option (List Int) := if qo = 1 then ((Xi.f jm).bind fun ji => (some ji)) else ((ZY.f qo).bind fun jA => (if jA = true then ((zK.f k qU).bind fun YT => (zw.l0 k YT qF (qF.length : Int) 0)) else ((some (([((qN.length : Int)) % 256] : List Int) : List Int)).bind fun qdp => (if qdp.length + qN.length < 140737488355328 then (some (qdp ++ qN)) else (none)))))
set_option maxHeartbeats 8000000 in
set_option maxRecDepth 100000 in
theorem zw.calls (k : Nat) (jH : Option Addr) (jG : Nat) (ql : List (List Int)) (qo : Int) (qV : Int) (jm : Int) (QC : Option Addr) (QB : Nat) (qU : List (List Int)) (Jb : Option Addr) (QX : Nat) (qN : List Int) (Je : Option Addr) (QW : Nat) (qF : List Int) (r : List Int) (w : World) (jJ : Kd.C (Kd.slice 5 (Kd.int .u8)) w jH ql.length ql) (jW : ql.length ≤ jG) (JQ : Kd.C (Kd.slice 5 (Kd.int .u8)) w QC qU.length qU) (JT : qU.length ≤ QB) (JP : Kd.C (Kd.int .u8) w Jb qN.length qN) (JS : qN.length ≤ QX) (JO : Kd.C (Kd.int .i64) w Je qF.length qF) (JR : qF.length ≤ QW) (h : zw.f k ql qo qV jm qU qN qF = some r) :
  Calls Try.prog 144 #[.agg #[.slice jH ql.length jG, .int .i64 qo, .int .i64 qV, .int .i64 jm, .slice QC qU.length QB, .slice Jb qN.length QX, .slice Je qF.length QW]] w fun e w' => ∃ v0_ : Value, e = .returned (v0_) ∧ Kd.R (Kd.int .u8) 5 w' w.heap.size (fun _ => True) v0_ r ∧ Below w.heap.size w w' := by
 have qdr := Try.underlying33;have XB := Try.underlying31;have jC := ak jJ;have jT := ak jW;clear jJ jW;have Zs := ak JQ;have Zt := ak JT;clear JQ JT;have Yl := ak JP;have Xc := ak JS;clear JP JS;have Jl := ak JO;have XT := ak JR;clear JO JR;have HB := ak (Below.refl w.heap.size w);have H : (if qo = 1 then ((Xi.f jm).bind fun ji => (some ji)) else ((ZY.f qo).bind fun jA => (if jA = true then ((zK.f k qU).bind fun YT => (zw.l0 k YT qF (qF.length : Int) 0)) else ((some (([((qN.length : Int)) % 256] : List Int) : List Int)).bind fun qdp => (if qdp.length + qN.length < 140737488355328 then (some (qdp ++ qN)) else (none)))))) = some r := h;clear h;replace H := ie H;obtain ⟨c2b0, c2b1, H⟩ | ⟨c2b0, c2b1, H⟩ := H
 ·replace H := bnd H;obtain ⟨ji, A3, H⟩ := H;obtain rfl := Option.some.inj H;go_enter Try.func144, Try.ntmps144;go_wp2_with (first | ((with_reducible refine gate_dst (N := 1) rfl ?_);refine bxd (N := 1) rfl HB ?_;clear HB;intro qt w4 hg HB qc qD hb;have jK := qD;clear hb hg;obtain ⟨qg7, qlN, qlM, qwC, qwB, qwA, qwz, qg0, qlw, qlv, qwm, qwl, qwk, qwj⟩ := cells7 qc.out) | ((with_reducible refine gate_callee (f := 149) rfl ?_);refine glG 12 rfl rfl Try.func149 (Xi.calls jm ji _ A3.out) ?_;rintro e w6 ⟨qvW, rfl, ho0, hb⟩;refine ⟨_, rfl, ?_⟩;have qi0 := ak (Kd.R_lower ho0 (below_size bs));replace qc := b1 qc hb;replace HB := b2s bs hb;(try clear hb);(try clear ho0)));go_ret;exact ⟨_, o1, rw_ qi0.out, bs⟩
 ·replace H := bnd H;obtain ⟨jA, A7, H⟩ := H;replace H := ib H;obtain ⟨rfl, H⟩ | ⟨rfl, H⟩ := H
  ·replace H := bnd H;obtain ⟨YT, A9, H⟩ := H;have H' := ak H;clear H;go_enter Try.func144, Try.ntmps144;go_wp2_with (first | ((with_reducible refine gate_dst (N := 1) rfl ?_);refine bxd (N := 1) rfl HB ?_;clear HB;intro qt w10 hg HB qc qD hb;have jK := qD;clear hb hg;obtain ⟨qa7, qcb, qca, qge, qgd, qgc, qgb, qa4, qb0, qbZ, qfM, qfL, qfK, qfJ⟩ := cells7 qc.out) | ((with_reducible refine gate_callee (f := 85) rfl ?_);refine glD 16 rfl rfl Try.func85 (ZY.calls qo true _ A7.out) (fun nd => ?_)) | ((with_reducible refine gate_callee (f := 156) rfl ?_);refine glG 19 rfl rfl Try.func156 (zK.calls k _ _ qU YT _ ?zA Zt.out A9.out) ?_;(case zA => repeat (first | exact (Kd.C_below Zs.out bs) | (with_reducible refine Kd.C_alloc ?_ _) | (with_reducible refine Kd.C_drewN ?_ _) | (with_reducible refine Kd.C_drew ?_)));rintro e w12 ⟨qvV, rfl, ho0, hb⟩;refine ⟨_, rfl, ?_⟩;have qiZ := ak (Kd.R_lower ho0 (below_size bs));replace qc := b1 qc hb;replace HB := b2s bs hb;(try clear hb);(try clear ho0);obtain ⟨qaB, qb9, qb8, qd4, qd3, qd2, qd1, qax, qbY, qbX, qdQ, qdP, qdO, qdN⟩ := cells7 qc.out));go_loopg [3, 23] k (fun kq v3 v23 w' => ∃ (zd : List Int) (qhh : Int), v23 = .int .i64 qhh ∧ Aside0 (zw.l0 kq zd qF (qF.length : Int) qhh = some r) ∧ Aside0 (kq ≤ k) ∧ Aside0 (Kd.R (Kd.int .u8) 5 w' w.heap.size (fun _ => True) v3 zd) ∧ Aside0 (w'.heap[qt]? = some (.cells #[(.slice jH ql.length jG), .int .i64 qo, .int .i64 qV, .int .i64 jm, (.slice QC qU.length QB), (.slice Jb qN.length QX), (.slice Je qF.length QW)] 33 (0, 0))) ∧ Aside0 (Below w.heap.size w w'))
   case atStart => exact ⟨(YT), (0), o2, H', ⟨Nat.le_refl _⟩, ⟨rw_ qiZ.out⟩, ⟨bk qc.out⟩, ⟨bs⟩⟩
   case round =>
    clear H';(try clear c2b0)
    (try clear c2b1)
    (try clear qa7)
    (try clear qcb)
    (try clear qca)
    (try clear qge)
    (try clear qgd)
    (try clear qgc)
    (try clear qgb)
    (try clear qaB)
    (try clear qb9)
    (try clear qb8)
    (try clear qd4)
    (try clear qd3)
    (try clear qd2)
    (try clear qd1)
    (try clear qa4)
    (try clear qb0)
    (try clear qbZ)
    (try clear qfM)
    (try clear qfL)
    (try clear qfK)
    (try clear qfJ)
    (try clear qax)
    (try clear qbY)
    (try clear qbX)
    (try clear qdQ)
    (try clear qdP)
    (try clear qdO)
    (try clear qdN)
    obtain ⟨zd, qhh, rfl, HA, HK1, HO_3, qc, HB⟩ := hrel;cases gk with
    | zero => exact absurd HA.out (by simp [zw.l0])
    | succ k1 =>
     have H := HA.out;clear HA;simp only [zw.l0] at H;replace H := ip H;obtain ⟨c14b0, H⟩ | ⟨c14b0, H⟩ := H
     ·replace H := ipN H;obtain ⟨c15b0, H⟩ := H;replace H := ipN H;obtain ⟨c16b0, H⟩ := H;replace H := bnd H;obtain ⟨yH, A17, H⟩ := H;by_cases c18 : zd.length + yH.length < 140737488355328
      ·rw [if_pos c18] at H;have qxL := ak c18;clear c18;obtain ⟨qxU, qqB⟩ : ∃ y_ : List Int, y_ = (zd ++ yH) := ⟨_, rfl⟩;(try with_reducible replace H := bnS H)
       (try rw [← qqB] at H)
       have qxF := ak qqB;clear qqB;have H' := ak H;clear H;obtain ⟨zV, rfl, jD, Yp, Yo⟩ := el_int Jl HB qhh;go_wp2_with (first | ((with_reducible refine gate_callee (f := 149) rfl ?_);refine glG 29 rfl rfl Try.func149 (Xi.calls (rd qF qhh) yH _ A17.out) ?_;rintro e w19 ⟨qi8, rfl, ho0, hb⟩;refine ⟨_, rfl, ?_⟩;have XR := ak (Kd.R_lower (Kd.R_new' ho0 (Kd.R_lt (rw_ HO_3.out))) (below_size bs));replace HO_3 := ak (Kd.R_elder' (rw_ HO_3.out) (Kd.R_base ho0) hb);replace qc := b1 qc hb;replace HB := b2s bs hb;(try clear hb);(try clear ho0);obtain ⟨qyw, qyr, qyj⟩ := Kd.R_slice XR.out;subst qyj) | ((with_reducible refine gate_builtin (b := .append) (xs := #[.tmp 27, .tmp 29]) rfl ?_);at_builtin;refine Kd.R_append_rows (Kd.int .u8) (w0 := w) w.heap.size rfl (.tmp 27) (.tmp 29) 25 5 (.int .u8 0) 1 rfl Try.underlying25 qaQ rfl (by decide) (by omega) u3 zd yH _ _ _ (fun k_ => some k_ ≠ (.slice qyw yH.length qyr : Value).ownBlock) (fun _ => False) rfl rfl ?aO ?aR (fun _ _ h => h) (fun _ h => h.elim) ?aF ?aB ?aS ?aL ?_;(case aR => repeat (first | exact (Kd.R_reads' XR.out).2.2 | (with_reducible refine Kd.C_alloc ?_ _) | (with_reducible refine Kd.C_drewN ?_ _) | (with_reducible refine Kd.C_drew ?_)));(case aB => exact bs);(case aF => exact (fun k_ hk => Kd.fresh' (Kd.R_lt (rw_ XR.out)) k_ hk));(case aO => exact (rw_ (Kd.R_mono HO_3.out (fun _ hk => hk.2))));(case aS => exact (below_size bs));(case aL => have := qxL.out; omega);intro qvU w20 ho hb hg hat;rw [← qxF.out] at ho;replace qc := ak (blk_grown (bk qc.out) hg (Kd.R_ne HO_3.out qc.out (by decide)));replace XR := ak (Kd.R_after (ok := (fun _ => True)) (rw_ XR.out) hg hat);replace HB := ak (hb);have qiE := ak (ho);clear HO_3;clear ho hb hg hat));go_roundg k1;case measure => have := HK1.out; omega
       case rel => exact ⟨(qxU), (wrap64 (qhh + 1)), o2, H', ⟨by have := HK1.out; omega⟩, ⟨by (with_reducible repeat (first | apply Kd.R_alloc | apply Kd.R_drewN | apply Kd.R_drew)); exact Kd.R_mono qiE.out (fun _ hk => trivial)⟩, ⟨bk qc.out⟩, ⟨bs⟩⟩
      ·rw [if_neg c18] at H;exact absurd H (by simp)
     ·obtain rfl := Option.some.inj H;go_wp2;go_ret;exact ⟨_, o1, rw_ HO_3.out, bs⟩
  ·obtain ⟨qdp, qgD⟩ : ∃ y_ : List Int, y_ = (([((qN.length : Int)) % 256] : List Int)) := ⟨_, rfl⟩;(try with_reducible replace H := bnS H)
   (try rw [← qgD] at H)
   have qk2 := ak qgD;clear qgD;by_cases c22 : qdp.length + qN.length < 140737488355328
   ·rw [if_pos c22] at H;have qxK := ak c22;clear c22;obtain ⟨qDi, qqz⟩ : ∃ y_ : List Int, y_ = (qdp ++ qN) := ⟨_, rfl⟩;(try with_reducible replace H := bnS H)
    (try rw [← qqz] at H)
    have qxE := ak qqz;clear qqz;obtain rfl := Option.some.inj H;go_enter Try.func144, Try.ntmps144;go_wp2_with (first | ((with_reducible refine gate_dst (N := 1) rfl ?_);refine bxd (N := 1) rfl HB ?_;clear HB;intro qt w23 hg HB qc qD hb;have jK := qD;clear hb hg;obtain ⟨qij, qkG, qkF, qkE, qkD, qkC, qkB, qhJ, qjU, qjT, qjS, qjR, qjQ, qjP⟩ := cells7 qc.out) | ((with_reducible refine gate_callee (f := 85) rfl ?_);refine glD 16 rfl rfl Try.func85 (ZY.calls qo false _ A7.out) (fun nd => ?_)) | ((with_reducible refine gate_dst (N := 37) rfl ?_);refine Kd.R_lit (Kd.int .u8) _ 5 ?hg (N := 37) ?hd (xs := ([((qN.length : Int)) % 256] : List Int)) (inner := [.int .u8 (((qN.length : Int)) % 256)]) (ok := fun _ => True) (okp := fun _ => True) ?hr ?hp (fun _ hk => hk) trivial (Below.refl _ _) (Nat.le_refl _) (by simp) ?_;(case hd => rfl);(case hg => rfl);(case hr => first | (go_simp; done) | (go_simp; rfl));(case hp => exact (Reps.one (show Kd.M (Kd.int .u8) _ _ _ (((qN.length : Int)) % 256) [.int .u8 (((qN.length : Int)) % 256)] from rfl) (Reps.none _ _)));intro qx1 w25 qln hb hg_ hnew_;clear hg_ hnew_;(first | rw [← qk2.out] at qln | (simp only [Int.reduceToNat] at qln; rw [← qk2.out] at qln));have qqT := ak (Kd.R_lower qln (below_size bs));replace qc := b1 qc hb;replace HB := b2s bs hb;clear hb qln;obtain ⟨qfY, qfX, qfW, qig, qif, qie, qid, qfw, qfv, qfu, qhG, qhF, qhE, qhD⟩ := cells7 qc.out) | ((with_reducible refine gate_builtin (b := .append) (xs := #[.tmp 37, .tmp 39]) rfl ?_);at_builtin;refine Kd.R_append_rows (Kd.int .u8) (w0 := w) w.heap.size rfl (.tmp 37) (.tmp 39) 25 5 (.int .u8 0) 1 rfl Try.underlying25 qaQ rfl (by decide) (by omega) qx1 qdp qN _ _ _ (fun _ => True) (fun _ => False) rfl rfl ?aO ?aR (fun _ _ h => h) (fun _ h => h.elim) ?aF ?aB ?aS ?aL ?_;(case aR => exact cw Yl.out HB.out);(case aB => exact bs);(case aF => exact (fun _ _ => trivial));(case aO => exact (rw_ qqT.out));(case aS => exact (below_size bs));(case aL => have := qxK.out; omega);intro qDn w28 ho hb hg hat;rw [← qxE.out] at ho;replace qc := ak (blk_grown (bk qc.out) hg (Kd.R_ne qqT.out qc.out (by decide)));replace HB := ak (hb);have qxQ := ak (ho);clear qqT;clear ho hb hg hat));go_ret;exact ⟨_, o1, rw_ qxQ.out, bs⟩
   ·rw [if_neg c22] at H;exact absurd H (by simp)

/-! ### zJ: function 64 -/
def zJ.f (k : Nat) (ql : List (List Int)) (qo : Int) (qV : Int) (jm : Int) (qU : List (List Int)) (qN : List Int) (qF : List Int) (qu : List (List Int)) (zc : Int) (zQ : Int) (YW : Int) (JG : List (List Int)) (JM : List Int) (Zb : List Int) : Option (Int) := (js.f k ql qu).bind fun jh => ((yt.f qo zc).bind fun qM => ((zw.f k ql qo qV jm qU qN qF).bind fun jA => ((zw.f k qu zc zQ YW JG JM Zb).bind fun zr => ((zv.f jA zr).bind fun Za => ((jF.f k (([jh, qM, Za] : List Int))).bind fun Ye => (some Ye))))))
def zJ.T1 : Bool × List (List Nat × List Nat) := (true, [([], []), ([0], [0]), ([], []), ([2], [2]), ([1, 3], [1, 3]), ([], []), ([5], [5]), ([], []), ([7], [7]), ([6, 8, 4], [6, 8]), ([], []), ([10, 9], [10]), ([], []), ([12, 11], [12]), ([11, 13, 13], [11, 13]), ([4, 9, 14], [4, 9, 14]), ([15, 14], [15]), ([16, 16, 0, 1, 2, 3, 4, 5, 6, 7, 8, 9, 10, 11, 12, 13, 14, 15, 16], [16])])
def zJ.B1 : List Nat := [0, 1, 0, 4, 15, 0, 32, 0, 128, 511, 0, 2047, 0, 8191, 16383, 32767, 65535, 131071]
theorem zJ.tab1 : rtab .any (opsOf Try.f64 1) = zJ.T1 := by kernel_rfl
theorem zJ.bits1 : waitsOk zJ.T1.2 zJ.B1 = true := by kernel_rfl
set_option maxHeartbeats 8000000 in
set_option maxRecDepth 100000 in
theorem zJ.calls (k : Nat) (jH : Option Addr) (jG : Nat) (ql : List (List Int)) (qo : Int) (qV : Int) (jm : Int) (QC : Option Addr) (QB : Nat) (qU : List (List Int)) (Jb : Option Addr) (QX : Nat) (qN : List Int) (Je : Option Addr) (QW : Nat) (qF : List Int) (Qd : Option Addr) (yY : Nat) (qu : List (List Int)) (zc : Int) (zQ : Int) (YW : Int) (qeo : Option Addr) (qeh : Nat) (JG : List (List Int)) (qen : Option Addr) (qeg : Nat) (JM : List Int) (qem : Option Addr) (qef : Nat) (Zb : List Int) (r : Int) (w : World) (jJ : Kd.C (Kd.slice 5 (Kd.int .u8)) w jH ql.length ql) (jW : ql.length ≤ jG) (JQ : Kd.C (Kd.slice 5 (Kd.int .u8)) w QC qU.length qU) (JT : qU.length ≤ QB) (JP : Kd.C (Kd.int .u8) w Jb qN.length qN) (JS : qN.length ≤ QX) (JO : Kd.C (Kd.int .i64) w Je qF.length qF) (JR : qF.length ≤ QW) (QH : Kd.C (Kd.slice 5 (Kd.int .u8)) w Qd qu.length qu) (Jg : qu.length ≤ yY) (qew : Kd.C (Kd.slice 5 (Kd.int .u8)) w qeo JG.length JG) (qeB : JG.length ≤ qeh) (qev : Kd.C (Kd.int .u8) w qen JM.length JM) (qeA : JM.length ≤ qeg) (qeu : Kd.C (Kd.int .i64) w qem Zb.length Zb) (qez : Zb.length ≤ qef) (h : zJ.f k ql qo qV jm qU qN qF qu zc zQ YW JG JM Zb = some r) :
  Calls Try.prog 64 #[.agg #[.slice jH ql.length jG, .int .i64 qo, .int .i64 qV, .int .i64 jm, .slice QC qU.length QB, .slice Jb qN.length QX, .slice Je qF.length QW], .agg #[.slice Qd qu.length yY, .int .i64 zc, .int .i64 zQ, .int .i64 YW, .slice qeo JG.length qeh, .slice qen JM.length qeg, .slice qem Zb.length qef]] w fun e w' => e = .returned (.int .i64 r) ∧ Below w.heap.size w w' := by
 have qdr := Try.underlying33;have XB := Try.underlying31;have jC := ak jJ;have jT := ak jW;clear jJ jW;have Zs := ak JQ;have Zt := ak JT;clear JQ JT;have Yl := ak JP;have Xc := ak JS;clear JP JS;have Jl := ak JO;have XT := ak JR;clear JO JR;have yp := ak QH;have yC := ak Jg;clear QH Jg;have qeC := ak qew;have qeE := ak qeB;clear qew qeB;have qgM := ak qev;have qgN := ak qeA;clear qev qeA;have qiC := ak qeu;have qiF := ak qez;clear qeu qez;have HB := ak (Below.refl w.heap.size w);have H : ((js.f k ql qu).bind fun jh => ((yt.f qo zc).bind fun qM => ((zw.f k ql qo qV jm qU qN qF).bind fun jA => ((zw.f k qu zc zQ YW JG JM Zb).bind fun zr => ((zv.f jA zr).bind fun Za => ((jF.f k (([jh, qM, Za] : List Int))).bind fun Ye => (some Ye))))))) = some r := h;clear h;replace H := bnd H;obtain ⟨jh, A3, H⟩ := H;replace H := bnd H;obtain ⟨qM, A4, H⟩ := H;replace H := bnd H;obtain ⟨jA, A5, H⟩ := H;replace H := bnd H;obtain ⟨zr, A6, H⟩ := H;replace H := bnd H;obtain ⟨Za, A7, H⟩ := H;obtain ⟨qvO, qgE⟩ : ∃ y_ : List Int, y_ = (([jh, qM, Za] : List Int)) := ⟨_, rfl⟩;(try with_reducible replace H := bnS H)
 (try rw [← qgE] at H)
 have qk4 := ak qgE;clear qgE;replace H := bnd H;obtain ⟨Ye, A8, H⟩ := H;obtain rfl := Option.some.inj H;go_enter Try.func64, Try.ntmps64;try go_wp2_with (first | ((with_reducible refine gate_dst (N := 2) rfl ?_);refine bxd (N := 2) rfl HB ?_;clear HB;intro qt w9 hg HB qc qD hb;have jK := qD;clear hb hg) | ((with_reducible refine gate_dst (N := 3) rfl ?_);refine bxe (N := 3) rfl ?_;intro qE hg w10 hbox hb;have qi := ak (hbox);have jB := b3s hg bs;have yZ := jB;replace HB := b2s bs hb;have qx := b4 hg qc;have qw := b5 hg qc;replace qc := b1 qc hb;clear hb hbox hg))
 replace qc := ak (blk_drew qc.out);replace qi := ak (blk_drew qi.out);replace HB := ak (below_drew1 HB.out);refine start_ (n := 18) (S := fun w' => w'.cell? ⟨qt, 0, none⟩ = some (.slice jH ql.length jG) ∧ w'.cell? ⟨qt, 1, none⟩ = some (.int .i64 qo) ∧ w'.cell? ⟨qt, 2, none⟩ = some (.int .i64 qV) ∧ w'.cell? ⟨qt, 3, none⟩ = some (.int .i64 jm) ∧ w'.cell? ⟨qt, 4, none⟩ = some (.slice QC qU.length QB) ∧ w'.cell? ⟨qt, 5, none⟩ = some (.slice Jb qN.length QX) ∧ w'.cell? ⟨qt, 6, none⟩ = some (.slice Je qF.length QW) ∧ w'.cell? ⟨qE, 0, none⟩ = some (.slice Qd qu.length yY) ∧ w'.cell? ⟨qE, 1, none⟩ = some (.int .i64 zc) ∧ w'.cell? ⟨qE, 2, none⟩ = some (.int .i64 zQ) ∧ w'.cell? ⟨qE, 3, none⟩ = some (.int .i64 YW) ∧ w'.cell? ⟨qE, 4, none⟩ = some (.slice qeo JG.length qeh) ∧ w'.cell? ⟨qE, 5, none⟩ = some (.slice qen JM.length qeg) ∧ w'.cell? ⟨qE, 6, none⟩ = some (.slice qem Zb.length qef)) (ds := []) (bA 18 0) (by kernel_rfl) rfl rfl kq (fun hHeld => ?_); refine with_tabW zJ.tab1 zJ.bits1 (fun HT_ HW_ => ?_);generalize w10.drew = w11 at qc qi HB hHeld ⊢;refine pu HT_ 0 ?_;refine pu HT_ 2 ?_;refine pu HT_ 5 ?_;refine pu HT_ 7 ?_;refine ta HT_ HW_ hHeld 1 ?_;refine ta HT_ HW_ hHeld 3 ?_;refine ta HT_ HW_ hHeld 6 ?_;refine ta HT_ HW_ hHeld 8 ?_;refine ta HT_ HW_ hHeld 10 ?_;refine ta HT_ HW_ hHeld 12 ?_;refine on HT_ 4 (fun K hK => ?_);refine gsB Try.func141 (js.calls k _ _ ql _ _ qu jh _ (cv jC HB) jT.out (cv yp HB) yC.out A3.out) (fun w12 hb => ?_);replace qc := b1 qc hb;replace qi := b1 qi hb;replace HB := b2s bs hb;refine hK.out _ _ kp (fun hHeld => ?_);(try clear hb)
 clear hK K;refine norm_ (a' := ?_) ?_ ?_; rotate_left; go_simp; rfl;refine on HT_ 9 (fun K hK => ?_);refine gsG Try.func142 (yt.calls qo zc qM _ A4.out) ?_;rintro e w' ⟨rfl, ⟨nd, rfl⟩⟩;refine ⟨_, rfl, ?_⟩;refine hK.out _ _ ⟨(blk_cell qc.out 0).trans rfl, (blk_cell qc.out 1).trans rfl, (blk_cell qc.out 2).trans rfl, (blk_cell qc.out 3).trans rfl, (blk_cell qc.out 4).trans rfl, (blk_cell qc.out 5).trans rfl, (blk_cell qc.out 6).trans rfl, (blk_cell qi.out 0).trans rfl, (blk_cell qi.out 1).trans rfl, (blk_cell qi.out 2).trans rfl, (blk_cell qi.out 3).trans rfl, (blk_cell qi.out 4).trans rfl, (blk_cell qi.out 5).trans rfl, (blk_cell qi.out 6).trans rfl⟩ (fun hHeld => ?_);clear hK K;refine norm_ (a' := ?_) ?_ ?_; rotate_left; go_simp; rfl;refine on HT_ 11 (fun K hK => ?_);refine gsG Try.func144 (zw.calls k _ _ ql qo qV jm _ _ qU _ _ qN _ _ qF jA _ ?zA jT.out ?QS Zt.out ?YY Xc.out ?YX XT.out A5.out) ?_;(case zA => repeat (first | exact (Kd.C_below jC.out bs) | (with_reducible refine Kd.C_alloc ?_ _) | (with_reducible refine Kd.C_drewN ?_ _) | (with_reducible refine Kd.C_drew ?_)))
 (case QS => repeat (first | exact (Kd.C_below Zs.out bs) | (with_reducible refine Kd.C_alloc ?_ _) | (with_reducible refine Kd.C_drewN ?_ _) | (with_reducible refine Kd.C_drew ?_)))
 (case YY => repeat (first | exact (Kd.C_below Yl.out bs) | (with_reducible refine Kd.C_alloc ?_ _) | (with_reducible refine Kd.C_drewN ?_ _) | (with_reducible refine Kd.C_drew ?_)))
 (case YX => repeat (first | exact (Kd.C_below Jl.out bs) | (with_reducible refine Kd.C_alloc ?_ _) | (with_reducible refine Kd.C_drewN ?_ _) | (with_reducible refine Kd.C_drew ?_)))
 rintro e w13 ⟨qbg, rfl, ho0, hb⟩;refine ⟨_, rfl, ?_⟩;have zq := ak (Kd.R_lower ho0 (below_size bs));replace qc := b1 qc hb;replace qi := b1 qi hb;replace HB := b2s bs hb;refine hK.out _ _ kp (fun hHeld => ?_);(try clear hb)
 (try clear ho0)
 clear hK K;refine norm_ (a' := ?_) ?_ ?_; rotate_left; go_simp; rfl;refine on HT_ 13 (fun K hK => ?_);refine gsG Try.func144 (zw.calls k _ _ qu zc zQ YW _ _ JG _ _ JM _ _ Zb zr _ (cv yp HB) yC.out (cv qeC HB) qeE.out (cv qgM HB) qgN.out (cv qiC HB) qiF.out A6.out) ?_;rintro e w14 ⟨qx3, rfl, ho0, hb⟩;refine ⟨_, rfl, ?_⟩;have qdB := ak (Kd.R_lower (Kd.R_new' ho0 (Kd.R_lt (rw_ zq.out))) (below_size bs));replace zq := ak (Kd.R_elder' (rw_ zq.out) (Kd.R_base ho0) hb);replace qc := b1 qc hb;replace qi := b1 qi hb;replace HB := b2s bs hb;(try clear hb)
 (try clear ho0)
 obtain ⟨qDP, qDD, qwQ⟩ := Kd.R_slice zq.out;(first | subst qwQ | (injection qwQ with f1_ f2_ f3_; have f4_ := f1_.symm; have f5_ := f3_.symm; clear f1_ f2_ f3_; subst f4_; subst f5_))
 obtain ⟨qgP, qgK, qqK⟩ := Kd.R_slice qdB.out;(first | subst qqK | (injection qqK with f1_ f2_ f3_; have f4_ := f1_.symm; have f5_ := f3_.symm; clear f1_ f2_ f3_; subst f4_; subst f5_))
 refine hK.out _ _ ⟨(blk_cell qc.out 0).trans rfl, (blk_cell qc.out 1).trans rfl, (blk_cell qc.out 2).trans rfl, (blk_cell qc.out 3).trans rfl, (blk_cell qc.out 4).trans rfl, (blk_cell qc.out 5).trans rfl, (blk_cell qc.out 6).trans rfl, (blk_cell qi.out 0).trans rfl, (blk_cell qi.out 1).trans rfl, (blk_cell qi.out 2).trans rfl, (blk_cell qi.out 3).trans rfl, (blk_cell qi.out 4).trans rfl, (blk_cell qi.out 5).trans rfl, (blk_cell qi.out 6).trans rfl⟩ (fun hHeld => ?_);clear hK K;refine norm_ (a' := ?_) ?_ ?_; rotate_left; go_simp; rfl;refine on HT_ 14 (fun K hK => ?_);refine gsG Try.func143 (zv.calls _ _ jA _ _ zr Za _ ?zA ?yW ?QS ?ZF A7.out) ?_;(case zA => repeat (first | exact (Kd.R_reads' zq.out).2.2 | (with_reducible refine Kd.C_alloc ?_ _) | (with_reducible refine Kd.C_drewN ?_ _) | (with_reducible refine Kd.C_drew ?_)))
 (case yW => exact (Kd.R_reads' zq.out).2.1)
 (case QS => repeat (first | exact (Kd.R_reads' qdB.out).2.2 | (with_reducible refine Kd.C_alloc ?_ _) | (with_reducible refine Kd.C_drewN ?_ _) | (with_reducible refine Kd.C_drew ?_)))
 (case ZF => exact (Kd.R_reads' qdB.out).2.1)
 rintro e w' ⟨rfl, ⟨nd, rfl⟩⟩;refine ⟨_, rfl, ?_⟩;refine hK.out _ _ ⟨(blk_cell qc.out 0).trans rfl, (blk_cell qc.out 1).trans rfl, (blk_cell qc.out 2).trans rfl, (blk_cell qc.out 3).trans rfl, (blk_cell qc.out 4).trans rfl, (blk_cell qc.out 5).trans rfl, (blk_cell qc.out 6).trans rfl, (blk_cell qi.out 0).trans rfl, (blk_cell qi.out 1).trans rfl, (blk_cell qi.out 2).trans rfl, (blk_cell qi.out 3).trans rfl, (blk_cell qi.out 4).trans rfl, (blk_cell qi.out 5).trans rfl, (blk_cell qi.out 6).trans rfl⟩ (fun hHeld => ?_);clear hK K;refine norm_ (a' := ?_) ?_ ?_; rotate_left; go_simp; rfl;refine on HT_ 15 (fun K hK => ?_);refine Kd.R_lit_step (Kd.int .i64) _ 3 ?hg (N := 20) ?hd (xs := ([jh, qM, Za] : List Int)) (inner := [.int .i64 jh, .int .i64 qM, .int .i64 Za]) (ok := fun _ => True) (okp := fun _ => True) ?hr ?hp (fun _ hk => hk) trivial (Below.refl _ _) (Nat.le_refl _) (by simp) ?_; (case hd => rfl); (case hg => rfl); (case hr => first | (go_simp; done) | (go_simp; rfl)); (case hp => exact (Reps.one (show Kd.M (Kd.int .i64) _ _ _ jh [.int .i64 jh] from rfl) (Reps.one (show Kd.M (Kd.int .i64) _ _ _ qM [.int .i64 qM] from rfl) (Reps.one (show Kd.M (Kd.int .i64) _ _ _ Za [.int .i64 Za] from rfl) (Reps.none _ _)))));intro qk8 w17 qlo hb hg_ hnew_;clear hg_ hnew_;(first | rw [← qk4.out] at qlo | (simp only [Int.reduceToNat] at qlo; rw [← qk4.out] at qlo))
 replace zq := ak (Kd.R_below (rw_ zq.out) hb);replace qdB := ak (Kd.R_below (rw_ qdB.out) hb);have qiY := ak (Kd.R_lower qlo (below_size bs));replace qc := b1 qc hb;replace qi := b1 qi hb;replace HB := b2s bs hb;clear hb qlo;obtain ⟨qrH, qrw, qiK⟩ := Kd.R_slice qiY.out;(first | subst qiK | (injection qiK with f1_ f2_ f3_; have f4_ := f1_.symm; have f5_ := f3_.symm; clear f1_ f2_ f3_; subst f4_; subst f5_))
 refine hK.out _ _ ⟨(blk_cell qc.out 0).trans rfl, (blk_cell qc.out 1).trans rfl, (blk_cell qc.out 2).trans rfl, (blk_cell qc.out 3).trans rfl, (blk_cell qc.out 4).trans rfl, (blk_cell qc.out 5).trans rfl, (blk_cell qc.out 6).trans rfl, (blk_cell qi.out 0).trans rfl, (blk_cell qi.out 1).trans rfl, (blk_cell qi.out 2).trans rfl, (blk_cell qi.out 3).trans rfl, (blk_cell qi.out 4).trans rfl, (blk_cell qi.out 5).trans rfl, (blk_cell qi.out 6).trans rfl⟩ (fun hHeld => ?_);clear hK K;refine norm_ (a' := ?_) ?_ ?_; rotate_left; go_simp; rfl;refine on HT_ 16 (fun K hK => ?_);refine gsG Try.func140 (jF.calls k _ _ qvO Ye _ ?zA ?yW A8.out) ?_;(case zA => repeat (first | exact (Kd.R_reads' qiY.out).2.2 | (with_reducible refine Kd.C_alloc ?_ _) | (with_reducible refine Kd.C_drewN ?_ _) | (with_reducible refine Kd.C_drew ?_)))
 (case yW => exact (Kd.R_reads' qiY.out).2.1)
 rintro e w' ⟨rfl, ⟨nd, rfl⟩⟩;refine ⟨_, rfl, ?_⟩;refine hK.out _ _ ⟨(blk_cell qc.out 0).trans rfl, (blk_cell qc.out 1).trans rfl, (blk_cell qc.out 2).trans rfl, (blk_cell qc.out 3).trans rfl, (blk_cell qc.out 4).trans rfl, (blk_cell qc.out 5).trans rfl, (blk_cell qc.out 6).trans rfl, (blk_cell qi.out 0).trans rfl, (blk_cell qi.out 1).trans rfl, (blk_cell qi.out 2).trans rfl, (blk_cell qi.out 3).trans rfl, (blk_cell qi.out 4).trans rfl, (blk_cell qi.out 5).trans rfl, (blk_cell qi.out 6).trans rfl⟩ (fun hHeld => ?_);clear hK K;refine norm_ (a' := ?_) ?_ ?_; rotate_left; go_simp; rfl;refine pu HT_ 17 ?_;refine done_ (done_of HT_.out (by kernel_rfl)) ?_;try go_wp2
 go_ret;exact ⟨o1, bs⟩

/-! ### ZW: function 138 -/
def ZW.f (a0 : Int) : Option (Bool) := (jj.f a0 0 4294967295).bind fun Zi => (some Zi)
set_option maxHeartbeats 8000000 in
set_option maxRecDepth 100000 in
theorem ZW.calls (a0 : Int) (r : Bool) (w : World) (h : ZW.f a0 = some r) :
  Calls Try.prog 138 #[.int .i64 a0] w fun e w' => e = .returned (.bool r) ∧ Drawn0 w w' := by
 have H : ((jj.f a0 0 4294967295).bind fun Zi => (some Zi)) = some r := h;clear h;replace H := bnd H;obtain ⟨Zi, A2, H⟩ := H;obtain rfl := Option.some.inj H;go_enter Try.func138, Try.ntmps138;go_wp2_with (((with_reducible refine gate_callee (f := 83) rfl ?_);refine glD 4 rfl rfl Try.func83 (jj.calls a0 0 4294967295 Zi _ A2.out) (fun nd => ?_)));go_ret;exact ⟨o2, od⟩

/-! ### Jo: function 139 -/
def Jo.f (a0 : Int) : Option (Bool) := if a0 = 16 then (some true) else (some (a0 == 49))
set_option maxHeartbeats 8000000 in
set_option maxRecDepth 100000 in
theorem Jo.calls (a0 : Int) (r : Bool) (w : World) (h : Jo.f a0 = some r) :
  Calls Try.prog 139 #[.int .i64 a0] w fun e w' => e = .returned (.bool r) ∧ Drawn0 w w' := by
 have H : (if a0 = 16 then (some true) else (some (a0 == 49))) = some r := h;clear h;replace H := ie H;obtain ⟨c2b0, c2b1, H⟩ | ⟨c2b0, c2b1, H⟩ := H
 ·obtain rfl := Option.some.inj H;go_enter Try.func139, Try.ntmps139;go_wp2;go_ret;exact ⟨o2, od⟩
 ·obtain rfl := Option.some.inj H;go_enter Try.func139, Try.ntmps139;go_wp2;go_ret;exact ⟨o2, od⟩

/-! ### jl: function 63 -/
mutual
def jl.j0 : Nat → Bool → List (List Int) → Int → Int → Int → List (List Int) → List Int → List Int → Option (Bool)
 | 0, _, _, _, _, _, _, _, _ => none
 | k + 1, x22, qT, jp, qq, Jf, Qj, Qi, zZ => if x22 = true then (some false) else (if jp = 6 then (if (zZ.length : Int) = 2 then (if 0 < (zZ.length : Int) then ((ZW.f (rd zZ 0)).bind fun YT => (if YT = true then (if 1 < (zZ.length : Int) then ((jj.f (rd zZ 1) 0 100000).bind fun zr => (jl.j1 k zr qT jp qq Jf Qj Qi zZ)) else (none)) else (jl.j1 k false qT jp qq Jf Qj Qi zZ))) else (none)) else (jl.j1 k false qT jp qq Jf Qj Qi zZ)) else (jl.j1 k ((zZ.length : Int) == 0) qT jp qq Jf Qj Qi zZ))
def jl.j1 : Nat → Bool → List (List Int) → Int → Int → Int → List (List Int) → List Int → List Int → Option (Bool)
 | 0, _, _, _, _, _, _, _, _ => none
 | k + 1, x3, qT, jp, qq, Jf, Qj, Qi, zZ => if Jf = 0 then (jl.j2 k x3 true qT jp qq Jf Qj Qi zZ) else (if jp = 1 then ((ZW.f Jf).bind fun Jc => (jl.j2 k x3 Jc qT jp qq Jf Qj Qi zZ)) else (jl.j2 k x3 false qT jp qq Jf Qj Qi zZ))
def jl.j2 : Nat → Bool → Bool → List (List Int) → Int → Int → Int → List (List Int) → List Int → List Int → Option (Bool)
 | 0, _, _, _, _, _, _, _, _, _ => none
 | k + 1, x3, x4, qT, jp, qq, Jf, Qj, Qi, zZ => if (Qj.length : Int) = 0 then (jl.j3 k x3 x4 true qT jp qq Jf Qj Qi zZ) else ((ZY.f jp).bind fun yH => (if yH = true then ((jf.f Qj).bind fun Za => (jl.j3 k x3 x4 Za qT jp qq Jf Qj Qi zZ)) else (jl.j3 k x3 x4 false qT jp qq Jf Qj Qi zZ)))
def jl.j3 : Nat → Bool → Bool → Bool → List (List Int) → Int → Int → Int → List (List Int) → List Int → List Int → Option (Bool)
 | 0, _, _, _, _, _, _, _, _, _, _ => none
 | k + 1, x3, x4, x5, qT, jp, qq, Jf, Qj, Qi, zZ => if (Qi.length : Int) = 0 then (if x3 = true then (if x4 = true then (if x5 = true then (some true) else (some false)) else (some false)) else (some false)) else ((Jo.f jp).bind fun qiJ => (if qiJ = true then (if x3 = true then (if x4 = true then (if x5 = true then (some (decide ((Qi.length : Int) ≤ 40))) else (some false)) else (some false)) else (some false)) else (if x3 = true then (if x4 = true then (if x5 = true then (some false) else (some false)) else (some false)) else (some false))))
end
def jl.f (k : Nat) (ql : List (List Int)) (qo : Int) (qV : Int) (jm : Int) (qU : List (List Int)) (qN : List Int) (qF : List Int) : Option (Bool) := (jf.f ql).bind fun ji => (if ji = true then ((QD.f qo).bind fun jh => (if jh = true then ((jj.f qV 0 100000).bind fun qM => (jl.j0 k (!qM) ql qo qV jm qU qN qF)) else (jl.j0 k true ql qo qV jm qU qN qF))) else (jl.j0 k true ql qo qV jm qU qN qF))
set_option maxHeartbeats 8000000 in
set_option maxRecDepth 100000 in
theorem jl.calls (k : Nat) (jH : Option Addr) (jG : Nat) (ql : List (List Int)) (qo : Int) (qV : Int) (jm : Int) (QC : Option Addr) (QB : Nat) (qU : List (List Int)) (Jb : Option Addr) (QX : Nat) (qN : List Int) (Je : Option Addr) (QW : Nat) (qF : List Int) (r : Bool) (w : World) (jJ : Kd.C (Kd.slice 5 (Kd.int .u8)) w jH ql.length ql) (jW : ql.length ≤ jG) (JQ : Kd.C (Kd.slice 5 (Kd.int .u8)) w QC qU.length qU) (JT : qU.length ≤ QB) (JP : Kd.C (Kd.int .u8) w Jb qN.length qN) (JS : qN.length ≤ QX) (JO : Kd.C (Kd.int .i64) w Je qF.length qF) (JR : qF.length ≤ QW) (h : jl.f k ql qo qV jm qU qN qF = some r) :
  Calls Try.prog 63 #[.agg #[.slice jH ql.length jG, .int .i64 qo, .int .i64 qV, .int .i64 jm, .slice QC qU.length QB, .slice Jb qN.length QX, .slice Je qF.length QW]] w fun e w' => e = .returned (.bool r) ∧ Below w.heap.size w w' := by
 have qdr := Try.underlying33;have XB := Try.underlying31;have jC := ak jJ;have jT := ak jW;clear jJ jW;have Zs := ak JQ;have Zt := ak JT;clear JQ JT;have Yl := ak JP;have Xc := ak JS;clear JP JS;have Jl := ak JO;have XT := ak JR;clear JO JR;have HB := ak (Below.refl w.heap.size w);have H : ((jf.f ql).bind fun ji => (if ji = true then ((QD.f qo).bind fun jh => (if jh = true then ((jj.f qV 0 100000).bind fun qM => (jl.j0 k (!qM) ql qo qV jm qU qN qF)) else (jl.j0 k true ql qo qV jm qU qN qF))) else (jl.j0 k true ql qo qV jm qU qN qF))) = some r := h;clear h;have HC2 := ak H;clear H;go_enter Try.func63, Try.ntmps63;go_upto_region 1 with (((with_reducible refine gate_dst (N := 1) rfl ?_);(try (refine gate_guard (by rfl) ?_; dsimp only));refine bxd (N := 1) rfl HB ?_;clear HB;intro qt w3 hg HB qc qD hb;have jK := qD;clear hb hg))
 (try simp only [Act.put, List.setIfInBounds_toArray, List.set_cons_zero, List.set_cons_succ])
 go_cut [22] (fun v22 wc => ∃ (kq : Nat) (qqr : Bool), v22 = .bool qqr ∧ Aside0 (jl.j0 kq qqr ql qo qV jm qU qN qF = some r) ∧ Aside0 (kq ≤ k) ∧ Aside0 (wc.heap[qt]? = some (.cells #[(.slice jH ql.length jG), .int .i64 qo, .int .i64 qV, .int .i64 jm, (.slice QC qU.length QB), (.slice Jb qN.length QX), (.slice Je qF.length QW)] 33 (0, 0))) ∧ Aside0 (Below w.heap.size w wc))
 case first =>
  have H := HC2.out;clear HC2;replace H := bnd H;obtain ⟨ji, A4, H⟩ := H;replace H := ib H;obtain ⟨rfl, H⟩ | ⟨rfl, H⟩ := H
  ·replace H := bnd H;obtain ⟨jh, A6, H⟩ := H;replace H := ib H;obtain ⟨rfl, H⟩ | ⟨rfl, H⟩ := H
   ·replace H := bnd H;obtain ⟨qM, A8, H⟩ := H;have H' := ak H;clear H;obtain ⟨qbJ, qdk, qdj, qg5, qg4, qg3, qg2, qbI, qdh, qdg, qgY, qgX, qgW, qgV⟩ := cells7 qc.out;go_wp2_with (first | ((with_reducible refine gate_callee (f := 74) rfl ?_);refine glB 9 rfl rfl Try.func74 (jf.calls _ _ ql true _ (cv jC HB) jT.out A4.out) (fun w10 hb => ?_);replace qc := b1 qc hb;replace HB := b2s bs hb;(try clear hb);obtain ⟨qa7, qcb, qca, qge, qgd, qgc, qgb, qa4, qb0, qbZ, qfM, qfL, qfK, qfJ⟩ := cells7 qc.out) | (go_at_call 82;(with_reducible refine (QD.calls qo true _ A6.out).mono ?_);rintro e w12 ⟨rfl, hb⟩;replace qc := b1 qc hb;replace HB := b2s bs hb;(try clear hb);obtain ⟨qaB, qb9, qb8, qd4, qd3, qd2, qd1, qax, qbY, qbX, qdQ, qdP, qdO, qdN⟩ := cells7 qc.out) | (go_at_call 83;(with_reducible refine (jj.calls qV 0 100000 qM _ A8.out).mono ?_);rintro e w' ⟨rfl, ⟨nd, rfl⟩⟩));go_meet
    case rel => exact ⟨_, (!qM), o2, H', ⟨o3⟩, ⟨bk qc.out⟩, ⟨bs⟩⟩
   ·have H' := ak H;clear H;obtain ⟨qd0, qga, qf9, qkO, qkN, qkM, qkL, qdM, qfI, qfH, qj2, qj1, qj0, qjZ⟩ := cells7 qc.out;go_wp2_with (first | ((with_reducible refine gate_callee (f := 74) rfl ?_);refine glB 9 rfl rfl Try.func74 (jf.calls _ _ ql true _ (cv jC HB) jT.out A4.out) (fun w15 hb => ?_);replace qc := b1 qc hb;replace HB := b2s bs hb;(try clear hb);obtain ⟨XJ, qaA, qaz, qc4, qc3, qc2, qc1, XI, qaw, qav, qcV, qcU, qcT, qcS⟩ := cells7 qc.out) | (go_at_call 82;(with_reducible refine (QD.calls qo false _ A6.out).mono ?_);rintro e w17 ⟨rfl, hb⟩;replace qc := b1 qc hb;replace HB := b2s bs hb;(try clear hb)));go_meet
    case rel => exact ⟨_, (true), o2, H', ⟨o3⟩, ⟨bk qc.out⟩, ⟨bs⟩⟩
  ·have H' := ak H;clear H;obtain ⟨qb7, qb6, qb5, qc0, qcZ, qcY, qcX, qbW, qbV, qbU, qcR, qcQ, qcP, qcO⟩ := cells7 qc.out;go_wp2_with (((with_reducible refine gate_callee (f := 74) rfl ?_);refine glB 9 rfl rfl Try.func74 (jf.calls _ _ ql false _ (cv jC HB) jT.out A4.out) (fun w19 hb => ?_);replace qc := b1 qc hb;replace HB := b2s bs hb;(try clear hb)));go_meet
   case rel => exact ⟨_, (true), o2, H', ⟨o3⟩, ⟨bk qc.out⟩, ⟨bs⟩⟩
 case rest =>
  clear HC2;obtain ⟨kq, qqr, rfl, HA, HJ1, qc, HB⟩ := hcut;cases kq with
  | zero => exact absurd HA.out (by simp [jl.j0])
  | succ kj1 =>
   have H := HA.out;clear HA;simp only [jl.j0] at H;replace H := ib H;obtain ⟨rfl, H⟩ | ⟨rfl, H⟩ := H
   ·obtain rfl := Option.some.inj H;go_wp2;go_ret;exact ⟨o1, bs⟩
   ·have qrE := ak H;clear H;obtain ⟨qay, qa6, qa5, qb4, qb3, qb2, qb1, qau, qa3, qa2, qbT, qbS, qbR, qbQ⟩ := cells7 qc.out;go_upto_if 29 with (fail)
    go_cut [3] (fun v3 wc => ∃ (kq : Nat) (qiO : Bool), v3 = .bool qiO ∧ Aside0 (jl.j1 kq qiO ql qo qV jm qU qN qF = some r) ∧ Aside0 (kq ≤ kj1) ∧ Aside0 (wc.heap[qt]? = some (.cells #[(.slice jH ql.length jG), .int .i64 qo, .int .i64 qV, .int .i64 jm, (.slice QC qU.length QB), (.slice Jb qN.length QX), (.slice Je qF.length QW)] 33 (0, 0))) ∧ Aside0 (Below w.heap.size w wc))
    case first =>
     have H := qrE.out;clear qrE;replace H := ie H;obtain ⟨c23b0, c23b1, H⟩ | ⟨c23b0, c23b1, H⟩ := H
     ·(first | rw [c23b0] | (simp only [i64_w, i32_w]; rw [c23b0]) | skip)
      replace H := ie H;obtain ⟨c24b0, c24b1, H⟩ | ⟨c24b0, c24b1, H⟩ := H
      ·replace H := ipN H;obtain ⟨c25b0, H⟩ := H;have c25b1 : decide (0 < qF.length) = true := decide_eq_true (by have := of_decide_eq_true c25b0; omega);replace H := bnd H;obtain ⟨YT, A26, H⟩ := H;replace H := ib H;obtain ⟨rfl, H⟩ | ⟨rfl, H⟩ := H
       ·replace H := ipN H;obtain ⟨c28b0, H⟩ := H;have c28b1 : decide (1 < qF.length) = true := decide_eq_true (by have := of_decide_eq_true c28b0; omega);replace H := bnd H;obtain ⟨zr, A29, H⟩ := H;have H' := ak H;clear H;obtain ⟨qh8, qks, qkr, qpY, qpX, qpW, qpV, qhy, qjG, qjF, qn3, qn2, qn1, qn0⟩ := cells7 qc.out;obtain ⟨jX, rfl, zU, JL, JK⟩ := el0_int Jl 0 (h0 := by decide);replace JL := of_eq_true JL;replace JK := of_eq_true JK;have qiR : (0 < qF.length) = True := eq_true (by omega);(try rw [show ((0 : Int)).toNat = 0 from rfl] at zU)
        (try rw [Addr.add_zero'] at zU)
        replace zU := pw_cell_below HB.out zU;replace JL := eq_true JL;replace JK := eq_true JK;go_wp2_with (first | (go_at_call 138;(with_reducible refine (ZW.calls (rd qF 0) true _ A26.out).mono ?_);rintro e w' ⟨rfl, ⟨nd, rfl⟩⟩;have yw : 0 ≤ (1 : Int) := (by omega);have yv : 1 < (qF.length : Int) := of_decide_eq_true (by first | (with_reducible assumption) | assumption);obtain ⟨Xb, qaR, qC⟩ := Kd.at_int Jl.out 1 yw yv;obtain rfl : jX = Xb := (by injection qaR);(try simp only [show (1 : Int).toNat = 1 from rfl, Nat.reduceMul, Nat.reduceEqDiff, Go.Addr.add, ↓reduceIte] at qC);have qck : (1 < qF.length) = True := eq_true (by omega);(try rw [show ((1 : Int)).toNat = 1 from rfl] at qC);replace qC := pw_cell_below HB.out qC;replace yw := eq_true yw;replace yv := eq_true yv) | (go_at_call 83;(with_reducible refine (jj.calls (rd qF 1) 0 100000 zr _ A29.out).mono ?_);rintro e w' ⟨rfl, ⟨nd, rfl⟩⟩));go_meet
        case rel => exact ⟨_, (zr), o2, H', ⟨by have := HJ1.out; first | omega | exact Nat.le_refl _⟩, ⟨bk qc.out⟩, ⟨bs⟩⟩
       ·have H' := ak H;clear H;obtain ⟨qvw, qvv, qvu, qvt, qvs, qvr, qvq, qtH, qtG, qtF, qtE, qtD, qtC, qtB⟩ := cells7 qc.out;obtain ⟨jX, rfl, zU, JL, JK⟩ := el0_int Jl 0 (h0 := by decide);replace JL := of_eq_true JL;replace JK := of_eq_true JK;have qiR : (0 < qF.length) = True := eq_true (by omega);(try rw [show ((0 : Int)).toNat = 0 from rfl] at zU)
        (try rw [Addr.add_zero'] at zU)
        replace zU := pw_cell_below HB.out zU;replace JL := eq_true JL;replace JK := eq_true JK;go_wp2_with ((go_at_call 138;(with_reducible refine (ZW.calls (rd qF 0) false _ A26.out).mono ?_);rintro e w' ⟨rfl, ⟨nd, rfl⟩⟩));go_meet
        case rel => exact ⟨_, (false), o2, H', ⟨by have := HJ1.out; first | omega | exact Nat.le_refl _⟩, ⟨bk qc.out⟩, ⟨bs⟩⟩
      ·have H' := ak H;clear H;obtain ⟨qdX, qdW, qdV, qdU, qdT, qdS, qdR, qdJ, qdI, qdH, qdG, qdF, qdE, qdD⟩ := cells7 qc.out;go_wp2;go_meet
       case rel => exact ⟨_, (false), o2, H', ⟨by have := HJ1.out; first | omega | exact Nat.le_refl _⟩, ⟨bk qc.out⟩, ⟨bs⟩⟩
     ·(first | rw [c23b0] | (simp only [i64_w, i32_w]; rw [c23b0]) | skip)
      have H' := ak H;clear H;go_wp2;go_meet
      case rel => exact ⟨_, (((qF.length : Int) == 0)), o2, H', ⟨by have := HJ1.out; first | omega | exact Nat.le_refl _⟩, ⟨bk qc.out⟩, ⟨bs⟩⟩
    case rest =>
     clear qrE;(try clear qay)
     (try clear qa6)
     (try clear qa5)
     (try clear qb4)
     (try clear qb3)
     (try clear qb2)
     (try clear qb1)
     (try clear qau)
     (try clear qa3)
     (try clear qa2)
     (try clear qbT)
     (try clear qbS)
     (try clear qbR)
     (try clear qbQ)
     obtain ⟨kq, qiO, rfl, HA, qkU, qc, HB⟩ := hcut;cases kq with
     | zero => exact absurd HA.out (by simp [jl.j1])
     | succ qx5 =>
      have H := HA.out;clear HA;simp only [jl.j1] at H;have qrC := ak H;clear H;go_upto_region 6 with (fail)
      go_cut [4] (fun v4 wc => ∃ (kq : Nat) (qkX : Bool), v4 = .bool qkX ∧ Aside0 (jl.j2 kq qiO qkX ql qo qV jm qU qN qF = some r) ∧ Aside0 (kq ≤ qx5) ∧ Aside0 (wc.heap[qt]? = some (.cells #[(.slice jH ql.length jG), .int .i64 qo, .int .i64 qV, .int .i64 jm, (.slice QC qU.length QB), (.slice Jb qN.length QX), (.slice Je qF.length QW)] 33 (0, 0))) ∧ Aside0 (Below w.heap.size w wc))
      case first =>
       have H := qrC.out;clear qrC;replace H := ie H;obtain ⟨c34b0, c34b1, H⟩ | ⟨c34b0, c34b1, H⟩ := H
       ·(first | rw [c34b0] | (simp only [i64_w, i32_w]; rw [c34b0]) | skip)
        have H' := ak H;clear H;obtain ⟨qpT, qpS, qpR, qpQ, qpP, qpO, qpN, qnY, qnX, qnW, qnV, qnU, qnT, qnS⟩ := cells7 qc.out;go_wp2;go_meet
        case rel => exact ⟨_, (true), o2, H', ⟨by have := HJ1.out; have := qkU.out; first | omega | exact Nat.le_refl _⟩, ⟨bk qc.out⟩, ⟨bs⟩⟩
       ·(first | rw [c34b0] | (simp only [i64_w, i32_w]; rw [c34b0]) | skip)
        replace H := ie H;obtain ⟨c36b0, c36b1, H⟩ | ⟨c36b0, c36b1, H⟩ := H
        ·replace H := bnd H;obtain ⟨Jc, A37, H⟩ := H;have H' := ak H;clear H;obtain ⟨qkj, qki, qkh, qkg, qkf, qke, qkd, qjx, qjw, qjv, qju, qjt, qjs, qjr⟩ := cells7 qc.out;go_wp2_with ((go_at_call 138;(with_reducible refine (ZW.calls jm Jc _ A37.out).mono ?_);rintro e w' ⟨rfl, ⟨nd, rfl⟩⟩));go_meet
         case rel => exact ⟨_, (Jc), o2, H', ⟨by have := HJ1.out; have := qkU.out; first | omega | exact Nat.le_refl _⟩, ⟨bk qc.out⟩, ⟨bs⟩⟩
        ·have H' := ak H;clear H;obtain ⟨qpG, qpF, qpE, qpD, qpC, qpB, qpA, qnL, qnK, qnJ, qnI, qnH, qnG, qnF⟩ := cells7 qc.out;go_wp2;go_meet
         case rel => exact ⟨_, (false), o2, H', ⟨by have := HJ1.out; have := qkU.out; first | omega | exact Nat.le_refl _⟩, ⟨bk qc.out⟩, ⟨bs⟩⟩
      case rest =>
       clear qrC;(try clear qay)
       (try clear qa6)
       (try clear qa5)
       (try clear qb4)
       (try clear qb3)
       (try clear qb2)
       (try clear qb1)
       (try clear qau)
       (try clear qa3)
       (try clear qa2)
       (try clear qbT)
       (try clear qbS)
       (try clear qbR)
       (try clear qbQ)
       obtain ⟨kq, qkX, rfl, HA, qry, qc, HB⟩ := hcut;cases kq with
       | zero => exact absurd HA.out (by simp [jl.j2])
       | succ qx4 =>
        have H := HA.out;clear HA;simp only [jl.j2] at H;have qrB := ak H;clear H;go_upto_region 7 with (fail)
        go_cut [5] (fun v5 wc => ∃ (kq : Nat) (qqn : Bool), v5 = .bool qqn ∧ Aside0 (jl.j3 kq qiO qkX qqn ql qo qV jm qU qN qF = some r) ∧ Aside0 (kq ≤ qx4) ∧ Aside0 (wc.heap[qt]? = some (.cells #[(.slice jH ql.length jG), .int .i64 qo, .int .i64 qV, .int .i64 jm, (.slice QC qU.length QB), (.slice Jb qN.length QX), (.slice Je qF.length QW)] 33 (0, 0))) ∧ Aside0 (Below w.heap.size w wc))
        case first =>
         have H := qrB.out;clear qrB;replace H := ie H;obtain ⟨c41b0, c41b1, H⟩ | ⟨c41b0, c41b1, H⟩ := H
         ·(first | rw [c41b0] | (simp only [i64_w, i32_w]; rw [c41b0]) | skip)
          have H' := ak H;clear H;obtain ⟨qps, qpr, qpq, qpp, qpo, qpn, qpm, qnx, qnw, qnv, qnu, qnt, qns, qnr⟩ := cells7 qc.out;go_wp2;go_meet
          case rel => exact ⟨_, (true), o2, H', ⟨by have := HJ1.out; have := qkU.out; have := qry.out; first | omega | exact Nat.le_refl _⟩, ⟨bk qc.out⟩, ⟨bs⟩⟩
         ·have c41b2 : ¬ (qU = []) := fun h_ => bne_iff_ne.mp c41b1 (by rw [h_]; rfl)
          (first | rw [c41b0] | (simp only [i64_w, i32_w]; rw [c41b0]) | skip)
          replace H := bnd H;obtain ⟨yH, A43, H⟩ := H;replace H := ib H;obtain ⟨rfl, H⟩ | ⟨rfl, H⟩ := H
          ·replace H := bnd H;obtain ⟨Za, A45, H⟩ := H;have H' := ak H;clear H;obtain ⟨qh6, qh5, qh4, qh3, qh2, qh1, qh0, qhw, qhv, qhu, qht, qhs, qhr, qhq⟩ := cells7 qc.out;go_wp2_with (first | (go_at_call 85;(with_reducible refine (ZY.calls qo true _ A43.out).mono ?_);rintro e w' ⟨rfl, ⟨nd, rfl⟩⟩) | (go_at_call 74;(with_reducible refine (jf.calls _ _ qU Za _ ?zA Zt.out A45.out).mono ?_);(case zA => repeat (first | exact (Kd.C_below Zs.out bs) | (with_reducible refine Kd.C_alloc ?_ _) | (with_reducible refine Kd.C_drewN ?_ _) | (with_reducible refine Kd.C_drew ?_)));rintro e w47 ⟨rfl, hb⟩;replace qc := b1 qc hb;replace HB := b2s bs hb;(try clear hb)));go_meet
           case rel => exact ⟨_, (Za), o2, H', ⟨by have := HJ1.out; have := qkU.out; have := qry.out; first | omega | exact Nat.le_refl _⟩, ⟨bk qc.out⟩, ⟨bs⟩⟩
          ·have H' := ak H;clear H;obtain ⟨qo7, qo6, qo5, qo4, qo3, qo2, qo1, qnc, qnb, qna, qm9, qm8, qm7, qm6⟩ := cells7 qc.out;go_wp2_with ((go_at_call 85;(with_reducible refine (ZY.calls qo false _ A43.out).mono ?_);rintro e w' ⟨rfl, ⟨nd, rfl⟩⟩));go_meet
           case rel => exact ⟨_, (false), o2, H', ⟨by have := HJ1.out; have := qkU.out; have := qry.out; first | omega | exact Nat.le_refl _⟩, ⟨bk qc.out⟩, ⟨bs⟩⟩
        case rest =>
         clear qrB;(try clear qay)
         (try clear qa6)
         (try clear qa5)
         (try clear qb4)
         (try clear qb3)
         (try clear qb2)
         (try clear qb1)
         (try clear qau)
         (try clear qa3)
         (try clear qa2)
         (try clear qbT)
         (try clear qbS)
         (try clear qbR)
         (try clear qbQ)
         obtain ⟨kq, qqn, rfl, HA, qDI, qc, HB⟩ := hcut;cases kq with
         | zero => exact absurd HA.out (by simp [jl.j3])
         | succ qDp =>
          have H := HA.out;clear HA;simp only [jl.j3] at H;replace H := ie H;obtain ⟨c49b0, c49b1, H⟩ | ⟨c49b0, c49b1, H⟩ := H
          ·replace H := ib H;obtain ⟨rfl, H⟩ | ⟨rfl, H⟩ := H
           ·replace H := ib H;obtain ⟨rfl, H⟩ | ⟨rfl, H⟩ := H
            ·replace H := ib H;obtain ⟨rfl, H⟩ | ⟨rfl, H⟩ := H
             ·obtain rfl := Option.some.inj H;obtain ⟨qu4, qu3, qu2, qu1, qu0, quZ, quY, qtf, qte, qtd, qtc, qtb, qta, qs9⟩ := cells7 qc.out;go_wp2;go_ret;exact ⟨o1, bs⟩
             ·obtain rfl := Option.some.inj H;obtain ⟨qo0, qoZ, qoY, qoX, qoW, qoV, qoU, qm5, qm4, qm3, qm2, qm1, qm0, qmZ⟩ := cells7 qc.out;go_wp2;go_ret;exact ⟨o1, bs⟩
            ·obtain rfl := Option.some.inj H;obtain ⟨quX, quW, quV, quU, quT, quS, quR, qs8, qs7, qs6, qs5, qs4, qs3, qs2⟩ := cells7 qc.out;go_wp2;go_ret;exact ⟨o1, bs⟩
           ·obtain rfl := Option.some.inj H;obtain ⟨qBk, qBj, qBi, qBh, qBg, qBf, qBe, qzE, qzD, qzC, qzB, qzA, qzz, qzy⟩ := cells7 qc.out;go_wp2;go_ret;exact ⟨o1, bs⟩
          ·have c49b2 : ¬ (qN = []) := fun h_ => bne_iff_ne.mp c49b1 (by rw [h_]; rfl)
           replace H := bnd H;obtain ⟨qiJ, A57, H⟩ := H;replace H := ib H;obtain ⟨rfl, H⟩ | ⟨rfl, H⟩ := H
           ·replace H := ib H;obtain ⟨rfl, H⟩ | ⟨rfl, H⟩ := H
            ·replace H := ib H;obtain ⟨rfl, H⟩ | ⟨rfl, H⟩ := H
             ·replace H := ib H;obtain ⟨rfl, H⟩ | ⟨rfl, H⟩ := H
              ·obtain rfl := Option.some.inj H;obtain ⟨qoM, qoL, qoK, qoJ, qoI, qoH, qoG, qmR, qmQ, qmP, qmO, qmN, qmM, qmL⟩ := cells7 qc.out;go_wp2_with ((go_at_call 139;(with_reducible refine (Jo.calls qo true _ A57.out).mono ?_);rintro e w' ⟨rfl, ⟨nd, rfl⟩⟩));go_ret;exact ⟨o1, bs⟩
              ·obtain rfl := Option.some.inj H;obtain ⟨qoF, qoE, qoD, qoC, qoB, qoA, qoz, qmK, qmJ, qmI, qmH, qmG, qmF, qmE⟩ := cells7 qc.out;go_wp2_with ((go_at_call 139;(with_reducible refine (Jo.calls qo true _ A57.out).mono ?_);rintro e w' ⟨rfl, ⟨nd, rfl⟩⟩));go_ret;exact ⟨o1, bs⟩
             ·obtain rfl := Option.some.inj H;obtain ⟨quJ, quI, quH, quG, quF, quE, quD, qsU, qsT, qsS, qsR, qsQ, qsP, qsO⟩ := cells7 qc.out;go_wp2_with ((go_at_call 139;(with_reducible refine (Jo.calls qo true _ A57.out).mono ?_);rintro e w' ⟨rfl, ⟨nd, rfl⟩⟩));go_ret;exact ⟨o1, bs⟩
            ·obtain rfl := Option.some.inj H;obtain ⟨quC, quB, quA, quz, quy, qux, quw, qsN, qsM, qsL, qsK, qsJ, qsI, qsH⟩ := cells7 qc.out;go_wp2_with ((go_at_call 139;(with_reducible refine (Jo.calls qo true _ A57.out).mono ?_);rintro e w' ⟨rfl, ⟨nd, rfl⟩⟩));go_ret;exact ⟨o1, bs⟩
           ·replace H := ib H;obtain ⟨rfl, H⟩ | ⟨rfl, H⟩ := H
            ·replace H := ib H;obtain ⟨rfl, H⟩ | ⟨rfl, H⟩ := H
             ·replace H := ib H;obtain ⟨rfl, H⟩ | ⟨rfl, H⟩ := H
              ·obtain rfl := Option.some.inj H;obtain ⟨qoy, qox, qow, qov, qou, qot, qos, qmD, qmC, qmB, qmA, qmz, qmy, qmx⟩ := cells7 qc.out;go_wp2_with ((go_at_call 139;(with_reducible refine (Jo.calls qo false _ A57.out).mono ?_);rintro e w' ⟨rfl, ⟨nd, rfl⟩⟩));go_ret;exact ⟨o1, bs⟩
              ·obtain rfl := Option.some.inj H;obtain ⟨quo, qun, qum, qul, quk, quj, qui, qsz, qsy, qsx, qsw, qsv, qsu, qst⟩ := cells7 qc.out;go_wp2_with ((go_at_call 139;(with_reducible refine (Jo.calls qo false _ A57.out).mono ?_);rintro e w' ⟨rfl, ⟨nd, rfl⟩⟩));go_ret;exact ⟨o1, bs⟩
             ·obtain rfl := Option.some.inj H;obtain ⟨qor, qoq, qop, qoo, qon, qom, qol, qmw, qmv, qmu, qmt, qms, qmr, qmq⟩ := cells7 qc.out;go_wp2_with ((go_at_call 139;(with_reducible refine (Jo.calls qo false _ A57.out).mono ?_);rintro e w' ⟨rfl, ⟨nd, rfl⟩⟩));go_ret;exact ⟨o1, bs⟩
            ·obtain rfl := Option.some.inj H;obtain ⟨quh, qug, quf, que, qud, quc, qub, qss, qsr, qsq, qsp, qso, qsn, qsm⟩ := cells7 qc.out;go_wp2_with ((go_at_call 139;(with_reducible refine (Jo.calls qo false _ A57.out).mono ?_);rintro e w' ⟨rfl, ⟨nd, rfl⟩⟩));go_ret;exact ⟨o1, bs⟩

/-! ### Jz: function 223 -/

/-- Where the first element stands of which q holds; -1: nowhere. -/
def Jz.idx (q : S33 → Option Bool) : List S33 → Int → Option Int
 | [], _ => some (-1)
 | x :: l, i => (q x).bind fun b => if b = true then some i else Jz.idx q l (i + 1)
set_option maxHeartbeats 2000000 in
theorem Jz.calls (g : Nat) (lb : Array Value) (eg : ∀ args w, (callFunc g args).run Try.prog w = .ok (.enter g args) w) (q : S33 → Option Bool) (A0 : Option Addr) (c0 : Nat) (l0 : List S33) (r : Int) (w : World) (hr0 : Kd.C k33 w A0 l0.length l0)
  (hp : ∀ (W : World) (cs : List Value) (x : S33) (b : Bool), Below w.heap.size w W → k33.K W x cs → q x = some b → Calls Try.prog g (#[.agg cs.toArray] ++ lb) W fun e w' => e = .returned (.bool b) ∧ Below W.heap.size W w') (h : Jz.idx q l0 0 = some r) :
  Calls Try.prog 223 #[.slice A0 l0.length c0, .func (.func g) #[] lb] w fun e w' => e = .returned (.int .i64 r) ∧ Below w.heap.size w w' := by
 have HR0 := ak hr0;have hbig : l0.length ≤ 9223372036854775807 := hr0.2.1;have HP := ak hp;have HX := ak h;clear hr0 hp h;go_enter Try.func223, Try.ntmps223;go_wp2;go_loopg [5, 8] l0.length (fun gg _ s8 wr => ∃ kk : Nat, kk ≤ l0.length ∧ l0.length - kk ≤ gg ∧ s8 = .int .i64 kk ∧ Aside0 (Below w.heap.size w wr) ∧ Aside0 (Jz.idx q (l0.drop kk) (kk : Int) = some r))
 case atStart => exact ⟨0, Nat.zero_le _, by omega, rfl, ⟨Below.refl _ w⟩, ⟨by simpa using HX.out⟩⟩
 case round =>
  clear HX;obtain ⟨kk, hkk, hg, rfl, BW, AF⟩ := hrel;by_cases hlt : kk < l0.length
  ·obtain ⟨ad, c, rfl, hcl, hK, hcc⟩ := Kd.C_get HR0.out z33 (kk : Int) (by omega) (by omega);have hcl : c.length = 7 := hcl
   obtain ⟨x0, x1, x2, x3, x4, x5, x6, rfl⟩ : ∃ x0 x1 x2 x3 x4 x5 x6 : Value, c = [x0, x1, x2, x3, x4, x5, x6] := by
    match c, hcl with
    | [x0, x1, x2, x3, x4, x5, x6], _ => exact ⟨x0, x1, x2, x3, x4, x5, x6, rfl⟩
   have hK1 := k33.K_below BW.out hK
   have hcc : ∀ j u, [x0, x1, x2, x3, x4, x5, x6][j]? = some u → wr.cell? (ad.add (kk * 7 + j)) = some u := fun j u hj => by
    have := hcc j u hj;rw [show ((kk : Int)).toNat = kk from by omega] at this;exact pw_cell_below BW.out this
   have hx : l0.drop kk = l0.getD ((kk : Int)).toNat z33 :: l0.drop (kk + 1) := by
    rw [List.drop_eq_getElem_cons hlt, show ((kk : Int)).toNat = kk from by omega]; simp [List.getD_eq_getElem?_getD, hlt]
   have AF1 := AF.out;rw [hx] at AF1;simp only [Jz.idx] at AF1;clear AF hx hK;generalize l0.getD ((kk : Int)).toNat z33 = y at hK1 AF1;obtain ⟨b, hb, AF2⟩ := Option.bind_eq_some_iff.1 AF1;clear AF1;have hcall := (HP.out wr _ y b BW.out hK1 hb).mono (fun e w' (h : e = .returned (.bool b) ∧ Below wr.heap.size wr w') => (⟨h.1, below_step BW.out h.2⟩ : e = .returned (.bool b) ∧ Below w.heap.size w w'));clear hK1 hb;have hc0 : wr.cell? (ad.add (kk * 7)) = some x0 := by simpa using hcc 0 _ rfl
   have hc1 : wr.cell? ⟨(ad.add (kk * 7)).block, (ad.add (kk * 7)).off + 1, none⟩ = some x1 := by rw [← add_field _ _ 1 (by omega)]; exact hcc 1 _ rfl
   have hc2 : wr.cell? ⟨(ad.add (kk * 7)).block, (ad.add (kk * 7)).off + 2, none⟩ = some x2 := by rw [← add_field _ _ 2 (by omega)]; exact hcc 2 _ rfl
   have hc3 : wr.cell? ⟨(ad.add (kk * 7)).block, (ad.add (kk * 7)).off + 3, none⟩ = some x3 := by rw [← add_field _ _ 3 (by omega)]; exact hcc 3 _ rfl
   have hc4 : wr.cell? ⟨(ad.add (kk * 7)).block, (ad.add (kk * 7)).off + 4, none⟩ = some x4 := by rw [← add_field _ _ 4 (by omega)]; exact hcc 4 _ rfl
   have hc5 : wr.cell? ⟨(ad.add (kk * 7)).block, (ad.add (kk * 7)).off + 5, none⟩ = some x5 := by rw [← add_field _ _ 5 (by omega)]; exact hcc 5 _ rfl
   have hc6 : wr.cell? ⟨(ad.add (kk * 7)).block, (ad.add (kk * 7)).off + 6, none⟩ = some x6 := by rw [← add_field _ _ 6 (by omega)]; exact hcc 6 _ rfl
   clear hcc;have hltz : (kk : Int) < (l0.length : Int) := by omega
   cases b with
   | true =>
    go_wp2_with (go_at_fn g; refine hcall.mono ?_; rintro e w' ⟨rfl, hb'⟩);go_ret;refine ⟨?_, hb'⟩;have := Option.some.inj AF2;rw [← this]; rfl
   | false =>
    have AF3 := ak AF2;clear AF2;go_wp2_with (go_at_fn g; refine hcall.mono ?_; rintro e w' ⟨rfl, hb'⟩);go_roundg (l0.length - (kk + 1));case measure => omega
    case rel => exact ⟨kk + 1, by omega, by omega, by go_num, ⟨hb'⟩, ⟨by have := AF3.out; simpa using this⟩⟩
  ·have hltz : ¬ (kk : Int) < (l0.length : Int) := by omega
   have AF1 := AF.out;rw [List.drop_of_length_le (by omega)] at AF1;have := Option.some.inj AF1;clear AF AF1;go_wp2;go_ret;exact ⟨by rw [← this]; rfl, BW.out⟩

/-! ### qiH: function 172 -/

set_option maxHeartbeats 2000000 in
theorem qiH.calls (g : Nat) (lb : Array Value) (eg : ∀ args w, (callFunc g args).run Try.prog w = .ok (.enter g args) w) (q : S33 → Option Bool) (A0 : Option Addr) (c0 : Nat) (l0 : List S33) (r : Int) (w : World) (hr0 : Kd.C k33 w A0 l0.length l0)
  (hp : ∀ (W : World) (cs : List Value) (x : S33) (b : Bool), Below w.heap.size w W → k33.K W x cs → q x = some b → Calls Try.prog g (#[.agg cs.toArray] ++ lb) W fun e w' => e = .returned (.bool b) ∧ Below W.heap.size W w') (h : Jz.idx q l0 0 = some r) :
  Calls Try.prog 172 #[.slice A0 l0.length c0, .func (.func g) #[] lb] w fun e w' => e = .returned (.bool (decide (0 ≤ r))) ∧ Below w.heap.size w w' := by
 have hc := Jz.calls g lb eg q A0 c0 l0 r w hr0 hp h;clear hp hr0 h;go_enter Try.func172, Try.ntmps172;go_wp2_with (go_at_call 223; refine hc.mono ?_; rintro e w' ⟨rfl, hb'⟩);go_ret;exact ⟨rfl, hb'⟩

/-! ### qkV: function 173 -/

set_option maxHeartbeats 2000000 in
/-- What is handed to ContainsFunc: the predicate's contrary; the predicate lies in a variable. -/
theorem qkV.calls (g : Nat) (lb : Array Value) (eg : ∀ args w, (callFunc g args).run Try.prog w = .ok (.enter g args) w) (q : Bool) (x : S33) (cs : List Value) (B : Nat) (w : World) (hK : k33.K w x cs) (hv : w.cell? ⟨B, 0, none⟩ = some (.func (.func g) #[] lb))
  (hp : ∀ W : World, Below w.heap.size w W → Calls Try.prog g (#[.agg cs.toArray] ++ lb) W fun e w' => e = .returned (.bool q) ∧ Below W.heap.size W w') :
  Calls Try.prog 173 #[.agg cs.toArray, .pointer (some ⟨B, 0, none⟩)] w fun e w' => e = .returned (.bool (!q)) ∧ Below w.heap.size w w' := by
 obtain ⟨A0, c0, A4, c4, A5, c5, A6, c6, rfl, l0, g0, l4, g4, l5, g5, l6, g6⟩ := k33_open hK;have HB := ak (Below.refl w.heap.size w);have HV := ak hv;have HP := ak hp;clear hK hv hp l0 g0 l4 g4 l5 g5 l6 g6;go_enter Try.func173, Try.ntmps173;go_wp2_with (first | ((with_reducible refine gate_dst (N := 2) rfl ?_);refine bxd (N := 2) rfl HB ?_;clear HB;intro gb w2 hg HB BK GE hb;clear hg hb;obtain ⟨hz0, hz1, hz2, hz3, hz4, hz5, hz6, hf0, hf1, hf2, hf3, hf4, hf5, hf6⟩ := cells7 BK.out;have hv := (HB.out.cell (World.block_lt_of_cell? w _ HV.out)).trans HV.out) | (go_at_fn g;refine (HP.out _ HB.out).mono ?_;rintro e w3 ⟨rfl, hb⟩));go_ret;exact ⟨rfl, below_step HB.out hb⟩

/-! ### QE: function 100 -/

def QE.q (k : Nat) (x : S33) : Option Bool := jl.f k x.f0.f0 x.f1 x.f2 x.f3 x.f4.f0 x.f5 x.f6
def QE.f (k : Nat) (l0 : List S33) : Option Bool := (Jz.idx (fun x => (QE.q k x).map (fun b => !b)) l0 0).map fun r => !decide (0 ≤ r)
set_option maxHeartbeats 2000000 in
theorem QE.any (g : Nat) (lb : Array Value) (eg : ∀ args w, (callFunc g args).run Try.prog w = .ok (.enter g args) w) (q : S33 → Option Bool) (A0 : Option Addr) (c0 : Nat) (l0 : List S33) (r : Int) (w : World) (hr0 : Kd.C k33 w A0 l0.length l0)
  (hp : ∀ (W : World) (cs : List Value) (x : S33) (b : Bool), Below w.heap.size w W → k33.K W x cs → q x = some b → Calls Try.prog g (#[.agg cs.toArray] ++ lb) W fun e w' => e = .returned (.bool b) ∧ Below W.heap.size W w') (h : Jz.idx (fun x => (q x).map (fun b => !b)) l0 0 = some r) :
  Calls Try.prog 100 #[.slice A0 l0.length c0, .func (.func g) #[] lb] w fun e w' => e = .returned (.bool (!decide (0 ≤ r))) ∧ Below w.heap.size w w' := by
 have eg2 : ∀ args w, (callFunc 173 args).run Try.prog w = .ok (.enter 173 args) w := enters_of Try.func173 (by kernel_rfl) rfl;have hb0 : Below w.heap.size w (w.alloc (.cells #[.func (.func g) #[] lb] 97)) := below_alloc (Below.refl _ _) _
 have hc := qiH.calls 173 #[.pointer (some ⟨w.heap.size, 0, none⟩)] eg2 (fun x => (q x).map (fun b => !b)) A0 c0 l0 r (w.alloc (.cells #[.func (.func g) #[] lb] 97)) (Kd.C_below hr0 hb0) (fun W cs x b hW hK hq => by
  obtain ⟨b', hb', rfl⟩ := Option.map_eq_some_iff.1 hq
  exact qkV.calls g lb eg b' x cs w.heap.size W hK ((hW.cell (p := ⟨w.heap.size, 0, none⟩) (by simp)).trans (by simp)) (fun W2 hW2 => hp W2 cs x b' ((hb0.trans (hW.mono (by simp))).trans (hW2.mono (hb0.trans (hW.mono (by simp))).size)) (k33.K_below hW2 hK) hb')) h
 clear hp hr0 h;go_enter Try.func100, Try.ntmps100;go_wp2_with (go_at_call 172; refine hc.mono ?_; rintro e w' ⟨rfl, hb'⟩);go_ret;exact ⟨rfl, hb0.trans (hb'.mono (by simp))⟩
set_option maxHeartbeats 2000000 in
theorem QE.calls (k : Nat) (A0 : Option Addr) (c0 : Nat) (l0 : List S33) (r : Bool) (w : World) (hr0 : Kd.C k33 w A0 l0.length l0) (hc0 : l0.length ≤ c0) (h : QE.f k l0 = some r) :
  Calls Try.prog 100 #[.slice A0 l0.length c0, .func (.func 63) #[] #[]] w fun e w' => e = .returned (.bool r) ∧ Below w.heap.size w w' := by
 have eg : ∀ args w, (callFunc 63 args).run Try.prog w = .ok (.enter 63 args) w := enters_of Try.func63 (by kernel_rfl) rfl;obtain ⟨i, hi, rfl⟩ := Option.map_eq_some_iff.1 h;refine QE.any 63 #[] eg (QE.q k) A0 c0 l0 i w hr0 (fun W cs x b hW hK hq => ?_) hi;obtain ⟨A0, c0, A4, c4, A5, c5, A6, c6, rfl, l0, g0, l4, g4, l5, g5, l6, g6⟩ := k33_open hK;exact jl.calls k _ _ x.f0.f0 x.f1 x.f2 x.f3 _ _ x.f4.f0 _ _ x.f5 _ _ x.f6 b W g0 l0 g4 l4 g5 l5 g6 l6 hq

/-! ### Xj: function 198 -/
def Xj.f (k : Nat) (l0 : List (S33)) : Option (Bool) := if (l0.length : Int) ≤ 12 then ((QE.f k l0).bind fun Zi => (some Zi)) else (some false)
set_option maxHeartbeats 8000000 in
set_option maxRecDepth 100000 in
theorem Xj.calls (k : Nat) (A0 : Option Addr) (c0 : Nat) (l0 : List (S33)) (r : Bool) (w : World) (hr0 : Kd.C k33 w A0 l0.length l0) (hc0 : l0.length ≤ c0) (h : Xj.f k l0 = some r) :
  Calls Try.prog 198 #[.slice A0 l0.length c0] w fun e w' => e = .returned (.bool r) ∧ Below w.heap.size w w' := by
 have HR0 := ak hr0;have HC0 := ak hc0;clear hr0 hc0;have HB := ak (Below.refl w.heap.size w);have H : (if (l0.length : Int) ≤ 12 then ((QE.f k l0).bind fun Zi => (some Zi)) else (some false)) = some r := h;clear h;replace H := ip H;obtain ⟨c2b0, H⟩ | ⟨c2b0, H⟩ := H
 ·have c2b1 : decide (l0.length ≤ 12) = true := decide_eq_true (by have := of_decide_eq_true c2b0; omega);replace H := bnd H;obtain ⟨Zi, A3, H⟩ := H;obtain rfl := Option.some.inj H;go_enter Try.func198, Try.ntmps198;go_wp2_with ((go_at_call 100;(with_reducible refine (QE.calls k _ _ l0 Zi _ (cd HR0) HC0.out A3.out).mono ?_);rintro e w4 ⟨rfl, hb⟩;replace HB := b2 HB hb;(try clear hb)));go_ret;exact ⟨o1, bw HB.out⟩
 ·have c2b1 : decide (l0.length ≤ 12) = false := decide_eq_false (by have := of_decide_eq_false c2b0; omega);obtain rfl := Option.some.inj H;go_enter Try.func198, Try.ntmps198;go_wp2;go_ret;exact ⟨o1, bw HB.out⟩

/-! ### jc: function 183 -/
mutual
def jc.j0 : Nat → List (S33) → Bool → Option (Bool)
 | 0, _, _ => none
 | k + 1, x0, x12 => if x12 = true then (some false) else (jc.l0 k x0 x0 (x0.length : Int) 0)
def jc.l0 : Nat → List (S33) → List (S33) → Int → Int → Option (Bool)
 | 0, _, _, _, _ => none
 | k + 1, x0, x13, x14, x15 => if x15 < x14 then (if 0 ≤ x15 then (if x15 < (x13.length : Int) then (if 0 < (x0.length : Int) then ((yM.f k ((qb x13 x15).f0.f0) ((qb x0 0).f0.f0)).bind fun jA => (if jA = true then (if ((qb x13 x15).f1) = ((qb x0 0).f1) then (if ((qb x13 x15).f2) = ((qb x0 0).f2) then (if x15 > 0 then (if 0 ≤ (wrap64 (x15 - 1)) then (if (wrap64 (x15 - 1)) < (x0.length : Int) then ((zJ.f k ((qb x0 (wrap64 (x15 - 1))).f0.f0) ((qb x0 (wrap64 (x15 - 1))).f1) ((qb x0 (wrap64 (x15 - 1))).f2) ((qb x0 (wrap64 (x15 - 1))).f3) ((qb x0 (wrap64 (x15 - 1))).f4.f0) ((qb x0 (wrap64 (x15 - 1))).f5) ((qb x0 (wrap64 (x15 - 1))).f6) ((qb x13 x15).f0.f0) ((qb x13 x15).f1) ((qb x13 x15).f2) ((qb x13 x15).f3) ((qb x13 x15).f4.f0) ((qb x13 x15).f5) ((qb x13 x15).f6)).bind fun Jc => (if Jc ≥ 0 then (some false) else (jc.l0 k x0 x13 x14 (wrap64 (x15 + 1))))) else (none)) else (none)) else (jc.l0 k x0 x13 x14 (wrap64 (x15 + 1)))) else (some false)) else (some false)) else (some false))) else (none)) else (none)) else (none)) else (some true)
end
def jc.f (k : Nat) (l0 : List (S33)) : Option (Bool) := if (l0.length : Int) = 0 then (jc.j0 k l0 true) else ((Xj.f k l0).bind fun Zi => (jc.j0 k l0 (!Zi)))
def jc.T6 : Bool × List (List Nat × List Nat) := (true, [([], []), ([0], [0]), ([], []), ([2], [2]), ([3], [3]), ([4], [4]), ([1, 5], [1, 5]), ([6], [6]), ([7, 6], [7]), ([8], [8]), ([9, 8], [8, 9]), ([8], [8]), ([11, 8], [8, 11]), ([12, 8], [8, 12]), ([13, 8], [8, 13]), ([10, 14, 8], [8, 10, 14]), ([8, 15], [8, 15]), ([16, 8], [16]), ([17], [17]), ([18, 17], [17, 18]), ([17], [17]), ([20, 17], [17, 20]), ([21, 17], [17, 21]), ([22, 17], [17, 22]), ([19, 23, 17], [17, 19, 23]), ([17, 24], [17, 24]), ([25, 17], [25]), ([26], [26]), ([27, 26], [26, 27]), ([28, 26, 26], [26, 28]), ([29], [29]), ([29], [29]), ([31, 29], [29, 31]), ([30, 32, 29], [29, 30, 32]), ([33, 29], [29, 33]), ([29], [29]), ([34, 35, 29, 29], [29, 34, 35]), ([36, 29], [29, 36]), ([29, 37, 26], [26, 29, 37]), ([26, 38], [26, 38])])
def jc.B6 : List Nat := [0, 1, 0, 4, 12, 28, 63, 127, 255, 511, 1023, 511, 2559, 6655, 14847, 32767, 65535, 131071, 262143, 524287, 262143, 1310719, 3407871, 7602175, 16777215, 33554431, 67108863, 134217727, 268435455, 536870911, 1073741823, 1073741823, 3221225471, 8589934591, 17179869183, 1073741823, 68719476735, 137438953471, 274877906943, 549755813887]
theorem jc.tab6 : rtab .any (opsOf Try.f183 6) = jc.T6 := by kernel_rfl
theorem jc.bits6 : waitsOk jc.T6.2 jc.B6 = true := by kernel_rfl
set_option maxHeartbeats 8000000 in
set_option maxRecDepth 100000 in
theorem jc.calls (k : Nat) (A0 : Option Addr) (c0 : Nat) (l0 : List (S33)) (r : Bool) (w : World) (hr0 : Kd.C k33 w A0 l0.length l0) (hc0 : l0.length ≤ c0) (h : jc.f k l0 = some r) :
  Calls Try.prog 183 #[.slice A0 l0.length c0] w fun e w' => e = .returned (.bool r) ∧ Below w.heap.size w w' := by
 have qdr := Try.underlying33;have XB := Try.underlying31;have HR0 := ak hr0;have HC0 := ak hc0;clear hr0 hc0;have HB := ak (Below.refl w.heap.size w);have H : (if (l0.length : Int) = 0 then (jc.j0 k l0 true) else ((Xj.f k l0).bind fun Zi => (jc.j0 k l0 (!Zi)))) = some r := h;clear h;have HC2 := ak H;clear H;go_enter Try.func183, Try.ntmps183;go_upto_region 1 with (fail)
 go_cut [12] (fun v12 wc => ∃ (kq : Nat) (qqt : Bool), v12 = .bool qqt ∧ Aside0 (jc.j0 kq l0 qqt = some r) ∧ Aside0 (kq ≤ k) ∧ Aside0 (Below w.heap.size w wc))
 case first =>
  have H := HC2.out;clear HC2;replace H := ie H;obtain ⟨c3b0, c3b1, H⟩ | ⟨c3b0, c3b1, H⟩ := H
  ·(first | rw [c3b0] | (simp only [i64_w, i32_w]; rw [c3b0]) | skip)
   have H' := ak H;clear H;go_wp2;go_meet
   case rel => exact ⟨_, (true), o2, H', ⟨o3⟩, ⟨bw HB.out⟩⟩
  ·have c3b2 : ¬ (l0 = []) := fun h_ => bne_iff_ne.mp c3b1 (by rw [h_]; rfl)
   (first | rw [c3b0] | (simp only [i64_w, i32_w]; rw [c3b0]) | skip)
   replace H := bnd H;obtain ⟨Zi, A4, H⟩ := H;have H' := ak H;clear H;go_wp2_with ((go_at_call 198;(with_reducible refine (Xj.calls k _ _ l0 Zi _ (cv HR0 HB) HC0.out A4.out).mono ?_);rintro e w5 ⟨rfl, hb⟩;replace HB := b2 HB hb;(try clear hb)));go_meet
   case rel => exact ⟨_, (!Zi), o2, H', ⟨o3⟩, ⟨bw HB.out⟩⟩
 case rest =>
  clear HC2;obtain ⟨kq, qqt, rfl, HA, HJ1, HB⟩ := hcut;cases kq with
  | zero => exact absurd HA.out (by simp [jc.j0])
  | succ kj1 =>
   have H := HA.out;clear HA;simp only [jc.j0] at H;replace H := ib H;obtain ⟨rfl, H⟩ | ⟨rfl, H⟩ := H
   ·obtain rfl := Option.some.inj H;go_wp2;go_ret;exact ⟨o1, bw HB.out⟩
   ·have H' := ak H;clear H;go_wp2;go_loopg [15] kj1 (fun kq v15 w' => ∃ (qp : Int), v15 = .int .i64 qp ∧ Aside0 (jc.l0 kq l0 l0 (l0.length : Int) qp = some r) ∧ Aside0 (kq ≤ kj1) ∧ Aside0 (Below w.heap.size w w'))
    case atStart => exact ⟨(0), o2, H', ⟨Nat.le_refl _⟩, ⟨bw HB.out⟩⟩
    case round =>
     clear H';obtain ⟨qp, rfl, HA, HK2, HB⟩ := hrel;cases gk with
     | zero => exact absurd HA.out (by simp [jc.l0])
     | succ k2 =>
      have H := HA.out;clear HA;simp only [jc.l0] at H;replace H := ip H;obtain ⟨c7b0, H⟩ | ⟨c7b0, H⟩ := H
      ·replace H := ipN H;obtain ⟨c8b0, H⟩ := H;replace H := ipN H;obtain ⟨c9b0, H⟩ := H;replace H := ipN H;obtain ⟨c10b0, H⟩ := H;have c10b1 : decide (0 < l0.length) = true := decide_eq_true (by have := of_decide_eq_true c10b0; omega);replace H := bnd H;obtain ⟨jA, A11, H⟩ := H;replace H := ib H;obtain ⟨rfl, H⟩ | ⟨rfl, H⟩ := H
       ·replace H := ie H;obtain ⟨c13b0, c13b1, H⟩ | ⟨c13b0, c13b1, H⟩ := H
        ·replace H := ie H;obtain ⟨c14b0, c14b1, H⟩ | ⟨c14b0, c14b1, H⟩ := H
         ·replace H := ig H;obtain ⟨c15b0, H⟩ | ⟨c15b0, H⟩ := H
          ·obtain ⟨zu, qbK⟩ : ∃ j_ : Int, (wrap64 (qp - 1)) = j_ := ⟨_, rfl⟩;(first | rw [qbK] at H | simp only [qbK] at H)
           (try rw [qbK] at A11)
           have hji16w : (IntKind.i64.wrap (qp - 1)) = zu := (i64_w _).trans qbK;replace H := ipN H;obtain ⟨c17b0, H⟩ := H;replace H := ipN H;obtain ⟨c18b0, H⟩ := H;replace H := bnd H;obtain ⟨Jc, A19, H⟩ := H;replace H := ih H;obtain ⟨c20b0, H⟩ | ⟨c20b0, H⟩ := H
           ·obtain rfl := Option.some.inj H;obtain ⟨qj, qz, qy, yo, yl, yn, yk, ym, yj, rfl, yU, YD, YC, YB, YA, Yz, Yy, jY, jI, qaM, Xw, qaL, Xv, qaK, Xu, Xa, YZ⟩ := el_T33 HR0 HB qp;try go_wp2_with (((with_reducible refine gate_dst (N := 4) rfl ?_);refine bxd (N := 4) rfl HB ?_;clear HB;intro qf w21 hg HB qk XX hb;have qaU := XX;clear hb hg;obtain ⟨qay, qa6, qa5, qb4, qb3, qb2, qb1, qau, qa3, qa2, qbT, qbS, qbR, qbQ⟩ := cells7 qk.out))
            have n0_ : Aside0 ((((((((w21.setCell ⟨qf, 0, none⟩ (.slice qz ((qb l0 qp).f0.f0).length qy)).setCell ⟨qf, 1, none⟩ (.int .i64 ((qb l0 qp).f1))).setCell ⟨qf, 2, none⟩ (.int .i64 ((qb l0 qp).f2))).setCell ⟨qf, 3, none⟩ (.int .i64 ((qb l0 qp).f3))).setCell ⟨qf, 4, none⟩ (.slice yo ((qb l0 qp).f4.f0).length yl)).setCell ⟨qf, 5, none⟩ (.slice yn ((qb l0 qp).f5).length yk)).setCell ⟨qf, 6, none⟩ (.slice ym ((qb l0 qp).f6).length yj)).heap[qf]? = some (.cells #[.slice qz ((qb l0 qp).f0.f0).length qy, .int .i64 ((qb l0 qp).f1), .int .i64 ((qb l0 qp).f2), .int .i64 ((qb l0 qp).f3), .slice yo ((qb l0 qp).f4.f0).length yl, .slice yn ((qb l0 qp).f5).length yk, .slice ym ((qb l0 qp).f6).length yj] 33 (0, 0))) := ⟨ZZ qk.out⟩;have n1_ : Aside0 (Below w.heap.size w (((((((w21.setCell ⟨qf, 0, none⟩ (.slice qz ((qb l0 qp).f0.f0).length qy)).setCell ⟨qf, 1, none⟩ (.int .i64 ((qb l0 qp).f1))).setCell ⟨qf, 2, none⟩ (.int .i64 ((qb l0 qp).f2))).setCell ⟨qf, 3, none⟩ (.int .i64 ((qb l0 qp).f3))).setCell ⟨qf, 4, none⟩ (.slice yo ((qb l0 qp).f4.f0).length yl)).setCell ⟨qf, 5, none⟩ (.slice yn ((qb l0 qp).f5).length yk)).setCell ⟨qf, 6, none⟩ (.slice ym ((qb l0 qp).f6).length yj))) := ⟨bs⟩;(try clear qk)
            (try clear HB)
            generalize (((((((w21.setCell ⟨qf, 0, none⟩ (.slice qz ((qb l0 qp).f0.f0).length qy)).setCell ⟨qf, 1, none⟩ (.int .i64 ((qb l0 qp).f1))).setCell ⟨qf, 2, none⟩ (.int .i64 ((qb l0 qp).f2))).setCell ⟨qf, 3, none⟩ (.int .i64 ((qb l0 qp).f3))).setCell ⟨qf, 4, none⟩ (.slice yo ((qb l0 qp).f4.f0).length yl)).setCell ⟨qf, 5, none⟩ (.slice yn ((qb l0 qp).f5).length yk)).setCell ⟨qf, 6, none⟩ (.slice ym ((qb l0 qp).f6).length yj)) = w23 at n0_ n1_ ⊢;have qk := n0_;have HB := n1_;clear n0_ n1_;replace qk := ak (blk_drew qk.out);replace HB := ak (below_drew1 HB.out);have yr : 0 ≤ (0 : Int) := (by omega);have yq : 0 < (l0.length : Int) := of_decide_eq_true (by first | (with_reducible assumption) | assumption);obtain ⟨JA, QG, QF, JZ, JW, JY, JV, JX, JU, XC, qA, qL, qK, qJ, qI, qH, qG, ye, yi, yd, yh, yc, yg, yb, yf⟩ := yu HR0.out 0 yr yq;have zj := qG;(try rw [show ((0 : Int)).toNat = 0 from rfl] at zj)
            (try rw [show 0 * 7 = 0 from rfl] at zj)
            (try rw [Addr.add_zero'] at zj)
            have zk := qH;(try rw [show ((0 : Int)).toNat = 0 from rfl] at zk)
            (try rw [show 0 * 7 = 0 from rfl] at zk)
            (try rw [Addr.add_zero'] at zk)
            have zl := qI;(try rw [show ((0 : Int)).toNat = 0 from rfl] at zl)
            (try rw [show 0 * 7 = 0 from rfl] at zl)
            (try rw [Addr.add_zero'] at zl)
            have zm := qJ;(try rw [show ((0 : Int)).toNat = 0 from rfl] at zm)
            (try rw [show 0 * 7 = 0 from rfl] at zm)
            (try rw [Addr.add_zero'] at zm)
            have zn := qK;(try rw [show ((0 : Int)).toNat = 0 from rfl] at zn)
            (try rw [show 0 * 7 = 0 from rfl] at zn)
            (try rw [Addr.add_zero'] at zn)
            have zo := qL;(try rw [show ((0 : Int)).toNat = 0 from rfl] at zo)
            (try rw [show 0 * 7 = 0 from rfl] at zo)
            (try rw [Addr.add_zero'] at zo)
            have zp := qA;(try rw [show ((0 : Int)).toNat = 0 from rfl] at zp)
            (try rw [show 0 * 7 = 0 from rfl] at zp)
            (try rw [Addr.add_zero'] at zp)
            obtain rfl : qj = JA := (by injection XC);have qcl : (0 < l0.length) = True := eq_true (by omega);(try rw [show ((0 : Int)).toNat = 0 from rfl] at qA)
            (try rw [show 0 * 7 = 0 from rfl] at qA)
            (try rw [Addr.add_zero'] at qA)
            (try rw [show ((0 : Int)).toNat = 0 from rfl] at qL)
            (try rw [show 0 * 7 = 0 from rfl] at qL)
            (try rw [Addr.add_zero'] at qL)
            (try rw [show ((0 : Int)).toNat = 0 from rfl] at qK)
            (try rw [show 0 * 7 = 0 from rfl] at qK)
            (try rw [Addr.add_zero'] at qK)
            (try rw [show ((0 : Int)).toNat = 0 from rfl] at qJ)
            (try rw [show 0 * 7 = 0 from rfl] at qJ)
            (try rw [Addr.add_zero'] at qJ)
            (try rw [show ((0 : Int)).toNat = 0 from rfl] at qI)
            (try rw [show 0 * 7 = 0 from rfl] at qI)
            (try rw [Addr.add_zero'] at qI)
            (try rw [show ((0 : Int)).toNat = 0 from rfl] at qH)
            (try rw [show 0 * 7 = 0 from rfl] at qH)
            (try rw [Addr.add_zero'] at qH)
            (try rw [show ((0 : Int)).toNat = 0 from rfl] at qG)
            (try rw [show 0 * 7 = 0 from rfl] at qG)
            (try rw [Addr.add_zero'] at qG)
            replace qA := pw_cell_below HB.out qA;replace qL := pw_cell_below HB.out qL;replace qK := pw_cell_below HB.out qK;replace qJ := pw_cell_below HB.out qJ;replace qI := pw_cell_below HB.out qI;replace qH := pw_cell_below HB.out qH;replace qG := pw_cell_below HB.out qG;have jz := ak yi;have zx := ak ye;clear yi ye;have QR := ak yh;have XA := ak yd;clear yh yd;have QQ := ak yg;have Xz := ak yc;clear yg yc;have QP := ak yf;have Xy := ak yb;clear yf yb;replace yr := eq_true yr;replace yq := eq_true yq;have Jj : 0 ≤ (0 : Int) := (by omega);have Ji : 0 < (l0.length : Int) := of_decide_eq_true (by first | (with_reducible assumption) | assumption);obtain ⟨qdA, Qb, Qa, Ja, QV, QZ, QU, QY, QT, qgI, qY, jQ, jP, jO, jv, ju, jt, YI, YM, YH, YL, YG, YK, YF, YJ⟩ := yu HR0.out 0 Jj Ji;have Qk := jt;(try rw [show ((0 : Int)).toNat = 0 from rfl] at Qk)
            (try rw [show 0 * 7 = 0 from rfl] at Qk)
            (try rw [Addr.add_zero'] at Qk)
            have Ql := ju;(try rw [show ((0 : Int)).toNat = 0 from rfl] at Ql)
            (try rw [show 0 * 7 = 0 from rfl] at Ql)
            (try rw [Addr.add_zero'] at Ql)
            have Qm := jv;(try rw [show ((0 : Int)).toNat = 0 from rfl] at Qm)
            (try rw [show 0 * 7 = 0 from rfl] at Qm)
            (try rw [Addr.add_zero'] at Qm)
            have Qn := jO;(try rw [show ((0 : Int)).toNat = 0 from rfl] at Qn)
            (try rw [show 0 * 7 = 0 from rfl] at Qn)
            (try rw [Addr.add_zero'] at Qn)
            have Qo := jP;(try rw [show ((0 : Int)).toNat = 0 from rfl] at Qo)
            (try rw [show 0 * 7 = 0 from rfl] at Qo)
            (try rw [Addr.add_zero'] at Qo)
            have Qp := jQ;(try rw [show ((0 : Int)).toNat = 0 from rfl] at Qp)
            (try rw [show 0 * 7 = 0 from rfl] at Qp)
            (try rw [Addr.add_zero'] at Qp)
            have Qq := qY;(try rw [show ((0 : Int)).toNat = 0 from rfl] at Qq)
            (try rw [show 0 * 7 = 0 from rfl] at Qq)
            (try rw [Addr.add_zero'] at Qq)
            obtain rfl : qj = qdA := (by injection qgI);have qgw : (0 < l0.length) = True := eq_true (by omega);(try rw [show ((0 : Int)).toNat = 0 from rfl] at qY)
            (try rw [show 0 * 7 = 0 from rfl] at qY)
            (try rw [Addr.add_zero'] at qY)
            (try rw [show ((0 : Int)).toNat = 0 from rfl] at jQ)
            (try rw [show 0 * 7 = 0 from rfl] at jQ)
            (try rw [Addr.add_zero'] at jQ)
            (try rw [show ((0 : Int)).toNat = 0 from rfl] at jP)
            (try rw [show 0 * 7 = 0 from rfl] at jP)
            (try rw [Addr.add_zero'] at jP)
            (try rw [show ((0 : Int)).toNat = 0 from rfl] at jO)
            (try rw [show 0 * 7 = 0 from rfl] at jO)
            (try rw [Addr.add_zero'] at jO)
            (try rw [show ((0 : Int)).toNat = 0 from rfl] at jv)
            (try rw [show 0 * 7 = 0 from rfl] at jv)
            (try rw [Addr.add_zero'] at jv)
            (try rw [show ((0 : Int)).toNat = 0 from rfl] at ju)
            (try rw [show 0 * 7 = 0 from rfl] at ju)
            (try rw [Addr.add_zero'] at ju)
            (try rw [show ((0 : Int)).toNat = 0 from rfl] at jt)
            (try rw [show 0 * 7 = 0 from rfl] at jt)
            (try rw [Addr.add_zero'] at jt)
            replace qY := pw_cell_below HB.out qY;replace jQ := pw_cell_below HB.out jQ;replace jP := pw_cell_below HB.out jP;replace jO := pw_cell_below HB.out jO;replace jv := pw_cell_below HB.out jv;replace ju := pw_cell_below HB.out ju;replace jt := pw_cell_below HB.out jt;have JE := ak YM;have qaJ := ak YI;clear YM YI;have Zr := ak YL;have qbF := ak YH;clear YL YH;have Zq := ak YK;have qbE := ak YG;clear YK YG;have Zp := ak YJ;have qbD := ak YF;clear YJ YF;replace Jj := eq_true Jj;replace Ji := eq_true Ji;have yw : 0 ≤ (0 : Int) := (by omega);have yv : 0 < (l0.length : Int) := of_decide_eq_true (by first | (with_reducible assumption) | assumption);obtain ⟨Xb, JD, JC, Yw, Ys, Yv, Yr, Yu, Yq, qaR, qC, jb, ja, qZ, qR, qQ, qP, Qu, Qy, Qt, Qx, Qs, Qw, Qr, Qv⟩ := yu HR0.out 0 yw yv;have zC := qP;(try rw [show ((0 : Int)).toNat = 0 from rfl] at zC)
            (try rw [show 0 * 7 = 0 from rfl] at zC)
            (try rw [Addr.add_zero'] at zC)
            have zD := qQ;(try rw [show ((0 : Int)).toNat = 0 from rfl] at zD)
            (try rw [show 0 * 7 = 0 from rfl] at zD)
            (try rw [Addr.add_zero'] at zD)
            have zE := qR;(try rw [show ((0 : Int)).toNat = 0 from rfl] at zE)
            (try rw [show 0 * 7 = 0 from rfl] at zE)
            (try rw [Addr.add_zero'] at zE)
            have zF := qZ;(try rw [show ((0 : Int)).toNat = 0 from rfl] at zF)
            (try rw [show 0 * 7 = 0 from rfl] at zF)
            (try rw [Addr.add_zero'] at zF)
            have zG := ja;(try rw [show ((0 : Int)).toNat = 0 from rfl] at zG)
            (try rw [show 0 * 7 = 0 from rfl] at zG)
            (try rw [Addr.add_zero'] at zG)
            have zH := jb;(try rw [show ((0 : Int)).toNat = 0 from rfl] at zH)
            (try rw [show 0 * 7 = 0 from rfl] at zH)
            (try rw [Addr.add_zero'] at zH)
            have zI := qC;(try rw [show ((0 : Int)).toNat = 0 from rfl] at zI)
            (try rw [show 0 * 7 = 0 from rfl] at zI)
            (try rw [Addr.add_zero'] at zI)
            obtain rfl : qj = Xb := (by injection qaR);have qck : (0 < l0.length) = True := eq_true (by omega);(try rw [show ((0 : Int)).toNat = 0 from rfl] at qC)
            (try rw [show 0 * 7 = 0 from rfl] at qC)
            (try rw [Addr.add_zero'] at qC)
            (try rw [show ((0 : Int)).toNat = 0 from rfl] at jb)
            (try rw [show 0 * 7 = 0 from rfl] at jb)
            (try rw [Addr.add_zero'] at jb)
            (try rw [show ((0 : Int)).toNat = 0 from rfl] at ja)
            (try rw [show 0 * 7 = 0 from rfl] at ja)
            (try rw [Addr.add_zero'] at ja)
            (try rw [show ((0 : Int)).toNat = 0 from rfl] at qZ)
            (try rw [show 0 * 7 = 0 from rfl] at qZ)
            (try rw [Addr.add_zero'] at qZ)
            (try rw [show ((0 : Int)).toNat = 0 from rfl] at qR)
            (try rw [show 0 * 7 = 0 from rfl] at qR)
            (try rw [Addr.add_zero'] at qR)
            (try rw [show ((0 : Int)).toNat = 0 from rfl] at qQ)
            (try rw [show 0 * 7 = 0 from rfl] at qQ)
            (try rw [Addr.add_zero'] at qQ)
            (try rw [show ((0 : Int)).toNat = 0 from rfl] at qP)
            (try rw [show 0 * 7 = 0 from rfl] at qP)
            (try rw [Addr.add_zero'] at qP)
            replace qC := pw_cell_below HB.out qC;replace jb := pw_cell_below HB.out jb;replace ja := pw_cell_below HB.out ja;replace qZ := pw_cell_below HB.out qZ;replace qR := pw_cell_below HB.out qR;replace qQ := pw_cell_below HB.out qQ;replace qP := pw_cell_below HB.out qP;have Qz := ak Qy;have YS := ak Qu;clear Qy Qu;have ZS := ak Qx;have qcf := ak Qt;clear Qx Qt;have ZR := ak Qw;have qce := ak Qs;clear Qw Qs;have ZQ := ak Qv;have qcd := ak Qr;clear Qv Qr;replace yw := eq_true yw;replace yv := eq_true yv;have ea_ := Option.some.inj (qY.symm.trans qC);injection ea_ with ea_ en_ ec_
            subst ea_;subst ec_;clear en_;have ea_ := Option.some.inj (jv.symm.trans qR);injection ea_ with ea_ en_ ec_
            subst ea_;subst ec_;clear en_;have ea_ := Option.some.inj (ju.symm.trans qQ);injection ea_ with ea_ en_ ec_
            subst ea_;subst ec_;clear en_;have ea_ := Option.some.inj (jt.symm.trans qP);injection ea_ with ea_ en_ ec_
            subst ea_;subst ec_;clear en_;obtain ⟨qcI, qcy, qcH, qcx, qcG, qcw, qcF, qcv, qat, qe5, qe4, qe3, qe2, qe1, qe0, yK, qal, qak, qaj, Yh, Yg, Yf, qdb, Xt, qda, Xs, qc9, Xr, qc8, Xq, qbi, qbh⟩ := el2w_T33 HR0 HB (zu);refine start_ (n := 40) (S := fun w' => w'.cell? ⟨qf, 0, none⟩ = some (.slice qz ((qb l0 qp).f0.f0).length qy) ∧ w'.cell? ⟨qf, 1, none⟩ = some (.int .i64 ((qb l0 qp).f1)) ∧ w'.cell? ⟨qf, 2, none⟩ = some (.int .i64 ((qb l0 qp).f2)) ∧ w'.cell? ⟨qf, 3, none⟩ = some (.int .i64 ((qb l0 qp).f3)) ∧ w'.cell? ⟨qf, 4, none⟩ = some (.slice yo ((qb l0 qp).f4.f0).length yl) ∧ w'.cell? ⟨qf, 5, none⟩ = some (.slice yn ((qb l0 qp).f5).length yk) ∧ w'.cell? ⟨qf, 6, none⟩ = some (.slice ym ((qb l0 qp).f6).length yj) ∧ w'.cell? qj = some (.slice QG ((qb l0 0).f0.f0).length QF) ∧ w'.cell? ⟨qj.block, qj.off + 1, none⟩ = some (.int .i64 ((qb l0 0).f1)) ∧ w'.cell? ⟨qj.block, qj.off + 2, none⟩ = some (.int .i64 ((qb l0 0).f2)) ∧ w'.cell? ⟨qj.block, qj.off + 3, none⟩ = some (.int .i64 ((qb l0 0).f3)) ∧ w'.cell? ⟨qj.block, qj.off + 4, none⟩ = some (.slice JZ ((qb l0 0).f4.f0).length JW) ∧ w'.cell? ⟨qj.block, qj.off + 5, none⟩ = some (.slice JY ((qb l0 0).f5).length JV) ∧ w'.cell? ⟨qj.block, qj.off + 6, none⟩ = some (.slice JX ((qb l0 0).f6).length JU) ∧ w'.cell? qj = some (.slice Qb ((qb l0 0).f0.f0).length Qa) ∧ w'.cell? ⟨qj.block, qj.off + 1, none⟩ = some (.int .i64 ((qb l0 0).f1)) ∧ w'.cell? ⟨qj.block, qj.off + 2, none⟩ = some (.int .i64 ((qb l0 0).f2)) ∧ w'.cell? ⟨qj.block, qj.off + 3, none⟩ = some (.int .i64 ((qb l0 0).f3)) ∧ w'.cell? ⟨qj.block, qj.off + 4, none⟩ = some (.slice Ja ((qb l0 0).f4.f0).length QV) ∧ w'.cell? ⟨qj.block, qj.off + 5, none⟩ = some (.slice QZ ((qb l0 0).f5).length QU) ∧ w'.cell? ⟨qj.block, qj.off + 6, none⟩ = some (.slice QY ((qb l0 0).f6).length QT) ∧ w'.cell? qj = some (.slice Qb ((qb l0 0).f0.f0).length Qa) ∧ w'.cell? ⟨qj.block, qj.off + 1, none⟩ = some (.int .i64 ((qb l0 0).f1)) ∧ w'.cell? ⟨qj.block, qj.off + 2, none⟩ = some (.int .i64 ((qb l0 0).f2)) ∧ w'.cell? ⟨qj.block, qj.off + 3, none⟩ = some (.int .i64 ((qb l0 0).f3)) ∧ w'.cell? ⟨qj.block, qj.off + 4, none⟩ = some (.slice Ja ((qb l0 0).f4.f0).length QV) ∧ w'.cell? ⟨qj.block, qj.off + 5, none⟩ = some (.slice QZ ((qb l0 0).f5).length QU) ∧ w'.cell? ⟨qj.block, qj.off + 6, none⟩ = some (.slice QY ((qb l0 0).f6).length QT) ∧ w'.cell? (qj.add (((zu)).toNat * 7)) = some (.slice qcI ((qb l0 (zu)).f0.f0).length qcy) ∧ w'.cell? ⟨(qj.add (((zu)).toNat * 7)).block, (qj.add (((zu)).toNat * 7)).off + 1, none⟩ = some (.int .i64 ((qb l0 (zu)).f1)) ∧ w'.cell? ⟨(qj.add (((zu)).toNat * 7)).block, (qj.add (((zu)).toNat * 7)).off + 2, none⟩ = some (.int .i64 ((qb l0 (zu)).f2)) ∧ w'.cell? ⟨(qj.add (((zu)).toNat * 7)).block, (qj.add (((zu)).toNat * 7)).off + 3, none⟩ = some (.int .i64 ((qb l0 (zu)).f3)) ∧ w'.cell? ⟨(qj.add (((zu)).toNat * 7)).block, (qj.add (((zu)).toNat * 7)).off + 4, none⟩ = some (.slice qcH ((qb l0 (zu)).f4.f0).length qcx) ∧ w'.cell? ⟨(qj.add (((zu)).toNat * 7)).block, (qj.add (((zu)).toNat * 7)).off + 5, none⟩ = some (.slice qcG ((qb l0 (zu)).f5).length qcw) ∧ w'.cell? ⟨(qj.add (((zu)).toNat * 7)).block, (qj.add (((zu)).toNat * 7)).off + 6, none⟩ = some (.slice qcF ((qb l0 (zu)).f6).length qcv)) (ds := []) (bA 40 0) (by kernel_rfl) rfl rfl kq (fun hHeld => ?_); refine with_tabW jc.tab6 jc.bits6 (fun HT_ HW_ => ?_);generalize w23.drew = w24 at qk HB jz QR QQ QP JE Zr Zq Zp Qz ZS ZR ZQ Xt Xs Xr Xq qA qL qK qJ qI qH qG qY jQ jP jO jv ju jt qC jb ja qZ qR qQ qP yK qal qak qaj Yh Yg Yf hHeld ⊢;refine pu HT_ 0 ?_;refine pu HT_ 2 ?_;refine pu HT_ 3 ?_;refine pu HT_ 4 ?_;refine ta HT_ HW_ hHeld 1 ?_;refine ta HT_ HW_ hHeld 5 ?_;refine on HT_ 6 (fun K hK => ?_);refine gsB Try.func102 (yM.calls k2 _ _ ((qb l0 qp).f0.f0) _ _ ((qb l0 0).f0.f0) true _ (cv jI HB) jY.out (cv jz HB) zx.out A11.out) (fun w25 hb => ?_);replace qk := b1 qk hb;replace HB := b2s bs hb;refine hK.out _ _ kp (fun hHeld => ?_);(try clear hb)
            clear hK K;refine norm_ (a' := ?_) ?_ ?_; rotate_left; go_simp; rfl;refine pu HT_ 7 ?_;refine pu HT_ 8 ?_;refine pu HT_ 9 ?_;refine pu HT_ 11 ?_;refine pu HT_ 12 ?_;refine pu HT_ 13 ?_;refine ta HT_ HW_ hHeld 10 ?_;refine ta HT_ HW_ hHeld 14 ?_;refine pu HT_ 15 ?_;refine pu HT_ 16 ?_;refine pu HT_ 17 ?_;refine pu HT_ 18 ?_;refine pu HT_ 20 ?_;refine pu HT_ 21 ?_;refine pu HT_ 22 ?_;refine ta HT_ HW_ hHeld 19 ?_;refine ta HT_ HW_ hHeld 23 ?_;refine pu HT_ 24 ?_;refine pu HT_ 25 ?_;refine pu HT_ 26 ?_;refine pu HT_ 27 ?_;refine pu HT_ 28 ?_;refine pu HT_ 29 ?_;refine pu HT_ 30 ?_;refine pu HT_ 31 ?_;refine pu HT_ 32 ?_;refine pu HT_ 33 ?_;refine ta HT_ HW_ hHeld 34 ?_;refine ta HT_ HW_ hHeld 35 ?_;refine on HT_ 36 (fun K hK => ?_);refine goes_ Try.func64 (by kernel_rfl) rfl #[.agg #[.slice qcI ((qb l0 (zu)).f0.f0).length qcy, .int .i64 ((qb l0 (zu)).f1), .int .i64 ((qb l0 (zu)).f2), .int .i64 ((qb l0 (zu)).f3), .slice qcH ((qb l0 (zu)).f4.f0).length qcx, .slice qcG ((qb l0 (zu)).f5).length qcw, .slice qcF ((qb l0 (zu)).f6).length qcv], .agg #[.slice qz ((qb l0 qp).f0.f0).length qy, .int .i64 ((qb l0 qp).f1), .int .i64 ((qb l0 qp).f2), .int .i64 ((qb l0 qp).f3), .slice yo ((qb l0 qp).f4.f0).length yl, .slice yn ((qb l0 qp).f5).length yk, .slice ym ((qb l0 qp).f6).length yj]] (by rfl) rfl rfl (by (try simp only [List.map_toArray, List.map_cons, List.map_nil]); first | done | (simp only [qbK]; rfl) | rfl | (simp only [List.length_drop, List.length_take]; rfl)) ?_;with_reducible refine (zJ.calls k2 _ _ ((qb l0 (zu)).f0.f0) ((qb l0 (zu)).f1) ((qb l0 (zu)).f2) ((qb l0 (zu)).f3) _ _ ((qb l0 (zu)).f4.f0) _ _ ((qb l0 (zu)).f5) _ _ ((qb l0 (zu)).f6) _ _ ((qb l0 qp).f0.f0) ((qb l0 qp).f1) ((qb l0 qp).f2) ((qb l0 qp).f3) _ _ ((qb l0 qp).f4.f0) _ _ ((qb l0 qp).f5) _ _ ((qb l0 qp).f6) Jc _ ?zA ?yW ?QS ?ZF ?YY ?qaP ?YX ?qaO ?qgv ?qeb ?qea ?qd9 ?qd8 ?qd7 ?qd6 ?qd5 A19.out).mono ?_
            (case zA => exact cw Xt.out HB.out)
            (case yW => exact qdb.out)
            (case QS => exact cw Xs.out HB.out)
            (case ZF => exact qda.out)
            (case YY => exact cw Xr.out HB.out)
            (case qaP => exact qc9.out)
            (case YX => exact cw Xq.out HB.out)
            (case qaO => exact qc8.out)
            (case qgv => exact cw jI.out HB.out)
            (case qeb => exact jY.out)
            (case qea => exact cw Xw.out HB.out)
            (case qd9 => exact qaM.out)
            (case qd8 => exact cw Xv.out HB.out)
            (case qd7 => exact qaL.out)
            (case qd6 => exact cw Xu.out HB.out)
            (case qd5 => exact qaK.out)
            rintro e w26 ⟨rfl, hb⟩;refine ⟨_, rfl, ?_⟩;replace qk := b1 qk hb;replace HB := b2s bs hb;refine hK.out _ _ kp (fun hHeld => ?_);(try clear hb)
            clear hK K;refine norm_ (a' := ?_) ?_ ?_; rotate_left; go_simp; rfl;refine pu HT_ 37 ?_;refine pu HT_ 38 ?_;refine pu HT_ 39 ?_;refine done_ (done_of HT_.out (by kernel_rfl)) ?_;try go_wp2
            go_ret;exact ⟨by first | rfl | (simp [errW_none, errW_some] <;> rfl) | (simp only [← qbK]; first | rfl | (simp [errW_none, errW_some] <;> rfl)) | (simp [*, errW_none, errW_some] <;> rfl), bs⟩
           ·have H' := ak H;clear H;obtain ⟨qj, qz, qy, yo, yl, yn, yk, ym, yj, rfl, yU, YD, YC, YB, YA, Yz, Yy, jY, jI, qaM, Xw, qaL, Xv, qaK, Xu, Xa, YZ⟩ := el_T33 HR0 HB qp;try go_wp2_with (((with_reducible refine gate_dst (N := 4) rfl ?_);refine bxd (N := 4) rfl HB ?_;clear HB;intro qf w27 hg HB qk XX hb;have qaU := XX;clear hb hg;obtain ⟨qfV, qfU, qfT, qic, qib, qia, qh9, qft, qfs, qfr, qhC, qhB, qhA, qhz⟩ := cells7 qk.out))
            have n0_ : Aside0 ((((((((w27.setCell ⟨qf, 0, none⟩ (.slice qz ((qb l0 qp).f0.f0).length qy)).setCell ⟨qf, 1, none⟩ (.int .i64 ((qb l0 qp).f1))).setCell ⟨qf, 2, none⟩ (.int .i64 ((qb l0 qp).f2))).setCell ⟨qf, 3, none⟩ (.int .i64 ((qb l0 qp).f3))).setCell ⟨qf, 4, none⟩ (.slice yo ((qb l0 qp).f4.f0).length yl)).setCell ⟨qf, 5, none⟩ (.slice yn ((qb l0 qp).f5).length yk)).setCell ⟨qf, 6, none⟩ (.slice ym ((qb l0 qp).f6).length yj)).heap[qf]? = some (.cells #[.slice qz ((qb l0 qp).f0.f0).length qy, .int .i64 ((qb l0 qp).f1), .int .i64 ((qb l0 qp).f2), .int .i64 ((qb l0 qp).f3), .slice yo ((qb l0 qp).f4.f0).length yl, .slice yn ((qb l0 qp).f5).length yk, .slice ym ((qb l0 qp).f6).length yj] 33 (0, 0))) := ⟨ZZ qk.out⟩;have n1_ : Aside0 (Below w.heap.size w (((((((w27.setCell ⟨qf, 0, none⟩ (.slice qz ((qb l0 qp).f0.f0).length qy)).setCell ⟨qf, 1, none⟩ (.int .i64 ((qb l0 qp).f1))).setCell ⟨qf, 2, none⟩ (.int .i64 ((qb l0 qp).f2))).setCell ⟨qf, 3, none⟩ (.int .i64 ((qb l0 qp).f3))).setCell ⟨qf, 4, none⟩ (.slice yo ((qb l0 qp).f4.f0).length yl)).setCell ⟨qf, 5, none⟩ (.slice yn ((qb l0 qp).f5).length yk)).setCell ⟨qf, 6, none⟩ (.slice ym ((qb l0 qp).f6).length yj))) := ⟨bs⟩;(try clear qk)
            (try clear HB)
            generalize (((((((w27.setCell ⟨qf, 0, none⟩ (.slice qz ((qb l0 qp).f0.f0).length qy)).setCell ⟨qf, 1, none⟩ (.int .i64 ((qb l0 qp).f1))).setCell ⟨qf, 2, none⟩ (.int .i64 ((qb l0 qp).f2))).setCell ⟨qf, 3, none⟩ (.int .i64 ((qb l0 qp).f3))).setCell ⟨qf, 4, none⟩ (.slice yo ((qb l0 qp).f4.f0).length yl)).setCell ⟨qf, 5, none⟩ (.slice yn ((qb l0 qp).f5).length yk)).setCell ⟨qf, 6, none⟩ (.slice ym ((qb l0 qp).f6).length yj)) = w29 at n0_ n1_ ⊢;have qk := n0_;have HB := n1_;clear n0_ n1_;replace qk := ak (blk_drew qk.out);replace HB := ak (below_drew1 HB.out);have yr : 0 ≤ (0 : Int) := (by omega);have yq : 0 < (l0.length : Int) := of_decide_eq_true (by first | (with_reducible assumption) | assumption);obtain ⟨JA, QG, QF, JZ, JW, JY, JV, JX, JU, XC, qA, qL, qK, qJ, qI, qH, qG, ye, yi, yd, yh, yc, yg, yb, yf⟩ := yu HR0.out 0 yr yq;have zj := qG;(try rw [show ((0 : Int)).toNat = 0 from rfl] at zj)
            (try rw [show 0 * 7 = 0 from rfl] at zj)
            (try rw [Addr.add_zero'] at zj)
            have zk := qH;(try rw [show ((0 : Int)).toNat = 0 from rfl] at zk)
            (try rw [show 0 * 7 = 0 from rfl] at zk)
            (try rw [Addr.add_zero'] at zk)
            have zl := qI;(try rw [show ((0 : Int)).toNat = 0 from rfl] at zl)
            (try rw [show 0 * 7 = 0 from rfl] at zl)
            (try rw [Addr.add_zero'] at zl)
            have zm := qJ;(try rw [show ((0 : Int)).toNat = 0 from rfl] at zm)
            (try rw [show 0 * 7 = 0 from rfl] at zm)
            (try rw [Addr.add_zero'] at zm)
            have zn := qK;(try rw [show ((0 : Int)).toNat = 0 from rfl] at zn)
            (try rw [show 0 * 7 = 0 from rfl] at zn)
            (try rw [Addr.add_zero'] at zn)
            have zo := qL;(try rw [show ((0 : Int)).toNat = 0 from rfl] at zo)
            (try rw [show 0 * 7 = 0 from rfl] at zo)
            (try rw [Addr.add_zero'] at zo)
            have zp := qA;(try rw [show ((0 : Int)).toNat = 0 from rfl] at zp)
            (try rw [show 0 * 7 = 0 from rfl] at zp)
            (try rw [Addr.add_zero'] at zp)
            obtain rfl : qj = JA := (by injection XC);have qcl : (0 < l0.length) = True := eq_true (by omega);(try rw [show ((0 : Int)).toNat = 0 from rfl] at qA)
            (try rw [show 0 * 7 = 0 from rfl] at qA)
            (try rw [Addr.add_zero'] at qA)
            (try rw [show ((0 : Int)).toNat = 0 from rfl] at qL)
            (try rw [show 0 * 7 = 0 from rfl] at qL)
            (try rw [Addr.add_zero'] at qL)
            (try rw [show ((0 : Int)).toNat = 0 from rfl] at qK)
            (try rw [show 0 * 7 = 0 from rfl] at qK)
            (try rw [Addr.add_zero'] at qK)
            (try rw [show ((0 : Int)).toNat = 0 from rfl] at qJ)
            (try rw [show 0 * 7 = 0 from rfl] at qJ)
            (try rw [Addr.add_zero'] at qJ)
            (try rw [show ((0 : Int)).toNat = 0 from rfl] at qI)
            (try rw [show 0 * 7 = 0 from rfl] at qI)
            (try rw [Addr.add_zero'] at qI)
            (try rw [show ((0 : Int)).toNat = 0 from rfl] at qH)
            (try rw [show 0 * 7 = 0 from rfl] at qH)
            (try rw [Addr.add_zero'] at qH)
            (try rw [show ((0 : Int)).toNat = 0 from rfl] at qG)
            (try rw [show 0 * 7 = 0 from rfl] at qG)
            (try rw [Addr.add_zero'] at qG)
            replace qA := pw_cell_below HB.out qA;replace qL := pw_cell_below HB.out qL;replace qK := pw_cell_below HB.out qK;replace qJ := pw_cell_below HB.out qJ;replace qI := pw_cell_below HB.out qI;replace qH := pw_cell_below HB.out qH;replace qG := pw_cell_below HB.out qG;have jz := ak yi;have zx := ak ye;clear yi ye;have QR := ak yh;have XA := ak yd;clear yh yd;have QQ := ak yg;have Xz := ak yc;clear yg yc;have QP := ak yf;have Xy := ak yb;clear yf yb;replace yr := eq_true yr;replace yq := eq_true yq;have Jj : 0 ≤ (0 : Int) := (by omega);have Ji : 0 < (l0.length : Int) := of_decide_eq_true (by first | (with_reducible assumption) | assumption);obtain ⟨qdA, Qb, Qa, Ja, QV, QZ, QU, QY, QT, qgI, qY, jQ, jP, jO, jv, ju, jt, YI, YM, YH, YL, YG, YK, YF, YJ⟩ := yu HR0.out 0 Jj Ji;have Qk := jt;(try rw [show ((0 : Int)).toNat = 0 from rfl] at Qk)
            (try rw [show 0 * 7 = 0 from rfl] at Qk)
            (try rw [Addr.add_zero'] at Qk)
            have Ql := ju;(try rw [show ((0 : Int)).toNat = 0 from rfl] at Ql)
            (try rw [show 0 * 7 = 0 from rfl] at Ql)
            (try rw [Addr.add_zero'] at Ql)
            have Qm := jv;(try rw [show ((0 : Int)).toNat = 0 from rfl] at Qm)
            (try rw [show 0 * 7 = 0 from rfl] at Qm)
            (try rw [Addr.add_zero'] at Qm)
            have Qn := jO;(try rw [show ((0 : Int)).toNat = 0 from rfl] at Qn)
            (try rw [show 0 * 7 = 0 from rfl] at Qn)
            (try rw [Addr.add_zero'] at Qn)
            have Qo := jP;(try rw [show ((0 : Int)).toNat = 0 from rfl] at Qo)
            (try rw [show 0 * 7 = 0 from rfl] at Qo)
            (try rw [Addr.add_zero'] at Qo)
            have Qp := jQ;(try rw [show ((0 : Int)).toNat = 0 from rfl] at Qp)
            (try rw [show 0 * 7 = 0 from rfl] at Qp)
            (try rw [Addr.add_zero'] at Qp)
            have Qq := qY;(try rw [show ((0 : Int)).toNat = 0 from rfl] at Qq)
            (try rw [show 0 * 7 = 0 from rfl] at Qq)
            (try rw [Addr.add_zero'] at Qq)
            obtain rfl : qj = qdA := (by injection qgI);have qgw : (0 < l0.length) = True := eq_true (by omega);(try rw [show ((0 : Int)).toNat = 0 from rfl] at qY)
            (try rw [show 0 * 7 = 0 from rfl] at qY)
            (try rw [Addr.add_zero'] at qY)
            (try rw [show ((0 : Int)).toNat = 0 from rfl] at jQ)
            (try rw [show 0 * 7 = 0 from rfl] at jQ)
            (try rw [Addr.add_zero'] at jQ)
            (try rw [show ((0 : Int)).toNat = 0 from rfl] at jP)
            (try rw [show 0 * 7 = 0 from rfl] at jP)
            (try rw [Addr.add_zero'] at jP)
            (try rw [show ((0 : Int)).toNat = 0 from rfl] at jO)
            (try rw [show 0 * 7 = 0 from rfl] at jO)
            (try rw [Addr.add_zero'] at jO)
            (try rw [show ((0 : Int)).toNat = 0 from rfl] at jv)
            (try rw [show 0 * 7 = 0 from rfl] at jv)
            (try rw [Addr.add_zero'] at jv)
            (try rw [show ((0 : Int)).toNat = 0 from rfl] at ju)
            (try rw [show 0 * 7 = 0 from rfl] at ju)
            (try rw [Addr.add_zero'] at ju)
            (try rw [show ((0 : Int)).toNat = 0 from rfl] at jt)
            (try rw [show 0 * 7 = 0 from rfl] at jt)
            (try rw [Addr.add_zero'] at jt)
            replace qY := pw_cell_below HB.out qY;replace jQ := pw_cell_below HB.out jQ;replace jP := pw_cell_below HB.out jP;replace jO := pw_cell_below HB.out jO;replace jv := pw_cell_below HB.out jv;replace ju := pw_cell_below HB.out ju;replace jt := pw_cell_below HB.out jt;have JE := ak YM;have qaJ := ak YI;clear YM YI;have Zr := ak YL;have qbF := ak YH;clear YL YH;have Zq := ak YK;have qbE := ak YG;clear YK YG;have Zp := ak YJ;have qbD := ak YF;clear YJ YF;replace Jj := eq_true Jj;replace Ji := eq_true Ji;have yw : 0 ≤ (0 : Int) := (by omega);have yv : 0 < (l0.length : Int) := of_decide_eq_true (by first | (with_reducible assumption) | assumption);obtain ⟨Xb, JD, JC, Yw, Ys, Yv, Yr, Yu, Yq, qaR, qC, jb, ja, qZ, qR, qQ, qP, Qu, Qy, Qt, Qx, Qs, Qw, Qr, Qv⟩ := yu HR0.out 0 yw yv;have zC := qP;(try rw [show ((0 : Int)).toNat = 0 from rfl] at zC)
            (try rw [show 0 * 7 = 0 from rfl] at zC)
            (try rw [Addr.add_zero'] at zC)
            have zD := qQ;(try rw [show ((0 : Int)).toNat = 0 from rfl] at zD)
            (try rw [show 0 * 7 = 0 from rfl] at zD)
            (try rw [Addr.add_zero'] at zD)
            have zE := qR;(try rw [show ((0 : Int)).toNat = 0 from rfl] at zE)
            (try rw [show 0 * 7 = 0 from rfl] at zE)
            (try rw [Addr.add_zero'] at zE)
            have zF := qZ;(try rw [show ((0 : Int)).toNat = 0 from rfl] at zF)
            (try rw [show 0 * 7 = 0 from rfl] at zF)
            (try rw [Addr.add_zero'] at zF)
            have zG := ja;(try rw [show ((0 : Int)).toNat = 0 from rfl] at zG)
            (try rw [show 0 * 7 = 0 from rfl] at zG)
            (try rw [Addr.add_zero'] at zG)
            have zH := jb;(try rw [show ((0 : Int)).toNat = 0 from rfl] at zH)
            (try rw [show 0 * 7 = 0 from rfl] at zH)
            (try rw [Addr.add_zero'] at zH)
            have zI := qC;(try rw [show ((0 : Int)).toNat = 0 from rfl] at zI)
            (try rw [show 0 * 7 = 0 from rfl] at zI)
            (try rw [Addr.add_zero'] at zI)
            obtain rfl : qj = Xb := (by injection qaR);have qck : (0 < l0.length) = True := eq_true (by omega);(try rw [show ((0 : Int)).toNat = 0 from rfl] at qC)
            (try rw [show 0 * 7 = 0 from rfl] at qC)
            (try rw [Addr.add_zero'] at qC)
            (try rw [show ((0 : Int)).toNat = 0 from rfl] at jb)
            (try rw [show 0 * 7 = 0 from rfl] at jb)
            (try rw [Addr.add_zero'] at jb)
            (try rw [show ((0 : Int)).toNat = 0 from rfl] at ja)
            (try rw [show 0 * 7 = 0 from rfl] at ja)
            (try rw [Addr.add_zero'] at ja)
            (try rw [show ((0 : Int)).toNat = 0 from rfl] at qZ)
            (try rw [show 0 * 7 = 0 from rfl] at qZ)
            (try rw [Addr.add_zero'] at qZ)
            (try rw [show ((0 : Int)).toNat = 0 from rfl] at qR)
            (try rw [show 0 * 7 = 0 from rfl] at qR)
            (try rw [Addr.add_zero'] at qR)
            (try rw [show ((0 : Int)).toNat = 0 from rfl] at qQ)
            (try rw [show 0 * 7 = 0 from rfl] at qQ)
            (try rw [Addr.add_zero'] at qQ)
            (try rw [show ((0 : Int)).toNat = 0 from rfl] at qP)
            (try rw [show 0 * 7 = 0 from rfl] at qP)
            (try rw [Addr.add_zero'] at qP)
            replace qC := pw_cell_below HB.out qC;replace jb := pw_cell_below HB.out jb;replace ja := pw_cell_below HB.out ja;replace qZ := pw_cell_below HB.out qZ;replace qR := pw_cell_below HB.out qR;replace qQ := pw_cell_below HB.out qQ;replace qP := pw_cell_below HB.out qP;have Qz := ak Qy;have YS := ak Qu;clear Qy Qu;have ZS := ak Qx;have qcf := ak Qt;clear Qx Qt;have ZR := ak Qw;have qce := ak Qs;clear Qw Qs;have ZQ := ak Qv;have qcd := ak Qr;clear Qv Qr;replace yw := eq_true yw;replace yv := eq_true yv;have ea_ := Option.some.inj (qY.symm.trans qC);injection ea_ with ea_ en_ ec_
            subst ea_;subst ec_;clear en_;have ea_ := Option.some.inj (jv.symm.trans qR);injection ea_ with ea_ en_ ec_
            subst ea_;subst ec_;clear en_;have ea_ := Option.some.inj (ju.symm.trans qQ);injection ea_ with ea_ en_ ec_
            subst ea_;subst ec_;clear en_;have ea_ := Option.some.inj (jt.symm.trans qP);injection ea_ with ea_ en_ ec_
            subst ea_;subst ec_;clear en_;obtain ⟨qcI, qcy, qcH, qcx, qcG, qcw, qcF, qcv, qat, qe5, qe4, qe3, qe2, qe1, qe0, yK, qal, qak, qaj, Yh, Yg, Yf, qdb, Xt, qda, Xs, qc9, Xr, qc8, Xq, qbi, qbh⟩ := el2w_T33 HR0 HB (zu);refine start_ (n := 40) (S := fun w' => w'.cell? ⟨qf, 0, none⟩ = some (.slice qz ((qb l0 qp).f0.f0).length qy) ∧ w'.cell? ⟨qf, 1, none⟩ = some (.int .i64 ((qb l0 qp).f1)) ∧ w'.cell? ⟨qf, 2, none⟩ = some (.int .i64 ((qb l0 qp).f2)) ∧ w'.cell? ⟨qf, 3, none⟩ = some (.int .i64 ((qb l0 qp).f3)) ∧ w'.cell? ⟨qf, 4, none⟩ = some (.slice yo ((qb l0 qp).f4.f0).length yl) ∧ w'.cell? ⟨qf, 5, none⟩ = some (.slice yn ((qb l0 qp).f5).length yk) ∧ w'.cell? ⟨qf, 6, none⟩ = some (.slice ym ((qb l0 qp).f6).length yj) ∧ w'.cell? qj = some (.slice QG ((qb l0 0).f0.f0).length QF) ∧ w'.cell? ⟨qj.block, qj.off + 1, none⟩ = some (.int .i64 ((qb l0 0).f1)) ∧ w'.cell? ⟨qj.block, qj.off + 2, none⟩ = some (.int .i64 ((qb l0 0).f2)) ∧ w'.cell? ⟨qj.block, qj.off + 3, none⟩ = some (.int .i64 ((qb l0 0).f3)) ∧ w'.cell? ⟨qj.block, qj.off + 4, none⟩ = some (.slice JZ ((qb l0 0).f4.f0).length JW) ∧ w'.cell? ⟨qj.block, qj.off + 5, none⟩ = some (.slice JY ((qb l0 0).f5).length JV) ∧ w'.cell? ⟨qj.block, qj.off + 6, none⟩ = some (.slice JX ((qb l0 0).f6).length JU) ∧ w'.cell? qj = some (.slice Qb ((qb l0 0).f0.f0).length Qa) ∧ w'.cell? ⟨qj.block, qj.off + 1, none⟩ = some (.int .i64 ((qb l0 0).f1)) ∧ w'.cell? ⟨qj.block, qj.off + 2, none⟩ = some (.int .i64 ((qb l0 0).f2)) ∧ w'.cell? ⟨qj.block, qj.off + 3, none⟩ = some (.int .i64 ((qb l0 0).f3)) ∧ w'.cell? ⟨qj.block, qj.off + 4, none⟩ = some (.slice Ja ((qb l0 0).f4.f0).length QV) ∧ w'.cell? ⟨qj.block, qj.off + 5, none⟩ = some (.slice QZ ((qb l0 0).f5).length QU) ∧ w'.cell? ⟨qj.block, qj.off + 6, none⟩ = some (.slice QY ((qb l0 0).f6).length QT) ∧ w'.cell? qj = some (.slice Qb ((qb l0 0).f0.f0).length Qa) ∧ w'.cell? ⟨qj.block, qj.off + 1, none⟩ = some (.int .i64 ((qb l0 0).f1)) ∧ w'.cell? ⟨qj.block, qj.off + 2, none⟩ = some (.int .i64 ((qb l0 0).f2)) ∧ w'.cell? ⟨qj.block, qj.off + 3, none⟩ = some (.int .i64 ((qb l0 0).f3)) ∧ w'.cell? ⟨qj.block, qj.off + 4, none⟩ = some (.slice Ja ((qb l0 0).f4.f0).length QV) ∧ w'.cell? ⟨qj.block, qj.off + 5, none⟩ = some (.slice QZ ((qb l0 0).f5).length QU) ∧ w'.cell? ⟨qj.block, qj.off + 6, none⟩ = some (.slice QY ((qb l0 0).f6).length QT) ∧ w'.cell? (qj.add (((zu)).toNat * 7)) = some (.slice qcI ((qb l0 (zu)).f0.f0).length qcy) ∧ w'.cell? ⟨(qj.add (((zu)).toNat * 7)).block, (qj.add (((zu)).toNat * 7)).off + 1, none⟩ = some (.int .i64 ((qb l0 (zu)).f1)) ∧ w'.cell? ⟨(qj.add (((zu)).toNat * 7)).block, (qj.add (((zu)).toNat * 7)).off + 2, none⟩ = some (.int .i64 ((qb l0 (zu)).f2)) ∧ w'.cell? ⟨(qj.add (((zu)).toNat * 7)).block, (qj.add (((zu)).toNat * 7)).off + 3, none⟩ = some (.int .i64 ((qb l0 (zu)).f3)) ∧ w'.cell? ⟨(qj.add (((zu)).toNat * 7)).block, (qj.add (((zu)).toNat * 7)).off + 4, none⟩ = some (.slice qcH ((qb l0 (zu)).f4.f0).length qcx) ∧ w'.cell? ⟨(qj.add (((zu)).toNat * 7)).block, (qj.add (((zu)).toNat * 7)).off + 5, none⟩ = some (.slice qcG ((qb l0 (zu)).f5).length qcw) ∧ w'.cell? ⟨(qj.add (((zu)).toNat * 7)).block, (qj.add (((zu)).toNat * 7)).off + 6, none⟩ = some (.slice qcF ((qb l0 (zu)).f6).length qcv)) (ds := []) (bA 40 0) (by kernel_rfl) rfl rfl kq (fun hHeld => ?_); refine with_tabW jc.tab6 jc.bits6 (fun HT_ HW_ => ?_);generalize w29.drew = w30 at qk HB jz QR QQ QP JE Zr Zq Zp Qz ZS ZR ZQ Xt Xs Xr Xq qA qL qK qJ qI qH qG qY jQ jP jO jv ju jt qC jb ja qZ qR qQ qP yK qal qak qaj Yh Yg Yf hHeld ⊢;refine pu HT_ 0 ?_;refine pu HT_ 2 ?_;refine pu HT_ 3 ?_;refine pu HT_ 4 ?_;refine ta HT_ HW_ hHeld 1 ?_;refine ta HT_ HW_ hHeld 5 ?_;refine on HT_ 6 (fun K hK => ?_);refine gsB Try.func102 (yM.calls k2 _ _ ((qb l0 qp).f0.f0) _ _ ((qb l0 0).f0.f0) true _ (cv jI HB) jY.out (cv jz HB) zx.out A11.out) (fun w31 hb => ?_);replace qk := b1 qk hb;replace HB := b2s bs hb;refine hK.out _ _ kp (fun hHeld => ?_);(try clear hb)
            clear hK K;refine norm_ (a' := ?_) ?_ ?_; rotate_left; go_simp; rfl;refine pu HT_ 7 ?_;refine pu HT_ 8 ?_;refine pu HT_ 9 ?_;refine pu HT_ 11 ?_;refine pu HT_ 12 ?_;refine pu HT_ 13 ?_;refine ta HT_ HW_ hHeld 10 ?_;refine ta HT_ HW_ hHeld 14 ?_;refine pu HT_ 15 ?_;refine pu HT_ 16 ?_;refine pu HT_ 17 ?_;refine pu HT_ 18 ?_;refine pu HT_ 20 ?_;refine pu HT_ 21 ?_;refine pu HT_ 22 ?_;refine ta HT_ HW_ hHeld 19 ?_;refine ta HT_ HW_ hHeld 23 ?_;refine pu HT_ 24 ?_;refine pu HT_ 25 ?_;refine pu HT_ 26 ?_;refine pu HT_ 27 ?_;refine pu HT_ 28 ?_;refine pu HT_ 29 ?_;refine pu HT_ 30 ?_;refine pu HT_ 31 ?_;refine pu HT_ 32 ?_;refine pu HT_ 33 ?_;refine ta HT_ HW_ hHeld 34 ?_;refine ta HT_ HW_ hHeld 35 ?_;refine on HT_ 36 (fun K hK => ?_);refine goes_ Try.func64 (by kernel_rfl) rfl #[.agg #[.slice qcI ((qb l0 (zu)).f0.f0).length qcy, .int .i64 ((qb l0 (zu)).f1), .int .i64 ((qb l0 (zu)).f2), .int .i64 ((qb l0 (zu)).f3), .slice qcH ((qb l0 (zu)).f4.f0).length qcx, .slice qcG ((qb l0 (zu)).f5).length qcw, .slice qcF ((qb l0 (zu)).f6).length qcv], .agg #[.slice qz ((qb l0 qp).f0.f0).length qy, .int .i64 ((qb l0 qp).f1), .int .i64 ((qb l0 qp).f2), .int .i64 ((qb l0 qp).f3), .slice yo ((qb l0 qp).f4.f0).length yl, .slice yn ((qb l0 qp).f5).length yk, .slice ym ((qb l0 qp).f6).length yj]] (by rfl) rfl rfl (by (try simp only [List.map_toArray, List.map_cons, List.map_nil]); first | done | (simp only [qbK]; rfl) | rfl | (simp only [List.length_drop, List.length_take]; rfl)) ?_;with_reducible refine (zJ.calls k2 _ _ ((qb l0 (zu)).f0.f0) ((qb l0 (zu)).f1) ((qb l0 (zu)).f2) ((qb l0 (zu)).f3) _ _ ((qb l0 (zu)).f4.f0) _ _ ((qb l0 (zu)).f5) _ _ ((qb l0 (zu)).f6) _ _ ((qb l0 qp).f0.f0) ((qb l0 qp).f1) ((qb l0 qp).f2) ((qb l0 qp).f3) _ _ ((qb l0 qp).f4.f0) _ _ ((qb l0 qp).f5) _ _ ((qb l0 qp).f6) Jc _ ?zA ?yW ?QS ?ZF ?YY ?qaP ?YX ?qaO ?qgv ?qeb ?qea ?qd9 ?qd8 ?qd7 ?qd6 ?qd5 A19.out).mono ?_
            (case zA => exact cw Xt.out HB.out)
            (case yW => exact qdb.out)
            (case QS => exact cw Xs.out HB.out)
            (case ZF => exact qda.out)
            (case YY => exact cw Xr.out HB.out)
            (case qaP => exact qc9.out)
            (case YX => exact cw Xq.out HB.out)
            (case qaO => exact qc8.out)
            (case qgv => exact cw jI.out HB.out)
            (case qeb => exact jY.out)
            (case qea => exact cw Xw.out HB.out)
            (case qd9 => exact qaM.out)
            (case qd8 => exact cw Xv.out HB.out)
            (case qd7 => exact qaL.out)
            (case qd6 => exact cw Xu.out HB.out)
            (case qd5 => exact qaK.out)
            rintro e w32 ⟨rfl, hb⟩;refine ⟨_, rfl, ?_⟩;replace qk := b1 qk hb;replace HB := b2s bs hb;refine hK.out _ _ kp (fun hHeld => ?_);(try clear hb)
            clear hK K;refine norm_ (a' := ?_) ?_ ?_; rotate_left; go_simp; rfl;refine pu HT_ 37 ?_;refine pu HT_ 38 ?_;refine pu HT_ 39 ?_;refine done_ (done_of HT_.out (by kernel_rfl)) ?_;try go_wp2
            go_roundg k2;case measure => have := HJ1.out; have := HK2.out; omega
            case rel => exact ⟨(wrap64 (qp + 1)), o2, H', ⟨by have := HJ1.out; have := HK2.out; omega⟩, ⟨bs⟩⟩
          ·have H' := ak H;clear H;obtain ⟨qj, qz, qy, yo, yl, yn, yk, ym, yj, rfl, yU, YD, YC, YB, YA, Yz, Yy, jY, jI, qaM, Xw, qaL, Xv, qaK, Xu, Xa, YZ⟩ := el_T33 HR0 HB qp;try go_wp2_with (((with_reducible refine gate_dst (N := 4) rfl ?_);refine bxd (N := 4) rfl HB ?_;clear HB;intro qf w33 hg HB qk XX hb;have qaU := XX;clear hb hg;obtain ⟨qh7, qkq, qkp, qko, qkn, qkm, qkl, qhx, qjE, qjD, qjC, qjB, qjA, qjz⟩ := cells7 qk.out))
           have n0_ : Aside0 ((((((((w33.setCell ⟨qf, 0, none⟩ (.slice qz ((qb l0 qp).f0.f0).length qy)).setCell ⟨qf, 1, none⟩ (.int .i64 ((qb l0 qp).f1))).setCell ⟨qf, 2, none⟩ (.int .i64 ((qb l0 qp).f2))).setCell ⟨qf, 3, none⟩ (.int .i64 ((qb l0 qp).f3))).setCell ⟨qf, 4, none⟩ (.slice yo ((qb l0 qp).f4.f0).length yl)).setCell ⟨qf, 5, none⟩ (.slice yn ((qb l0 qp).f5).length yk)).setCell ⟨qf, 6, none⟩ (.slice ym ((qb l0 qp).f6).length yj)).heap[qf]? = some (.cells #[.slice qz ((qb l0 qp).f0.f0).length qy, .int .i64 ((qb l0 qp).f1), .int .i64 ((qb l0 qp).f2), .int .i64 ((qb l0 qp).f3), .slice yo ((qb l0 qp).f4.f0).length yl, .slice yn ((qb l0 qp).f5).length yk, .slice ym ((qb l0 qp).f6).length yj] 33 (0, 0))) := ⟨ZZ qk.out⟩;have n1_ : Aside0 (Below w.heap.size w (((((((w33.setCell ⟨qf, 0, none⟩ (.slice qz ((qb l0 qp).f0.f0).length qy)).setCell ⟨qf, 1, none⟩ (.int .i64 ((qb l0 qp).f1))).setCell ⟨qf, 2, none⟩ (.int .i64 ((qb l0 qp).f2))).setCell ⟨qf, 3, none⟩ (.int .i64 ((qb l0 qp).f3))).setCell ⟨qf, 4, none⟩ (.slice yo ((qb l0 qp).f4.f0).length yl)).setCell ⟨qf, 5, none⟩ (.slice yn ((qb l0 qp).f5).length yk)).setCell ⟨qf, 6, none⟩ (.slice ym ((qb l0 qp).f6).length yj))) := ⟨bs⟩;(try clear qk)
           (try clear HB)
           generalize (((((((w33.setCell ⟨qf, 0, none⟩ (.slice qz ((qb l0 qp).f0.f0).length qy)).setCell ⟨qf, 1, none⟩ (.int .i64 ((qb l0 qp).f1))).setCell ⟨qf, 2, none⟩ (.int .i64 ((qb l0 qp).f2))).setCell ⟨qf, 3, none⟩ (.int .i64 ((qb l0 qp).f3))).setCell ⟨qf, 4, none⟩ (.slice yo ((qb l0 qp).f4.f0).length yl)).setCell ⟨qf, 5, none⟩ (.slice yn ((qb l0 qp).f5).length yk)).setCell ⟨qf, 6, none⟩ (.slice ym ((qb l0 qp).f6).length yj)) = w35 at n0_ n1_ ⊢;have qk := n0_;have HB := n1_;clear n0_ n1_;replace qk := ak (blk_drew qk.out);replace HB := ak (below_drew1 HB.out);have yr : 0 ≤ (0 : Int) := (by omega);have yq : 0 < (l0.length : Int) := of_decide_eq_true (by first | (with_reducible assumption) | assumption);obtain ⟨JA, QG, QF, JZ, JW, JY, JV, JX, JU, XC, qA, qL, qK, qJ, qI, qH, qG, ye, yi, yd, yh, yc, yg, yb, yf⟩ := yu HR0.out 0 yr yq;have zj := qG;(try rw [show ((0 : Int)).toNat = 0 from rfl] at zj)
           (try rw [show 0 * 7 = 0 from rfl] at zj)
           (try rw [Addr.add_zero'] at zj)
           have zk := qH;(try rw [show ((0 : Int)).toNat = 0 from rfl] at zk)
           (try rw [show 0 * 7 = 0 from rfl] at zk)
           (try rw [Addr.add_zero'] at zk)
           have zl := qI;(try rw [show ((0 : Int)).toNat = 0 from rfl] at zl)
           (try rw [show 0 * 7 = 0 from rfl] at zl)
           (try rw [Addr.add_zero'] at zl)
           have zm := qJ;(try rw [show ((0 : Int)).toNat = 0 from rfl] at zm)
           (try rw [show 0 * 7 = 0 from rfl] at zm)
           (try rw [Addr.add_zero'] at zm)
           have zn := qK;(try rw [show ((0 : Int)).toNat = 0 from rfl] at zn)
           (try rw [show 0 * 7 = 0 from rfl] at zn)
           (try rw [Addr.add_zero'] at zn)
           have zo := qL;(try rw [show ((0 : Int)).toNat = 0 from rfl] at zo)
           (try rw [show 0 * 7 = 0 from rfl] at zo)
           (try rw [Addr.add_zero'] at zo)
           have zp := qA;(try rw [show ((0 : Int)).toNat = 0 from rfl] at zp)
           (try rw [show 0 * 7 = 0 from rfl] at zp)
           (try rw [Addr.add_zero'] at zp)
           obtain rfl : qj = JA := (by injection XC);have qcl : (0 < l0.length) = True := eq_true (by omega);(try rw [show ((0 : Int)).toNat = 0 from rfl] at qA)
           (try rw [show 0 * 7 = 0 from rfl] at qA)
           (try rw [Addr.add_zero'] at qA)
           (try rw [show ((0 : Int)).toNat = 0 from rfl] at qL)
           (try rw [show 0 * 7 = 0 from rfl] at qL)
           (try rw [Addr.add_zero'] at qL)
           (try rw [show ((0 : Int)).toNat = 0 from rfl] at qK)
           (try rw [show 0 * 7 = 0 from rfl] at qK)
           (try rw [Addr.add_zero'] at qK)
           (try rw [show ((0 : Int)).toNat = 0 from rfl] at qJ)
           (try rw [show 0 * 7 = 0 from rfl] at qJ)
           (try rw [Addr.add_zero'] at qJ)
           (try rw [show ((0 : Int)).toNat = 0 from rfl] at qI)
           (try rw [show 0 * 7 = 0 from rfl] at qI)
           (try rw [Addr.add_zero'] at qI)
           (try rw [show ((0 : Int)).toNat = 0 from rfl] at qH)
           (try rw [show 0 * 7 = 0 from rfl] at qH)
           (try rw [Addr.add_zero'] at qH)
           (try rw [show ((0 : Int)).toNat = 0 from rfl] at qG)
           (try rw [show 0 * 7 = 0 from rfl] at qG)
           (try rw [Addr.add_zero'] at qG)
           replace qA := pw_cell_below HB.out qA;replace qL := pw_cell_below HB.out qL;replace qK := pw_cell_below HB.out qK;replace qJ := pw_cell_below HB.out qJ;replace qI := pw_cell_below HB.out qI;replace qH := pw_cell_below HB.out qH;replace qG := pw_cell_below HB.out qG;have jz := ak yi;have zx := ak ye;clear yi ye;have QR := ak yh;have XA := ak yd;clear yh yd;have QQ := ak yg;have Xz := ak yc;clear yg yc;have QP := ak yf;have Xy := ak yb;clear yf yb;replace yr := eq_true yr;replace yq := eq_true yq;have Jj : 0 ≤ (0 : Int) := (by omega);have Ji : 0 < (l0.length : Int) := of_decide_eq_true (by first | (with_reducible assumption) | assumption);obtain ⟨qdA, Qb, Qa, Ja, QV, QZ, QU, QY, QT, qgI, qY, jQ, jP, jO, jv, ju, jt, YI, YM, YH, YL, YG, YK, YF, YJ⟩ := yu HR0.out 0 Jj Ji;have Qk := jt;(try rw [show ((0 : Int)).toNat = 0 from rfl] at Qk)
           (try rw [show 0 * 7 = 0 from rfl] at Qk)
           (try rw [Addr.add_zero'] at Qk)
           have Ql := ju;(try rw [show ((0 : Int)).toNat = 0 from rfl] at Ql)
           (try rw [show 0 * 7 = 0 from rfl] at Ql)
           (try rw [Addr.add_zero'] at Ql)
           have Qm := jv;(try rw [show ((0 : Int)).toNat = 0 from rfl] at Qm)
           (try rw [show 0 * 7 = 0 from rfl] at Qm)
           (try rw [Addr.add_zero'] at Qm)
           have Qn := jO;(try rw [show ((0 : Int)).toNat = 0 from rfl] at Qn)
           (try rw [show 0 * 7 = 0 from rfl] at Qn)
           (try rw [Addr.add_zero'] at Qn)
           have Qo := jP;(try rw [show ((0 : Int)).toNat = 0 from rfl] at Qo)
           (try rw [show 0 * 7 = 0 from rfl] at Qo)
           (try rw [Addr.add_zero'] at Qo)
           have Qp := jQ;(try rw [show ((0 : Int)).toNat = 0 from rfl] at Qp)
           (try rw [show 0 * 7 = 0 from rfl] at Qp)
           (try rw [Addr.add_zero'] at Qp)
           have Qq := qY;(try rw [show ((0 : Int)).toNat = 0 from rfl] at Qq)
           (try rw [show 0 * 7 = 0 from rfl] at Qq)
           (try rw [Addr.add_zero'] at Qq)
           obtain rfl : qj = qdA := (by injection qgI);have qgw : (0 < l0.length) = True := eq_true (by omega);(try rw [show ((0 : Int)).toNat = 0 from rfl] at qY)
           (try rw [show 0 * 7 = 0 from rfl] at qY)
           (try rw [Addr.add_zero'] at qY)
           (try rw [show ((0 : Int)).toNat = 0 from rfl] at jQ)
           (try rw [show 0 * 7 = 0 from rfl] at jQ)
           (try rw [Addr.add_zero'] at jQ)
           (try rw [show ((0 : Int)).toNat = 0 from rfl] at jP)
           (try rw [show 0 * 7 = 0 from rfl] at jP)
           (try rw [Addr.add_zero'] at jP)
           (try rw [show ((0 : Int)).toNat = 0 from rfl] at jO)
           (try rw [show 0 * 7 = 0 from rfl] at jO)
           (try rw [Addr.add_zero'] at jO)
           (try rw [show ((0 : Int)).toNat = 0 from rfl] at jv)
           (try rw [show 0 * 7 = 0 from rfl] at jv)
           (try rw [Addr.add_zero'] at jv)
           (try rw [show ((0 : Int)).toNat = 0 from rfl] at ju)
           (try rw [show 0 * 7 = 0 from rfl] at ju)
           (try rw [Addr.add_zero'] at ju)
           (try rw [show ((0 : Int)).toNat = 0 from rfl] at jt)
           (try rw [show 0 * 7 = 0 from rfl] at jt)
           (try rw [Addr.add_zero'] at jt)
           replace qY := pw_cell_below HB.out qY;replace jQ := pw_cell_below HB.out jQ;replace jP := pw_cell_below HB.out jP;replace jO := pw_cell_below HB.out jO;replace jv := pw_cell_below HB.out jv;replace ju := pw_cell_below HB.out ju;replace jt := pw_cell_below HB.out jt;have JE := ak YM;have qaJ := ak YI;clear YM YI;have Zr := ak YL;have qbF := ak YH;clear YL YH;have Zq := ak YK;have qbE := ak YG;clear YK YG;have Zp := ak YJ;have qbD := ak YF;clear YJ YF;replace Jj := eq_true Jj;replace Ji := eq_true Ji;have yw : 0 ≤ (0 : Int) := (by omega);have yv : 0 < (l0.length : Int) := of_decide_eq_true (by first | (with_reducible assumption) | assumption);obtain ⟨Xb, JD, JC, Yw, Ys, Yv, Yr, Yu, Yq, qaR, qC, jb, ja, qZ, qR, qQ, qP, Qu, Qy, Qt, Qx, Qs, Qw, Qr, Qv⟩ := yu HR0.out 0 yw yv;have zC := qP;(try rw [show ((0 : Int)).toNat = 0 from rfl] at zC)
           (try rw [show 0 * 7 = 0 from rfl] at zC)
           (try rw [Addr.add_zero'] at zC)
           have zD := qQ;(try rw [show ((0 : Int)).toNat = 0 from rfl] at zD)
           (try rw [show 0 * 7 = 0 from rfl] at zD)
           (try rw [Addr.add_zero'] at zD)
           have zE := qR;(try rw [show ((0 : Int)).toNat = 0 from rfl] at zE)
           (try rw [show 0 * 7 = 0 from rfl] at zE)
           (try rw [Addr.add_zero'] at zE)
           have zF := qZ;(try rw [show ((0 : Int)).toNat = 0 from rfl] at zF)
           (try rw [show 0 * 7 = 0 from rfl] at zF)
           (try rw [Addr.add_zero'] at zF)
           have zG := ja;(try rw [show ((0 : Int)).toNat = 0 from rfl] at zG)
           (try rw [show 0 * 7 = 0 from rfl] at zG)
           (try rw [Addr.add_zero'] at zG)
           have zH := jb;(try rw [show ((0 : Int)).toNat = 0 from rfl] at zH)
           (try rw [show 0 * 7 = 0 from rfl] at zH)
           (try rw [Addr.add_zero'] at zH)
           have zI := qC;(try rw [show ((0 : Int)).toNat = 0 from rfl] at zI)
           (try rw [show 0 * 7 = 0 from rfl] at zI)
           (try rw [Addr.add_zero'] at zI)
           obtain rfl : qj = Xb := (by injection qaR);have qck : (0 < l0.length) = True := eq_true (by omega);(try rw [show ((0 : Int)).toNat = 0 from rfl] at qC)
           (try rw [show 0 * 7 = 0 from rfl] at qC)
           (try rw [Addr.add_zero'] at qC)
           (try rw [show ((0 : Int)).toNat = 0 from rfl] at jb)
           (try rw [show 0 * 7 = 0 from rfl] at jb)
           (try rw [Addr.add_zero'] at jb)
           (try rw [show ((0 : Int)).toNat = 0 from rfl] at ja)
           (try rw [show 0 * 7 = 0 from rfl] at ja)
           (try rw [Addr.add_zero'] at ja)
           (try rw [show ((0 : Int)).toNat = 0 from rfl] at qZ)
           (try rw [show 0 * 7 = 0 from rfl] at qZ)
           (try rw [Addr.add_zero'] at qZ)
           (try rw [show ((0 : Int)).toNat = 0 from rfl] at qR)
           (try rw [show 0 * 7 = 0 from rfl] at qR)
           (try rw [Addr.add_zero'] at qR)
           (try rw [show ((0 : Int)).toNat = 0 from rfl] at qQ)
           (try rw [show 0 * 7 = 0 from rfl] at qQ)
           (try rw [Addr.add_zero'] at qQ)
           (try rw [show ((0 : Int)).toNat = 0 from rfl] at qP)
           (try rw [show 0 * 7 = 0 from rfl] at qP)
           (try rw [Addr.add_zero'] at qP)
           replace qC := pw_cell_below HB.out qC;replace jb := pw_cell_below HB.out jb;replace ja := pw_cell_below HB.out ja;replace qZ := pw_cell_below HB.out qZ;replace qR := pw_cell_below HB.out qR;replace qQ := pw_cell_below HB.out qQ;replace qP := pw_cell_below HB.out qP;have Qz := ak Qy;have YS := ak Qu;clear Qy Qu;have ZS := ak Qx;have qcf := ak Qt;clear Qx Qt;have ZR := ak Qw;have qce := ak Qs;clear Qw Qs;have ZQ := ak Qv;have qcd := ak Qr;clear Qv Qr;replace yw := eq_true yw;replace yv := eq_true yv;have ea_ := Option.some.inj (qY.symm.trans qC);injection ea_ with ea_ en_ ec_
           subst ea_;subst ec_;clear en_;have ea_ := Option.some.inj (jv.symm.trans qR);injection ea_ with ea_ en_ ec_
           subst ea_;subst ec_;clear en_;have ea_ := Option.some.inj (ju.symm.trans qQ);injection ea_ with ea_ en_ ec_
           subst ea_;subst ec_;clear en_;have ea_ := Option.some.inj (jt.symm.trans qP);injection ea_ with ea_ en_ ec_
           subst ea_;subst ec_;clear en_;refine start_ (n := 40) (S := fun w' => w'.cell? ⟨qf, 0, none⟩ = some (.slice qz ((qb l0 qp).f0.f0).length qy) ∧ w'.cell? ⟨qf, 1, none⟩ = some (.int .i64 ((qb l0 qp).f1)) ∧ w'.cell? ⟨qf, 2, none⟩ = some (.int .i64 ((qb l0 qp).f2)) ∧ w'.cell? ⟨qf, 3, none⟩ = some (.int .i64 ((qb l0 qp).f3)) ∧ w'.cell? ⟨qf, 4, none⟩ = some (.slice yo ((qb l0 qp).f4.f0).length yl) ∧ w'.cell? ⟨qf, 5, none⟩ = some (.slice yn ((qb l0 qp).f5).length yk) ∧ w'.cell? ⟨qf, 6, none⟩ = some (.slice ym ((qb l0 qp).f6).length yj) ∧ w'.cell? qj = some (.slice QG ((qb l0 0).f0.f0).length QF) ∧ w'.cell? ⟨qj.block, qj.off + 1, none⟩ = some (.int .i64 ((qb l0 0).f1)) ∧ w'.cell? ⟨qj.block, qj.off + 2, none⟩ = some (.int .i64 ((qb l0 0).f2)) ∧ w'.cell? ⟨qj.block, qj.off + 3, none⟩ = some (.int .i64 ((qb l0 0).f3)) ∧ w'.cell? ⟨qj.block, qj.off + 4, none⟩ = some (.slice JZ ((qb l0 0).f4.f0).length JW) ∧ w'.cell? ⟨qj.block, qj.off + 5, none⟩ = some (.slice JY ((qb l0 0).f5).length JV) ∧ w'.cell? ⟨qj.block, qj.off + 6, none⟩ = some (.slice JX ((qb l0 0).f6).length JU) ∧ w'.cell? qj = some (.slice Qb ((qb l0 0).f0.f0).length Qa) ∧ w'.cell? ⟨qj.block, qj.off + 1, none⟩ = some (.int .i64 ((qb l0 0).f1)) ∧ w'.cell? ⟨qj.block, qj.off + 2, none⟩ = some (.int .i64 ((qb l0 0).f2)) ∧ w'.cell? ⟨qj.block, qj.off + 3, none⟩ = some (.int .i64 ((qb l0 0).f3)) ∧ w'.cell? ⟨qj.block, qj.off + 4, none⟩ = some (.slice Ja ((qb l0 0).f4.f0).length QV) ∧ w'.cell? ⟨qj.block, qj.off + 5, none⟩ = some (.slice QZ ((qb l0 0).f5).length QU) ∧ w'.cell? ⟨qj.block, qj.off + 6, none⟩ = some (.slice QY ((qb l0 0).f6).length QT) ∧ w'.cell? qj = some (.slice Qb ((qb l0 0).f0.f0).length Qa) ∧ w'.cell? ⟨qj.block, qj.off + 1, none⟩ = some (.int .i64 ((qb l0 0).f1)) ∧ w'.cell? ⟨qj.block, qj.off + 2, none⟩ = some (.int .i64 ((qb l0 0).f2)) ∧ w'.cell? ⟨qj.block, qj.off + 3, none⟩ = some (.int .i64 ((qb l0 0).f3)) ∧ w'.cell? ⟨qj.block, qj.off + 4, none⟩ = some (.slice Ja ((qb l0 0).f4.f0).length QV) ∧ w'.cell? ⟨qj.block, qj.off + 5, none⟩ = some (.slice QZ ((qb l0 0).f5).length QU) ∧ w'.cell? ⟨qj.block, qj.off + 6, none⟩ = some (.slice QY ((qb l0 0).f6).length QT)) (ds := []) (bA 40 0) (by kernel_rfl) rfl rfl kq (fun hHeld => ?_); refine with_tabW jc.tab6 jc.bits6 (fun HT_ HW_ => ?_);generalize w35.drew = w36 at qk HB jz QR QQ QP JE Zr Zq Zp Qz ZS ZR ZQ qA qL qK qJ qI qH qG qY jQ jP jO jv ju jt qC jb ja qZ qR qQ qP hHeld ⊢;refine pu HT_ 0 ?_;refine pu HT_ 2 ?_;refine pu HT_ 3 ?_;refine pu HT_ 4 ?_;refine ta HT_ HW_ hHeld 1 ?_;refine ta HT_ HW_ hHeld 5 ?_;refine on HT_ 6 (fun K hK => ?_);refine gsB Try.func102 (yM.calls k2 _ _ ((qb l0 qp).f0.f0) _ _ ((qb l0 0).f0.f0) true _ (cv jI HB) jY.out (cv jz HB) zx.out A11.out) (fun w37 hb => ?_);replace qk := b1 qk hb;replace HB := b2s bs hb;refine hK.out _ _ kp (fun hHeld => ?_);(try clear hb)
           clear hK K;refine norm_ (a' := ?_) ?_ ?_; rotate_left; go_simp; rfl;refine pu HT_ 7 ?_;refine pu HT_ 8 ?_;refine pu HT_ 9 ?_;refine pu HT_ 11 ?_;refine pu HT_ 12 ?_;refine pu HT_ 13 ?_;refine ta HT_ HW_ hHeld 10 ?_;refine ta HT_ HW_ hHeld 14 ?_;refine pu HT_ 15 ?_;refine pu HT_ 16 ?_;refine pu HT_ 17 ?_;refine pu HT_ 18 ?_;refine pu HT_ 20 ?_;refine pu HT_ 21 ?_;refine pu HT_ 22 ?_;refine ta HT_ HW_ hHeld 19 ?_;refine ta HT_ HW_ hHeld 23 ?_;refine pu HT_ 24 ?_;refine pu HT_ 25 ?_;refine pu HT_ 26 ?_;refine pu HT_ 27 ?_;refine pu HT_ 28 ?_;refine pu HT_ 29 ?_;refine sk HT_ 30 ?_;refine sk HT_ 31 ?_;refine sk HT_ 32 ?_;refine sk HT_ 33 ?_;refine sk HT_ 34 ?_;refine sk HT_ 35 ?_;refine sk HT_ 36 ?_;refine sk HT_ 37 ?_;refine pu HT_ 38 ?_;refine pu HT_ 39 ?_;refine done_ (done_of HT_.out (by kernel_rfl)) ?_;try go_wp2
           go_roundg k2;case measure => have := HJ1.out; have := HK2.out; omega
           case rel => exact ⟨(wrap64 (qp + 1)), o2, H', ⟨by have := HJ1.out; have := HK2.out; omega⟩, ⟨bs⟩⟩
         ·obtain rfl := Option.some.inj H;obtain ⟨qj, qz, qy, yo, yl, yn, yk, ym, yj, rfl, yU, YD, YC, YB, YA, Yz, Yy, jY, jI, qaM, Xw, qaL, Xv, qaK, Xu, Xa, YZ⟩ := el_T33 HR0 HB qp;try go_wp2_with (((with_reducible refine gate_dst (N := 4) rfl ?_);refine bxd (N := 4) rfl HB ?_;clear HB;intro qf w38 hg HB qk XX hb;have qaU := XX;clear hb hg;obtain ⟨qpG, qpF, qpE, qpD, qpC, qpB, qpA, qnL, qnK, qnJ, qnI, qnH, qnG, qnF⟩ := cells7 qk.out))
          have n0_ : Aside0 ((((((((w38.setCell ⟨qf, 0, none⟩ (.slice qz ((qb l0 qp).f0.f0).length qy)).setCell ⟨qf, 1, none⟩ (.int .i64 ((qb l0 qp).f1))).setCell ⟨qf, 2, none⟩ (.int .i64 ((qb l0 qp).f2))).setCell ⟨qf, 3, none⟩ (.int .i64 ((qb l0 qp).f3))).setCell ⟨qf, 4, none⟩ (.slice yo ((qb l0 qp).f4.f0).length yl)).setCell ⟨qf, 5, none⟩ (.slice yn ((qb l0 qp).f5).length yk)).setCell ⟨qf, 6, none⟩ (.slice ym ((qb l0 qp).f6).length yj)).heap[qf]? = some (.cells #[.slice qz ((qb l0 qp).f0.f0).length qy, .int .i64 ((qb l0 qp).f1), .int .i64 ((qb l0 qp).f2), .int .i64 ((qb l0 qp).f3), .slice yo ((qb l0 qp).f4.f0).length yl, .slice yn ((qb l0 qp).f5).length yk, .slice ym ((qb l0 qp).f6).length yj] 33 (0, 0))) := ⟨ZZ qk.out⟩;have n1_ : Aside0 (Below w.heap.size w (((((((w38.setCell ⟨qf, 0, none⟩ (.slice qz ((qb l0 qp).f0.f0).length qy)).setCell ⟨qf, 1, none⟩ (.int .i64 ((qb l0 qp).f1))).setCell ⟨qf, 2, none⟩ (.int .i64 ((qb l0 qp).f2))).setCell ⟨qf, 3, none⟩ (.int .i64 ((qb l0 qp).f3))).setCell ⟨qf, 4, none⟩ (.slice yo ((qb l0 qp).f4.f0).length yl)).setCell ⟨qf, 5, none⟩ (.slice yn ((qb l0 qp).f5).length yk)).setCell ⟨qf, 6, none⟩ (.slice ym ((qb l0 qp).f6).length yj))) := ⟨bs⟩;(try clear qk)
          (try clear HB)
          generalize (((((((w38.setCell ⟨qf, 0, none⟩ (.slice qz ((qb l0 qp).f0.f0).length qy)).setCell ⟨qf, 1, none⟩ (.int .i64 ((qb l0 qp).f1))).setCell ⟨qf, 2, none⟩ (.int .i64 ((qb l0 qp).f2))).setCell ⟨qf, 3, none⟩ (.int .i64 ((qb l0 qp).f3))).setCell ⟨qf, 4, none⟩ (.slice yo ((qb l0 qp).f4.f0).length yl)).setCell ⟨qf, 5, none⟩ (.slice yn ((qb l0 qp).f5).length yk)).setCell ⟨qf, 6, none⟩ (.slice ym ((qb l0 qp).f6).length yj)) = w40 at n0_ n1_ ⊢;have qk := n0_;have HB := n1_;clear n0_ n1_;replace qk := ak (blk_drew qk.out);replace HB := ak (below_drew1 HB.out);have yr : 0 ≤ (0 : Int) := (by omega);have yq : 0 < (l0.length : Int) := of_decide_eq_true (by first | (with_reducible assumption) | assumption);obtain ⟨JA, QG, QF, JZ, JW, JY, JV, JX, JU, XC, qA, qL, qK, qJ, qI, qH, qG, ye, yi, yd, yh, yc, yg, yb, yf⟩ := yu HR0.out 0 yr yq;have zj := qG;(try rw [show ((0 : Int)).toNat = 0 from rfl] at zj)
          (try rw [show 0 * 7 = 0 from rfl] at zj)
          (try rw [Addr.add_zero'] at zj)
          have zk := qH;(try rw [show ((0 : Int)).toNat = 0 from rfl] at zk)
          (try rw [show 0 * 7 = 0 from rfl] at zk)
          (try rw [Addr.add_zero'] at zk)
          have zl := qI;(try rw [show ((0 : Int)).toNat = 0 from rfl] at zl)
          (try rw [show 0 * 7 = 0 from rfl] at zl)
          (try rw [Addr.add_zero'] at zl)
          have zm := qJ;(try rw [show ((0 : Int)).toNat = 0 from rfl] at zm)
          (try rw [show 0 * 7 = 0 from rfl] at zm)
          (try rw [Addr.add_zero'] at zm)
          have zn := qK;(try rw [show ((0 : Int)).toNat = 0 from rfl] at zn)
          (try rw [show 0 * 7 = 0 from rfl] at zn)
          (try rw [Addr.add_zero'] at zn)
          have zo := qL;(try rw [show ((0 : Int)).toNat = 0 from rfl] at zo)
          (try rw [show 0 * 7 = 0 from rfl] at zo)
          (try rw [Addr.add_zero'] at zo)
          have zp := qA;(try rw [show ((0 : Int)).toNat = 0 from rfl] at zp)
          (try rw [show 0 * 7 = 0 from rfl] at zp)
          (try rw [Addr.add_zero'] at zp)
          obtain rfl : qj = JA := (by injection XC);have qcl : (0 < l0.length) = True := eq_true (by omega);(try rw [show ((0 : Int)).toNat = 0 from rfl] at qA)
          (try rw [show 0 * 7 = 0 from rfl] at qA)
          (try rw [Addr.add_zero'] at qA)
          (try rw [show ((0 : Int)).toNat = 0 from rfl] at qL)
          (try rw [show 0 * 7 = 0 from rfl] at qL)
          (try rw [Addr.add_zero'] at qL)
          (try rw [show ((0 : Int)).toNat = 0 from rfl] at qK)
          (try rw [show 0 * 7 = 0 from rfl] at qK)
          (try rw [Addr.add_zero'] at qK)
          (try rw [show ((0 : Int)).toNat = 0 from rfl] at qJ)
          (try rw [show 0 * 7 = 0 from rfl] at qJ)
          (try rw [Addr.add_zero'] at qJ)
          (try rw [show ((0 : Int)).toNat = 0 from rfl] at qI)
          (try rw [show 0 * 7 = 0 from rfl] at qI)
          (try rw [Addr.add_zero'] at qI)
          (try rw [show ((0 : Int)).toNat = 0 from rfl] at qH)
          (try rw [show 0 * 7 = 0 from rfl] at qH)
          (try rw [Addr.add_zero'] at qH)
          (try rw [show ((0 : Int)).toNat = 0 from rfl] at qG)
          (try rw [show 0 * 7 = 0 from rfl] at qG)
          (try rw [Addr.add_zero'] at qG)
          replace qA := pw_cell_below HB.out qA;replace qL := pw_cell_below HB.out qL;replace qK := pw_cell_below HB.out qK;replace qJ := pw_cell_below HB.out qJ;replace qI := pw_cell_below HB.out qI;replace qH := pw_cell_below HB.out qH;replace qG := pw_cell_below HB.out qG;have jz := ak yi;have zx := ak ye;clear yi ye;have QR := ak yh;have XA := ak yd;clear yh yd;have QQ := ak yg;have Xz := ak yc;clear yg yc;have QP := ak yf;have Xy := ak yb;clear yf yb;replace yr := eq_true yr;replace yq := eq_true yq;have Jj : 0 ≤ (0 : Int) := (by omega);have Ji : 0 < (l0.length : Int) := of_decide_eq_true (by first | (with_reducible assumption) | assumption);obtain ⟨qdA, Qb, Qa, Ja, QV, QZ, QU, QY, QT, qgI, qY, jQ, jP, jO, jv, ju, jt, YI, YM, YH, YL, YG, YK, YF, YJ⟩ := yu HR0.out 0 Jj Ji;have Qk := jt;(try rw [show ((0 : Int)).toNat = 0 from rfl] at Qk)
          (try rw [show 0 * 7 = 0 from rfl] at Qk)
          (try rw [Addr.add_zero'] at Qk)
          have Ql := ju;(try rw [show ((0 : Int)).toNat = 0 from rfl] at Ql)
          (try rw [show 0 * 7 = 0 from rfl] at Ql)
          (try rw [Addr.add_zero'] at Ql)
          have Qm := jv;(try rw [show ((0 : Int)).toNat = 0 from rfl] at Qm)
          (try rw [show 0 * 7 = 0 from rfl] at Qm)
          (try rw [Addr.add_zero'] at Qm)
          have Qn := jO;(try rw [show ((0 : Int)).toNat = 0 from rfl] at Qn)
          (try rw [show 0 * 7 = 0 from rfl] at Qn)
          (try rw [Addr.add_zero'] at Qn)
          have Qo := jP;(try rw [show ((0 : Int)).toNat = 0 from rfl] at Qo)
          (try rw [show 0 * 7 = 0 from rfl] at Qo)
          (try rw [Addr.add_zero'] at Qo)
          have Qp := jQ;(try rw [show ((0 : Int)).toNat = 0 from rfl] at Qp)
          (try rw [show 0 * 7 = 0 from rfl] at Qp)
          (try rw [Addr.add_zero'] at Qp)
          have Qq := qY;(try rw [show ((0 : Int)).toNat = 0 from rfl] at Qq)
          (try rw [show 0 * 7 = 0 from rfl] at Qq)
          (try rw [Addr.add_zero'] at Qq)
          obtain rfl : qj = qdA := (by injection qgI);have qgw : (0 < l0.length) = True := eq_true (by omega);(try rw [show ((0 : Int)).toNat = 0 from rfl] at qY)
          (try rw [show 0 * 7 = 0 from rfl] at qY)
          (try rw [Addr.add_zero'] at qY)
          (try rw [show ((0 : Int)).toNat = 0 from rfl] at jQ)
          (try rw [show 0 * 7 = 0 from rfl] at jQ)
          (try rw [Addr.add_zero'] at jQ)
          (try rw [show ((0 : Int)).toNat = 0 from rfl] at jP)
          (try rw [show 0 * 7 = 0 from rfl] at jP)
          (try rw [Addr.add_zero'] at jP)
          (try rw [show ((0 : Int)).toNat = 0 from rfl] at jO)
          (try rw [show 0 * 7 = 0 from rfl] at jO)
          (try rw [Addr.add_zero'] at jO)
          (try rw [show ((0 : Int)).toNat = 0 from rfl] at jv)
          (try rw [show 0 * 7 = 0 from rfl] at jv)
          (try rw [Addr.add_zero'] at jv)
          (try rw [show ((0 : Int)).toNat = 0 from rfl] at ju)
          (try rw [show 0 * 7 = 0 from rfl] at ju)
          (try rw [Addr.add_zero'] at ju)
          (try rw [show ((0 : Int)).toNat = 0 from rfl] at jt)
          (try rw [show 0 * 7 = 0 from rfl] at jt)
          (try rw [Addr.add_zero'] at jt)
          replace qY := pw_cell_below HB.out qY;replace jQ := pw_cell_below HB.out jQ;replace jP := pw_cell_below HB.out jP;replace jO := pw_cell_below HB.out jO;replace jv := pw_cell_below HB.out jv;replace ju := pw_cell_below HB.out ju;replace jt := pw_cell_below HB.out jt;have JE := ak YM;have qaJ := ak YI;clear YM YI;have Zr := ak YL;have qbF := ak YH;clear YL YH;have Zq := ak YK;have qbE := ak YG;clear YK YG;have Zp := ak YJ;have qbD := ak YF;clear YJ YF;replace Jj := eq_true Jj;replace Ji := eq_true Ji;have yw : 0 ≤ (0 : Int) := (by omega);have yv : 0 < (l0.length : Int) := of_decide_eq_true (by first | (with_reducible assumption) | assumption);obtain ⟨Xb, JD, JC, Yw, Ys, Yv, Yr, Yu, Yq, qaR, qC, jb, ja, qZ, qR, qQ, qP, Qu, Qy, Qt, Qx, Qs, Qw, Qr, Qv⟩ := yu HR0.out 0 yw yv;have zC := qP;(try rw [show ((0 : Int)).toNat = 0 from rfl] at zC)
          (try rw [show 0 * 7 = 0 from rfl] at zC)
          (try rw [Addr.add_zero'] at zC)
          have zD := qQ;(try rw [show ((0 : Int)).toNat = 0 from rfl] at zD)
          (try rw [show 0 * 7 = 0 from rfl] at zD)
          (try rw [Addr.add_zero'] at zD)
          have zE := qR;(try rw [show ((0 : Int)).toNat = 0 from rfl] at zE)
          (try rw [show 0 * 7 = 0 from rfl] at zE)
          (try rw [Addr.add_zero'] at zE)
          have zF := qZ;(try rw [show ((0 : Int)).toNat = 0 from rfl] at zF)
          (try rw [show 0 * 7 = 0 from rfl] at zF)
          (try rw [Addr.add_zero'] at zF)
          have zG := ja;(try rw [show ((0 : Int)).toNat = 0 from rfl] at zG)
          (try rw [show 0 * 7 = 0 from rfl] at zG)
          (try rw [Addr.add_zero'] at zG)
          have zH := jb;(try rw [show ((0 : Int)).toNat = 0 from rfl] at zH)
          (try rw [show 0 * 7 = 0 from rfl] at zH)
          (try rw [Addr.add_zero'] at zH)
          have zI := qC;(try rw [show ((0 : Int)).toNat = 0 from rfl] at zI)
          (try rw [show 0 * 7 = 0 from rfl] at zI)
          (try rw [Addr.add_zero'] at zI)
          obtain rfl : qj = Xb := (by injection qaR);have qck : (0 < l0.length) = True := eq_true (by omega);(try rw [show ((0 : Int)).toNat = 0 from rfl] at qC)
          (try rw [show 0 * 7 = 0 from rfl] at qC)
          (try rw [Addr.add_zero'] at qC)
          (try rw [show ((0 : Int)).toNat = 0 from rfl] at jb)
          (try rw [show 0 * 7 = 0 from rfl] at jb)
          (try rw [Addr.add_zero'] at jb)
          (try rw [show ((0 : Int)).toNat = 0 from rfl] at ja)
          (try rw [show 0 * 7 = 0 from rfl] at ja)
          (try rw [Addr.add_zero'] at ja)
          (try rw [show ((0 : Int)).toNat = 0 from rfl] at qZ)
          (try rw [show 0 * 7 = 0 from rfl] at qZ)
          (try rw [Addr.add_zero'] at qZ)
          (try rw [show ((0 : Int)).toNat = 0 from rfl] at qR)
          (try rw [show 0 * 7 = 0 from rfl] at qR)
          (try rw [Addr.add_zero'] at qR)
          (try rw [show ((0 : Int)).toNat = 0 from rfl] at qQ)
          (try rw [show 0 * 7 = 0 from rfl] at qQ)
          (try rw [Addr.add_zero'] at qQ)
          (try rw [show ((0 : Int)).toNat = 0 from rfl] at qP)
          (try rw [show 0 * 7 = 0 from rfl] at qP)
          (try rw [Addr.add_zero'] at qP)
          replace qC := pw_cell_below HB.out qC;replace jb := pw_cell_below HB.out jb;replace ja := pw_cell_below HB.out ja;replace qZ := pw_cell_below HB.out qZ;replace qR := pw_cell_below HB.out qR;replace qQ := pw_cell_below HB.out qQ;replace qP := pw_cell_below HB.out qP;have Qz := ak Qy;have YS := ak Qu;clear Qy Qu;have ZS := ak Qx;have qcf := ak Qt;clear Qx Qt;have ZR := ak Qw;have qce := ak Qs;clear Qw Qs;have ZQ := ak Qv;have qcd := ak Qr;clear Qv Qr;replace yw := eq_true yw;replace yv := eq_true yv;have ea_ := Option.some.inj (qY.symm.trans qC);injection ea_ with ea_ en_ ec_
          subst ea_;subst ec_;clear en_;have ea_ := Option.some.inj (jv.symm.trans qR);injection ea_ with ea_ en_ ec_
          subst ea_;subst ec_;clear en_;have ea_ := Option.some.inj (ju.symm.trans qQ);injection ea_ with ea_ en_ ec_
          subst ea_;subst ec_;clear en_;have ea_ := Option.some.inj (jt.symm.trans qP);injection ea_ with ea_ en_ ec_
          subst ea_;subst ec_;clear en_;refine start_ (n := 40) (S := fun w' => w'.cell? ⟨qf, 0, none⟩ = some (.slice qz ((qb l0 qp).f0.f0).length qy) ∧ w'.cell? ⟨qf, 1, none⟩ = some (.int .i64 ((qb l0 qp).f1)) ∧ w'.cell? ⟨qf, 2, none⟩ = some (.int .i64 ((qb l0 qp).f2)) ∧ w'.cell? ⟨qf, 3, none⟩ = some (.int .i64 ((qb l0 qp).f3)) ∧ w'.cell? ⟨qf, 4, none⟩ = some (.slice yo ((qb l0 qp).f4.f0).length yl) ∧ w'.cell? ⟨qf, 5, none⟩ = some (.slice yn ((qb l0 qp).f5).length yk) ∧ w'.cell? ⟨qf, 6, none⟩ = some (.slice ym ((qb l0 qp).f6).length yj) ∧ w'.cell? qj = some (.slice QG ((qb l0 0).f0.f0).length QF) ∧ w'.cell? ⟨qj.block, qj.off + 1, none⟩ = some (.int .i64 ((qb l0 0).f1)) ∧ w'.cell? ⟨qj.block, qj.off + 2, none⟩ = some (.int .i64 ((qb l0 0).f2)) ∧ w'.cell? ⟨qj.block, qj.off + 3, none⟩ = some (.int .i64 ((qb l0 0).f3)) ∧ w'.cell? ⟨qj.block, qj.off + 4, none⟩ = some (.slice JZ ((qb l0 0).f4.f0).length JW) ∧ w'.cell? ⟨qj.block, qj.off + 5, none⟩ = some (.slice JY ((qb l0 0).f5).length JV) ∧ w'.cell? ⟨qj.block, qj.off + 6, none⟩ = some (.slice JX ((qb l0 0).f6).length JU) ∧ w'.cell? qj = some (.slice Qb ((qb l0 0).f0.f0).length Qa) ∧ w'.cell? ⟨qj.block, qj.off + 1, none⟩ = some (.int .i64 ((qb l0 0).f1)) ∧ w'.cell? ⟨qj.block, qj.off + 2, none⟩ = some (.int .i64 ((qb l0 0).f2)) ∧ w'.cell? ⟨qj.block, qj.off + 3, none⟩ = some (.int .i64 ((qb l0 0).f3)) ∧ w'.cell? ⟨qj.block, qj.off + 4, none⟩ = some (.slice Ja ((qb l0 0).f4.f0).length QV) ∧ w'.cell? ⟨qj.block, qj.off + 5, none⟩ = some (.slice QZ ((qb l0 0).f5).length QU) ∧ w'.cell? ⟨qj.block, qj.off + 6, none⟩ = some (.slice QY ((qb l0 0).f6).length QT) ∧ w'.cell? qj = some (.slice Qb ((qb l0 0).f0.f0).length Qa) ∧ w'.cell? ⟨qj.block, qj.off + 1, none⟩ = some (.int .i64 ((qb l0 0).f1)) ∧ w'.cell? ⟨qj.block, qj.off + 2, none⟩ = some (.int .i64 ((qb l0 0).f2)) ∧ w'.cell? ⟨qj.block, qj.off + 3, none⟩ = some (.int .i64 ((qb l0 0).f3)) ∧ w'.cell? ⟨qj.block, qj.off + 4, none⟩ = some (.slice Ja ((qb l0 0).f4.f0).length QV) ∧ w'.cell? ⟨qj.block, qj.off + 5, none⟩ = some (.slice QZ ((qb l0 0).f5).length QU) ∧ w'.cell? ⟨qj.block, qj.off + 6, none⟩ = some (.slice QY ((qb l0 0).f6).length QT)) (ds := []) (bA 40 0) (by kernel_rfl) rfl rfl kq (fun hHeld => ?_); refine with_tabW jc.tab6 jc.bits6 (fun HT_ HW_ => ?_);generalize w40.drew = w41 at qk HB jz QR QQ QP JE Zr Zq Zp Qz ZS ZR ZQ qA qL qK qJ qI qH qG qY jQ jP jO jv ju jt qC jb ja qZ qR qQ qP hHeld ⊢;refine pu HT_ 0 ?_;refine pu HT_ 2 ?_;refine pu HT_ 3 ?_;refine pu HT_ 4 ?_;refine ta HT_ HW_ hHeld 1 ?_;refine ta HT_ HW_ hHeld 5 ?_;refine on HT_ 6 (fun K hK => ?_);refine gsB Try.func102 (yM.calls k2 _ _ ((qb l0 qp).f0.f0) _ _ ((qb l0 0).f0.f0) true _ (cv jI HB) jY.out (cv jz HB) zx.out A11.out) (fun w42 hb => ?_);replace qk := b1 qk hb;replace HB := b2s bs hb;refine hK.out _ _ kp (fun hHeld => ?_);(try clear hb)
          clear hK K;refine norm_ (a' := ?_) ?_ ?_; rotate_left; go_simp; rfl;refine pu HT_ 7 ?_;refine pu HT_ 8 ?_;refine pu HT_ 9 ?_;refine pu HT_ 11 ?_;refine pu HT_ 12 ?_;refine pu HT_ 13 ?_;refine ta HT_ HW_ hHeld 10 ?_;refine ta HT_ HW_ hHeld 14 ?_;refine pu HT_ 15 ?_;refine pu HT_ 16 ?_;refine pu HT_ 17 ?_;refine pu HT_ 18 ?_;refine pu HT_ 20 ?_;refine pu HT_ 21 ?_;refine pu HT_ 22 ?_;refine ta HT_ HW_ hHeld 19 ?_;refine ta HT_ HW_ hHeld 23 ?_;refine pu HT_ 24 ?_;refine pu HT_ 25 ?_;refine pu HT_ 26 ?_;refine sk HT_ 27 ?_;refine sk HT_ 28 ?_;refine sk HT_ 29 ?_;refine sk HT_ 30 ?_;refine sk HT_ 31 ?_;refine sk HT_ 32 ?_;refine sk HT_ 33 ?_;refine sk HT_ 34 ?_;refine sk HT_ 35 ?_;refine sk HT_ 36 ?_;refine sk HT_ 37 ?_;refine sk HT_ 38 ?_;refine pu HT_ 39 ?_;refine done_ (done_of HT_.out (by kernel_rfl)) ?_;try go_wp2
          go_ret;exact ⟨o1, bs⟩
        ·obtain rfl := Option.some.inj H;obtain ⟨qj, qz, qy, yo, yl, yn, yk, ym, yj, rfl, yU, YD, YC, YB, YA, Yz, Yy, jY, jI, qaM, Xw, qaL, Xv, qaK, Xu, Xa, YZ⟩ := el_T33 HR0 HB qp;try go_wp2_with (((with_reducible refine gate_dst (N := 4) rfl ?_);refine bxd (N := 4) rfl HB ?_;clear HB;intro qf w43 hg HB qk XX hb;have qaU := XX;clear hb hg;obtain ⟨qpe, qpd, qpc, qpb, qpa, qo9, qo8, qnj, qni, qnh, qng, qnf, qne, qnd⟩ := cells7 qk.out))
         have n0_ : Aside0 ((((((((w43.setCell ⟨qf, 0, none⟩ (.slice qz ((qb l0 qp).f0.f0).length qy)).setCell ⟨qf, 1, none⟩ (.int .i64 ((qb l0 qp).f1))).setCell ⟨qf, 2, none⟩ (.int .i64 ((qb l0 qp).f2))).setCell ⟨qf, 3, none⟩ (.int .i64 ((qb l0 qp).f3))).setCell ⟨qf, 4, none⟩ (.slice yo ((qb l0 qp).f4.f0).length yl)).setCell ⟨qf, 5, none⟩ (.slice yn ((qb l0 qp).f5).length yk)).setCell ⟨qf, 6, none⟩ (.slice ym ((qb l0 qp).f6).length yj)).heap[qf]? = some (.cells #[.slice qz ((qb l0 qp).f0.f0).length qy, .int .i64 ((qb l0 qp).f1), .int .i64 ((qb l0 qp).f2), .int .i64 ((qb l0 qp).f3), .slice yo ((qb l0 qp).f4.f0).length yl, .slice yn ((qb l0 qp).f5).length yk, .slice ym ((qb l0 qp).f6).length yj] 33 (0, 0))) := ⟨ZZ qk.out⟩;have n1_ : Aside0 (Below w.heap.size w (((((((w43.setCell ⟨qf, 0, none⟩ (.slice qz ((qb l0 qp).f0.f0).length qy)).setCell ⟨qf, 1, none⟩ (.int .i64 ((qb l0 qp).f1))).setCell ⟨qf, 2, none⟩ (.int .i64 ((qb l0 qp).f2))).setCell ⟨qf, 3, none⟩ (.int .i64 ((qb l0 qp).f3))).setCell ⟨qf, 4, none⟩ (.slice yo ((qb l0 qp).f4.f0).length yl)).setCell ⟨qf, 5, none⟩ (.slice yn ((qb l0 qp).f5).length yk)).setCell ⟨qf, 6, none⟩ (.slice ym ((qb l0 qp).f6).length yj))) := ⟨bs⟩;(try clear qk)
         (try clear HB)
         generalize (((((((w43.setCell ⟨qf, 0, none⟩ (.slice qz ((qb l0 qp).f0.f0).length qy)).setCell ⟨qf, 1, none⟩ (.int .i64 ((qb l0 qp).f1))).setCell ⟨qf, 2, none⟩ (.int .i64 ((qb l0 qp).f2))).setCell ⟨qf, 3, none⟩ (.int .i64 ((qb l0 qp).f3))).setCell ⟨qf, 4, none⟩ (.slice yo ((qb l0 qp).f4.f0).length yl)).setCell ⟨qf, 5, none⟩ (.slice yn ((qb l0 qp).f5).length yk)).setCell ⟨qf, 6, none⟩ (.slice ym ((qb l0 qp).f6).length yj)) = w45 at n0_ n1_ ⊢;have qk := n0_;have HB := n1_;clear n0_ n1_;replace qk := ak (blk_drew qk.out);replace HB := ak (below_drew1 HB.out);have yr : 0 ≤ (0 : Int) := (by omega);have yq : 0 < (l0.length : Int) := of_decide_eq_true (by first | (with_reducible assumption) | assumption);obtain ⟨JA, QG, QF, JZ, JW, JY, JV, JX, JU, XC, qA, qL, qK, qJ, qI, qH, qG, ye, yi, yd, yh, yc, yg, yb, yf⟩ := yu HR0.out 0 yr yq;have zj := qG;(try rw [show ((0 : Int)).toNat = 0 from rfl] at zj)
         (try rw [show 0 * 7 = 0 from rfl] at zj)
         (try rw [Addr.add_zero'] at zj)
         have zk := qH;(try rw [show ((0 : Int)).toNat = 0 from rfl] at zk)
         (try rw [show 0 * 7 = 0 from rfl] at zk)
         (try rw [Addr.add_zero'] at zk)
         have zl := qI;(try rw [show ((0 : Int)).toNat = 0 from rfl] at zl)
         (try rw [show 0 * 7 = 0 from rfl] at zl)
         (try rw [Addr.add_zero'] at zl)
         have zm := qJ;(try rw [show ((0 : Int)).toNat = 0 from rfl] at zm)
         (try rw [show 0 * 7 = 0 from rfl] at zm)
         (try rw [Addr.add_zero'] at zm)
         have zn := qK;(try rw [show ((0 : Int)).toNat = 0 from rfl] at zn)
         (try rw [show 0 * 7 = 0 from rfl] at zn)
         (try rw [Addr.add_zero'] at zn)
         have zo := qL;(try rw [show ((0 : Int)).toNat = 0 from rfl] at zo)
         (try rw [show 0 * 7 = 0 from rfl] at zo)
         (try rw [Addr.add_zero'] at zo)
         have zp := qA;(try rw [show ((0 : Int)).toNat = 0 from rfl] at zp)
         (try rw [show 0 * 7 = 0 from rfl] at zp)
         (try rw [Addr.add_zero'] at zp)
         obtain rfl : qj = JA := (by injection XC);have qcl : (0 < l0.length) = True := eq_true (by omega);(try rw [show ((0 : Int)).toNat = 0 from rfl] at qA)
         (try rw [show 0 * 7 = 0 from rfl] at qA)
         (try rw [Addr.add_zero'] at qA)
         (try rw [show ((0 : Int)).toNat = 0 from rfl] at qL)
         (try rw [show 0 * 7 = 0 from rfl] at qL)
         (try rw [Addr.add_zero'] at qL)
         (try rw [show ((0 : Int)).toNat = 0 from rfl] at qK)
         (try rw [show 0 * 7 = 0 from rfl] at qK)
         (try rw [Addr.add_zero'] at qK)
         (try rw [show ((0 : Int)).toNat = 0 from rfl] at qJ)
         (try rw [show 0 * 7 = 0 from rfl] at qJ)
         (try rw [Addr.add_zero'] at qJ)
         (try rw [show ((0 : Int)).toNat = 0 from rfl] at qI)
         (try rw [show 0 * 7 = 0 from rfl] at qI)
         (try rw [Addr.add_zero'] at qI)
         (try rw [show ((0 : Int)).toNat = 0 from rfl] at qH)
         (try rw [show 0 * 7 = 0 from rfl] at qH)
         (try rw [Addr.add_zero'] at qH)
         (try rw [show ((0 : Int)).toNat = 0 from rfl] at qG)
         (try rw [show 0 * 7 = 0 from rfl] at qG)
         (try rw [Addr.add_zero'] at qG)
         replace qA := pw_cell_below HB.out qA;replace qL := pw_cell_below HB.out qL;replace qK := pw_cell_below HB.out qK;replace qJ := pw_cell_below HB.out qJ;replace qI := pw_cell_below HB.out qI;replace qH := pw_cell_below HB.out qH;replace qG := pw_cell_below HB.out qG;have jz := ak yi;have zx := ak ye;clear yi ye;have QR := ak yh;have XA := ak yd;clear yh yd;have QQ := ak yg;have Xz := ak yc;clear yg yc;have QP := ak yf;have Xy := ak yb;clear yf yb;replace yr := eq_true yr;replace yq := eq_true yq;have Jj : 0 ≤ (0 : Int) := (by omega);have Ji : 0 < (l0.length : Int) := of_decide_eq_true (by first | (with_reducible assumption) | assumption);obtain ⟨qdA, Qb, Qa, Ja, QV, QZ, QU, QY, QT, qgI, qY, jQ, jP, jO, jv, ju, jt, YI, YM, YH, YL, YG, YK, YF, YJ⟩ := yu HR0.out 0 Jj Ji;have Qk := jt;(try rw [show ((0 : Int)).toNat = 0 from rfl] at Qk)
         (try rw [show 0 * 7 = 0 from rfl] at Qk)
         (try rw [Addr.add_zero'] at Qk)
         have Ql := ju;(try rw [show ((0 : Int)).toNat = 0 from rfl] at Ql)
         (try rw [show 0 * 7 = 0 from rfl] at Ql)
         (try rw [Addr.add_zero'] at Ql)
         have Qm := jv;(try rw [show ((0 : Int)).toNat = 0 from rfl] at Qm)
         (try rw [show 0 * 7 = 0 from rfl] at Qm)
         (try rw [Addr.add_zero'] at Qm)
         have Qn := jO;(try rw [show ((0 : Int)).toNat = 0 from rfl] at Qn)
         (try rw [show 0 * 7 = 0 from rfl] at Qn)
         (try rw [Addr.add_zero'] at Qn)
         have Qo := jP;(try rw [show ((0 : Int)).toNat = 0 from rfl] at Qo)
         (try rw [show 0 * 7 = 0 from rfl] at Qo)
         (try rw [Addr.add_zero'] at Qo)
         have Qp := jQ;(try rw [show ((0 : Int)).toNat = 0 from rfl] at Qp)
         (try rw [show 0 * 7 = 0 from rfl] at Qp)
         (try rw [Addr.add_zero'] at Qp)
         have Qq := qY;(try rw [show ((0 : Int)).toNat = 0 from rfl] at Qq)
         (try rw [show 0 * 7 = 0 from rfl] at Qq)
         (try rw [Addr.add_zero'] at Qq)
         obtain rfl : qj = qdA := (by injection qgI);have qgw : (0 < l0.length) = True := eq_true (by omega);(try rw [show ((0 : Int)).toNat = 0 from rfl] at qY)
         (try rw [show 0 * 7 = 0 from rfl] at qY)
         (try rw [Addr.add_zero'] at qY)
         (try rw [show ((0 : Int)).toNat = 0 from rfl] at jQ)
         (try rw [show 0 * 7 = 0 from rfl] at jQ)
         (try rw [Addr.add_zero'] at jQ)
         (try rw [show ((0 : Int)).toNat = 0 from rfl] at jP)
         (try rw [show 0 * 7 = 0 from rfl] at jP)
         (try rw [Addr.add_zero'] at jP)
         (try rw [show ((0 : Int)).toNat = 0 from rfl] at jO)
         (try rw [show 0 * 7 = 0 from rfl] at jO)
         (try rw [Addr.add_zero'] at jO)
         (try rw [show ((0 : Int)).toNat = 0 from rfl] at jv)
         (try rw [show 0 * 7 = 0 from rfl] at jv)
         (try rw [Addr.add_zero'] at jv)
         (try rw [show ((0 : Int)).toNat = 0 from rfl] at ju)
         (try rw [show 0 * 7 = 0 from rfl] at ju)
         (try rw [Addr.add_zero'] at ju)
         (try rw [show ((0 : Int)).toNat = 0 from rfl] at jt)
         (try rw [show 0 * 7 = 0 from rfl] at jt)
         (try rw [Addr.add_zero'] at jt)
         replace qY := pw_cell_below HB.out qY;replace jQ := pw_cell_below HB.out jQ;replace jP := pw_cell_below HB.out jP;replace jO := pw_cell_below HB.out jO;replace jv := pw_cell_below HB.out jv;replace ju := pw_cell_below HB.out ju;replace jt := pw_cell_below HB.out jt;have JE := ak YM;have qaJ := ak YI;clear YM YI;have Zr := ak YL;have qbF := ak YH;clear YL YH;have Zq := ak YK;have qbE := ak YG;clear YK YG;have Zp := ak YJ;have qbD := ak YF;clear YJ YF;replace Jj := eq_true Jj;replace Ji := eq_true Ji;refine start_ (n := 40) (S := fun w' => w'.cell? ⟨qf, 0, none⟩ = some (.slice qz ((qb l0 qp).f0.f0).length qy) ∧ w'.cell? ⟨qf, 1, none⟩ = some (.int .i64 ((qb l0 qp).f1)) ∧ w'.cell? ⟨qf, 2, none⟩ = some (.int .i64 ((qb l0 qp).f2)) ∧ w'.cell? ⟨qf, 3, none⟩ = some (.int .i64 ((qb l0 qp).f3)) ∧ w'.cell? ⟨qf, 4, none⟩ = some (.slice yo ((qb l0 qp).f4.f0).length yl) ∧ w'.cell? ⟨qf, 5, none⟩ = some (.slice yn ((qb l0 qp).f5).length yk) ∧ w'.cell? ⟨qf, 6, none⟩ = some (.slice ym ((qb l0 qp).f6).length yj) ∧ w'.cell? qj = some (.slice QG ((qb l0 0).f0.f0).length QF) ∧ w'.cell? ⟨qj.block, qj.off + 1, none⟩ = some (.int .i64 ((qb l0 0).f1)) ∧ w'.cell? ⟨qj.block, qj.off + 2, none⟩ = some (.int .i64 ((qb l0 0).f2)) ∧ w'.cell? ⟨qj.block, qj.off + 3, none⟩ = some (.int .i64 ((qb l0 0).f3)) ∧ w'.cell? ⟨qj.block, qj.off + 4, none⟩ = some (.slice JZ ((qb l0 0).f4.f0).length JW) ∧ w'.cell? ⟨qj.block, qj.off + 5, none⟩ = some (.slice JY ((qb l0 0).f5).length JV) ∧ w'.cell? ⟨qj.block, qj.off + 6, none⟩ = some (.slice JX ((qb l0 0).f6).length JU) ∧ w'.cell? qj = some (.slice Qb ((qb l0 0).f0.f0).length Qa) ∧ w'.cell? ⟨qj.block, qj.off + 1, none⟩ = some (.int .i64 ((qb l0 0).f1)) ∧ w'.cell? ⟨qj.block, qj.off + 2, none⟩ = some (.int .i64 ((qb l0 0).f2)) ∧ w'.cell? ⟨qj.block, qj.off + 3, none⟩ = some (.int .i64 ((qb l0 0).f3)) ∧ w'.cell? ⟨qj.block, qj.off + 4, none⟩ = some (.slice Ja ((qb l0 0).f4.f0).length QV) ∧ w'.cell? ⟨qj.block, qj.off + 5, none⟩ = some (.slice QZ ((qb l0 0).f5).length QU) ∧ w'.cell? ⟨qj.block, qj.off + 6, none⟩ = some (.slice QY ((qb l0 0).f6).length QT)) (ds := []) (bA 40 0) (by kernel_rfl) rfl rfl kq (fun hHeld => ?_); refine with_tabW jc.tab6 jc.bits6 (fun HT_ HW_ => ?_);generalize w45.drew = w46 at qk HB jz QR QQ QP JE Zr Zq Zp qA qL qK qJ qI qH qG qY jQ jP jO jv ju jt hHeld ⊢;refine pu HT_ 0 ?_;refine pu HT_ 2 ?_;refine pu HT_ 3 ?_;refine pu HT_ 4 ?_;refine ta HT_ HW_ hHeld 1 ?_;refine ta HT_ HW_ hHeld 5 ?_;refine on HT_ 6 (fun K hK => ?_);refine gsB Try.func102 (yM.calls k2 _ _ ((qb l0 qp).f0.f0) _ _ ((qb l0 0).f0.f0) true _ (cv jI HB) jY.out (cv jz HB) zx.out A11.out) (fun w47 hb => ?_);replace qk := b1 qk hb;replace HB := b2s bs hb;refine hK.out _ _ kp (fun hHeld => ?_);(try clear hb)
         clear hK K;refine norm_ (a' := ?_) ?_ ?_; rotate_left; go_simp; rfl;refine pu HT_ 7 ?_;refine pu HT_ 8 ?_;refine pu HT_ 9 ?_;refine pu HT_ 11 ?_;refine pu HT_ 12 ?_;refine pu HT_ 13 ?_;refine ta HT_ HW_ hHeld 10 ?_;refine ta HT_ HW_ hHeld 14 ?_;refine pu HT_ 15 ?_;refine pu HT_ 16 ?_;refine pu HT_ 17 ?_;refine sk HT_ 18 ?_;refine sk HT_ 19 ?_;refine sk HT_ 20 ?_;refine sk HT_ 21 ?_;refine sk HT_ 22 ?_;refine sk HT_ 23 ?_;refine sk HT_ 24 ?_;refine pu HT_ 25 ?_;refine pu HT_ 26 ?_;refine sk HT_ 27 ?_;refine sk HT_ 28 ?_;refine sk HT_ 29 ?_;refine sk HT_ 30 ?_;refine sk HT_ 31 ?_;refine sk HT_ 32 ?_;refine sk HT_ 33 ?_;refine sk HT_ 34 ?_;refine sk HT_ 35 ?_;refine sk HT_ 36 ?_;refine sk HT_ 37 ?_;refine sk HT_ 38 ?_;refine pu HT_ 39 ?_;refine done_ (done_of HT_.out (by kernel_rfl)) ?_;try go_wp2
         go_ret;exact ⟨o1, bs⟩
       ·obtain rfl := Option.some.inj H;obtain ⟨qj, qz, qy, yo, yl, yn, yk, ym, yj, rfl, yU, YD, YC, YB, YA, Yz, Yy, jY, jI, qaM, Xw, qaL, Xv, qaK, Xu, Xa, YZ⟩ := el_T33 HR0 HB qp;try go_wp2_with (((with_reducible refine gate_dst (N := 4) rfl ?_);refine bxd (N := 4) rfl HB ?_;clear HB;intro qf w48 hg HB qk XX hb;have qaU := XX;clear hb hg;obtain ⟨qkc, qkb, qka, qj9, qj8, qj7, qj6, qjq, qjp, qjo, qjn, qjm, qjl, qjk⟩ := cells7 qk.out))
        have n0_ : Aside0 ((((((((w48.setCell ⟨qf, 0, none⟩ (.slice qz ((qb l0 qp).f0.f0).length qy)).setCell ⟨qf, 1, none⟩ (.int .i64 ((qb l0 qp).f1))).setCell ⟨qf, 2, none⟩ (.int .i64 ((qb l0 qp).f2))).setCell ⟨qf, 3, none⟩ (.int .i64 ((qb l0 qp).f3))).setCell ⟨qf, 4, none⟩ (.slice yo ((qb l0 qp).f4.f0).length yl)).setCell ⟨qf, 5, none⟩ (.slice yn ((qb l0 qp).f5).length yk)).setCell ⟨qf, 6, none⟩ (.slice ym ((qb l0 qp).f6).length yj)).heap[qf]? = some (.cells #[.slice qz ((qb l0 qp).f0.f0).length qy, .int .i64 ((qb l0 qp).f1), .int .i64 ((qb l0 qp).f2), .int .i64 ((qb l0 qp).f3), .slice yo ((qb l0 qp).f4.f0).length yl, .slice yn ((qb l0 qp).f5).length yk, .slice ym ((qb l0 qp).f6).length yj] 33 (0, 0))) := ⟨ZZ qk.out⟩;have n1_ : Aside0 (Below w.heap.size w (((((((w48.setCell ⟨qf, 0, none⟩ (.slice qz ((qb l0 qp).f0.f0).length qy)).setCell ⟨qf, 1, none⟩ (.int .i64 ((qb l0 qp).f1))).setCell ⟨qf, 2, none⟩ (.int .i64 ((qb l0 qp).f2))).setCell ⟨qf, 3, none⟩ (.int .i64 ((qb l0 qp).f3))).setCell ⟨qf, 4, none⟩ (.slice yo ((qb l0 qp).f4.f0).length yl)).setCell ⟨qf, 5, none⟩ (.slice yn ((qb l0 qp).f5).length yk)).setCell ⟨qf, 6, none⟩ (.slice ym ((qb l0 qp).f6).length yj))) := ⟨bs⟩;(try clear qk)
        (try clear HB)
        generalize (((((((w48.setCell ⟨qf, 0, none⟩ (.slice qz ((qb l0 qp).f0.f0).length qy)).setCell ⟨qf, 1, none⟩ (.int .i64 ((qb l0 qp).f1))).setCell ⟨qf, 2, none⟩ (.int .i64 ((qb l0 qp).f2))).setCell ⟨qf, 3, none⟩ (.int .i64 ((qb l0 qp).f3))).setCell ⟨qf, 4, none⟩ (.slice yo ((qb l0 qp).f4.f0).length yl)).setCell ⟨qf, 5, none⟩ (.slice yn ((qb l0 qp).f5).length yk)).setCell ⟨qf, 6, none⟩ (.slice ym ((qb l0 qp).f6).length yj)) = w50 at n0_ n1_ ⊢;have qk := n0_;have HB := n1_;clear n0_ n1_;replace qk := ak (blk_drew qk.out);replace HB := ak (below_drew1 HB.out);have yr : 0 ≤ (0 : Int) := (by omega);have yq : 0 < (l0.length : Int) := of_decide_eq_true (by first | (with_reducible assumption) | assumption);obtain ⟨JA, QG, QF, JZ, JW, JY, JV, JX, JU, XC, qA, qL, qK, qJ, qI, qH, qG, ye, yi, yd, yh, yc, yg, yb, yf⟩ := yu HR0.out 0 yr yq;have zj := qG;(try rw [show ((0 : Int)).toNat = 0 from rfl] at zj)
        (try rw [show 0 * 7 = 0 from rfl] at zj)
        (try rw [Addr.add_zero'] at zj)
        have zk := qH;(try rw [show ((0 : Int)).toNat = 0 from rfl] at zk)
        (try rw [show 0 * 7 = 0 from rfl] at zk)
        (try rw [Addr.add_zero'] at zk)
        have zl := qI;(try rw [show ((0 : Int)).toNat = 0 from rfl] at zl)
        (try rw [show 0 * 7 = 0 from rfl] at zl)
        (try rw [Addr.add_zero'] at zl)
        have zm := qJ;(try rw [show ((0 : Int)).toNat = 0 from rfl] at zm)
        (try rw [show 0 * 7 = 0 from rfl] at zm)
        (try rw [Addr.add_zero'] at zm)
        have zn := qK;(try rw [show ((0 : Int)).toNat = 0 from rfl] at zn)
        (try rw [show 0 * 7 = 0 from rfl] at zn)
        (try rw [Addr.add_zero'] at zn)
        have zo := qL;(try rw [show ((0 : Int)).toNat = 0 from rfl] at zo)
        (try rw [show 0 * 7 = 0 from rfl] at zo)
        (try rw [Addr.add_zero'] at zo)
        have zp := qA;(try rw [show ((0 : Int)).toNat = 0 from rfl] at zp)
        (try rw [show 0 * 7 = 0 from rfl] at zp)
        (try rw [Addr.add_zero'] at zp)
        obtain rfl : qj = JA := (by injection XC);have qcl : (0 < l0.length) = True := eq_true (by omega);(try rw [show ((0 : Int)).toNat = 0 from rfl] at qA)
        (try rw [show 0 * 7 = 0 from rfl] at qA)
        (try rw [Addr.add_zero'] at qA)
        (try rw [show ((0 : Int)).toNat = 0 from rfl] at qL)
        (try rw [show 0 * 7 = 0 from rfl] at qL)
        (try rw [Addr.add_zero'] at qL)
        (try rw [show ((0 : Int)).toNat = 0 from rfl] at qK)
        (try rw [show 0 * 7 = 0 from rfl] at qK)
        (try rw [Addr.add_zero'] at qK)
        (try rw [show ((0 : Int)).toNat = 0 from rfl] at qJ)
        (try rw [show 0 * 7 = 0 from rfl] at qJ)
        (try rw [Addr.add_zero'] at qJ)
        (try rw [show ((0 : Int)).toNat = 0 from rfl] at qI)
        (try rw [show 0 * 7 = 0 from rfl] at qI)
        (try rw [Addr.add_zero'] at qI)
        (try rw [show ((0 : Int)).toNat = 0 from rfl] at qH)
        (try rw [show 0 * 7 = 0 from rfl] at qH)
        (try rw [Addr.add_zero'] at qH)
        (try rw [show ((0 : Int)).toNat = 0 from rfl] at qG)
        (try rw [show 0 * 7 = 0 from rfl] at qG)
        (try rw [Addr.add_zero'] at qG)
        replace qA := pw_cell_below HB.out qA;replace qL := pw_cell_below HB.out qL;replace qK := pw_cell_below HB.out qK;replace qJ := pw_cell_below HB.out qJ;replace qI := pw_cell_below HB.out qI;replace qH := pw_cell_below HB.out qH;replace qG := pw_cell_below HB.out qG;have jz := ak yi;have zx := ak ye;clear yi ye;have QR := ak yh;have XA := ak yd;clear yh yd;have QQ := ak yg;have Xz := ak yc;clear yg yc;have QP := ak yf;have Xy := ak yb;clear yf yb;replace yr := eq_true yr;replace yq := eq_true yq;refine start_ (n := 40) (S := fun w' => w'.cell? ⟨qf, 0, none⟩ = some (.slice qz ((qb l0 qp).f0.f0).length qy) ∧ w'.cell? ⟨qf, 1, none⟩ = some (.int .i64 ((qb l0 qp).f1)) ∧ w'.cell? ⟨qf, 2, none⟩ = some (.int .i64 ((qb l0 qp).f2)) ∧ w'.cell? ⟨qf, 3, none⟩ = some (.int .i64 ((qb l0 qp).f3)) ∧ w'.cell? ⟨qf, 4, none⟩ = some (.slice yo ((qb l0 qp).f4.f0).length yl) ∧ w'.cell? ⟨qf, 5, none⟩ = some (.slice yn ((qb l0 qp).f5).length yk) ∧ w'.cell? ⟨qf, 6, none⟩ = some (.slice ym ((qb l0 qp).f6).length yj) ∧ w'.cell? qj = some (.slice QG ((qb l0 0).f0.f0).length QF) ∧ w'.cell? ⟨qj.block, qj.off + 1, none⟩ = some (.int .i64 ((qb l0 0).f1)) ∧ w'.cell? ⟨qj.block, qj.off + 2, none⟩ = some (.int .i64 ((qb l0 0).f2)) ∧ w'.cell? ⟨qj.block, qj.off + 3, none⟩ = some (.int .i64 ((qb l0 0).f3)) ∧ w'.cell? ⟨qj.block, qj.off + 4, none⟩ = some (.slice JZ ((qb l0 0).f4.f0).length JW) ∧ w'.cell? ⟨qj.block, qj.off + 5, none⟩ = some (.slice JY ((qb l0 0).f5).length JV) ∧ w'.cell? ⟨qj.block, qj.off + 6, none⟩ = some (.slice JX ((qb l0 0).f6).length JU)) (ds := []) (bA 40 0) (by kernel_rfl) rfl rfl kq (fun hHeld => ?_); refine with_tabW jc.tab6 jc.bits6 (fun HT_ HW_ => ?_);generalize w50.drew = w51 at qk HB jz QR QQ QP qA qL qK qJ qI qH qG hHeld ⊢;refine pu HT_ 0 ?_;refine pu HT_ 2 ?_;refine pu HT_ 3 ?_;refine pu HT_ 4 ?_;refine ta HT_ HW_ hHeld 1 ?_;refine ta HT_ HW_ hHeld 5 ?_;refine on HT_ 6 (fun K hK => ?_);refine gsB Try.func102 (yM.calls k2 _ _ ((qb l0 qp).f0.f0) _ _ ((qb l0 0).f0.f0) false _ (cv jI HB) jY.out (cv jz HB) zx.out A11.out) (fun w52 hb => ?_);replace qk := b1 qk hb;replace HB := b2s bs hb;refine hK.out _ _ kp (fun hHeld => ?_);(try clear hb)
        clear hK K;refine norm_ (a' := ?_) ?_ ?_; rotate_left; go_simp; rfl;refine pu HT_ 7 ?_;refine pu HT_ 8 ?_;refine sk HT_ 9 ?_;refine sk HT_ 10 ?_;refine sk HT_ 11 ?_;refine sk HT_ 12 ?_;refine sk HT_ 13 ?_;refine sk HT_ 14 ?_;refine sk HT_ 15 ?_;refine pu HT_ 16 ?_;refine pu HT_ 17 ?_;refine sk HT_ 18 ?_;refine sk HT_ 19 ?_;refine sk HT_ 20 ?_;refine sk HT_ 21 ?_;refine sk HT_ 22 ?_;refine sk HT_ 23 ?_;refine sk HT_ 24 ?_;refine pu HT_ 25 ?_;refine pu HT_ 26 ?_;refine sk HT_ 27 ?_;refine sk HT_ 28 ?_;refine sk HT_ 29 ?_;refine sk HT_ 30 ?_;refine sk HT_ 31 ?_;refine sk HT_ 32 ?_;refine sk HT_ 33 ?_;refine sk HT_ 34 ?_;refine sk HT_ 35 ?_;refine sk HT_ 36 ?_;refine sk HT_ 37 ?_;refine sk HT_ 38 ?_;refine pu HT_ 39 ?_;refine done_ (done_of HT_.out (by kernel_rfl)) ?_;try go_wp2
        go_ret;exact ⟨o1, bs⟩
      ·obtain rfl := Option.some.inj H;go_wp2;go_ret;exact ⟨o1, bw HB.out⟩

end Go.Proofs.Ytagedmajlppohaa.Q
