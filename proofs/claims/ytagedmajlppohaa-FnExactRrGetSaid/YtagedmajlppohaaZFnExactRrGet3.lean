/- Printed by a program of this session (wip/myprint.py), which drives the kit's printer: functions and what their calls do. -/
import Derived.Test.YtagedmajlppohaaZFnExactRrGet0
import Derived.Test.YtagedmajlppohaaZFnExactRrGet1
import Derived.Test.YtagedmajlppohaaZFnExactRrGet2
namespace Go.Proofs.Ytagedmajlppohaa.Q
open Go.RowKit Go Go.Proofs.YtagedmajlppohaaW.PrintWords Go.Proofs.YtagedmajlppohaaW.PrintLast Go.Proofs.YtagedmajlppohaaW.PrintMore

set_option linter.unusedVariables false
set_option linter.unusedSimpArgs false

/-! ### qd: function 164 -/

/-- What is written over n bytes, numbers from k on. -/
def qd.mk (k : Int) (n : Nat) : List Int := (List.range n).map fun (j : Nat) => (k + (j : Int)) % 256
theorem qd.mk_len (k : Int) (n : Nat) : (qd.mk k n).length = n := by simp [qd.mk]
theorem qd.mk_set (k : Int) (l : List Int) (i : Nat) (h : i < l.length) : (qd.mk k i ++ l.drop i).set i ((k + i) % 256) = qd.mk k (i + 1) ++ l.drop (i + 1) := by
 rw [List.set_append_right _ _ (by rw [qd.mk_len]; omega), qd.mk_len, Nat.sub_self, List.drop_eq_getElem_cons h, List.set_cons_zero];unfold qd.mk;rw [List.range_succ, List.map_append, List.append_assoc];rfl
set_option maxHeartbeats 8000000 in
set_option maxRecDepth 100000 in
/-- markByteS: numbers are written over the bytes of an own row. -/
theorem qd.bytes (P : Nat → Prop) (u : Value) (l : List Int) (k0 : Int) (base : Nat) (w : World) (h : Kd.R (Kd.int .u8) 5 w base P u l) (h0 : 0 ≤ k0) (h1 : k0 + l.length ≤ 4611686018427387904) :
  Calls Try.prog 29 #[u, .int .i64 k0] w fun e w' => e = .returned (.int .i64 (k0 + l.length)) ∧ Mark P w w' ∧ Kd.R (Kd.int .u8) 5 w' base P u (qd.mk k0 l.length) := by
 have HO := Aside0.mk h;clear h;go_enter Try.func29, Try.ntmps29;go_wp2;go_loopg [1, 5] l.length (fun kq v1 v5 w' => ∃ i : Nat, i ≤ l.length ∧ l.length - i ≤ kq ∧ v1 = .int .i64 (k0 + i) ∧ v5 = .int .i64 i ∧ Aside0 (Kd.R (Kd.int .u8) 5 w' base P u (qd.mk k0 i ++ l.drop i)) ∧ Aside0 (Mark P w w'))
 case atStart => exact ⟨0, Nat.zero_le _, by omega, by simp, rfl, ⟨by simpa [qd.mk] using HO.out⟩, ⟨Mark.refl _ _⟩⟩
 case round =>
  clear HO;obtain ⟨i, hi, hg, rfl, rfl, HO, HM⟩ := hrel;have hlen : (qd.mk k0 i ++ l.drop i).length = l.length := by rw [List.length_append, qd.mk_len, List.length_drop]; omega
  by_cases hlt : i < l.length
  ·have hset := Aside0.mk (qd.mk_set k0 l i hlt);generalize qd.mk k0 i ++ l.drop i = xs at HO hlen hset;obtain ⟨Ao6, co6, eo6⟩ := Kd.R_slice HO.out;subst eo6;have p5 : 0 ≤ (i : Int) := by omega
   have q5 : (i : Int) < ((xs.length : Int) : Int) := by omega
   obtain ⟨go5, co5, eo5, gb5, gl5, cl5, HG5⟩ := Kd.R_form HO.out (by omega);(first | cases eo5 | (injection eo5 with ea_ en_ ec_; (first | subst ea_ | (injection ea_ with ea_; subst ea_)); subst ec_; clear en_))
   have GG5 := Aside0.mk HG5;clear gb5 gl5 HG5;obtain ⟨hx5, hf5⟩ := Kd.R_celln 0 HO.out (i : Int) p5 q5;have hti : ((i : Int)).toNat = i := by omega
   have HP7 := Aside0.mk (Kd.R_putg HO.out (i : Int) ((k0 + i) % 256));rw [hti] at hx5 hf5 HP7;have HC := Aside0.mk ((blk_cell GG5.out i).symm.trans hx5);clear hti hlen;have HPo := Aside0.mk (HO.out.1 go5 rfl);go_wp2_with (first | ((with_reducible refine gate_store (t := 5) (p := 16) rfl ?_); refine store_event (t := 5) (p := 16) (v := ?vo_w8) (w1 := (wr.setCell ⟨go5, i, none⟩ (.int .u8 ((k0 + i) % 256)))) ?hg ?ho ?hn ?hr ?_; (case ho => rfl); (case hg => rfl); (case hn => rfl); (case hr => first | (go_simp; done) | (go_simp; rfl)); intro w8 hw; replace HO : Aside0 (Kd.R (Kd.int .u8) 5 w8 base P (.slice (some ⟨go5, 0, none⟩) xs.length co6) (qd.mk k0 (i + 1) ++ l.drop (i + 1))) := ⟨by rw [hw, ← hset.out]; exact HP7.out.1⟩; replace HM : Aside0 (Mark P w w8) := ⟨by rw [hw]; exact HM.out.trans (Mark.set GG5.out HC.out HPo.out)⟩; clear HP7 hw));go_roundg (l.length - (i + 1));case measure => omega
   case rel => exact ⟨i + 1, by omega, by omega, by go_num, by go_num, HO, HM⟩
  ·have : i = l.length := by omega
   subst this;rw [List.drop_of_length_le (Nat.le_refl _), List.append_nil] at HO hlen;obtain ⟨xs, hxs⟩ : ∃ xs, qd.mk k0 l.length = xs := ⟨_, rfl⟩;rw [hxs] at HO hlen;have HX := Aside0.mk hxs;clear hxs;obtain ⟨Ao9, co9, eo9⟩ := Kd.R_slice HO.out;subst eo9;have hlz : ¬ (l.length : Int) < (xs.length : Int) := by omega
   clear hlen;go_wp2;go_ret;exact ⟨rfl, HM.out, by rw [HX.out]; exact HO.out⟩
def qd.all (k : Int) : List (List Int) → List (List Int)
 | [] => []
 | x :: l => qd.mk k x.length :: qd.all (k + x.length) l
def qd.sum (l : List (List Int)) : Nat := (l.map List.length).sum
theorem qd.all_len (l : List (List Int)) : ∀ k, (qd.all k l).length = l.length := by
 induction l with
 | nil => intro k; rfl
 | cons x l ih => intro k; simp [qd.all, ih]
theorem qd.all_snoc (l : List (List Int)) (x : List Int) : ∀ k, qd.all k (l ++ [x]) = qd.all k l ++ [qd.mk (k + (qd.sum l : Int)) x.length] := by
 induction l with
 | nil => intro k; simp [qd.all, qd.sum]
 | cons y l ih =>
  intro k;simp only [List.cons_append, qd.all, ih, qd.sum, List.map_cons, List.sum_cons];rw [show k + (y.length : Int) + ((l.map List.length).sum : Nat) = k + ((y.length + (l.map List.length).sum : Nat) : Int) by omega]
theorem qd.sum_snoc (l : List (List Int)) (x : List Int) : qd.sum (l ++ [x]) = qd.sum l + x.length := by simp [qd.sum]
theorem qd.sum_take (l : List (List Int)) (k : Nat) : qd.sum (l.take k) ≤ qd.sum l := by
 have h := congrArg qd.sum (List.take_append_drop k l);have h2 : qd.sum (l.take k ++ l.drop k) = qd.sum (l.take k) + qd.sum (l.drop k) := by simp only [qd.sum, List.map_append, List.sum_append]
 omega
set_option maxHeartbeats 8000000 in
set_option maxRecDepth 100000 in
theorem qd.marks (P0_ : Nat → Prop) (zK : Value) (l0 : List (List Int)) (a1 : Int) (base : Nat) (w : World) (ho0 : Kd.S (Kd.slice 5 (Kd.int .u8)) 25 w base P0_ zK l0) (h0 : 0 ≤ a1) (h1 : a1 + (qd.sum l0 : Int) ≤ 4611686018427387904) :
  Calls Try.prog 164 #[zK, .int .i64 a1] w fun e w' => e = .returned (.int .i64 (a1 + (qd.sum l0 : Int))) ∧ Mark P0_ w w' ∧ Kd.S (Kd.slice 5 (Kd.int .u8)) 25 w' base P0_ zK (qd.all a1 l0) := by
 have HO := Aside0.mk ho0
 have hbig : l0.length ≤ 9223372036854775807 := by
  obtain ⟨A, c, rfl, _, hr⟩ := Kd.R_reads (Kd.S_R ho0);exact hr.2.1
 obtain ⟨A0, c0, rfl⟩ : ∃ A c, zK = .slice A l0.length c := by
  obtain ⟨A, c, rfl, _⟩ := Kd.R_reads (Kd.S_R ho0);exact ⟨A, c, rfl⟩
 have H1 := Aside0.mk h1;clear ho0 h1;go_enter Try.func164, Try.ntmps164;go_wp2;go_loopg [1, 5] l0.length (fun kq v1 v5 w' => ∃ i : Nat, i ≤ l0.length ∧ l0.length - i ≤ kq ∧ v1 = .int .i64 (a1 + (qd.sum (l0.take i) : Int)) ∧ v5 = .int .i64 i ∧ Aside0 (Kd.S (Kd.slice 5 (Kd.int .u8)) 25 w' base P0_ (.slice A0 l0.length c0) (qd.all a1 (l0.take i) ++ l0.drop i)) ∧ Aside0 (Mark P0_ w w'))
 case atStart => exact ⟨0, Nat.zero_le _, by omega, by simp [qd.sum], rfl, ⟨by simpa [qd.all] using HO.out⟩, ⟨Mark.refl _ _⟩⟩
 case round =>
  clear HO;obtain ⟨i, hi, hg, rfl, rfl, HO, HM⟩ := hrel;have hal : (qd.all a1 (l0.take i)).length = i := by rw [qd.all_len, List.length_take]; omega
  by_cases hlt : i < l0.length
  ·have hlen : (qd.all a1 (l0.take i) ++ l0.drop i).length = l0.length := by rw [List.length_append, hal, List.length_drop]; omega
   obtain ⟨P, c, g, cap, hP, hv, hM, hcc, hback⟩ := S_at HO.out i (by omega);rw [hlen] at hv;injection hv with e1 e2 e3
   subst e1; subst e3
   have hxe : (qd.all a1 (l0.take i) ++ l0.drop i)[i]'(by omega) = l0[i] := by
    rw [List.getElem_append_right (by omega)]; simp [hal]
   rw [hxe] at hM;obtain ⟨vi, rfl, hR⟩ := hM;obtain ⟨Ai, ci, rfl, hli, hCi⟩ := Kd.R_reads hR;have hcell : wr.cell? ⟨g, i, none⟩ = some (.slice Ai l0[i].length ci) := by have := hcc 0 _ rfl; simpa [Kd.slice] using this
   have hset : (qd.all a1 (l0.take i) ++ l0.drop i).set i (qd.mk (a1 + (qd.sum (l0.take i) : Int)) l0[i].length) = qd.all a1 (l0.take (i + 1)) ++ l0.drop (i + 1) := by
    rw [List.take_succ_eq_append_getElem hlt, qd.all_snoc, List.set_append_right _ _ (by omega), hal, Nat.sub_self, List.drop_eq_getElem_cons hlt, List.set_cons_zero, List.append_assoc];rfl
   have hst := qd.sum_take l0 (i + 1);have hss : qd.sum (l0.take (i + 1)) = qd.sum (l0.take i) + l0[i].length := by rw [List.take_succ_eq_append_getElem hlt, qd.sum_snoc]
   have h1' := H1.out;have hcall := qd.bytes P (.slice Ai l0[i].length ci) l0[i] (a1 + (qd.sum (l0.take i) : Int)) base wr hR (by omega) (by omega);have HBK := Aside0.mk (fun (w' : World) (hm : Mark P wr w') (hr : Kd.R (Kd.int .u8) 5 w' base P (.slice Ai l0[i].length ci) (qd.mk (a1 + (qd.sum (l0.take i) : Int)) l0[i].length)) => hback w' (qd.mk (a1 + (qd.sum (l0.take i) : Int)) l0[i].length) hm ⟨_, rfl, hr⟩);rw [hset] at HBK;have HSS := Aside0.mk hss;have HPP := Aside0.mk hP;have hk2 : a1 + (qd.sum (l0.take i) : Int) + (l0[i].length : Int) = a1 + (qd.sum (l0.take (i + 1)) : Int) := by omega
   rw [hk2] at hcall;clear hback hR hCi hli hset hxe hlen hal hcc HO hst hss h1' hk2 hP;have hltz : (i : Int) < (l0.length : Int) := by omega
   have hi0 : 0 ≤ (i : Int) := by omega
   generalize l0[i] = x at hcell hcall HBK HSS;go_wp2_with (first | (go_at_call 29; refine hcall.mono ?_; rintro e w2 ⟨rfl, hm, hr⟩; have HO := Aside0.mk (HBK.out w2 hm hr); replace HM := Aside0.mk (HM.out.trans (hm.mono HPP.out)); clear hm hr HBK hcall));go_roundg (l0.length - (i + 1));case measure => omega
   case rel => exact ⟨i + 1, by omega, by omega, rfl, by go_num, HO, HM⟩
  ·have : i = l0.length := by omega
   subst this;rw [List.take_of_length_le (Nat.le_refl _), List.drop_of_length_le (Nat.le_refl _), List.append_nil] at HO;rw [List.take_of_length_le (Nat.le_refl _)];clear hal;have hlz : ¬ (l0.length : Int) < (l0.length : Int) := by omega
   go_wp2;go_ret;exact ⟨rfl, HM.out, HO.out⟩
/-! ### Qo: function 88 -/

set_option maxHeartbeats 2000000 in
theorem Qo.marks (P0_ : Nat → Prop) (zK : Value) (l0 : List (List Int)) (a1 : Int) (base : Nat) (w : World) (ho0 : Kd.S (Kd.slice 5 (Kd.int .u8)) 25 w base P0_ zK l0) (h0 : 0 ≤ a1) (h1 : a1 + (qd.sum l0 : Int) ≤ 4611686018427387904) :
  Calls Try.prog 88 #[.agg #[zK], .int .i64 a1] w fun e w' => e = .returned (.int .i64 (a1 + (qd.sum l0 : Int))) ∧ Mark P0_ w w' ∧ Kd.S (Kd.slice 5 (Kd.int .u8)) 25 w' base P0_ zK (qd.all a1 l0) := by
 have HO := Aside0.mk ho0;have HB := Aside0.mk (Below.refl w.heap.size w)
 obtain ⟨A0, c0, rfl⟩ : ∃ A c, zK = .slice A l0.length c := by
  obtain ⟨A, c, rfl, _⟩ := Kd.R_reads (Kd.S_R ho0);exact ⟨A, c, rfl⟩
 have H1 := Aside0.mk h1;clear ho0 h1;go_enter Try.func88, Try.ntmps88;go_wp2_with (first | ((with_reducible refine gate_dst (N := 2) rfl ?_); refine boxed (N := 2) rfl rfl (cs := #[.slice A0 l0.length c0]) (t := 31) HB.out (by first | (go_simp; done) | (go_simp; rfl)) ?_; clear HB; intro gb w2 hg HB BK GE hb; clear hg hb; obtain ⟨hz0, hf0⟩ := cells1 BK.out) | (go_at_call 164; refine (qd.marks P0_ (.slice A0 l0.length c0) l0 a1 base _ (Kd.S_below HO.out (bw HB.out)) h0 H1.out).mono ?_; rintro e w3 ⟨rfl, hm, hs⟩));go_ret;exact ⟨rfl, (Mark.of_below HB.out).trans hm, hs⟩
/-! ### qj: function 30 -/

/-- What is written over n numbers, numbers from k on. -/
def qj.mkI (k : Int) (n : Nat) : List Int := (List.range n).map fun (j : Nat) => k + (j : Int)
theorem qj.mkI_len (k : Int) (n : Nat) : (qj.mkI k n).length = n := by simp [qj.mkI]
theorem qj.mkI_set (k : Int) (l : List Int) (i : Nat) (h : i < l.length) : (qj.mkI k i ++ l.drop i).set i (k + i) = qj.mkI k (i + 1) ++ l.drop (i + 1) := by
 rw [List.set_append_right _ _ (by rw [qj.mkI_len]; omega), qj.mkI_len, Nat.sub_self, List.drop_eq_getElem_cons h, List.set_cons_zero];unfold qj.mkI;rw [List.range_succ, List.map_append, List.append_assoc];rfl
set_option maxHeartbeats 8000000 in
set_option maxRecDepth 100000 in
/-- markIntS: numbers are written over the numbers of an own row. -/
theorem qj.ints (P : Nat → Prop) (u : Value) (l : List Int) (k0 : Int) (base : Nat) (w : World) (h : Kd.R (Kd.int .i64) 3 w base P u l) (h0 : 0 ≤ k0) (h1 : k0 + l.length ≤ 4611686018427387904) :
  Calls Try.prog 89 #[u, .int .i64 k0] w fun e w' => e = .returned (.int .i64 (k0 + l.length)) ∧ Mark P w w' ∧ Kd.R (Kd.int .i64) 3 w' base P u (qj.mkI k0 l.length) := by
 have HO := Aside0.mk h;clear h;go_enter Try.func89, Try.ntmps89;go_wp2;go_loopg [1, 5] l.length (fun kq v1 v5 w' => ∃ i : Nat, i ≤ l.length ∧ l.length - i ≤ kq ∧ v1 = .int .i64 (k0 + i) ∧ v5 = .int .i64 i ∧ Aside0 (Kd.R (Kd.int .i64) 3 w' base P u (qj.mkI k0 i ++ l.drop i)) ∧ Aside0 (Mark P w w'))
 case atStart => exact ⟨0, Nat.zero_le _, by omega, by simp, rfl, ⟨by simpa [qj.mkI] using HO.out⟩, ⟨Mark.refl _ _⟩⟩
 case round =>
  clear HO;obtain ⟨i, hi, hg, rfl, rfl, HO, HM⟩ := hrel;have hlen : (qj.mkI k0 i ++ l.drop i).length = l.length := by rw [List.length_append, qj.mkI_len, List.length_drop]; omega
  by_cases hlt : i < l.length
  ·have hset := Aside0.mk (qj.mkI_set k0 l i hlt);generalize qj.mkI k0 i ++ l.drop i = xs at HO hlen hset;obtain ⟨Ao6, co6, eo6⟩ := Kd.R_slice HO.out;subst eo6;have p5 : 0 ≤ (i : Int) := by omega
   have q5 : (i : Int) < ((xs.length : Int) : Int) := by omega
   obtain ⟨go5, co5, eo5, gb5, gl5, cl5, HG5⟩ := Kd.R_form HO.out (by omega);(first | cases eo5 | (injection eo5 with ea_ en_ ec_; (first | subst ea_ | (injection ea_ with ea_; subst ea_)); subst ec_; clear en_))
   have GG5 := Aside0.mk HG5;clear gb5 gl5 HG5;obtain ⟨hx5, hf5⟩ := Kd.R_celln 0 HO.out (i : Int) p5 q5;have hti : ((i : Int)).toNat = i := by omega
   have HP7 := Aside0.mk (Kd.R_putg HO.out (i : Int) (k0 + i));rw [hti] at hx5 hf5 HP7;have HC := Aside0.mk ((blk_cell GG5.out i).symm.trans hx5);clear hti hlen;have HPo := Aside0.mk (HO.out.1 go5 rfl);go_wp2_with (first | ((with_reducible refine gate_store (t := 3) (p := 15) rfl ?_); refine store_event (t := 3) (p := 15) (v := ?vo_w8) (w1 := (wr.setCell ⟨go5, i, none⟩ (.int .i64 (k0 + i)))) ?hg ?ho ?hn ?hr ?_; (case ho => rfl); (case hg => rfl); (case hn => rfl); (case hr => first | (go_simp; done) | (go_simp; rfl)); intro w8 hw; replace HO : Aside0 (Kd.R (Kd.int .i64) 3 w8 base P (.slice (some ⟨go5, 0, none⟩) xs.length co6) (qj.mkI k0 (i + 1) ++ l.drop (i + 1))) := ⟨by rw [hw, ← hset.out]; exact HP7.out.1⟩; replace HM : Aside0 (Mark P w w8) := ⟨by rw [hw]; exact HM.out.trans (Mark.set GG5.out HC.out HPo.out)⟩; clear HP7 hw));go_roundg (l.length - (i + 1));case measure => omega
   case rel => exact ⟨i + 1, by omega, by omega, by go_num, by go_num, HO, HM⟩
  ·have : i = l.length := by omega
   subst this;rw [List.drop_of_length_le (Nat.le_refl _), List.append_nil] at HO hlen;obtain ⟨xs, hxs⟩ : ∃ xs, qj.mkI k0 l.length = xs := ⟨_, rfl⟩;rw [hxs] at HO hlen;have HX := Aside0.mk hxs;clear hxs;obtain ⟨Ao9, co9, eo9⟩ := Kd.R_slice HO.out;subst eo9;have hlz : ¬ (l.length : Int) < (xs.length : Int) := by omega
   clear hlen;go_wp2;go_ret;exact ⟨rfl, HM.out, by rw [HX.out]; exact HO.out⟩

def qj.n (qo qF : List (List Int)) (qG qy : List Int) : Nat := qd.sum qo + qd.sum qF + qG.length + qy.length
theorem qj.S_apart {α : Type} {d : Kd α} {e base : Nat} {P Q : Nat → Prop} {w w' : World} {v : Value} {xs : List α} (hm : Mark P w w') (h : d.S e w base Q v xs) (hd : ∀ k, Q k → ¬ P k) : d.S e w' base Q v xs := Kd.S_step h (fun k hk hl => hm.out k hl (hd k hk))
theorem qj.R_apart {α : Type} {d : Kd α} {e base : Nat} {P Q : Nat → Prop} {w w' : World} {v : Value} {xs : List α} (hm : Mark P w w') (h : d.R e w base Q v xs) (hd : ∀ k, Q k → ¬ P k) : d.R e w' base Q v xs := Kd.R_step h (fun k hk hl => hm.out k hl (hd k hk))
set_option maxHeartbeats 8000000 in
set_option maxRecDepth 100000 in
theorem qj.exact (P0 P4 P5 P6 : Nat → Prop) (u0 u4 u5 u6 : Value) (l0 : List (List Int)) (b1 b2 b3 : Int) (l4 : List (List Int)) (l5 l6 : List Int) (a1 : Int) (base : Nat) (w : World) (h0 : Kd.S (Kd.slice 5 (Kd.int .u8)) 25 w base P0 u0 l0) (h4 : Kd.S (Kd.slice 5 (Kd.int .u8)) 25 w base P4 u4 l4) (h5 : Kd.R (Kd.int .u8) 5 w base P5 u5 l5) (h6 : Kd.R (Kd.int .i64) 3 w base P6 u6 l6)
  (d40 : ∀ k, P4 k → ¬ P0 k) (d50 : ∀ k, P5 k → ¬ P0 k) (d60 : ∀ k, P6 k → ¬ P0 k) (d54 : ∀ k, P5 k → ¬ P4 k) (d64 : ∀ k, P6 k → ¬ P4 k) (d65 : ∀ k, P6 k → ¬ P5 k) (hP : ∀ k, P0 k ∨ P4 k ∨ P5 k ∨ P6 k → k < w.heap.size) (ha : 0 ≤ a1) (hb : a1 + (qj.n l0 l4 l5 l6 : Int) ≤ 4611686018427387904) :
  Calls Try.prog 30 #[.agg #[u0, .int .i64 b1, .int .i64 b2, .int .i64 b3, u4, u5, u6], .int .i64 a1] w fun e w' => e = .returned (.int .i64 (a1 + (qj.n l0 l4 l5 l6 : Int))) ∧ Mark (fun k => P0 k ∨ P4 k ∨ P5 k ∨ P6 k) w w' ∧ Kd.S (Kd.slice 5 (Kd.int .u8)) 25 w' base P0 u0 (qd.all a1 l0) ∧ Kd.S (Kd.slice 5 (Kd.int .u8)) 25 w' base P4 u4 (qd.all (a1 + (qd.sum l0 : Int)) l4) ∧ Kd.R (Kd.int .u8) 5 w' base P5 u5 (qd.mk (a1 + (qd.sum l0 : Int) + (qd.sum l4 : Int)) l5.length) ∧ Kd.R (Kd.int .i64) 3 w' base P6 u6 (qj.mkI (a1 + (qd.sum l0 : Int) + (qd.sum l4 : Int) + (l5.length : Int)) l6.length) := by
 have H0 := Aside0.mk h0;have H4 := Aside0.mk h4;have H5 := Aside0.mk h5;have H6 := Aside0.mk h6;have HB := Aside0.mk (Below.refl w.heap.size w);obtain ⟨A0, c0, rfl⟩ : ∃ A c, u0 = .slice A l0.length c := by obtain ⟨A, c, rfl, _⟩ := Kd.R_reads (Kd.S_R h0); exact ⟨A, c, rfl⟩
 obtain ⟨A4, c4, rfl⟩ : ∃ A c, u4 = .slice A l4.length c := by obtain ⟨A, c, rfl, _⟩ := Kd.R_reads (Kd.S_R h4); exact ⟨A, c, rfl⟩
 obtain ⟨A5, c5, rfl⟩ : ∃ A c, u5 = .slice A l5.length c := by obtain ⟨A, c, rfl, _⟩ := Kd.R_reads h5; exact ⟨A, c, rfl⟩
 obtain ⟨A6, c6, rfl⟩ : ∃ A c, u6 = .slice A l6.length c := by obtain ⟨A, c, rfl, _⟩ := Kd.R_reads h6; exact ⟨A, c, rfl⟩
 obtain ⟨n0, e0⟩ : ∃ n, qd.sum l0 = n := ⟨_, rfl⟩;obtain ⟨n4, e4⟩ : ∃ n, qd.sum l4 = n := ⟨_, rfl⟩;have hn : qj.n l0 l4 l5 l6 = n0 + n4 + l5.length + l6.length := by unfold qj.n; rw [e0, e4]
 rw [hn] at hb ⊢;rw [e0, e4];have E0 := Aside0.mk e0;have E4 := Aside0.mk e4;have hq : a1 + (n0 : Int) + (n4 : Int) + (l5.length : Int) + (l6.length : Int) ≤ 4611686018427387904 := by omega
 clear h0 h4 h5 h6 e0 e4 hn hb;go_enter Try.func30, Try.ntmps30;go_wp2_with (first | ((with_reducible refine gate_dst (N := 2) rfl ?_); refine boxed (N := 2) rfl rfl (cs := #[.slice A0 l0.length c0, .int .i64 b1, .int .i64 b2, .int .i64 b3, .slice A4 l4.length c4, .slice A5 l5.length c5, .slice A6 l6.length c6]) (t := 33) HB.out (by first | (go_simp; done) | (go_simp; rfl)) ?_; clear HB; intro gb w2 hg HB BK GE hb; clear hg hb; obtain ⟨hz0, hz1, hz2, hz3, hz4, hz5, hz6, hf0, hf1, hf2, hf3, hf4, hf5, hf6⟩ := cells7 BK.out) | (go_at_call 88; (with_reducible refine (Qo.marks P0 (.slice A0 l0.length c0) l0 a1 base w2 ?s1 ?s2 ?s3).mono ?_); (case s1 => exact Kd.S_below H0.out HB.out); (case s2 => exact ha); (case s3 => rw [E0.out]; omega); rintro e w3 ⟨rfl, hm, hs⟩; clear hz0 hz1 hz2 hz3 hz4 hz5 hz6 hf0 hf1 hf2 hf3 hf4 hf5 hf6; have G0 := Aside0.mk hs; have G4 := Aside0.mk (qj.S_apart hm (Kd.S_below H4.out HB.out) d40); have G5 := Aside0.mk (qj.R_apart hm (Kd.R_below H5.out HB.out) d50); have G6 := Aside0.mk (qj.R_apart hm (Kd.R_below H6.out HB.out) d60); have HM := Aside0.mk ((Mark.of_below HB.out).trans (hm.mono (P' := fun k => P0 k ∨ P4 k ∨ P5 k ∨ P6 k) (fun k hk => .inl hk))); replace BK := Aside0.mk ((hm.out gb (blk_lt BK.out) (fun hp => by have h1 := hP gb (.inl hp); have h2 := GE.out; omega)).trans BK.out); rw [E0.out]; clear hs hm; obtain ⟨hz0, hz1, hz2, hz3, hz4, hz5, hz6, hf0, hf1, hf2, hf3, hf4, hf5, hf6⟩ := cells7 BK.out) | (go_at_call 88; (with_reducible refine (Qo.marks P4 (.slice A4 l4.length c4) l4 (a1 + (n0 : Int)) base w3 ?s1 ?s2 ?s3).mono ?_); (case s1 => exact G4.out); (case s2 => omega); (case s3 => rw [E4.out]; omega); rintro e w4 ⟨rfl, hm, hs⟩; clear hz0 hz1 hz2 hz3 hz4 hz5 hz6 hf0 hf1 hf2 hf3 hf4 hf5 hf6; replace G0 := Aside0.mk (qj.S_apart hm G0.out (fun k hk hj => d40 k hj hk)); replace G4 := Aside0.mk hs; replace G5 := Aside0.mk (qj.R_apart hm G5.out d54); replace G6 := Aside0.mk (qj.R_apart hm G6.out d64); replace HM := Aside0.mk (HM.out.trans (hm.mono (fun k hk => .inr (.inl hk)))); replace BK := Aside0.mk ((hm.out gb (blk_lt BK.out) (fun hp => by have h1 := hP gb (.inr (.inl hp)); have h2 := GE.out; omega)).trans BK.out); rw [E4.out]; clear hs hm; obtain ⟨hz0, hz1, hz2, hz3, hz4, hz5, hz6, hf0, hf1, hf2, hf3, hf4, hf5, hf6⟩ := cells7 BK.out) | (go_at_call 29; (with_reducible refine (qd.bytes P5 _ l5 (a1 + (n0 : Int) + (n4 : Int)) base w4 ?s1 ?s2 ?s3).mono ?_); (case s1 => exact G5.out); (case s2 => omega); (case s3 => omega); rintro e w5 ⟨rfl, hm, hs⟩; clear hz0 hz1 hz2 hz3 hz4 hz5 hz6 hf0 hf1 hf2 hf3 hf4 hf5 hf6; replace G0 := Aside0.mk (qj.S_apart hm G0.out (fun k hk hj => d50 k hj hk)); replace G4 := Aside0.mk (qj.S_apart hm G4.out (fun k hk hj => d54 k hj hk)); replace G5 := Aside0.mk hs; replace G6 := Aside0.mk (qj.R_apart hm G6.out d65); replace HM := Aside0.mk (HM.out.trans (hm.mono (fun k hk => .inr (.inr (.inl hk))))); replace BK := Aside0.mk ((hm.out gb (blk_lt BK.out) (fun hp => by have h1 := hP gb (.inr (.inr (.inl hp))); have h2 := GE.out; omega)).trans BK.out); clear hs hm; obtain ⟨hz0, hz1, hz2, hz3, hz4, hz5, hz6, hf0, hf1, hf2, hf3, hf4, hf5, hf6⟩ := cells7 BK.out) | (go_at_call 89; (with_reducible refine (qj.ints P6 _ l6 (a1 + (n0 : Int) + (n4 : Int) + (l5.length : Int)) base w5 ?s1 ?s2 ?s3).mono ?_); (case s1 => exact G6.out); (case s2 => omega); (case s3 => omega); rintro e w6 ⟨rfl, hm, hs⟩; replace G0 := Aside0.mk (qj.S_apart hm G0.out (fun k hk hj => d60 k hj hk)); replace G4 := Aside0.mk (qj.S_apart hm G4.out (fun k hk hj => d64 k hj hk)); replace G5 := Aside0.mk (qj.R_apart hm G5.out (fun k hk hj => d65 k hj hk)); replace G6 := Aside0.mk hs; replace HM := Aside0.mk (HM.out.trans (hm.mono (fun k hk => .inr (.inr (.inr hk))))); clear hs hm));go_ret;exact ⟨by show Ending.returned (.int .i64 (a1 + (n0 : Int) + (n4 : Int) + (l5.length : Int) + (l6.length : Int))) = _; rw [show a1 + (n0 : Int) + (n4 : Int) + (l5.length : Int) + (l6.length : Int) = a1 + ((n0 + n4 + l5.length + l6.length : Nat) : Int) from by omega], HM.out, G0.out, G4.out, G5.out, G6.out⟩
/-! ### qC: function 91 -/
def qC.l0 : Nat → List Int → Int → Int → Option (Int)
 | 0, _, _, _ => none
 | k + 1, x0, x1, x5 => if x5 < (x0.length : Int) then (if 0 ≤ x5 then (if (rd x0 x5) = ((x1) % 256) then (qC.l0 k x0 (wrap64 (x1 + 1)) (wrap64 (x5 + 1))) else (some (-1))) else (none)) else (some x1)
def qC.f (k : Nat) (l0 : List Int) (a1 : Int) : Option (Int) := qC.l0 k l0 a1 0
set_option maxHeartbeats 8000000 in
set_option maxRecDepth 100000 in
theorem qC.calls (k : Nat) (A0 : Option Addr) (c0 : Nat) (l0 : List Int) (a1 : Int) (r : Int) (w : World) (hr0 : Kd.C (Kd.int .u8) w A0 l0.length l0) (hc0 : l0.length ≤ c0) (h : qC.f k l0 a1 = some r) :
  Calls Try.prog 91 #[.slice A0 l0.length c0, .int .i64 a1] w fun e w' => e = .returned (.int .i64 r) ∧ Drawn0 w w' := by
 have HR0 := ak hr0;have HC0 := ak hc0;clear hr0 hc0;have H : (qC.l0 k l0 a1 0) = some r := h;clear h;have H' := ak H;clear H;go_enter Try.func91, Try.ntmps91;go_wp2;go_loopg [1, 5] k (fun kq v1 v5 w' => ∃ (jA : Int) (qJ : Int), v1 = .int .i64 jA ∧ v5 = .int .i64 qJ ∧ Aside0 (qC.l0 kq l0 jA qJ = some r) ∧ Aside0 (kq ≤ k) ∧ Drawn0 w w')
 case atStart => exact ⟨(a1), (0), o2, o2, H', ⟨Nat.le_refl _⟩, od⟩
 case round =>
  clear H';obtain ⟨jA, qJ, rfl, rfl, HA, HK1, ⟨m1, rfl⟩⟩ := hrel;cases gk with
  | zero => exact absurd HA.out (by simp [qC.l0])
  | succ k1 =>
   have H := HA.out;clear HA;simp only [qC.l0] at H;replace H := ip H;obtain ⟨c3b0, H⟩ | ⟨c3b0, H⟩ := H
   ·replace H := ipN H;obtain ⟨c4b0, H⟩ := H;replace H := ie H;obtain ⟨c5b0, c5b1, H⟩ | ⟨c5b0, c5b1, H⟩ := H
    ·have H' := ak H;clear H;obtain ⟨zk, rfl, jG, zE, zD⟩ := el0_int HR0 qJ;go_wp2;go_roundg k1;case measure => have := HK1.out; omega
     case rel => exact ⟨(wrap64 (jA + 1)), (wrap64 (qJ + 1)), o2, o2, H', ⟨by have := HK1.out; omega⟩, od⟩
    ·obtain rfl := Option.some.inj H;obtain ⟨zk, rfl, jG, zE, zD⟩ := el0_int HR0 qJ;go_wp2;go_ret;exact ⟨o2, od⟩
   ·obtain rfl := Option.some.inj H;go_wp2;go_ret;exact ⟨o2, od⟩

/-! ### qH: function 165 -/
def qH.l0 : Nat → List (List Int) → Int → Int → Option (Int)
 | 0, _, _, _ => none
 | k + 1, x0, x1, x5 => if x5 < (x0.length : Int) then (if 0 ≤ x5 then ((qC.f k (ja x0 x5) x1).bind fun jn => (if jn < 0 then (some (-1)) else (qH.l0 k x0 jn (wrap64 (x5 + 1))))) else (none)) else (some x1)
def qH.f (k : Nat) (l0 : List (List Int)) (a1 : Int) : Option (Int) := qH.l0 k l0 a1 0
set_option maxHeartbeats 8000000 in
set_option maxRecDepth 100000 in
theorem qH.calls (k : Nat) (A0 : Option Addr) (c0 : Nat) (l0 : List (List Int)) (a1 : Int) (r : Int) (w : World) (hr0 : Kd.C (Kd.slice 5 (Kd.int .u8)) w A0 l0.length l0) (hc0 : l0.length ≤ c0) (h : qH.f k l0 a1 = some r) :
  Calls Try.prog 165 #[.slice A0 l0.length c0, .int .i64 a1] w fun e w' => e = .returned (.int .i64 r) ∧ Drawn0 w w' := by
 have HR0 := ak hr0;have HC0 := ak hc0;clear hr0 hc0;have H : (qH.l0 k l0 a1 0) = some r := h;clear h;have H' := ak H;clear H;go_enter Try.func165, Try.ntmps165;go_wp2;go_loopg [1, 5] k (fun kq v1 v5 w' => ∃ (jA : Int) (qJ : Int), v1 = .int .i64 jA ∧ v5 = .int .i64 qJ ∧ Aside0 (qH.l0 kq l0 jA qJ = some r) ∧ Aside0 (kq ≤ k) ∧ Drawn0 w w')
 case atStart => exact ⟨(a1), (0), o2, o2, H', ⟨Nat.le_refl _⟩, od⟩
 case round =>
  clear H';obtain ⟨jA, qJ, rfl, rfl, HA, HK1, ⟨m1, rfl⟩⟩ := hrel;cases gk with
  | zero => exact absurd HA.out (by simp [qH.l0])
  | succ k1 =>
   have H := HA.out;clear HA;simp only [qH.l0] at H;replace H := ip H;obtain ⟨c3b0, H⟩ | ⟨c3b0, H⟩ := H
   ·replace H := ipN H;obtain ⟨c4b0, H⟩ := H;replace H := bnd H;obtain ⟨jn, A5, H⟩ := H;replace H := ip H;obtain ⟨c6b0, H⟩ | ⟨c6b0, H⟩ := H
    ·obtain rfl := Option.some.inj H;obtain ⟨zk, XU, XI, rfl, jG, yj, yh, zE, zD⟩ := el0_L10 HR0 qJ;go_wp2_with (((with_reducible refine gate_callee (f := 91) rfl ?_);refine glD 17 rfl rfl Try.func91 (qC.calls k1 _ _ (ja l0 qJ) jA jn _ (cd yh) yj.out A5.out) (fun nd => ?_)));go_ret;exact ⟨o2, od⟩
    ·have H' := ak H;clear H;obtain ⟨zk, XU, XI, rfl, jG, yj, yh, zE, zD⟩ := el0_L10 HR0 qJ;go_wp2_with (((with_reducible refine gate_callee (f := 91) rfl ?_);refine glD 17 rfl rfl Try.func91 (qC.calls k1 _ _ (ja l0 qJ) jA jn _ (cd yh) yj.out A5.out) (fun nd => ?_)));go_roundg k1;case measure => have := HK1.out; omega
     case rel => exact ⟨(jn), (wrap64 (qJ + 1)), o2, o2, H', ⟨by have := HK1.out; omega⟩, od⟩
   ·obtain rfl := Option.some.inj H;go_wp2;go_ret;exact ⟨o2, od⟩

/-! ### qW: function 90 -/
def qW.f (k : Nat) (qo : List (List Int)) (a1 : Int) : Option (Int) := (qH.f k qo a1).bind fun jn => (if jn < 0 then (some (-1)) else (some jn))
set_option maxHeartbeats 8000000 in
set_option maxRecDepth 100000 in
theorem qW.calls (k : Nat) (jV : Option Addr) (jU : Nat) (qo : List (List Int)) (a1 : Int) (r : Int) (w : World) (za : Kd.C (Kd.slice 5 (Kd.int .u8)) w jV qo.length qo) (zj : qo.length ≤ jU) (h : qW.f k qo a1 = some r) :
  Calls Try.prog 90 #[.agg #[.slice jV qo.length jU], .int .i64 a1] w fun e w' => e = .returned (.int .i64 r) ∧ Below w.heap.size w w' := by
 have QD := Try.underlying31;have jz := ak za;have jI := ak zj;clear za zj;have HB := ak (Below.refl w.heap.size w);have H : ((qH.f k qo a1).bind fun jn => (if jn < 0 then (some (-1)) else (some jn))) = some r := h;clear h;replace H := bnd H;obtain ⟨jn, A3, H⟩ := H;replace H := ip H;obtain ⟨c4b0, H⟩ | ⟨c4b0, H⟩ := H
 ·obtain rfl := Option.some.inj H;go_enter Try.func90, Try.ntmps90;go_wp2_with (first | ((with_reducible refine gate_dst (N := 2) rfl ?_);refine bxd (N := 2) rfl HB ?_;clear HB;intro qb w5 hg HB qc qA hb;have jv := qA;clear hb hg;obtain ⟨Xv, Xn⟩ := cells1 qc.out) | ((with_reducible refine gate_callee (f := 165) rfl ?_);refine glD 8 rfl rfl Try.func165 (qH.calls k _ _ qo a1 jn _ (cv jz HB) jI.out A3.out) (fun nd => ?_)));go_ret;exact ⟨o1, bs⟩
 ·obtain rfl := Option.some.inj H;go_enter Try.func90, Try.ntmps90;go_wp2_with (first | ((with_reducible refine gate_dst (N := 2) rfl ?_);refine bxd (N := 2) rfl HB ?_;clear HB;intro qb w7 hg HB qc qA hb;have jv := qA;clear hb hg;obtain ⟨qla, qk2⟩ := cells1 qc.out) | ((with_reducible refine gate_callee (f := 165) rfl ?_);refine glD 8 rfl rfl Try.func165 (qH.calls k _ _ qo a1 jn _ (cv jz HB) jI.out A3.out) (fun nd => ?_)));go_ret;exact ⟨o1, bs⟩

/-! ### qS: function 92 -/
def qS.l0 : Nat → List Int → Int → Int → Option (Int)
 | 0, _, _, _ => none
 | k + 1, x0, x1, x5 => if x5 < (x0.length : Int) then (if 0 ≤ x5 then (if (rd x0 x5) = x1 then (qS.l0 k x0 (wrap64 (x1 + 1)) (wrap64 (x5 + 1))) else (some (-1))) else (none)) else (some x1)
def qS.f (k : Nat) (l0 : List Int) (a1 : Int) : Option (Int) := qS.l0 k l0 a1 0
set_option maxHeartbeats 8000000 in
set_option maxRecDepth 100000 in
theorem qS.calls (k : Nat) (A0 : Option Addr) (c0 : Nat) (l0 : List Int) (a1 : Int) (r : Int) (w : World) (hr0 : Kd.C (Kd.int .i64) w A0 l0.length l0) (hc0 : l0.length ≤ c0) (h : qS.f k l0 a1 = some r) :
  Calls Try.prog 92 #[.slice A0 l0.length c0, .int .i64 a1] w fun e w' => e = .returned (.int .i64 r) ∧ Drawn0 w w' := by
 have HR0 := ak hr0;have HC0 := ak hc0;clear hr0 hc0;have H : (qS.l0 k l0 a1 0) = some r := h;clear h;have H' := ak H;clear H;go_enter Try.func92, Try.ntmps92;go_wp2;go_loopg [1, 5] k (fun kq v1 v5 w' => ∃ (jA : Int) (qJ : Int), v1 = .int .i64 jA ∧ v5 = .int .i64 qJ ∧ Aside0 (qS.l0 kq l0 jA qJ = some r) ∧ Aside0 (kq ≤ k) ∧ Drawn0 w w')
 case atStart => exact ⟨(a1), (0), o2, o2, H', ⟨Nat.le_refl _⟩, od⟩
 case round =>
  clear H';obtain ⟨jA, qJ, rfl, rfl, HA, HK1, ⟨m1, rfl⟩⟩ := hrel;cases gk with
  | zero => exact absurd HA.out (by simp [qS.l0])
  | succ k1 =>
   have H := HA.out;clear HA;simp only [qS.l0] at H;replace H := ip H;obtain ⟨c3b0, H⟩ | ⟨c3b0, H⟩ := H
   ·replace H := ipN H;obtain ⟨c4b0, H⟩ := H;replace H := ie H;obtain ⟨c5b0, c5b1, H⟩ | ⟨c5b0, c5b1, H⟩ := H
    ·have H' := ak H;clear H;obtain ⟨zk, rfl, jG, zE, zD⟩ := el0_int HR0 qJ;go_wp2;go_roundg k1;case measure => have := HK1.out; omega
     case rel => exact ⟨(wrap64 (jA + 1)), (wrap64 (qJ + 1)), o2, o2, H', ⟨by have := HK1.out; omega⟩, od⟩
    ·obtain rfl := Option.some.inj H;obtain ⟨zk, rfl, jG, zE, zD⟩ := el0_int HR0 qJ;go_wp2;go_ret;exact ⟨o2, od⟩
   ·obtain rfl := Option.some.inj H;go_wp2;go_ret;exact ⟨o2, od⟩

/-! ### zT: function 31 -/
def zT.f (k : Nat) (qo : List (List Int)) (qK : Int) (jh : Int) (jg : Int) (qF : List (List Int)) (qG : List Int) (qy : List Int) (a1 : Int) : Option (Int) := (qW.f k qo a1).bind fun jn => (if jn < 0 then (some (-1)) else ((qW.f k qF jn).bind fun qE => (if qE < 0 then (some (-1)) else ((qC.f k qG qE).bind fun jw => (if jw < 0 then (some (-1)) else ((qS.f k qy jw).bind fun jx => (if jx < 0 then (some (-1)) else (some jx))))))))
set_option maxHeartbeats 8000000 in
set_option maxRecDepth 100000 in
theorem zT.calls (k : Nat) (jV : Option Addr) (jU : Nat) (qo : List (List Int)) (qK : Int) (jh : Int) (jg : Int) (zZ : Option Addr) (zW : Nat) (qF : List (List Int)) (zY : Option Addr) (zV : Nat) (qG : List Int) (zX : Option Addr) (zU : Nat) (qy : List Int) (a1 : Int) (r : Int) (w : World) (za : Kd.C (Kd.slice 5 (Kd.int .u8)) w jV qo.length qo) (zj : qo.length ≤ jU) (yv : Kd.C (Kd.slice 5 (Kd.int .u8)) w zZ qF.length qF) (yy : qF.length ≤ zW) (yu : Kd.C (Kd.int .u8) w zY qG.length qG) (yx : qG.length ≤ zV) (yt : Kd.C (Kd.int .i64) w zX qy.length qy) (yw : qy.length ≤ zU) (h : zT.f k qo qK jh jg qF qG qy a1 = some r) :
  Calls Try.prog 31 #[.agg #[.slice jV qo.length jU, .int .i64 qK, .int .i64 jh, .int .i64 jg, .slice zZ qF.length zW, .slice zY qG.length zV, .slice zX qy.length zU], .int .i64 a1] w fun e w' => e = .returned (.int .i64 r) ∧ Below w.heap.size w w' := by
 have JW := Try.underlying33;have QD := Try.underlying31;have jz := ak za;have jI := ak zj;clear za zj;have yb := ak yv;have yc := ak yy;clear yv yy;have Qf := ak yu;have Qh := ak yx;clear yu yx;have zt := ak yt;have Qt := ak yw;clear yt yw;have HB := ak (Below.refl w.heap.size w);have H : ((qW.f k qo a1).bind fun jn => (if jn < 0 then (some (-1)) else ((qW.f k qF jn).bind fun qE => (if qE < 0 then (some (-1)) else ((qC.f k qG qE).bind fun jw => (if jw < 0 then (some (-1)) else ((qS.f k qy jw).bind fun jx => (if jx < 0 then (some (-1)) else (some jx))))))))) = some r := h;clear h;replace H := bnd H;obtain ⟨jn, A3, H⟩ := H;replace H := ip H;obtain ⟨c4b0, H⟩ | ⟨c4b0, H⟩ := H
 ·obtain rfl := Option.some.inj H;go_enter Try.func31, Try.ntmps31;go_wp2_with (first | ((with_reducible refine gate_dst (N := 2) rfl ?_);refine bxd (N := 2) rfl HB ?_;clear HB;intro qb w5 hg HB qc qA hb;have jv := qA;clear hb hg;obtain ⟨Xv, qFU, qFT, qFS, qFR, qFQ, qFP, Xn, qER, qEQ, qEP, qEO, qEN, qEM⟩ := cells7 qc.out) | ((with_reducible refine gate_callee (f := 90) rfl ?_);refine glB 8 rfl rfl Try.func90 (qW.calls k _ _ qo a1 jn _ (cv jz HB) jI.out A3.out) (fun w7 hb => ?_);replace qc := b1 qc hb;replace HB := b2s bs hb;(try clear hb)));go_ret;exact ⟨o1, bs⟩
 ·replace H := bnd H;obtain ⟨qE, A8, H⟩ := H;replace H := ip H;obtain ⟨c9b0, H⟩ | ⟨c9b0, H⟩ := H
  ·obtain rfl := Option.some.inj H;go_enter Try.func31, Try.ntmps31;go_wp2_with (first | ((with_reducible refine gate_dst (N := 2) rfl ?_);refine bxd (N := 2) rfl HB ?_;clear HB;intro qb w10 hg HB qc qA hb;have jv := qA;clear hb hg;obtain ⟨qcP, qkD, qkC, qkB, qkA, qkz, qky, qbs, qhv, qhu, qht, qhs, qhr, qhq⟩ := cells7 qc.out) | ((with_reducible refine gate_callee (f := 90) rfl ?_);refine glB 8 rfl rfl Try.func90 (qW.calls k _ _ qo a1 jn _ (cv jz HB) jI.out A3.out) (fun w12 hb => ?_);replace qc := b1 qc hb;replace HB := b2s bs hb;(try clear hb);obtain ⟨Qx, YM, YL, YK, YJ, YI, YH, Qw, ZR, ZQ, ZP, ZO, ZN, ZM⟩ := cells7 qc.out) | ((with_reducible refine gate_callee (f := 90) rfl ?_);refine glB 14 rfl rfl Try.func90 (qW.calls k _ _ qF jn qE _ (cv yb HB) yc.out A8.out) (fun w14 hb => ?_);replace qc := b1 qc hb;replace HB := b2s bs hb;(try clear hb)));go_ret;exact ⟨o1, bs⟩
  ·replace H := bnd H;obtain ⟨jw, A15, H⟩ := H;replace H := ip H;obtain ⟨c16b0, H⟩ | ⟨c16b0, H⟩ := H
   ·obtain rfl := Option.some.inj H;go_enter Try.func31, Try.ntmps31;go_wp2_with (first | ((with_reducible refine gate_dst (N := 2) rfl ?_);refine bxd (N := 2) rfl HB ?_;clear HB;intro qb w17 hg HB qc qA hb;have jv := qA;clear hb hg;obtain ⟨qcM, qcL, qcK, qcJ, qcI, qcH, qcG, qbp, qbo, qbn, qbm, qbl, qbk, qbj⟩ := cells7 qc.out) | ((with_reducible refine gate_callee (f := 90) rfl ?_);refine glB 8 rfl rfl Try.func90 (qW.calls k _ _ qo a1 jn _ (cv jz HB) jI.out A3.out) (fun w19 hb => ?_);replace qc := b1 qc hb;replace HB := b2s bs hb;(try clear hb);obtain ⟨Yz, qcF, qcE, qcD, qcC, qcB, qcA, ZE, qbi, qbh, qbg, qbf, qbe, qbd⟩ := cells7 qc.out) | ((with_reducible refine gate_callee (f := 90) rfl ?_);refine glB 14 rfl rfl Try.func90 (qW.calls k _ _ qF jn qE _ (cv yb HB) yc.out A8.out) (fun w21 hb => ?_);replace qc := b1 qc hb;replace HB := b2s bs hb;(try clear hb);obtain ⟨Ja, QZ, QY, QX, QW, QV, QU, QT, QS, QR, QQ, QP, QO, QN⟩ := cells7 qc.out) | ((with_reducible refine gate_callee (f := 91) rfl ?_);refine glD 20 rfl rfl Try.func91 (qC.calls k _ _ qG qE jw _ (cv Qf HB) Qh.out A15.out) (fun nd => ?_)));go_ret;exact ⟨o1, bs⟩
   ·replace H := bnd H;obtain ⟨jx, A23, H⟩ := H;replace H := ip H;obtain ⟨c24b0, H⟩ | ⟨c24b0, H⟩ := H
    ·obtain rfl := Option.some.inj H;go_enter Try.func31, Try.ntmps31;go_wp2_with (first | ((with_reducible refine gate_dst (N := 2) rfl ?_);refine bxd (N := 2) rfl HB ?_;clear HB;intro qb w25 hg HB qc qA hb;have jv := qA;clear hb hg;obtain ⟨qcx, qjU, qjT, qjS, qjR, qjQ, qjP, qba, qgM, qgL, qgK, qgJ, qgI, qgH⟩ := cells7 qc.out) | ((with_reducible refine gate_callee (f := 90) rfl ?_);refine glB 8 rfl rfl Try.func90 (qW.calls k _ _ qo a1 jn _ (cv jz HB) jI.out A3.out) (fun w27 hb => ?_);replace qc := b1 qc hb;replace HB := b2s bs hb;(try clear hb);obtain ⟨qjO, qjN, qjM, qjL, qjK, qjJ, qjI, qgG, qgF, qgE, qgD, qgC, qgB, qgA⟩ := cells7 qc.out) | ((with_reducible refine gate_callee (f := 90) rfl ?_);refine glB 14 rfl rfl Try.func90 (qW.calls k _ _ qF jn qE _ (cv yb HB) yc.out A8.out) (fun w29 hb => ?_);replace qc := b1 qc hb;replace HB := b2s bs hb;(try clear hb);obtain ⟨Jv, qcq, qcp, qco, qcn, qcm, qcl, Jt, qa3, qa2, qa1, qa0, qaZ, qaY⟩ := cells7 qc.out) | ((with_reducible refine gate_callee (f := 91) rfl ?_);refine glD 20 rfl rfl Try.func91 (qC.calls k _ _ qG qE jw _ (cv Qf HB) Qh.out A15.out) (fun nd => ?_)) | ((with_reducible refine gate_callee (f := 92) rfl ?_);refine glD 26 rfl rfl Try.func92 (qS.calls k _ _ qy jw jx _ ?qL Qt.out A23.out) (fun nd => ?_);(case qL => repeat (first | exact (Kd.C_below zt.out bs) | (with_reducible refine Kd.C_alloc ?_ _) | (with_reducible refine Kd.C_drewN ?_ _) | (with_reducible refine Kd.C_drew ?_)))));go_ret;exact ⟨o1, bs⟩
    ·obtain rfl := Option.some.inj H;go_enter Try.func31, Try.ntmps31;go_wp2_with (first | ((with_reducible refine gate_dst (N := 2) rfl ?_);refine bxd (N := 2) rfl HB ?_;clear HB;intro qb w31 hg HB qc qA hb;have jv := qA;clear hb hg;obtain ⟨Yp, Yo, Yn, Ym, Yl, Yk, Yj, Zu, Zt, Zs, Zr, Zq, Zp, Zo⟩ := cells7 qc.out) | ((with_reducible refine gate_callee (f := 90) rfl ?_);refine glB 8 rfl rfl Try.func90 (qW.calls k _ _ qo a1 jn _ (cv jz HB) jI.out A3.out) (fun w33 hb => ?_);replace qc := b1 qc hb;replace HB := b2s bs hb;(try clear hb);obtain ⟨Yi, qju, qjt, qjs, qjr, qjq, qjp, Zn, qgm, qgl, qgk, qgj, qgi, qgh⟩ := cells7 qc.out) | ((with_reducible refine gate_callee (f := 90) rfl ?_);refine glB 14 rfl rfl Try.func90 (qW.calls k _ _ qF jn qE _ (cv yb HB) yc.out A8.out) (fun w35 hb => ?_);replace qc := b1 qc hb;replace HB := b2s bs hb;(try clear hb);obtain ⟨qcj, qjo, qjn, qjm, qjl, qjk, qjj, qaW, qgg, qgf, qge, qgd, qgc, qgb⟩ := cells7 qc.out) | ((with_reducible refine gate_callee (f := 91) rfl ?_);refine glD 20 rfl rfl Try.func91 (qC.calls k _ _ qG qE jw _ (cv Qf HB) Qh.out A15.out) (fun nd => ?_)) | ((with_reducible refine gate_callee (f := 92) rfl ?_);refine glD 26 rfl rfl Try.func92 (qS.calls k _ _ qy jw jx _ ?qL Qt.out A23.out) (fun nd => ?_);(case qL => repeat (first | exact (Kd.C_below zt.out bs) | (with_reducible refine Kd.C_alloc ?_ _) | (with_reducible refine Kd.C_drewN ?_ _) | (with_reducible refine Kd.C_drew ?_)))));go_ret;exact ⟨o1, bs⟩

/-- The marks over a record's rows, from 1 on. -/
def JG (nm : List (List Int)) : List (List Int) := qd.all 1 nm
def JF (nm dst : List (List Int)) : List (List Int) := qd.all (1 + (qd.sum nm : Int)) dst
def Jp (nm dst : List (List Int)) (tx : List Int) : List Int := qd.mk (1 + (qd.sum nm : Int) + (qd.sum dst : Int)) tx.length
def Jo (nm dst : List (List Int)) (tx nu : List Int) : List Int := qj.mkI (1 + (qd.sum nm : Int) + (qd.sum dst : Int) + (tx.length : Int)) nu.length
set_option maxHeartbeats 16000000 in
set_option maxRecDepth 100000 in
theorem rrget_big (A : Option Addr) (c : Nat) (b : List Int) (a : Int) (w : World) (hl : ¬ b.length ≤ 1048576) :
    Calls Try.prog 6 #[.slice A b.length c, .int .i64 a] w fun e w' => e = .returned (.bool true) ∧ Below w.heap.size w w' := by
  have hlz : (b.length : Int) > 1048576 := by omega
  go_enter Try.func6, Try.ntmps6;go_wp2;go_ret;exact ⟨rfl, Below.refl _ _⟩
set_option maxHeartbeats 16000000 in
set_option maxRecDepth 100000 in
theorem rrget_law (k : Nat) (A : Option Addr) (c : Nat) (b : List Int) (a : Int) (w : World) (hr : Kd.C (Kd.int .u8) w A b.length b) (hc : b.length ≤ c) (hl : b.length ≤ 1048576) (nm : List (List Int)) (ty tl ad : Int) (dst : List (List Int)) (tx nu : List Int) (nx : Int) (M : List Int)
    (hto : qU.f k b = some b) (hs : zO.f k b a = some (nm, ty, tl, ad, dst, tx, nu, nx)) (hi : yl.f k b a = some (nm, ty, tl, ad, dst, tx, nu, nx))
    (heq : zR.f k nm ty tl ad dst tx nu nm ty tl ad dst tx nu = some true) (heb : qz.f k b b = some true) (hmb : qV.f k b 1 = some (1 + (b.length : Int), M))
    (hn : qj.n nm dst tx nu ≤ 8000000) (hh : zT.f k (JG nm) ty tl ad (JF nm dst) (Jp nm dst tx) (Jo nm dst tx nu) 1 = some (1 + (qj.n nm dst tx nu : Int)))
    (hq : (JG nm).length = nm.length ∧ (JF nm dst).length = dst.length ∧ (Jp nm dst tx).length = tx.length ∧ (Jo nm dst tx nu).length = nu.length) :
    Calls Try.prog 6 #[.slice A b.length c, .int .i64 a] w fun e w' => e = .returned (.bool true) ∧ Below w.heap.size w w' := by
  have HR := ak hr;have HC := ak hc;have HTO := ak hto;have HS := ak hs;have HI := ak hi;have HEQ := ak heq;have HEB := ak heb;have HMB := ak hmb;have HN := ak hn;have HH := ak hh;have HQ := ak hq;clear hr hc hto hs hi heq heb hmb hn hh hq;have hlz : ¬ (b.length : Int) > 1048576 := by omega
  have hnx : (nx != nx) = false := by simp
  go_enter Try.func6, Try.ntmps6;go_wp2_with (fail);refine (qU.calls k A c b b w HR.out HC.out HTO.out).mono ?_;rintro e w1 ⟨v1, rfl, ho, hb⟩;obtain ⟨A1, c1, rfl, l1, g1⟩ := Kd.R_reads ho;have HB := ak hb;clear ho hb;go_wp2_with (fail);refine (zO.calls k A1 c1 b a _ w1 g1 l1 HS.out).mono ?_;rintro e w2 ⟨x0, x4, x5, x6, rfl, hrd, hb⟩;obtain ⟨S0, s0, rfl, l0, g0⟩ := Kd.S_reads hrd.name;obtain ⟨S4, s4, rfl, l4, g4⟩ := Kd.S_reads hrd.to_;obtain ⟨S5, s5, rfl, l5, g5⟩ := Kd.R_reads hrd.text;obtain ⟨S6, s6, rfl, l6, g6⟩ := Kd.R_reads hrd.nums;replace HB := b2s HB.out hb;have L0 := ak l0;have L4 := ak l4;have L5 := ak l5;have L6 := ak l6;clear hrd hb l0 l4 l5 l6 g1 l1;obtain ⟨W3, hW3⟩ : ∃ W, W = w2.alloc (.cells (rrC (.slice S0 nm.length s0) ty tl ad (.slice S4 dst.length s4) (.slice S5 tx.length s5) (.slice S6 nu.length s6)) 33) := ⟨_, rfl⟩;obtain ⟨b5, hb5⟩ : ∃ b, b = w2.heap.size := ⟨_, rfl⟩;have BW := ak (show W3.heap[b5]? = some (.cells (rrC (.slice S0 nm.length s0) ty tl ad (.slice S4 dst.length s4) (.slice S5 tx.length s5) (.slice S6 nu.length s6)) 33 (0, 0)) by rw [hW3, hb5]; exact heap_alloc_new w2 _);have zN := ak (show Below w2.heap.size w2 W3 by rw [hW3]; exact below_alloc (Below.refl _ _) _);have G0 := ak (Kd.C_below g0 zN.out);have G4 := ak (Kd.C_below g4 zN.out);have G5 := ak (Kd.C_below g5 zN.out);have G6 := ak (Kd.C_below g6 zN.out);replace HB := b2s HB.out zN.out;replace HR := ak (Kd.C_below HR.out HB.out);clear g0 g4 g5 g6;go_wp2_with (fail);rw [← hW3];try rw [← hb5]
  clear hW3 hb5 zN;refine (qU.calls k A c b b W3 HR.out HC.out HTO.out).mono ?_;rintro e w4 ⟨v4, rfl, ho, hb⟩;obtain ⟨A4, c4, rfl, l4, g4⟩ := Kd.R_reads ho;have XR := ak (R_btw ho);have XL := ak l4;have HB3 := ak hb;have N34 := ak hb.size;clear ho hb l4;go_wp2_with (fail);refine (yl.calls k A4 c4 b a _ w4 g4 XL.out HI.out).mono ?_;rintro e w5 ⟨u0, u4, u5, u6, rfl, mid, hp⟩;obtain ⟨U0, c0, rfl⟩ := Kd.S_slice hp.name;obtain ⟨U4, d4, rfl⟩ := Kd.S_slice hp.to_;obtain ⟨U5, d5, rfl⟩ := Kd.R_slice hp.text;obtain ⟨U6, d6, rfl⟩ := Kd.R_slice hp.nums;have hpb := hp.below;have p0 := Kd.S_bound hp.name;have p4 := Kd.S_bound hp.to_;have p5 := Kd.R_bound (Kd.R_tight2 rfl hp.text);have p6 := Kd.R_bound (Kd.R_tight2 rfl hp.nums);obtain ⟨P0, hP0⟩ : ∃ P : Nat → Prop, P = fun k => k < mid ∧ w4.heap.size ≤ k ∧ k < w5.heap.size ∧ ∃ q, q ∈ 25 :: (Kd.slice 5 (Kd.int .u8)).E ∧ ∃ cells, w5.heap[k]? = some (.cells cells q (0, 0)) := ⟨_, rfl⟩
  obtain ⟨P4, hP4⟩ : ∃ P : Nat → Prop, P = fun k => (mid ≤ k ∧ some k ≠ (Value.slice U5 tx.length d5).ownBlock) ∧ w4.heap.size ≤ k ∧ k < w5.heap.size ∧ ∃ q, q ∈ 25 :: (Kd.slice 5 (Kd.int .u8)).E ∧ ∃ cells, w5.heap[k]? = some (.cells cells q (0, 0)) := ⟨_, rfl⟩
  obtain ⟨P5, hP5⟩ : ∃ P : Nat → Prop, P = fun k => (some k = (Value.slice U5 tx.length d5).ownBlock ∧ mid ≤ k) ∧ w4.heap.size ≤ k ∧ k < w5.heap.size ∧ ∃ q, q ∈ 5 :: (Kd.int .u8).E ∧ ∃ cells, w5.heap[k]? = some (.cells cells q (0, 0)) := ⟨_, rfl⟩
  obtain ⟨P6, hP6⟩ : ∃ P : Nat → Prop, P = fun k => (some k = (Value.slice U6 nu.length d6).ownBlock ∧ mid ≤ k) ∧ w4.heap.size ≤ k ∧ k < w5.heap.size ∧ ∃ q, q ∈ 3 :: (Kd.int .i64).E ∧ ∃ cells, w5.heap[k]? = some (.cells cells q (0, 0)) := ⟨_, rfl⟩
  have PA := ak (show (∀ k, P4 k → ¬ P0 k) ∧ (∀ k, P5 k → ¬ P0 k) ∧ (∀ k, P6 k → ¬ P0 k) ∧ (∀ k, P5 k → ¬ P4 k) ∧ (∀ k, P6 k → ¬ P4 k) ∧ (∀ k, P6 k → ¬ P5 k) by
    subst hP0 hP4 hP5 hP6;refine ⟨fun k h h0 => by have := h.1.1; have := h0.1; omega, fun k h h0 => by have := h.1.2; have := h0.1; omega, fun k h h0 => by have := h.1.2; have := h0.1; omega, fun k h h4 => h4.1.2 h.1.1, ?_, ?_⟩
    · rintro k ⟨_, _, _, q, hq, cs, hcs⟩ ⟨_, _, _, q', hq', cs', hcs'⟩
      have e := hcs.symm.trans hcs';simp only [Option.some.injEq, Obj.cells.injEq] at e;have e2 : q = q' := e.2.1;subst e2;exact absurd hq' (by revert hq; simp [Kd.int, Kd.slice, Kd.scalar]; rintro rfl; decide)
    · rintro k ⟨_, _, _, q, hq, cs, hcs⟩ ⟨_, _, _, q', hq', cs', hcs'⟩
      have e := hcs.symm.trans hcs';simp only [Option.some.injEq, Obj.cells.injEq] at e;have e2 : q = q' := e.2.1;subst e2
      exact absurd hq' (by revert hq; simp [Kd.int, Kd.slice, Kd.scalar]; rintro rfl; decide))
  have PB := ak (show ∀ k, P0 k ∨ P4 k ∨ P5 k ∨ P6 k → w4.heap.size ≤ k ∧ k < w5.heap.size by
    subst hP0 hP4 hP5 hP6;rintro k (h | h | h | h)
    · exact ⟨h.2.1, h.2.2.1⟩
    · exact ⟨h.2.1, h.2.2.1⟩
    · exact ⟨h.2.1, h.2.2.1⟩
    · exact ⟨h.2.1, h.2.2.1⟩)
  have Q0 := ak (show Kd.S (Kd.slice 5 (Kd.int .u8)) 25 w5 w4.heap.size P0 (.slice U0 nm.length c0) nm by rw [hP0]; exact p0);have Q4 := ak (show Kd.S (Kd.slice 5 (Kd.int .u8)) 25 w5 w4.heap.size P4 (.slice U4 dst.length d4) dst by rw [hP4]; exact p4);have Q5 := ak (show Kd.R (Kd.int .u8) 5 w5 w4.heap.size P5 (.slice U5 tx.length d5) tx by rw [hP5]; exact p5);have Q6 := ak (show Kd.R (Kd.int .i64) 3 w5 w4.heap.size P6 (.slice U6 nu.length d6) nu by rw [hP6]; exact p6);replace XR := ak (Kd.R_below XR.out hpb);replace HB3 := b2s HB3.out hpb;have N45 := ak hpb.size;clear hP0 hP4 hP5 hP6 p0 p4 p5 p6 hpb hp g4;obtain ⟨W6, hW6⟩ : ∃ W, W = w5.alloc (.cells (rrC (.slice U0 nm.length c0) ty tl ad (.slice U4 dst.length d4) (.slice U5 tx.length d5) (.slice U6 nu.length d6)) 33) := ⟨_, rfl⟩;obtain ⟨b8, hb8⟩ : ∃ b, b = w5.heap.size := ⟨_, rfl⟩;have BG := ak (show W6.heap[b8]? = some (.cells (rrC (.slice U0 nm.length c0) ty tl ad (.slice U4 dst.length d4) (.slice U5 tx.length d5) (.slice U6 nu.length d6)) 33 (0, 0)) by rw [hW6, hb8]; exact heap_alloc_new w5 _);have hb : Below w5.heap.size w5 W6 := by rw [hW6]; exact below_alloc (Below.refl _ _) _
  have N8 := ak (show w5.heap.size ≤ b8 by omega);have N56 := ak hb.size;replace Q0 := ak (Kd.S_below Q0.out hb);replace Q4 := ak (Kd.S_below Q4.out hb);replace Q5 := ak (Kd.R_below Q5.out hb);replace Q6 := ak (Kd.R_below Q6.out hb);replace XR := ak (Kd.R_below XR.out hb);replace HB3 := b2s HB3.out hb;clear hb;have h9 : ∀ o, (w5.alloc o).heap.size = w5.heap.size + 1 := fun o => al_size _ _
  clear h9;go_upto_region 6 with (fail)
  rw [← hW6];try rw [← hb8]
  clear hW6 hb8;have BWN := ak (blk_below BW.out HB3.out);obtain ⟨s0_, s1_, s2_, s3_, s4_, s5_, s6_, _⟩ := cells7 BWN.out;obtain ⟨g0_, g1_, g2_, g3_, g4_, g5_, g6_, _⟩ := cells7 BG.out;go_wp2_with (fail);refine (zR.calls k U0 c0 nm ty tl ad U4 d4 dst U5 d5 tx U6 d6 nu S0 s0 nm ty tl ad S4 s4 dst S5 s5 tx S6 s6 nu true W6 (Kd.S_reads' Q0.out).2.2 (Kd.S_reads' Q0.out).2.1 (Kd.S_reads' Q4.out).2.2 (Kd.S_reads' Q4.out).2.1 (Kd.R_reads' Q5.out).2.2 (Kd.R_reads' Q5.out).2.1 (Kd.R_reads' Q6.out).2.2 (Kd.R_reads' Q6.out).2.1 (Kd.C_below G0.out HB3.out) L0.out (Kd.C_below G4.out HB3.out) L4.out (Kd.C_below G5.out HB3.out) L5.out (Kd.C_below G6.out HB3.out) L6.out HEQ.out).mono ?_;rintro e w7 ⟨rfl, hb⟩;clear s0_ s1_ s2_ s3_ s4_ s5_ s6_ g0_ g1_ g2_ g3_ g4_ g5_ g6_ BWN;replace Q0 := ak (Kd.S_below Q0.out hb);replace Q4 := ak (Kd.S_below Q4.out hb);replace Q5 := ak (Kd.R_below Q5.out hb);replace Q6 := ak (Kd.R_below Q6.out hb);replace BG := ak (blk_below BG.out hb);replace HB3 := b2s HB3.out hb;replace XR := ak (Kd.R_below XR.out hb);clear hb;go_wp2_with (fail);refine (qU.calls k A c b b w7 (Kd.C_below HR.out HB3.out) HC.out HTO.out).mono ?_;rintro e w8 ⟨v8, rfl, ho, hb⟩;obtain ⟨A8, c8, rfl, l8, g8⟩ := Kd.R_reads ho;replace Q0 := ak (Kd.S_below Q0.out hb);replace Q4 := ak (Kd.S_below Q4.out hb);replace Q5 := ak (Kd.R_below Q5.out hb);replace Q6 := ak (Kd.R_below Q6.out hb);replace BG := ak (blk_below BG.out hb);replace HB3 := b2s HB3.out hb;replace XR := ak (Kd.R_below XR.out hb);clear ho hb;go_wp2_with (fail);refine (qz.calls k A4 c4 b A8 c8 b true w8 (Kd.R_reads' XR.out).2.2 XL.out g8 l8 HEB.out).mono ?_;rintro e w9 ⟨rfl, hd⟩;have hb := hd.below;replace Q0 := ak (Kd.S_below Q0.out hb);replace Q4 := ak (Kd.S_below Q4.out hb);replace Q5 := ak (Kd.R_below Q5.out hb);replace Q6 := ak (Kd.R_below Q6.out hb);replace BG := ak (blk_below BG.out hb);replace HB3 := b2s HB3.out hb;replace XR := ak (Kd.R_below XR.out hb);clear hb hd g8 l8;have hbl : (0 : Int) ≤ b.length := by omega
  go_wp2_with (fail);refine (qV.calls k (Btw W3.heap.size w4.heap.size) (.slice A4 b.length c4) b 1 (1 + (b.length : Int)) M W3 w9 HB3.out XR.out HMB.out).mono ?_;rintro e w10 ⟨rfl, _, hb3, hk⟩;have hne : ∀ k, w4.heap.size ≤ k → ¬ Btw W3.heap.size w4.heap.size k := fun k h1 h2 => by have := h2.2; omega
  replace Q0 := ak (Kd.S_step Q0.out (fun k hk2 hl => hk.2 k hl (hne k (PB.out k (.inl hk2)).1)));replace Q4 := ak (Kd.S_step Q4.out (fun k hk2 hl => hk.2 k hl (hne k (PB.out k (.inr (.inl hk2))).1)));replace Q5 := ak (Kd.R_step Q5.out (fun k hk2 hl => hk.2 k hl (hne k (PB.out k (.inr (.inr (.inl hk2)))).1)));replace Q6 := ak (Kd.R_step Q6.out (fun k hk2 hl => hk.2 k hl (hne k (PB.out k (.inr (.inr (.inr hk2)))).1)));replace BG := ak (blk_kept BG.out hk (hne b8 (by have := N8.out; have := N45.out; omega)));replace HB3 := ak hb3;have N10 := ak (show w5.heap.size ≤ w10.heap.size by have := hk.1; have := blk_lt BG.out; have := N8.out; omega);have hng : ¬ (1 + (b.length : Int) < 0) := by omega
  clear hb3 hk hne XR;have BWN := ak (blk_below BW.out HB3.out);obtain ⟨s0_, s1_, s2_, s3_, s4_, s5_, s6_, _⟩ := cells7 BWN.out;obtain ⟨g0_, g1_, g2_, g3_, g4_, g5_, g6_, _⟩ := cells7 BG.out;go_wp2_with (fail);refine (zR.calls k U0 c0 nm ty tl ad U4 d4 dst U5 d5 tx U6 d6 nu S0 s0 nm ty tl ad S4 s4 dst S5 s5 tx S6 s6 nu true w10 (Kd.S_reads' Q0.out).2.2 (Kd.S_reads' Q0.out).2.1 (Kd.S_reads' Q4.out).2.2 (Kd.S_reads' Q4.out).2.1 (Kd.R_reads' Q5.out).2.2 (Kd.R_reads' Q5.out).2.1 (Kd.R_reads' Q6.out).2.2 (Kd.R_reads' Q6.out).2.1 (Kd.C_below G0.out HB3.out) L0.out (Kd.C_below G4.out HB3.out) L4.out (Kd.C_below G5.out HB3.out) L5.out (Kd.C_below G6.out HB3.out) L6.out HEQ.out).mono ?_;rintro e w11 ⟨rfl, hb⟩;clear s0_ s1_ s2_ s3_ s4_ s5_ s6_ g0_ g1_ g2_ g3_ g4_ g5_ g6_ BWN;replace Q0 := ak (Kd.S_below Q0.out hb);replace Q4 := ak (Kd.S_below Q4.out hb);replace Q5 := ak (Kd.R_below Q5.out hb);replace Q6 := ak (Kd.R_below Q6.out hb);replace BG := ak (blk_below BG.out hb);replace HB3 := b2s HB3.out hb;replace N10 := ak (Nat.le_trans N10.out hb.size);clear hb hng;obtain ⟨n, hn⟩ : ∃ n : Int, (qj.n nm dst tx nu : Int) = n := ⟨_, rfl⟩;have hn0 : 0 ≤ n := by omega
  have hn1 : n ≤ 8000000 := by have := HN.out; omega
  obtain ⟨g0_, g1_, g2_, g3_, g4_, g5_, g6_, _⟩ := cells7 BG.out;go_wp2_with (fail);refine (qj.exact P0 P4 P5 P6 (.slice U0 nm.length c0) (.slice U4 dst.length d4) (.slice U5 tx.length d5) (.slice U6 nu.length d6) nm ty tl ad dst tx nu 1 w4.heap.size w11 Q0.out Q4.out Q5.out Q6.out PA.out.1 PA.out.2.1 PA.out.2.2.1 PA.out.2.2.2.1 PA.out.2.2.2.2.1 PA.out.2.2.2.2.2 (fun k hk => by have := (PB.out k hk).2; have := N10.out; omega) (by omega) (by rw [hn]; omega)).mono ?_;rintro e w12 ⟨rfl, hmk, m0, m4, m5, m6⟩;rw [hn];have M0 := ak (show Kd.S (Kd.slice 5 (Kd.int .u8)) 25 w12 w4.heap.size P0 (.slice U0 nm.length c0) (JG nm) from m0);have M4 := ak (show Kd.S (Kd.slice 5 (Kd.int .u8)) 25 w12 w4.heap.size P4 (.slice U4 dst.length d4) (JF nm dst) from m4);have M5 := ak (show Kd.R (Kd.int .u8) 5 w12 w4.heap.size P5 (.slice U5 tx.length d5) (Jp nm dst tx) from m5);have M6 := ak (show Kd.R (Kd.int .i64) 3 w12 w4.heap.size P6 (.slice U6 nu.length d6) (Jo nm dst tx nu) from m6);have hws : W3.heap.size ≤ w11.heap.size := HB3.out.size;replace BG := ak ((hmk.out b8 (blk_lt BG.out) (fun hk => by have := (PB.out b8 hk).2; have := N8.out; omega)).trans BG.out);replace HB3 := ak (HB3.out.trans (hmk.below hws (fun k hk => by have := (PB.out k hk).1; have := N34.out; omega)));clear g0_ g1_ g2_ g3_ g4_ g5_ g6_;clear hmk m0 m4 m5 m6 Q0 Q4 Q5 Q6 hws PA;have HQ1 := HQ.out.1;have HQ2 := HQ.out.2.1;have HQ3 := HQ.out.2.2.1;have HQ4 := HQ.out.2.2.2
  have HHC := ak (show ∀ (W : World), Kd.S (Kd.slice 5 (Kd.int .u8)) 25 W w4.heap.size P0 (.slice U0 nm.length c0) (JG nm) → Kd.S (Kd.slice 5 (Kd.int .u8)) 25 W w4.heap.size P4 (.slice U4 dst.length d4) (JF nm dst) → Kd.R (Kd.int .u8) 5 W w4.heap.size P5 (.slice U5 tx.length d5) (Jp nm dst tx) → Kd.R (Kd.int .i64) 3 W w4.heap.size P6 (.slice U6 nu.length d6) (Jo nm dst tx nu) →
      Calls Try.prog 31 #[.agg #[.slice U0 nm.length c0, .int .i64 ty, .int .i64 tl, .int .i64 ad, .slice U4 dst.length d4, .slice U5 tx.length d5, .slice U6 nu.length d6], .int .i64 1] W fun e w' => e = .returned (.int .i64 (1 + n)) ∧ Below W.heap.size W w' from fun W a0 a4 a5 a6 => by
    have hh := HH.out;rw [hn] at hh;have := zT.calls k U0 c0 (JG nm) ty tl ad U4 d4 (JF nm dst) U5 d5 (Jp nm dst tx) U6 d6 (Jo nm dst tx nu) 1 (1 + n) W (Kd.S_reads' a0).2.2 (by rw [← (Kd.S_reads' a0).1]; exact (Kd.S_reads' a0).2.1) (Kd.S_reads' a4).2.2 (by rw [← (Kd.S_reads' a4).1]; exact (Kd.S_reads' a4).2.1) (Kd.R_reads' a5).2.2 (by rw [← (Kd.R_reads' a5).1]; exact (Kd.R_reads' a5).2.1) (Kd.R_reads' a6).2.2 (by rw [← (Kd.R_reads' a6).1]; exact (Kd.R_reads' a6).2.1) hh;rw [HQ1, HQ2, HQ3, HQ4] at this
    exact this)
  clear HQ1 HQ2 HQ3 HQ4;have hng : ¬ (1 + n < 0) := by omega
  have hnn : ((1 + n) != (1 + n)) = false := by simp
  obtain ⟨g0_, g1_, g2_, g3_, g4_, g5_, g6_, _⟩ := cells7 BG.out;go_wp2_with (fail);refine (HHC.out w12 M0.out M4.out M5.out M6.out).mono ?_;rintro e w13 ⟨rfl, hb⟩;clear g0_ g1_ g2_ g3_ g4_ g5_ g6_;replace M0 := ak (Kd.S_below M0.out hb);replace M4 := ak (Kd.S_below M4.out hb);replace M5 := ak (Kd.R_below M5.out hb);replace M6 := ak (Kd.R_below M6.out hb);replace BG := ak (blk_below BG.out hb);replace HB3 := b2s HB3.out hb;clear hb;go_wp2_with (fail);refine (qU.calls k A c b b w13 (Kd.C_below HR.out HB3.out) HC.out HTO.out).mono ?_;rintro e w14 ⟨v14, rfl, ho, hb⟩;obtain ⟨A14, c14, rfl, l14, g14⟩ := Kd.R_reads ho;replace M0 := ak (Kd.S_below M0.out hb);replace M4 := ak (Kd.S_below M4.out hb);replace M5 := ak (Kd.R_below M5.out hb);replace M6 := ak (Kd.R_below M6.out hb);replace BG := ak (blk_below BG.out hb);replace HB3 := b2s HB3.out hb;clear ho hb;go_wp2_with (fail);refine (yl.calls k A14 c14 b a _ w14 g14 l14 HI.out).mono ?_;rintro e w15 ⟨h0, h4, h5, h6, rfl, qIO, hp⟩;obtain ⟨V0, e0, rfl, j0, r0⟩ := Kd.S_reads hp.name;obtain ⟨V4, e4, rfl, j4, r4⟩ := Kd.S_reads hp.to_;obtain ⟨V5, e5, rfl, j5, r5⟩ := Kd.R_reads hp.text;obtain ⟨V6, e6, rfl, j6, r6⟩ := Kd.R_reads hp.nums;have hb := hp.below;replace M0 := ak (Kd.S_below M0.out hb);replace M4 := ak (Kd.S_below M4.out hb);replace M5 := ak (Kd.R_below M5.out hb);replace M6 := ak (Kd.R_below M6.out hb);replace BG := ak (blk_below BG.out hb);replace HB3 := b2s HB3.out hb;clear hb hp g14 l14;obtain ⟨W16, qc9⟩ : ∃ W, W = w15.alloc (.cells (rrC (.slice V0 nm.length e0) ty tl ad (.slice V4 dst.length e4) (.slice V5 tx.length e5) (.slice V6 nu.length e6)) 33) := ⟨_, rfl⟩;obtain ⟨b13, qdv⟩ : ∃ b, b = w15.heap.size := ⟨_, rfl⟩;have BH := ak (show W16.heap[b13]? = some (.cells (rrC (.slice V0 nm.length e0) ty tl ad (.slice V4 dst.length e4) (.slice V5 tx.length e5) (.slice V6 nu.length e6)) 33 (0, 0)) by rw [qc9, qdv]; exact heap_alloc_new w15 _);have hb : Below w15.heap.size w15 W16 := by rw [qc9]; exact below_alloc (Below.refl _ _) _
  have R0 := ak (Kd.C_below r0 hb);have R4 := ak (Kd.C_below r4 hb);have R5 := ak (Kd.C_below r5 hb);have R6 := ak (Kd.C_below r6 hb);replace M0 := ak (Kd.S_below M0.out hb);replace M4 := ak (Kd.S_below M4.out hb);replace M5 := ak (Kd.R_below M5.out hb);replace M6 := ak (Kd.R_below M6.out hb);replace BG := ak (blk_below BG.out hb);replace HB3 := b2s HB3.out hb;clear hb r0 r4 r5 r6;go_upto_region 23 with (fail)
  rw [← qc9];try rw [← qdv]
  clear qc9 qdv;have BWN := ak (blk_below BW.out HB3.out);obtain ⟨s0_, s1_, s2_, s3_, s4_, s5_, s6_, _⟩ := cells7 BWN.out;obtain ⟨g0_, g1_, g2_, g3_, g4_, g5_, g6_, _⟩ := cells7 BH.out;go_wp2_with (fail);refine (zR.calls k V0 e0 nm ty tl ad V4 e4 dst V5 e5 tx V6 e6 nu S0 s0 nm ty tl ad S4 s4 dst S5 s5 tx S6 s6 nu true W16 R0.out j0 R4.out j4 R5.out j5 R6.out j6 (Kd.C_below G0.out HB3.out) L0.out (Kd.C_below G4.out HB3.out) L4.out (Kd.C_below G5.out HB3.out) L5.out (Kd.C_below G6.out HB3.out) L6.out HEQ.out).mono ?_;rintro e w17 ⟨rfl, hb⟩;clear s0_ s1_ s2_ s3_ s4_ s5_ s6_ g0_ g1_ g2_ g3_ g4_ g5_ g6_ BWN;replace M0 := ak (Kd.S_below M0.out hb);replace M4 := ak (Kd.S_below M4.out hb);replace M5 := ak (Kd.R_below M5.out hb);replace M6 := ak (Kd.R_below M6.out hb);replace BG := ak (blk_below BG.out hb);replace HB3 := b2s HB3.out hb;clear hb R0 R4 R5 R6 BH;obtain ⟨g0_, g1_, g2_, g3_, g4_, g5_, g6_, _⟩ := cells7 BG.out;go_wp2_with (fail);refine (HHC.out w17 M0.out M4.out M5.out M6.out).mono ?_;rintro e w18 ⟨rfl, hb⟩;clear g0_ g1_ g2_ g3_ g4_ g5_ g6_;replace HB3 := b2s HB3.out hb;clear hb;go_wp2;go_ret;exact ⟨rfl, below_step HB.out HB3.out⟩

/-! ### qkN: function 25 -/
/-! ### qdp: function 5 -/
end Go.Proofs.Ytagedmajlppohaa.Q
