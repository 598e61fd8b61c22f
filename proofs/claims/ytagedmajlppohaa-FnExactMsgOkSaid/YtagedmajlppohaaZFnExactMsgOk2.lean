/- Printed by a program of this session (wip/myprint.py), which drives the kit's printer: functions and what their calls do. -/
import Derived.Test.YtagedmajlppohaaZFnExactMsgOk0
import Derived.Test.YtagedmajlppohaaZFnExactMsgOk1
import Derived.Maps.Own
import Derived.Maps.Views
namespace Go.Proofs.Ytagedmajlppohaa.Q
open Go.RowKit Go Go.Proofs.YtagedmajlppohaaW.PrintWords Go.Proofs.YtagedmajlppohaaW.PrintLast Go.Proofs.YtagedmajlppohaaW.PrintMore

set_option linter.unusedVariables false
set_option linter.unusedSimpArgs false

/-! ### laws_toQuestion: function 194 -/
def laws_toQuestion.f (k : Nat) (l0_0 : List (List Int)) (a0_1 : Int) : Option ((List (List Int)) × Int) := (laws_toName.f k l0_0).bind fun t104 => (some (t104, a0_1))
set_option maxHeartbeats 8000000 in
set_option maxRecDepth 100000 in
theorem laws_toQuestion.calls (k : Nat) (A0_0 : Option Addr) (c0_0 : Nat) (l0_0 : List (List Int)) (a0_1 : Int) (r1 : List (List Int)) (r2 : Int) (w : World) (hr0_0 : Kd.C (Kd.slice 5 (Kd.int .u8)) w A0_0 l0_0.length l0_0) (hc0_0 : l0_0.length ≤ c0_0) (h : laws_toQuestion.f k l0_0 a0_1 = some (r1, r2)) :
  Calls Try.prog 194 #[.agg #[.slice A0_0 l0_0.length c0_0, .int .i64 a0_1]] w fun e w' => ∃ v0_ : Value, e = .returned (.agg #[v0_, .int .i64 r2]) ∧ Kd.S (Kd.slice 5 (Kd.int .u8)) 25 w' w.heap.size (fun _ => True) v0_ r1 ∧ Below w.heap.size w w' := by
 have hu195 := Try.underlying195
 have hu200 := Try.underlying200
 have hu24 := Try.underlying24
 have hu31 := Try.underlying31
 have HR0_0 := ak hr0_0
 have HC0_0 := ak hc0_0
 clear hr0_0 hc0_0
 have HB := ak (Below.refl w.heap.size w)
 have H : ((laws_toName.f k l0_0).bind fun t104 => (some (t104, a0_1))) = some (r1, r2) := h
 clear h
 replace H := bnd H
 obtain ⟨t104, A2, H⟩ := H
 simp only [Option.some.injEq, Prod.mk.injEq] at H
 obtain ⟨rfl, rfl⟩ := H
 go_enter Try.func194, Try.ntmps194
 go_wp2_with (first | ((with_reducible refine gate_dst (N := 1) rfl ?_);refine bxd (N := 1) rfl HB ?_;clear HB;intro gb101 w3 hg HB BK101 GE101 hb;have GW101 := GE101;clear hb hg) | ((with_reducible refine gate_dst (N := 2) rfl ?_);refine bxe (N := 2) rfl ?_;intro gb102 hg w4 hbox hb;have BK102 := ak (hbox);have GW102 := b3s hg bs;have GE102 := GW102;replace HB := b2s bs hb;have NB101_102 := b4 hg BK101;have NB102_101 := b5 hg BK101;replace BK101 := b1 BK101 hb;clear hb hbox hg) | ((with_reducible refine gate_dst (N := 3) rfl ?_);refine bxe (N := 3) rfl ?_;intro gb103 hg w5 hbox hb;have BK103 := ak (hbox);have GW103 := b3s hg bs;have GE103 := GW103;replace HB := b2s bs hb;have NB101_103 := b4 hg BK101;have NB103_101 := b5 hg BK101;replace BK101 := b1 BK101 hb;have NB102_103 := b4 hg BK102;have NB103_102 := b5 hg BK102;replace BK102 := b1 BK102 hb;clear hb hbox hg;have hnb6 := NB101_102.out;have hnc6 := NB102_101.out;have hnb7 := NB101_103.out;have hnc7 := NB103_101.out;obtain ⟨hcz8_0, hcz8_1, hfz8_0, hfz8_1⟩ := cells2 BK101.out) | ((with_reducible refine gate_callee (f := 41) rfl ?_);refine glG 6 rfl rfl Try.func41 (laws_toName.calls k _ _ l0_0 t104 _ (cv HR0_0 HB) HC0_0.out A2.out) ?_;rintro e w9 ⟨v105, rfl, ho0, hb⟩;refine ⟨_, rfl, ?_⟩;have HO106 := ak (Kd.S_lower ho0 (below_size bs));replace BK101 := b1 BK101 hb;replace BK102 := b1 BK102 hb;replace BK103 := b1 BK103 hb;replace HB := b2s bs hb;(try clear hb);(try clear ho0);obtain ⟨Ao10, co10, eo10⟩ := Kd.S_slice HO106.out;subst eo10;have hnb11 := NB103_102.out;have hnc11 := NB102_103.out;obtain ⟨hcz12_0, hcz12_1, hfz12_0, hfz12_1⟩ := cells2 BK103.out;obtain ⟨hcz13_0, hcz13_1, hfz13_0, hfz13_1⟩ := cells2 BK101.out;obtain ⟨hcz14_0, hcz14_1, hfz14_0, hfz14_1⟩ := cells2 BK102.out))
 refine bodyPost_ret (results_cell_row rfl _ _ gb102 200 #[.slice Ao10 t104.length co10, .int .i64 a0_1] (0, 0) _ rfl (by (with_reducible repeat (first | refine blk_drewN ?_ _ | refine blk_drew ?_ | refine blk_alloc ?_ _)); refine blk_put (cs := #[.slice Ao10 t104.length co10, .int .i64 0]) ?_ 1 _ rfl; (with_reducible repeat (first | refine blk_drewN ?_ _ | refine blk_drew ?_ | refine blk_alloc ?_ _)); refine blk_put (cs := #[.slice none 0 0, .int .i64 0]) ?_ 0 _ rfl; (with_reducible repeat (first | refine blk_drewN ?_ _ | refine blk_drew ?_ | refine blk_alloc ?_ _)); refine blk_far ?_ NB102_103.out _; (with_reducible repeat (first | refine blk_drewN ?_ _ | refine blk_drew ?_ | refine blk_alloc ?_ _)); refine blk_far ?_ NB102_103.out _; (with_reducible repeat (first | refine blk_drewN ?_ _ | refine blk_drew ?_ | refine blk_alloc ?_ _)); exact BK102.out) Try.underlying200 rfl (by kernel_rfl)) rfl ?_
 exact ⟨_, o1, by (with_reducible repeat (first | apply Kd.S_alloc | apply Kd.S_drewN | apply Kd.S_drew)); exact Kd.S_mono (Kd.S_far (p := ⟨gb102, 1, none⟩) (Kd.S_far (p := ⟨gb102, 0, none⟩) (Kd.S_far (p := ⟨gb103, 1, none⟩) (Kd.S_far (p := ⟨gb103, 0, none⟩) (Kd.S_types (Kd.S_types HO106.out BK103.out (by decide)) BK102.out (by decide)) (fun _ hk => hk.1.2) (.slice Ao10 t104.length co10)) (fun _ hk => hk.1.2) (.int .i64 a0_1)) (fun _ hk => hk.2) (.slice Ao10 t104.length co10)) (fun _ hk => hk.2) (.int .i64 a0_1)) (fun _ hk => trivial), bs⟩

/-! ### laws_toQuestionS: function 128 -/
def laws_toQuestionS.l0 : Nat → List (S195) → List (S200) → Int → Option ((List (S200)))
 | 0, _, _, _ => none
 | k + 1, x0, x3, x4 => if x4 < (x0.length : Int) then (if 0 ≤ x4 then ((laws_toQuestion.f k ((rd_T195 x0 x4).f0.f0) ((rd_T195 x0 x4).f1)).bind fun bt105 => (if x4 < (x3.length : Int) then (laws_toQuestionS.l0 k x0 (x3.set (x4 : Int).toNat (⟨(⟨bt105.1⟩ : S31), bt105.2⟩ : S200)) (wrap64 (x4 + 1))) else (none))) else (none)) else (some x3)
def laws_toQuestionS.f (k : Nat) (l0 : List (S195)) : Option ((List (S200))) := if 0 ≤ (l0.length : Int) then (if ((l0.length : Int) : Int).toNat ≤ 8796093022208 then (laws_toQuestionS.l0 k l0 (List.replicate ((l0.length : Int) : Int).toNat z200) 0) else (none)) else (none)
set_option maxHeartbeats 8000000 in
set_option maxRecDepth 100000 in
theorem laws_toQuestionS.calls (k : Nat) (A0 : Option Addr) (c0 : Nat) (l0 : List (S195)) (r : List (S200)) (w : World) (hr0 : Kd.C k195 w A0 l0.length l0) (hc0 : l0.length ≤ c0) (h : laws_toQuestionS.f k l0 = some r) :
  Calls Try.prog 128 #[.slice A0 l0.length c0] w fun e w' => ∃ v0_ : Value, e = .returned (v0_) ∧ Kd.R k200 200 w' w.heap.size (fun _ => True) v0_ r ∧ Below w.heap.size w w' := by
 have hu195 := Try.underlying195
 have hu200 := Try.underlying200
 have HR0 := ak hr0
 have HC0 := ak hc0
 clear hr0 hc0
 have HB := ak (Below.refl w.heap.size w)
 have H : (if 0 ≤ (l0.length : Int) then (if ((l0.length : Int) : Int).toNat ≤ 8796093022208 then (laws_toQuestionS.l0 k l0 (List.replicate ((l0.length : Int) : Int).toNat z200) 0) else (none)) else (none)) = some r := h
 clear h
 replace H := ipE H
 obtain ⟨c2b0, c2b1, H⟩ := H
 replace H := ipE H
 obtain ⟨c3b0, c3b1, H⟩ := H
 obtain ⟨y101, hy101⟩ : ∃ y_ : List (S200), y_ = (List.replicate ((l0.length : Int) : Int).toNat z200) := ⟨_, rfl⟩
 (try with_reducible replace H := bnS H)
 (try rw [← hy101] at H)
 have Ny101 := ak hy101
 clear hy101
 have H' := ak H
 clear H
 go_enter Try.func128, Try.ntmps128
 go_wp2_with (((with_reducible refine gate_dst (N := 7) rfl ?_);refine Kd.R_make k200 _ 200 rfl (N := 7) rfl 89 _ _ rfl (l0.length : Int) rfl rfl Try.underlying89 (.agg #[(.slice none 0 0), (.int .i64 0)]) 32 info200 rfl (by decide) (by omega) z200 (ok := fun _ => True) (okp := fun _ => True) (k200_mkM _ _ _ z200 (Kd.R_nil _ _ _ _ _)) (fun _ hk => hk) trivial (of_decide_eq_true (by first | (with_reducible assumption) | assumption)) (Nat.le_trans (Nat.mul_le_mul_right _ (of_decide_eq_true (by first | (with_reducible assumption) | assumption) : (l0.length : Int).toNat ≤ 8796093022208)) (by omega)) (Below.refl _ _) (Nat.le_refl _) ?_;intro v102 w4 ho5 hb hg_ hnew_;clear hg_ hnew_;(first | rw [← Ny101.out] at ho5 | (simp only [Int.reduceToNat] at ho5; rw [← Ny101.out] at ho5));have HO103 := ak (Kd.R_lower ho5 (below_size (bw HB.out)));replace HB := b2 HB hb;clear hb ho5))
 go_loopg [4] k (fun kq v4 w' => ∃ (x3_1 : List (S200)) (x4_1 : Int), v4 = .int .i64 x4_1 ∧ Aside0 (laws_toQuestionS.l0 kq l0 x3_1 x4_1 = some r) ∧ Aside0 (kq ≤ k) ∧ Aside0 (Kd.R k200 200 w' w.heap.size (fun _ => True) v102 x3_1) ∧ Aside0 (Below w.heap.size w w'))
 case atStart => exact ⟨(y101), (0), o2, H', ⟨Nat.le_refl _⟩, ⟨rw_ HO103.out⟩, ⟨bw HB.out⟩⟩
 case round =>
  clear H'
  (try clear c2b0)
  (try clear c2b1)
  (try clear c3b0)
  (try clear c3b1)
  obtain ⟨x3_1, x4_1, rfl, HA, HK1, HO_3, HB⟩ := hrel
  cases gk with
  | zero => exact absurd HA.out (by simp [laws_toQuestionS.l0])
  | succ k1 =>
   have H := HA.out
   clear HA
   simp only [laws_toQuestionS.l0] at H
   replace H := ip H
   obtain ⟨c6b0, H⟩ | ⟨c6b0, H⟩ := H
   ·replace H := ipN H
    obtain ⟨c7b0, H⟩ := H
    replace H := Option.bind_eq_some_iff.mp H
    obtain ⟨⟨t105, t108⟩, A80, H⟩ := H
    replace H : (if x4_1 < (x3_1.length : Int) then (laws_toQuestionS.l0 k1 l0 (x3_1.set (x4_1 : Int).toNat (⟨(⟨t105⟩ : S31), t108⟩ : S200)) (wrap64 (x4_1 + 1))) else (none)) = some r := H
    have A8 := ak A80
    clear A80
    replace H := ipN H
    obtain ⟨c9b0, H⟩ := H
    obtain ⟨y109, hy109⟩ : ∃ y_ : List (S200), y_ = (x3_1.set (x4_1 : Int).toNat (⟨(⟨t105⟩ : S31), t108⟩ : S200)) := ⟨_, rfl⟩
    (try with_reducible replace H := bnS H)
    (try rw [← hy109] at H)
    have Ny109 := ak hy109
    clear hy109
    have H' := ak H
    clear H
    obtain ⟨ad104, A104_0, c104_0, rfl, hx104_0, hx104_1, HC104_0, HR104_0, p104, q104⟩ := el_T195 HR0 HB x4_1
    go_wp2_with (first | ((with_reducible refine gate_callee (f := 194) rfl ?_);refine glG 20 rfl rfl Try.func194 (laws_toQuestion.calls k1 _ _ ((rd_T195 l0 x4_1).f0.f0) ((rd_T195 l0 x4_1).f1) t105 t108 _ (cv HR104_0 HB) HC104_0.out A8.out) ?_;rintro e w11 ⟨v106, rfl, ho0, hb⟩;refine ⟨_, rfl, ?_⟩;replace HO_3 := ak (Kd.R_elder' (rw_ HO_3.out) (Kd.S_base ho0) hb);have HO107 := ak (Kd.S_lower ho0 (below_size (bw HB.out)));replace HB := b2 HB hb;(try clear hb);(try clear ho0);have p10 : 0 ≤ (x4_1 : Int) := of_decide_eq_true (by first | (with_reducible assumption) | assumption);have q10 : (x4_1 : Int) < ((x3_1.length : Int) : Int) := of_decide_eq_true (by first | (with_reducible assumption) | assumption);obtain ⟨go10, co10, eo10, gb10, gl10, cl10, HG10⟩ := Kd.R_form HO_3.out (by omega);(first | cases eo10 | (injection eo10 with ea_ en_ ec_; (first | subst ea_ | (injection ea_ with ea_; subst ea_)); subst ec_; clear en_));have GB10 := ak gb10;have GG10 := ak HG10;clear gb10 gl10 HG10;obtain ⟨ce10, hcl10, hM10, hcc10, hfr10⟩ := Kd.R_elem HO_3.out z200 (x4_1 : Int) p10 q10;obtain ⟨ve10_0, rfl, ge10_0⟩ := k200_openM hM10;have hx10_0 : w11.cell? ⟨go10, (x4_1 : Int).toNat * 2, none⟩ = some (ve10_0) := hcc10 0 _ rfl;have hx10_1 : w11.cell? ⟨go10, (x4_1 : Int).toNat * 2 + 1, none⟩ = some (.int .i64 ((rd_T200 x3_1 x4_1).f1)) := hcc10 1 _ rfl;have hf10_0 : w11.frozen? ⟨go10, (x4_1 : Int).toNat * 2, none⟩ = false := hfr10 0;have hf10_1 : w11.frozen? ⟨go10, (x4_1 : Int).toNat * 2 + 1, none⟩ = false := hfr10 1;(try clear hcl10);(try clear hcc10);(try clear hfr10);(try clear hM10);replace p10 := eq_true p10;replace q10 := eq_true q10;have n_ := ak (Kd.R_mono (ok' := (fun k_ => some k_ ≠ (v106 : Value).ownBlock)) HO_3.out (fun k_ hk => hk.2));clear HO_3;have HO_3 := n_;clear n_;have HX12 := ak (show Kd.R k200 200 w11 w.heap.size (fun _ => True) (.slice (some ⟨go10, 0, none⟩) x3_1.length co10) x3_1 from (rw_ (Kd.R_mono HO_3.out (fun _ hk => trivial))));obtain ⟨ce12, hcl12, hM12, hcc12, hfr12⟩ := Kd.R_elem HX12.out z200 (x4_1 : Int) (of_decide_eq_true (by first | (with_reducible assumption) | assumption)) (by have h_ : (x4_1 : Int) < ((x3_1.length : Int) : Int) := of_decide_eq_true (by first | (with_reducible assumption) | assumption); first | exact h_ | (have e_ := (Kd.R_reads' HO_3.out).1; omega) | simpa using h_);obtain ⟨ve12_0, rfl, ge12_0⟩ := k200_openM hM12;have HP12 := Kd.R_seg HX12.out (x4_1 : Int) (of_decide_eq_true (by first | (with_reducible assumption) | assumption)) (by have h_ : (x4_1 : Int) < ((x3_1.length : Int) : Int) := of_decide_eq_true (by first | (with_reducible assumption) | assumption); first | exact h_ | (have e_ := (Kd.R_reads' HO_3.out).1; omega) | simpa using h_) (seg := [v106, .int .i64 t108]) (j := 0) hcl12 hcc12 (show 2 ≤ 2 from by decide) (x' := (⟨(⟨t105⟩ : S31), t108⟩ : S200)) (k200_mkM _ _ _ (⟨(⟨t105⟩ : S31), t108⟩ : S200) (Kd.R_mono (Kd.R_apart' ((Kd.S_R HO107.out)) (Kd.R_typed HO_3.out) (by decide)) (fun k_ hk => ⟨trivial, fun e_ => (hk.2) (by rw [e_]; rfl)⟩))) (fun _ hk => hk);have hx12_0 := hcc12 0 _ rfl;(try simp only [show (k200).sz = 2 from rfl, Nat.mul_one, Nat.add_zero] at hx12_0);have hf12_0 := hfr12 0;(try simp only [show (k200).sz = 2 from rfl, Nat.mul_one, Nat.add_zero] at hf12_0);have hx12_1 := hcc12 1 _ rfl;(try simp only [show (k200).sz = 2 from rfl, Nat.mul_one, Nat.add_zero] at hx12_1);have hf12_1 := hfr12 1;(try simp only [show (k200).sz = 2 from rfl, Nat.mul_one, Nat.add_zero] at hf12_1);(try clear hcl12);(try clear hcc12);(try clear hfr12);(try clear hM12)) | ((with_reducible refine gate_store (t := 200) (p := 21) rfl ?_);refine store_event (t := 200) (p := 21) (v := ?vo_w13) (w1 := ((w11.setCell ⟨go10, (x4_1 : Int).toNat * 2, none⟩ (v106)).setCell ⟨go10, (x4_1 : Int).toNat * 2 + 1, none⟩ (.int .i64 t108))) ?hg ?ho ?hn ?hr ?_;(case ho => rfl);(case hg => rfl);(case hn => rfl);(case hr => first | (go_simp; done) | (go_simp; rfl) | ((first | (obtain ⟨A_, c_, e_⟩ := Kd.R_slice HO107.out; rw [e_]) | (obtain ⟨A_, c_, e_⟩ := Kd.S_slice HO107.out; rw [e_])); first | (go_simp; done) | (go_simp; rfl)));intro w13 hw;have hg : w11.grownBy w13 (some go10) := (by rw [hw]; exact HP12.2);have hp_ : Kd.R k200 200 w13 w.heap.size (fun _ => True) (.slice (some ⟨go10, 0, none⟩) x3_1.length co10) y109 := (by rw [hw, Ny109.out]; exact HP12.1);clear HP12;replace HO_3 := ak (hp_);replace HB := ak ((by rw [hw]; exact below_set (below_set (HB.out) GB10.out) GB10.out : Below w.heap.size w w13));clear HO107;clear hg hw hp_))
    go_roundg k1
    case measure => have := HK1.out; omega
    case rel => exact ⟨(y109), (wrap64 (x4_1 + 1)), o2, H', ⟨by have := HK1.out; omega⟩, ⟨rw_ HO_3.out⟩, ⟨bw HB.out⟩⟩
   ·obtain rfl := Option.some.inj H
    go_wp2
    go_ret
    exact ⟨_, o1, rw_ HO_3.out, bw HB.out⟩

/-! ### laws_toWant: function 195 -/
def laws_toWant.f (k : Nat) (l0_0 : List (List Int)) (a0_1 : Int) (a0_2 : Int) (a0_3 : Int) (l0_4 : List (List Int)) (l0_5 : List Int) (l0_6 : List Int) (a0_7 : Int) (a0_8 : Bool) : Option ((List (List Int)) × Int × Int × Int × (List (List Int)) × List Int × List Int × Int × Bool) := (laws_toRr.f k l0_0 a0_1 a0_2 a0_3 l0_4 l0_5 l0_6).bind fun bt104 => (some (bt104.1, bt104.2.1, bt104.2.2.1, bt104.2.2.2.1, bt104.2.2.2.2.1, bt104.2.2.2.2.2.1, bt104.2.2.2.2.2.2, a0_7, a0_8))
set_option maxHeartbeats 8000000 in
set_option maxRecDepth 100000 in
theorem laws_toWant.calls (k : Nat) (A0_0 : Option Addr) (c0_0 : Nat) (l0_0 : List (List Int)) (a0_1 : Int) (a0_2 : Int) (a0_3 : Int) (A0_4 : Option Addr) (c0_4 : Nat) (l0_4 : List (List Int)) (A0_5 : Option Addr) (c0_5 : Nat) (l0_5 : List Int) (A0_6 : Option Addr) (c0_6 : Nat) (l0_6 : List Int) (a0_7 : Int) (a0_8 : Bool) (r1 : List (List Int)) (r2 : Int) (r3 : Int) (r4 : Int) (r5 : List (List Int)) (r6 : List Int) (r7 : List Int) (r8 : Int) (r9 : Bool) (w : World) (hr0_0 : Kd.C (Kd.slice 5 (Kd.int .u8)) w A0_0 l0_0.length l0_0) (hc0_0 : l0_0.length ≤ c0_0) (hr0_4 : Kd.C (Kd.slice 5 (Kd.int .u8)) w A0_4 l0_4.length l0_4) (hc0_4 : l0_4.length ≤ c0_4) (hr0_5 : Kd.C (Kd.int .u8) w A0_5 l0_5.length l0_5) (hc0_5 : l0_5.length ≤ c0_5) (hr0_6 : Kd.C (Kd.int .i64) w A0_6 l0_6.length l0_6) (hc0_6 : l0_6.length ≤ c0_6) (h : laws_toWant.f k l0_0 a0_1 a0_2 a0_3 l0_4 l0_5 l0_6 a0_7 a0_8 = some (r1, r2, r3, r4, r5, r6, r7, r8, r9)) :
  Calls Try.prog 195 #[.agg #[.slice A0_0 l0_0.length c0_0, .int .i64 a0_1, .int .i64 a0_2, .int .i64 a0_3, .slice A0_4 l0_4.length c0_4, .slice A0_5 l0_5.length c0_5, .slice A0_6 l0_6.length c0_6, .int .i64 a0_7, .bool a0_8]] w fun e w' => ∃ v0_ v4_ v5_ v6_ : Value, e = .returned (.agg #[v0_, .int .i64 r2, .int .i64 r3, .int .i64 r4, v4_, v5_, v6_, .int .i64 r8, .bool r9]) ∧ Kd.S (Kd.slice 5 (Kd.int .u8)) 25 w' w.heap.size (fun k_ => some k_ ≠ (v4_ : Value).ownBlock ∧ some k_ ≠ (v5_ : Value).ownBlock) v0_ r1 ∧ Kd.S (Kd.slice 5 (Kd.int .u8)) 25 w' w.heap.size (fun k_ => some k_ ≠ (v0_ : Value).ownBlock ∧ some k_ ≠ (v5_ : Value).ownBlock) v4_ r5 ∧ Kd.R (Kd.int .u8) 5 w' w.heap.size (fun _ => True) v5_ r6 ∧ Kd.R (Kd.int .i64) 3 w' w.heap.size (fun _ => True) v6_ r7 ∧ Below w.heap.size w w' := by
 have hu198 := Try.underlying198
 have hu205 := Try.underlying205
 have hu28 := Try.underlying28
 have hu33 := Try.underlying33
 have HR0_0 := ak hr0_0
 have HC0_0 := ak hc0_0
 clear hr0_0 hc0_0
 have HR0_4 := ak hr0_4
 have HC0_4 := ak hc0_4
 clear hr0_4 hc0_4
 have HR0_5 := ak hr0_5
 have HC0_5 := ak hc0_5
 clear hr0_5 hc0_5
 have HR0_6 := ak hr0_6
 have HC0_6 := ak hc0_6
 clear hr0_6 hc0_6
 have HB := ak (Below.refl w.heap.size w)
 have H : ((laws_toRr.f k l0_0 a0_1 a0_2 a0_3 l0_4 l0_5 l0_6).bind fun bt104 => (some (bt104.1, bt104.2.1, bt104.2.2.1, bt104.2.2.2.1, bt104.2.2.2.2.1, bt104.2.2.2.2.2.1, bt104.2.2.2.2.2.2, a0_7, a0_8))) = some (r1, r2, r3, r4, r5, r6, r7, r8, r9) := h
 clear h
 replace H := Option.bind_eq_some_iff.mp H
 obtain ⟨⟨t104, t107, t108, t109, t110, t113, t116⟩, A20, H⟩ := H
 replace H : (some (t104, t107, t108, t109, t110, t113, t116, a0_7, a0_8)) = some (r1, r2, r3, r4, r5, r6, r7, r8, r9) := H
 have A2 := ak A20
 clear A20
 simp only [Option.some.injEq, Prod.mk.injEq] at H
 obtain ⟨rfl, rfl, rfl, rfl, rfl, rfl, rfl, rfl, rfl⟩ := H
 go_enter Try.func195, Try.ntmps195
 go_wp2_with (first | ((with_reducible refine gate_dst (N := 1) rfl ?_);refine bxd (N := 1) rfl HB ?_;clear HB;intro gb101 w3 hg HB BK101 GE101 hb;have GW101 := GE101;clear hb hg) | ((with_reducible refine gate_dst (N := 2) rfl ?_);refine bxe (N := 2) rfl ?_;intro gb102 hg w4 hbox hb;have BK102 := ak (hbox);have GW102 := b3s hg bs;have GE102 := GW102;replace HB := b2s bs hb;have NB101_102 := b4 hg BK101;have NB102_101 := b5 hg BK101;replace BK101 := b1 BK101 hb;clear hb hbox hg) | ((with_reducible refine gate_dst (N := 3) rfl ?_);refine bxe (N := 3) rfl ?_;intro gb103 hg w5 hbox hb;have BK103 := ak (hbox);have GW103 := b3s hg bs;have GE103 := GW103;replace HB := b2s bs hb;have NB101_103 := b4 hg BK101;have NB103_101 := b5 hg BK101;replace BK101 := b1 BK101 hb;have NB102_103 := b4 hg BK102;have NB103_102 := b5 hg BK102;replace BK102 := b1 BK102 hb;clear hb hbox hg;have hnb6 := NB101_102.out;have hnc6 := NB102_101.out;have hnb7 := NB101_103.out;have hnc7 := NB103_101.out;obtain ⟨hcz8_0, hcz8_1, hcz8_2, hcz8_3, hcz8_4, hcz8_5, hcz8_6, hcz8_7, hcz8_8, hfz8_0, hfz8_1, hfz8_2, hfz8_3, hfz8_4, hfz8_5, hfz8_6, hfz8_7, hfz8_8⟩ := cells9 BK101.out) | ((with_reducible refine gate_callee (f := 15) rfl ?_);refine glG 6 rfl rfl Try.func15 (laws_toRr.calls k _ _ l0_0 a0_1 a0_2 a0_3 _ _ l0_4 _ _ l0_5 _ _ l0_6 t104 t107 t108 t109 t110 t113 t116 _ (cv HR0_0 HB) HC0_0.out (cv HR0_4 HB) HC0_4.out (cv HR0_5 HB) HC0_5.out (cv HR0_6 HB) HC0_6.out A2.out) ?_;rintro e w9 ⟨v105, v111, v114, v117, rfl, ho0, ho1, ho2, ho3, hb⟩;refine ⟨_, rfl, ?_⟩;have HO106 := ak (Kd.S_lower ho0 (below_size bs));have HO112 := ak (Kd.S_lower ho1 (below_size bs));have HO115 := ak (Kd.R_lower ho2 (below_size bs));have HO118 := ak (Kd.R_lower ho3 (below_size bs));replace BK101 := b1 BK101 hb;replace BK102 := b1 BK102 hb;replace BK103 := b1 BK103 hb;replace HB := b2s bs hb;(try clear hb);(try clear ho0);(try clear ho1);(try clear ho2);(try clear ho3);obtain ⟨Ao10, co10, eo10⟩ := Kd.S_slice HO106.out;subst eo10;have hnb11 := NB103_102.out;have hnc11 := NB102_103.out;obtain ⟨hcz12_0, hcz12_1, hcz12_2, hcz12_3, hcz12_4, hcz12_5, hcz12_6, hcz12_7, hcz12_8, hfz12_0, hfz12_1, hfz12_2, hfz12_3, hfz12_4, hfz12_5, hfz12_6, hfz12_7, hfz12_8⟩ := cells9 BK103.out;obtain ⟨Ao13, co13, eo13⟩ := Kd.S_slice HO112.out;subst eo13;obtain ⟨Ao14, co14, eo14⟩ := Kd.R_slice HO115.out;subst eo14;obtain ⟨Ao15, co15, eo15⟩ := Kd.R_slice HO118.out;subst eo15;obtain ⟨hcz16_0, hcz16_1, hcz16_2, hcz16_3, hcz16_4, hcz16_5, hcz16_6, hcz16_7, hcz16_8, hfz16_0, hfz16_1, hfz16_2, hfz16_3, hfz16_4, hfz16_5, hfz16_6, hfz16_7, hfz16_8⟩ := cells9 BK101.out;obtain ⟨hcz17_0, hcz17_1, hcz17_2, hcz17_3, hcz17_4, hcz17_5, hcz17_6, hcz17_7, hcz17_8, hfz17_0, hfz17_1, hfz17_2, hfz17_3, hfz17_4, hfz17_5, hfz17_6, hfz17_7, hfz17_8⟩ := cells9 BK102.out))
 refine bodyPost_ret (results_cell_row rfl _ _ gb102 205 #[.slice Ao10 t104.length co10, .int .i64 t107, .int .i64 t108, .int .i64 t109, .slice Ao13 t110.length co13, .slice Ao14 t113.length co14, .slice Ao15 t116.length co15, .int .i64 a0_7, .bool a0_8] (0, 0) _ rfl (by (with_reducible repeat (first | refine blk_drewN ?_ _ | refine blk_drew ?_ | refine blk_alloc ?_ _)); refine blk_put (cs := #[.slice Ao10 t104.length co10, .int .i64 t107, .int .i64 t108, .int .i64 t109, .slice Ao13 t110.length co13, .slice Ao14 t113.length co14, .slice Ao15 t116.length co15, .int .i64 a0_7, .bool false]) ?_ 8 _ rfl; (with_reducible repeat (first | refine blk_drewN ?_ _ | refine blk_drew ?_ | refine blk_alloc ?_ _)); refine blk_put (cs := #[.slice Ao10 t104.length co10, .int .i64 t107, .int .i64 t108, .int .i64 t109, .slice Ao13 t110.length co13, .slice Ao14 t113.length co14, .slice Ao15 t116.length co15, .int .i64 0, .bool false]) ?_ 7 _ rfl; (with_reducible repeat (first | refine blk_drewN ?_ _ | refine blk_drew ?_ | refine blk_alloc ?_ _)); refine blk_put (cs := #[.slice Ao10 t104.length co10, .int .i64 t107, .int .i64 t108, .int .i64 t109, .slice Ao13 t110.length co13, .slice Ao14 t113.length co14, .slice none 0 0, .int .i64 0, .bool false]) ?_ 6 _ rfl; (with_reducible repeat (first | refine blk_drewN ?_ _ | refine blk_drew ?_ | refine blk_alloc ?_ _)); refine blk_put (cs := #[.slice Ao10 t104.length co10, .int .i64 t107, .int .i64 t108, .int .i64 t109, .slice Ao13 t110.length co13, .slice none 0 0, .slice none 0 0, .int .i64 0, .bool false]) ?_ 5 _ rfl; (with_reducible repeat (first | refine blk_drewN ?_ _ | refine blk_drew ?_ | refine blk_alloc ?_ _)); refine blk_put (cs := #[.slice Ao10 t104.length co10, .int .i64 t107, .int .i64 t108, .int .i64 t109, .slice none 0 0, .slice none 0 0, .slice none 0 0, .int .i64 0, .bool false]) ?_ 4 _ rfl; (with_reducible repeat (first | refine blk_drewN ?_ _ | refine blk_drew ?_ | refine blk_alloc ?_ _)); refine blk_put (cs := #[.slice Ao10 t104.length co10, .int .i64 t107, .int .i64 t108, .int .i64 0, .slice none 0 0, .slice none 0 0, .slice none 0 0, .int .i64 0, .bool false]) ?_ 3 _ rfl; (with_reducible repeat (first | refine blk_drewN ?_ _ | refine blk_drew ?_ | refine blk_alloc ?_ _)); refine blk_put (cs := #[.slice Ao10 t104.length co10, .int .i64 t107, .int .i64 0, .int .i64 0, .slice none 0 0, .slice none 0 0, .slice none 0 0, .int .i64 0, .bool false]) ?_ 2 _ rfl; (with_reducible repeat (first | refine blk_drewN ?_ _ | refine blk_drew ?_ | refine blk_alloc ?_ _)); refine blk_put (cs := #[.slice Ao10 t104.length co10, .int .i64 0, .int .i64 0, .int .i64 0, .slice none 0 0, .slice none 0 0, .slice none 0 0, .int .i64 0, .bool false]) ?_ 1 _ rfl; (with_reducible repeat (first | refine blk_drewN ?_ _ | refine blk_drew ?_ | refine blk_alloc ?_ _)); refine blk_put (cs := #[.slice none 0 0, .int .i64 0, .int .i64 0, .int .i64 0, .slice none 0 0, .slice none 0 0, .slice none 0 0, .int .i64 0, .bool false]) ?_ 0 _ rfl; (with_reducible repeat (first | refine blk_drewN ?_ _ | refine blk_drew ?_ | refine blk_alloc ?_ _)); refine blk_far ?_ NB102_103.out _; (with_reducible repeat (first | refine blk_drewN ?_ _ | refine blk_drew ?_ | refine blk_alloc ?_ _)); refine blk_far ?_ NB102_103.out _; (with_reducible repeat (first | refine blk_drewN ?_ _ | refine blk_drew ?_ | refine blk_alloc ?_ _)); refine blk_far ?_ NB102_103.out _; (with_reducible repeat (first | refine blk_drewN ?_ _ | refine blk_drew ?_ | refine blk_alloc ?_ _)); refine blk_far ?_ NB102_103.out _; (with_reducible repeat (first | refine blk_drewN ?_ _ | refine blk_drew ?_ | refine blk_alloc ?_ _)); refine blk_far ?_ NB102_103.out _; (with_reducible repeat (first | refine blk_drewN ?_ _ | refine blk_drew ?_ | refine blk_alloc ?_ _)); refine blk_far ?_ NB102_103.out _; (with_reducible repeat (first | refine blk_drewN ?_ _ | refine blk_drew ?_ | refine blk_alloc ?_ _)); refine blk_far ?_ NB102_103.out _; (with_reducible repeat (first | refine blk_drewN ?_ _ | refine blk_drew ?_ | refine blk_alloc ?_ _)); refine blk_far ?_ NB102_103.out _; (with_reducible repeat (first | refine blk_drewN ?_ _ | refine blk_drew ?_ | refine blk_alloc ?_ _)); refine blk_far ?_ NB102_103.out _; (with_reducible repeat (first | refine blk_drewN ?_ _ | refine blk_drew ?_ | refine blk_alloc ?_ _)); exact BK102.out) Try.underlying205 rfl (by kernel_rfl)) rfl ?_
 exact ⟨_, _, _, _, o1, by (with_reducible repeat (first | apply Kd.S_alloc | apply Kd.S_drewN | apply Kd.S_drew)); exact Kd.S_mono (Kd.S_far (p := ⟨gb102, 8, none⟩) (Kd.S_far (p := ⟨gb102, 7, none⟩) (Kd.S_far (p := ⟨gb102, 6, none⟩) (Kd.S_far (p := ⟨gb102, 5, none⟩) (Kd.S_far (p := ⟨gb102, 4, none⟩) (Kd.S_far (p := ⟨gb102, 3, none⟩) (Kd.S_far (p := ⟨gb102, 2, none⟩) (Kd.S_far (p := ⟨gb102, 1, none⟩) (Kd.S_far (p := ⟨gb102, 0, none⟩) (Kd.S_far (p := ⟨gb103, 8, none⟩) (Kd.S_far (p := ⟨gb103, 7, none⟩) (Kd.S_far (p := ⟨gb103, 6, none⟩) (Kd.S_far (p := ⟨gb103, 5, none⟩) (Kd.S_far (p := ⟨gb103, 4, none⟩) (Kd.S_far (p := ⟨gb103, 3, none⟩) (Kd.S_far (p := ⟨gb103, 2, none⟩) (Kd.S_far (p := ⟨gb103, 1, none⟩) (Kd.S_far (p := ⟨gb103, 0, none⟩) (Kd.S_types (Kd.S_types HO106.out BK103.out (by decide)) BK102.out (by decide)) (fun _ hk => hk.1.2) (.slice Ao10 t104.length co10)) (fun _ hk => hk.1.2) (.int .i64 t107)) (fun _ hk => hk.1.2) (.int .i64 t108)) (fun _ hk => hk.1.2) (.int .i64 t109)) (fun _ hk => hk.1.2) (.slice Ao13 t110.length co13)) (fun _ hk => hk.1.2) (.slice Ao14 t113.length co14)) (fun _ hk => hk.1.2) (.slice Ao15 t116.length co15)) (fun _ hk => hk.1.2) (.int .i64 a0_7)) (fun _ hk => hk.1.2) (.bool a0_8)) (fun _ hk => hk.2) (.slice Ao10 t104.length co10)) (fun _ hk => hk.2) (.int .i64 t107)) (fun _ hk => hk.2) (.int .i64 t108)) (fun _ hk => hk.2) (.int .i64 t109)) (fun _ hk => hk.2) (.slice Ao13 t110.length co13)) (fun _ hk => hk.2) (.slice Ao14 t113.length co14)) (fun _ hk => hk.2) (.slice Ao15 t116.length co15)) (fun _ hk => hk.2) (.int .i64 a0_7)) (fun _ hk => hk.2) (.bool a0_8)) (fun _ hk => ⟨hk.1.1.1, hk.1.1.2⟩), by (with_reducible repeat (first | apply Kd.S_alloc | apply Kd.S_drewN | apply Kd.S_drew)); exact Kd.S_mono (Kd.S_far (p := ⟨gb102, 8, none⟩) (Kd.S_far (p := ⟨gb102, 7, none⟩) (Kd.S_far (p := ⟨gb102, 6, none⟩) (Kd.S_far (p := ⟨gb102, 5, none⟩) (Kd.S_far (p := ⟨gb102, 4, none⟩) (Kd.S_far (p := ⟨gb102, 3, none⟩) (Kd.S_far (p := ⟨gb102, 2, none⟩) (Kd.S_far (p := ⟨gb102, 1, none⟩) (Kd.S_far (p := ⟨gb102, 0, none⟩) (Kd.S_far (p := ⟨gb103, 8, none⟩) (Kd.S_far (p := ⟨gb103, 7, none⟩) (Kd.S_far (p := ⟨gb103, 6, none⟩) (Kd.S_far (p := ⟨gb103, 5, none⟩) (Kd.S_far (p := ⟨gb103, 4, none⟩) (Kd.S_far (p := ⟨gb103, 3, none⟩) (Kd.S_far (p := ⟨gb103, 2, none⟩) (Kd.S_far (p := ⟨gb103, 1, none⟩) (Kd.S_far (p := ⟨gb103, 0, none⟩) (Kd.S_types (Kd.S_types HO112.out BK103.out (by decide)) BK102.out (by decide)) (fun _ hk => hk.1.2) (.slice Ao10 t104.length co10)) (fun _ hk => hk.1.2) (.int .i64 t107)) (fun _ hk => hk.1.2) (.int .i64 t108)) (fun _ hk => hk.1.2) (.int .i64 t109)) (fun _ hk => hk.1.2) (.slice Ao13 t110.length co13)) (fun _ hk => hk.1.2) (.slice Ao14 t113.length co14)) (fun _ hk => hk.1.2) (.slice Ao15 t116.length co15)) (fun _ hk => hk.1.2) (.int .i64 a0_7)) (fun _ hk => hk.1.2) (.bool a0_8)) (fun _ hk => hk.2) (.slice Ao10 t104.length co10)) (fun _ hk => hk.2) (.int .i64 t107)) (fun _ hk => hk.2) (.int .i64 t108)) (fun _ hk => hk.2) (.int .i64 t109)) (fun _ hk => hk.2) (.slice Ao13 t110.length co13)) (fun _ hk => hk.2) (.slice Ao14 t113.length co14)) (fun _ hk => hk.2) (.slice Ao15 t116.length co15)) (fun _ hk => hk.2) (.int .i64 a0_7)) (fun _ hk => hk.2) (.bool a0_8)) (fun _ hk => ⟨hk.1.1.1, hk.1.1.2⟩), by (with_reducible repeat (first | apply Kd.R_alloc | apply Kd.R_drewN | apply Kd.R_drew)); exact Kd.R_mono (Kd.R_far (p := ⟨gb102, 8, none⟩) (Kd.R_far (p := ⟨gb102, 7, none⟩) (Kd.R_far (p := ⟨gb102, 6, none⟩) (Kd.R_far (p := ⟨gb102, 5, none⟩) (Kd.R_far (p := ⟨gb102, 4, none⟩) (Kd.R_far (p := ⟨gb102, 3, none⟩) (Kd.R_far (p := ⟨gb102, 2, none⟩) (Kd.R_far (p := ⟨gb102, 1, none⟩) (Kd.R_far (p := ⟨gb102, 0, none⟩) (Kd.R_far (p := ⟨gb103, 8, none⟩) (Kd.R_far (p := ⟨gb103, 7, none⟩) (Kd.R_far (p := ⟨gb103, 6, none⟩) (Kd.R_far (p := ⟨gb103, 5, none⟩) (Kd.R_far (p := ⟨gb103, 4, none⟩) (Kd.R_far (p := ⟨gb103, 3, none⟩) (Kd.R_far (p := ⟨gb103, 2, none⟩) (Kd.R_far (p := ⟨gb103, 1, none⟩) (Kd.R_far (p := ⟨gb103, 0, none⟩) (Kd.R_types (Kd.R_types HO115.out BK103.out (by decide)) BK102.out (by decide)) (fun _ hk => hk.1.2) (.slice Ao10 t104.length co10)) (fun _ hk => hk.1.2) (.int .i64 t107)) (fun _ hk => hk.1.2) (.int .i64 t108)) (fun _ hk => hk.1.2) (.int .i64 t109)) (fun _ hk => hk.1.2) (.slice Ao13 t110.length co13)) (fun _ hk => hk.1.2) (.slice Ao14 t113.length co14)) (fun _ hk => hk.1.2) (.slice Ao15 t116.length co15)) (fun _ hk => hk.1.2) (.int .i64 a0_7)) (fun _ hk => hk.1.2) (.bool a0_8)) (fun _ hk => hk.2) (.slice Ao10 t104.length co10)) (fun _ hk => hk.2) (.int .i64 t107)) (fun _ hk => hk.2) (.int .i64 t108)) (fun _ hk => hk.2) (.int .i64 t109)) (fun _ hk => hk.2) (.slice Ao13 t110.length co13)) (fun _ hk => hk.2) (.slice Ao14 t113.length co14)) (fun _ hk => hk.2) (.slice Ao15 t116.length co15)) (fun _ hk => hk.2) (.int .i64 a0_7)) (fun _ hk => hk.2) (.bool a0_8)) (fun _ hk => trivial), by (with_reducible repeat (first | apply Kd.R_alloc | apply Kd.R_drewN | apply Kd.R_drew)); exact Kd.R_mono (Kd.R_far (p := ⟨gb102, 8, none⟩) (Kd.R_far (p := ⟨gb102, 7, none⟩) (Kd.R_far (p := ⟨gb102, 6, none⟩) (Kd.R_far (p := ⟨gb102, 5, none⟩) (Kd.R_far (p := ⟨gb102, 4, none⟩) (Kd.R_far (p := ⟨gb102, 3, none⟩) (Kd.R_far (p := ⟨gb102, 2, none⟩) (Kd.R_far (p := ⟨gb102, 1, none⟩) (Kd.R_far (p := ⟨gb102, 0, none⟩) (Kd.R_far (p := ⟨gb103, 8, none⟩) (Kd.R_far (p := ⟨gb103, 7, none⟩) (Kd.R_far (p := ⟨gb103, 6, none⟩) (Kd.R_far (p := ⟨gb103, 5, none⟩) (Kd.R_far (p := ⟨gb103, 4, none⟩) (Kd.R_far (p := ⟨gb103, 3, none⟩) (Kd.R_far (p := ⟨gb103, 2, none⟩) (Kd.R_far (p := ⟨gb103, 1, none⟩) (Kd.R_far (p := ⟨gb103, 0, none⟩) (Kd.R_types (Kd.R_types HO118.out BK103.out (by decide)) BK102.out (by decide)) (fun _ hk => hk.1.2) (.slice Ao10 t104.length co10)) (fun _ hk => hk.1.2) (.int .i64 t107)) (fun _ hk => hk.1.2) (.int .i64 t108)) (fun _ hk => hk.1.2) (.int .i64 t109)) (fun _ hk => hk.1.2) (.slice Ao13 t110.length co13)) (fun _ hk => hk.1.2) (.slice Ao14 t113.length co14)) (fun _ hk => hk.1.2) (.slice Ao15 t116.length co15)) (fun _ hk => hk.1.2) (.int .i64 a0_7)) (fun _ hk => hk.1.2) (.bool a0_8)) (fun _ hk => hk.2) (.slice Ao10 t104.length co10)) (fun _ hk => hk.2) (.int .i64 t107)) (fun _ hk => hk.2) (.int .i64 t108)) (fun _ hk => hk.2) (.int .i64 t109)) (fun _ hk => hk.2) (.slice Ao13 t110.length co13)) (fun _ hk => hk.2) (.slice Ao14 t113.length co14)) (fun _ hk => hk.2) (.slice Ao15 t116.length co15)) (fun _ hk => hk.2) (.int .i64 a0_7)) (fun _ hk => hk.2) (.bool a0_8)) (fun _ hk => trivial), bs⟩

/-! ### laws_toWantS: function 129 -/
def laws_toWantS.l0 : Nat → List (S198) → List (S205) → Int → Option ((List (S205)))
 | 0, _, _, _ => none
 | k + 1, x0, x3, x4 => if x4 < (x0.length : Int) then (if 0 ≤ x4 then ((laws_toWant.f k ((rd_T198 x0 x4).f0.f0.f0) ((rd_T198 x0 x4).f0.f1) ((rd_T198 x0 x4).f0.f2) ((rd_T198 x0 x4).f0.f3) ((rd_T198 x0 x4).f0.f4.f0) ((rd_T198 x0 x4).f0.f5) ((rd_T198 x0 x4).f0.f6) ((rd_T198 x0 x4).f1) ((rd_T198 x0 x4).f2)).bind fun bt105 => (if x4 < (x3.length : Int) then (laws_toWantS.l0 k x0 (x3.set (x4 : Int).toNat (⟨(⟨(⟨bt105.1⟩ : S31), bt105.2.1, bt105.2.2.1, bt105.2.2.2.1, (⟨bt105.2.2.2.2.1⟩ : S31), bt105.2.2.2.2.2.1, bt105.2.2.2.2.2.2.1⟩ : S33), bt105.2.2.2.2.2.2.2.1, bt105.2.2.2.2.2.2.2.2⟩ : S205)) (wrap64 (x4 + 1))) else (none))) else (none)) else (some x3)
def laws_toWantS.f (k : Nat) (l0 : List (S198)) : Option ((List (S205))) := if 0 ≤ (l0.length : Int) then (if ((l0.length : Int) : Int).toNat ≤ 2069668946401 then (laws_toWantS.l0 k l0 (List.replicate ((l0.length : Int) : Int).toNat z205) 0) else (none)) else (none)
set_option maxHeartbeats 8000000 in
set_option maxRecDepth 100000 in
theorem laws_toWantS.calls (k : Nat) (A0 : Option Addr) (c0 : Nat) (l0 : List (S198)) (r : List (S205)) (w : World) (hr0 : Kd.C k198 w A0 l0.length l0) (hc0 : l0.length ≤ c0) (h : laws_toWantS.f k l0 = some r) :
  Calls Try.prog 129 #[.slice A0 l0.length c0] w fun e w' => ∃ v0_ : Value, e = .returned (v0_) ∧ Kd.R k205 205 w' w.heap.size (fun _ => True) v0_ r ∧ Below w.heap.size w w' := by
 have hu198 := Try.underlying198
 have hu205 := Try.underlying205
 have HR0 := ak hr0
 have HC0 := ak hc0
 clear hr0 hc0
 have HB := ak (Below.refl w.heap.size w)
 have H : (if 0 ≤ (l0.length : Int) then (if ((l0.length : Int) : Int).toNat ≤ 2069668946401 then (laws_toWantS.l0 k l0 (List.replicate ((l0.length : Int) : Int).toNat z205) 0) else (none)) else (none)) = some r := h
 clear h
 replace H := ipE H
 obtain ⟨c2b0, c2b1, H⟩ := H
 replace H := ipE H
 obtain ⟨c3b0, c3b1, H⟩ := H
 obtain ⟨y101, hy101⟩ : ∃ y_ : List (S205), y_ = (List.replicate ((l0.length : Int) : Int).toNat z205) := ⟨_, rfl⟩
 (try with_reducible replace H := bnS H)
 (try rw [← hy101] at H)
 have Ny101 := ak hy101
 clear hy101
 have H' := ak H
 clear H
 go_enter Try.func129, Try.ntmps129
 go_wp2_with (((with_reducible refine gate_dst (N := 7) rfl ?_);refine Kd.R_make k205 _ 205 rfl (N := 7) rfl 90 _ _ rfl (l0.length : Int) rfl rfl Try.underlying90 (.agg #[(.slice none 0 0), (.int .i64 0), (.int .i64 0), (.int .i64 0), (.slice none 0 0), (.slice none 0 0), (.slice none 0 0), (.int .i64 0), (.bool false)]) 136 info205 rfl (by decide) (by omega) z205 (ok := fun _ => True) (okp := fun _ => True) (k205_mkM _ _ _ z205 (Kd.R_nil _ _ _ _ _) (Kd.R_nil _ _ _ _ _) (Kd.R_nil _ _ _ _ _) (Kd.R_nil _ _ _ _ _)) (fun _ hk => hk) trivial (of_decide_eq_true (by first | (with_reducible assumption) | assumption)) (Nat.le_trans (Nat.mul_le_mul_right _ (of_decide_eq_true (by first | (with_reducible assumption) | assumption) : (l0.length : Int).toNat ≤ 2069668946401)) (by omega)) (Below.refl _ _) (Nat.le_refl _) ?_;intro v102 w4 ho5 hb hg_ hnew_;clear hg_ hnew_;(first | rw [← Ny101.out] at ho5 | (simp only [Int.reduceToNat] at ho5; rw [← Ny101.out] at ho5));have HO103 := ak (Kd.R_lower ho5 (below_size (bw HB.out)));replace HB := b2 HB hb;clear hb ho5))
 go_loopg [4] k (fun kq v4 w' => ∃ (x3_1 : List (S205)) (x4_1 : Int), v4 = .int .i64 x4_1 ∧ Aside0 (laws_toWantS.l0 kq l0 x3_1 x4_1 = some r) ∧ Aside0 (kq ≤ k) ∧ Aside0 (Kd.R k205 205 w' w.heap.size (fun _ => True) v102 x3_1) ∧ Aside0 (Below w.heap.size w w'))
 case atStart => exact ⟨(y101), (0), o2, H', ⟨Nat.le_refl _⟩, ⟨rw_ HO103.out⟩, ⟨bw HB.out⟩⟩
 case round =>
  clear H'
  (try clear c2b0)
  (try clear c2b1)
  (try clear c3b0)
  (try clear c3b1)
  obtain ⟨x3_1, x4_1, rfl, HA, HK1, HO_3, HB⟩ := hrel
  cases gk with
  | zero => exact absurd HA.out (by simp [laws_toWantS.l0])
  | succ k1 =>
   have H := HA.out
   clear HA
   simp only [laws_toWantS.l0] at H
   replace H := ip H
   obtain ⟨c6b0, H⟩ | ⟨c6b0, H⟩ := H
   ·replace H := ipN H
    obtain ⟨c7b0, H⟩ := H
    replace H := Option.bind_eq_some_iff.mp H
    obtain ⟨⟨t105, t108, t109, t110, t111, t114, t117, t120, t121⟩, A80, H⟩ := H
    replace H : (if x4_1 < (x3_1.length : Int) then (laws_toWantS.l0 k1 l0 (x3_1.set (x4_1 : Int).toNat (⟨(⟨(⟨t105⟩ : S31), t108, t109, t110, (⟨t111⟩ : S31), t114, t117⟩ : S33), t120, t121⟩ : S205)) (wrap64 (x4_1 + 1))) else (none)) = some r := H
    have A8 := ak A80
    clear A80
    replace H := ipN H
    obtain ⟨c9b0, H⟩ := H
    obtain ⟨y122, hy122⟩ : ∃ y_ : List (S205), y_ = (x3_1.set (x4_1 : Int).toNat (⟨(⟨(⟨t105⟩ : S31), t108, t109, t110, (⟨t111⟩ : S31), t114, t117⟩ : S33), t120, t121⟩ : S205)) := ⟨_, rfl⟩
    (try with_reducible replace H := bnS H)
    (try rw [← hy122] at H)
    have Ny122 := ak hy122
    clear hy122
    have H' := ak H
    clear H
    obtain ⟨ad104, A104_0, c104_0, A104_4, c104_4, A104_5, c104_5, A104_6, c104_6, rfl, hx104_0, hx104_1, hx104_2, hx104_3, hx104_4, hx104_5, hx104_6, hx104_7, hx104_8, HC104_0, HR104_0, HC104_4, HR104_4, HC104_5, HR104_5, HC104_6, HR104_6, p104, q104⟩ := el_T198 HR0 HB x4_1
    go_wp2_with (first | ((with_reducible refine gate_callee (f := 195) rfl ?_);refine glG 20 rfl rfl Try.func195 (laws_toWant.calls k1 _ _ ((rd_T198 l0 x4_1).f0.f0.f0) ((rd_T198 l0 x4_1).f0.f1) ((rd_T198 l0 x4_1).f0.f2) ((rd_T198 l0 x4_1).f0.f3) _ _ ((rd_T198 l0 x4_1).f0.f4.f0) _ _ ((rd_T198 l0 x4_1).f0.f5) _ _ ((rd_T198 l0 x4_1).f0.f6) ((rd_T198 l0 x4_1).f1) ((rd_T198 l0 x4_1).f2) t105 t108 t109 t110 t111 t114 t117 t120 t121 _ (cv HR104_0 HB) HC104_0.out (cv HR104_4 HB) HC104_4.out (cv HR104_5 HB) HC104_5.out (cv HR104_6 HB) HC104_6.out A8.out) ?_;rintro e w11 ⟨v106, v112, v115, v118, rfl, ho0, ho1, ho2, ho3, hb⟩;refine ⟨_, rfl, ?_⟩;replace HO_3 := ak (Kd.R_mono (Kd.R_told (Kd.R_told (Kd.R_told (Kd.R_told (Kd.R_old (rw_ HO_3.out) hb) (Kd.S_base ho0)) (Kd.S_base ho1)) (Kd.R_base ho2)) (Kd.R_base ho3)) (fun _ h_ => h_.1));have HO107 := ak (Kd.S_lower ho0 (below_size (bw HB.out)));have HO113 := ak (Kd.S_lower ho1 (below_size (bw HB.out)));have HO116 := ak (Kd.R_lower ho2 (below_size (bw HB.out)));have HO119 := ak (Kd.R_lower ho3 (below_size (bw HB.out)));replace HB := b2 HB hb;(try clear hb);(try clear ho0);(try clear ho1);(try clear ho2);(try clear ho3);have p10 : 0 ≤ (x4_1 : Int) := of_decide_eq_true (by first | (with_reducible assumption) | assumption);have q10 : (x4_1 : Int) < ((x3_1.length : Int) : Int) := of_decide_eq_true (by first | (with_reducible assumption) | assumption);obtain ⟨go10, co10, eo10, gb10, gl10, cl10, HG10⟩ := Kd.R_form HO_3.out (by omega);(first | cases eo10 | (injection eo10 with ea_ en_ ec_; (first | subst ea_ | (injection ea_ with ea_; subst ea_)); subst ec_; clear en_));have GB10 := ak gb10;have GG10 := ak HG10;clear gb10 gl10 HG10;obtain ⟨ce10, hcl10, hM10, hcc10, hfr10⟩ := Kd.R_elem HO_3.out z205 (x4_1 : Int) p10 q10;obtain ⟨ve10_0, ve10_4, ve10_5, ve10_6, rfl, ge10_0, ge10_4, ge10_5, ge10_6⟩ := k205_openM hM10;have hx10_0 : w11.cell? ⟨go10, (x4_1 : Int).toNat * 9, none⟩ = some (ve10_0) := hcc10 0 _ rfl;have hx10_1 : w11.cell? ⟨go10, (x4_1 : Int).toNat * 9 + 1, none⟩ = some (.int .i64 ((rd_T205 x3_1 x4_1).f0.f1)) := hcc10 1 _ rfl;have hx10_2 : w11.cell? ⟨go10, (x4_1 : Int).toNat * 9 + 2, none⟩ = some (.int .i64 ((rd_T205 x3_1 x4_1).f0.f2)) := hcc10 2 _ rfl;have hx10_3 : w11.cell? ⟨go10, (x4_1 : Int).toNat * 9 + 3, none⟩ = some (.int .i64 ((rd_T205 x3_1 x4_1).f0.f3)) := hcc10 3 _ rfl;have hx10_4 : w11.cell? ⟨go10, (x4_1 : Int).toNat * 9 + 4, none⟩ = some (ve10_4) := hcc10 4 _ rfl;have hx10_5 : w11.cell? ⟨go10, (x4_1 : Int).toNat * 9 + 5, none⟩ = some (ve10_5) := hcc10 5 _ rfl;have hx10_6 : w11.cell? ⟨go10, (x4_1 : Int).toNat * 9 + 6, none⟩ = some (ve10_6) := hcc10 6 _ rfl;have hx10_7 : w11.cell? ⟨go10, (x4_1 : Int).toNat * 9 + 7, none⟩ = some (.int .i64 ((rd_T205 x3_1 x4_1).f1)) := hcc10 7 _ rfl;have hx10_8 : w11.cell? ⟨go10, (x4_1 : Int).toNat * 9 + 8, none⟩ = some (.bool ((rd_T205 x3_1 x4_1).f2)) := hcc10 8 _ rfl;have hf10_0 : w11.frozen? ⟨go10, (x4_1 : Int).toNat * 9, none⟩ = false := hfr10 0;have hf10_1 : w11.frozen? ⟨go10, (x4_1 : Int).toNat * 9 + 1, none⟩ = false := hfr10 1;have hf10_2 : w11.frozen? ⟨go10, (x4_1 : Int).toNat * 9 + 2, none⟩ = false := hfr10 2;have hf10_3 : w11.frozen? ⟨go10, (x4_1 : Int).toNat * 9 + 3, none⟩ = false := hfr10 3;have hf10_4 : w11.frozen? ⟨go10, (x4_1 : Int).toNat * 9 + 4, none⟩ = false := hfr10 4;have hf10_5 : w11.frozen? ⟨go10, (x4_1 : Int).toNat * 9 + 5, none⟩ = false := hfr10 5;have hf10_6 : w11.frozen? ⟨go10, (x4_1 : Int).toNat * 9 + 6, none⟩ = false := hfr10 6;have hf10_7 : w11.frozen? ⟨go10, (x4_1 : Int).toNat * 9 + 7, none⟩ = false := hfr10 7;have hf10_8 : w11.frozen? ⟨go10, (x4_1 : Int).toNat * 9 + 8, none⟩ = false := hfr10 8;(try clear hcl10);(try clear hcc10);(try clear hfr10);(try clear hM10);replace p10 := eq_true p10;replace q10 := eq_true q10;have n_ := ak (Kd.R_mono (ok' := (fun k_ => some k_ ≠ (v106 : Value).ownBlock ∧ some k_ ≠ (v112 : Value).ownBlock ∧ some k_ ≠ (v115 : Value).ownBlock ∧ some k_ ≠ (v118 : Value).ownBlock)) HO_3.out (fun k_ hk => ⟨hk.1.1.1.2, ⟨hk.1.1.2, ⟨hk.1.2, hk.2⟩⟩⟩));clear HO_3;have HO_3 := n_;clear n_;have HX12 := ak (show Kd.R k205 205 w11 w.heap.size (fun _ => True) (.slice (some ⟨go10, 0, none⟩) x3_1.length co10) x3_1 from (rw_ (Kd.R_mono HO_3.out (fun _ hk => trivial))));obtain ⟨ce12, hcl12, hM12, hcc12, hfr12⟩ := Kd.R_elem HX12.out z205 (x4_1 : Int) (of_decide_eq_true (by first | (with_reducible assumption) | assumption)) (by have h_ : (x4_1 : Int) < ((x3_1.length : Int) : Int) := of_decide_eq_true (by first | (with_reducible assumption) | assumption); first | exact h_ | (have e_ := (Kd.R_reads' HO_3.out).1; omega) | simpa using h_);obtain ⟨ve12_0, ve12_4, ve12_5, ve12_6, rfl, ge12_0, ge12_4, ge12_5, ge12_6⟩ := k205_openM hM12;have HP12 := Kd.R_seg HX12.out (x4_1 : Int) (of_decide_eq_true (by first | (with_reducible assumption) | assumption)) (by have h_ : (x4_1 : Int) < ((x3_1.length : Int) : Int) := of_decide_eq_true (by first | (with_reducible assumption) | assumption); first | exact h_ | (have e_ := (Kd.R_reads' HO_3.out).1; omega) | simpa using h_) (seg := [v106, .int .i64 t108, .int .i64 t109, .int .i64 t110, v112, v115, v118, .int .i64 t120, .bool t121]) (j := 0) hcl12 hcc12 (show 9 ≤ 9 from by decide) (x' := (⟨(⟨(⟨t105⟩ : S31), t108, t109, t110, (⟨t111⟩ : S31), t114, t117⟩ : S33), t120, t121⟩ : S205)) (k205_mkM _ _ _ (⟨(⟨(⟨t105⟩ : S31), t108, t109, t110, (⟨t111⟩ : S31), t114, t117⟩ : S33), t120, t121⟩ : S205) (Kd.R_mono (Kd.R_apart' ((Kd.S_R HO107.out)) (Kd.R_typed HO_3.out) (by decide)) (fun k_ hk => ⟨trivial, fun e_ => (hk.2) (by rw [e_]; rfl)⟩)) (Kd.R_mono (Kd.R_apart' ((Kd.S_R HO113.out)) (Kd.R_typed HO_3.out) (by decide)) (fun k_ hk => ⟨trivial, fun e_ => (hk.2) (by rw [e_]; rfl)⟩)) (Kd.R_mono (Kd.R_apart' (HO116.out) (Kd.R_typed HO_3.out) (by decide)) (fun k_ hk => ⟨trivial, fun e_ => (hk.2) (by rw [e_]; rfl)⟩)) (Kd.R_mono (Kd.R_apart' (HO119.out) (Kd.R_typed HO_3.out) (by decide)) (fun k_ hk => ⟨trivial, fun e_ => (hk.2) (by rw [e_]; rfl)⟩))) (fun _ hk => hk);have hx12_0 := hcc12 0 _ rfl;(try simp only [show (k205).sz = 9 from rfl, Nat.mul_one, Nat.add_zero] at hx12_0);have hf12_0 := hfr12 0;(try simp only [show (k205).sz = 9 from rfl, Nat.mul_one, Nat.add_zero] at hf12_0);have hx12_1 := hcc12 1 _ rfl;(try simp only [show (k205).sz = 9 from rfl, Nat.mul_one, Nat.add_zero] at hx12_1);have hf12_1 := hfr12 1;(try simp only [show (k205).sz = 9 from rfl, Nat.mul_one, Nat.add_zero] at hf12_1);have hx12_2 := hcc12 2 _ rfl;(try simp only [show (k205).sz = 9 from rfl, Nat.mul_one, Nat.add_zero] at hx12_2);have hf12_2 := hfr12 2;(try simp only [show (k205).sz = 9 from rfl, Nat.mul_one, Nat.add_zero] at hf12_2);have hx12_3 := hcc12 3 _ rfl;(try simp only [show (k205).sz = 9 from rfl, Nat.mul_one, Nat.add_zero] at hx12_3);have hf12_3 := hfr12 3;(try simp only [show (k205).sz = 9 from rfl, Nat.mul_one, Nat.add_zero] at hf12_3);have hx12_4 := hcc12 4 _ rfl;(try simp only [show (k205).sz = 9 from rfl, Nat.mul_one, Nat.add_zero] at hx12_4);have hf12_4 := hfr12 4;(try simp only [show (k205).sz = 9 from rfl, Nat.mul_one, Nat.add_zero] at hf12_4);have hx12_5 := hcc12 5 _ rfl;(try simp only [show (k205).sz = 9 from rfl, Nat.mul_one, Nat.add_zero] at hx12_5);have hf12_5 := hfr12 5;(try simp only [show (k205).sz = 9 from rfl, Nat.mul_one, Nat.add_zero] at hf12_5);have hx12_6 := hcc12 6 _ rfl;(try simp only [show (k205).sz = 9 from rfl, Nat.mul_one, Nat.add_zero] at hx12_6);have hf12_6 := hfr12 6;(try simp only [show (k205).sz = 9 from rfl, Nat.mul_one, Nat.add_zero] at hf12_6);have hx12_7 := hcc12 7 _ rfl;(try simp only [show (k205).sz = 9 from rfl, Nat.mul_one, Nat.add_zero] at hx12_7);have hf12_7 := hfr12 7;(try simp only [show (k205).sz = 9 from rfl, Nat.mul_one, Nat.add_zero] at hf12_7);have hx12_8 := hcc12 8 _ rfl;(try simp only [show (k205).sz = 9 from rfl, Nat.mul_one, Nat.add_zero] at hx12_8);have hf12_8 := hfr12 8;(try simp only [show (k205).sz = 9 from rfl, Nat.mul_one, Nat.add_zero] at hf12_8);(try clear hcl12);(try clear hcc12);(try clear hfr12);(try clear hM12)) | ((with_reducible refine gate_store (t := 205) (p := 21) rfl ?_);refine store_event (t := 205) (p := 21) (v := ?vo_w13) (w1 := (((((((((w11.setCell ⟨go10, (x4_1 : Int).toNat * 9, none⟩ (v106)).setCell ⟨go10, (x4_1 : Int).toNat * 9 + 1, none⟩ (.int .i64 t108)).setCell ⟨go10, (x4_1 : Int).toNat * 9 + 2, none⟩ (.int .i64 t109)).setCell ⟨go10, (x4_1 : Int).toNat * 9 + 3, none⟩ (.int .i64 t110)).setCell ⟨go10, (x4_1 : Int).toNat * 9 + 4, none⟩ (v112)).setCell ⟨go10, (x4_1 : Int).toNat * 9 + 5, none⟩ (v115)).setCell ⟨go10, (x4_1 : Int).toNat * 9 + 6, none⟩ (v118)).setCell ⟨go10, (x4_1 : Int).toNat * 9 + 7, none⟩ (.int .i64 t120)).setCell ⟨go10, (x4_1 : Int).toNat * 9 + 8, none⟩ (.bool t121))) ?hg ?ho ?hn ?hr ?_;(case ho => rfl);(case hg => rfl);(case hn => rfl);(case hr => first | (go_simp; done) | (go_simp; rfl) | ((first | (obtain ⟨A_, c_, e_⟩ := Kd.R_slice HO107.out; rw [e_]) | (obtain ⟨A_, c_, e_⟩ := Kd.S_slice HO107.out; rw [e_])); (first | (obtain ⟨A_, c_, e_⟩ := Kd.R_slice HO113.out; rw [e_]) | (obtain ⟨A_, c_, e_⟩ := Kd.S_slice HO113.out; rw [e_])); (first | (obtain ⟨A_, c_, e_⟩ := Kd.R_slice HO116.out; rw [e_]) | (obtain ⟨A_, c_, e_⟩ := Kd.S_slice HO116.out; rw [e_])); (first | (obtain ⟨A_, c_, e_⟩ := Kd.R_slice HO119.out; rw [e_]) | (obtain ⟨A_, c_, e_⟩ := Kd.S_slice HO119.out; rw [e_])); first | (go_simp; done) | (go_simp; rfl)));intro w13 hw;have hg : w11.grownBy w13 (some go10) := (by rw [hw]; exact HP12.2);have hp_ : Kd.R k205 205 w13 w.heap.size (fun _ => True) (.slice (some ⟨go10, 0, none⟩) x3_1.length co10) y122 := (by rw [hw, Ny122.out]; exact HP12.1);clear HP12;replace HO_3 := ak (hp_);replace HB := ak ((by rw [hw]; exact below_set (below_set (below_set (below_set (below_set (below_set (below_set (below_set (below_set (HB.out) GB10.out) GB10.out) GB10.out) GB10.out) GB10.out) GB10.out) GB10.out) GB10.out) GB10.out : Below w.heap.size w w13));clear HO107 HO113 HO116 HO119;clear hg hw hp_))
    go_roundg k1
    case measure => have := HK1.out; omega
    case rel => exact ⟨(y122), (wrap64 (x4_1 + 1)), o2, H', ⟨by have := HK1.out; omega⟩, ⟨rw_ HO_3.out⟩, ⟨bw HB.out⟩⟩
   ·obtain rfl := Option.some.inj H
    go_wp2
    go_ret
    exact ⟨_, o1, rw_ HO_3.out, bw HB.out⟩

/-! ### laws_toMsg: function 55 -/
def laws_toMsg.f (k : Nat) (a0_0 : Int) (a0_1 : Bool) (a0_2 : Int) (a0_3 : Bool) (a0_4 : Int) (l0_5 : List (S195)) (l0_6 : List (S28)) (l0_7 : List (S28)) (l0_8 : List (S28)) (l0_9 : List (S198)) (l0_10 : List (S198)) : Option (Int × Bool × Int × Bool × Int × (List (S200)) × (List (S33)) × (List (S33)) × (List (S33)) × (List (S205)) × (List (S205))) := (laws_toQuestionS.f k l0_5).bind fun t104 => ((laws_toRrS.f k l0_6).bind fun t107 => ((laws_toRrS.f k l0_7).bind fun t110 => ((laws_toRrS.f k l0_8).bind fun t113 => ((laws_toWantS.f k l0_9).bind fun t116 => ((laws_toWantS.f k l0_10).bind fun t119 => (some (a0_0, a0_1, a0_2, a0_3, a0_4, t104, t107, t110, t113, t116, t119)))))))
set_option maxHeartbeats 8000000 in
set_option maxRecDepth 100000 in
theorem laws_toMsg.calls (k : Nat) (a0_0 : Int) (a0_1 : Bool) (a0_2 : Int) (a0_3 : Bool) (a0_4 : Int) (A0_5 : Option Addr) (c0_5 : Nat) (l0_5 : List (S195)) (A0_6 : Option Addr) (c0_6 : Nat) (l0_6 : List (S28)) (A0_7 : Option Addr) (c0_7 : Nat) (l0_7 : List (S28)) (A0_8 : Option Addr) (c0_8 : Nat) (l0_8 : List (S28)) (A0_9 : Option Addr) (c0_9 : Nat) (l0_9 : List (S198)) (A0_10 : Option Addr) (c0_10 : Nat) (l0_10 : List (S198)) (r1 : Int) (r2 : Bool) (r3 : Int) (r4 : Bool) (r5 : Int) (r6 : List (S200)) (r7 : List (S33)) (r8 : List (S33)) (r9 : List (S33)) (r10 : List (S205)) (r11 : List (S205)) (w : World) (hr0_5 : Kd.C k195 w A0_5 l0_5.length l0_5) (hc0_5 : l0_5.length ≤ c0_5) (hr0_6 : Kd.C k28 w A0_6 l0_6.length l0_6) (hc0_6 : l0_6.length ≤ c0_6) (hr0_7 : Kd.C k28 w A0_7 l0_7.length l0_7) (hc0_7 : l0_7.length ≤ c0_7) (hr0_8 : Kd.C k28 w A0_8 l0_8.length l0_8) (hc0_8 : l0_8.length ≤ c0_8) (hr0_9 : Kd.C k198 w A0_9 l0_9.length l0_9) (hc0_9 : l0_9.length ≤ c0_9) (hr0_10 : Kd.C k198 w A0_10 l0_10.length l0_10) (hc0_10 : l0_10.length ≤ c0_10) (h : laws_toMsg.f k a0_0 a0_1 a0_2 a0_3 a0_4 l0_5 l0_6 l0_7 l0_8 l0_9 l0_10 = some (r1, r2, r3, r4, r5, r6, r7, r8, r9, r10, r11)) :
  Calls Try.prog 55 #[.agg #[.int .i64 a0_0, .bool a0_1, .int .i64 a0_2, .bool a0_3, .int .i64 a0_4, .slice A0_5 l0_5.length c0_5, .slice A0_6 l0_6.length c0_6, .slice A0_7 l0_7.length c0_7, .slice A0_8 l0_8.length c0_8, .slice A0_9 l0_9.length c0_9, .slice A0_10 l0_10.length c0_10]] w fun e w' => ∃ v5_ v6_ v7_ v8_ v9_ v10_ : Value, e = .returned (.agg #[.int .i64 r1, .bool r2, .int .i64 r3, .bool r4, .int .i64 r5, v5_, v6_, v7_, v8_, v9_, v10_]) ∧ Kd.R k200 200 w' w.heap.size (fun _ => True) v5_ r6 ∧ Kd.R k33 33 w' w.heap.size (fun k_ => some k_ ≠ (v7_ : Value).ownBlock ∧ some k_ ≠ (v8_ : Value).ownBlock) v6_ r7 ∧ Kd.R k33 33 w' w.heap.size (fun k_ => some k_ ≠ (v6_ : Value).ownBlock ∧ some k_ ≠ (v8_ : Value).ownBlock) v7_ r8 ∧ Kd.R k33 33 w' w.heap.size (fun k_ => some k_ ≠ (v6_ : Value).ownBlock ∧ some k_ ≠ (v7_ : Value).ownBlock) v8_ r9 ∧ Kd.R k205 205 w' w.heap.size (fun k_ => some k_ ≠ (v10_ : Value).ownBlock) v9_ r10 ∧ Kd.R k205 205 w' w.heap.size (fun k_ => some k_ ≠ (v9_ : Value).ownBlock) v10_ r11 ∧ Below w.heap.size w w' := by
 have hu86 := Try.underlying86
 have hu92 := Try.underlying92
 have HR0_5 := ak hr0_5
 have HC0_5 := ak hc0_5
 clear hr0_5 hc0_5
 have HR0_6 := ak hr0_6
 have HC0_6 := ak hc0_6
 clear hr0_6 hc0_6
 have HR0_7 := ak hr0_7
 have HC0_7 := ak hc0_7
 clear hr0_7 hc0_7
 have HR0_8 := ak hr0_8
 have HC0_8 := ak hc0_8
 clear hr0_8 hc0_8
 have HR0_9 := ak hr0_9
 have HC0_9 := ak hc0_9
 clear hr0_9 hc0_9
 have HR0_10 := ak hr0_10
 have HC0_10 := ak hc0_10
 clear hr0_10 hc0_10
 have HB := ak (Below.refl w.heap.size w)
 have H : ((laws_toQuestionS.f k l0_5).bind fun t104 => ((laws_toRrS.f k l0_6).bind fun t107 => ((laws_toRrS.f k l0_7).bind fun t110 => ((laws_toRrS.f k l0_8).bind fun t113 => ((laws_toWantS.f k l0_9).bind fun t116 => ((laws_toWantS.f k l0_10).bind fun t119 => (some (a0_0, a0_1, a0_2, a0_3, a0_4, t104, t107, t110, t113, t116, t119)))))))) = some (r1, r2, r3, r4, r5, r6, r7, r8, r9, r10, r11) := h
 clear h
 replace H := bnd H
 obtain ⟨t104, A2, H⟩ := H
 replace H := bnd H
 obtain ⟨t107, A3, H⟩ := H
 replace H := bnd H
 obtain ⟨t110, A4, H⟩ := H
 replace H := bnd H
 obtain ⟨t113, A5, H⟩ := H
 replace H := bnd H
 obtain ⟨t116, A6, H⟩ := H
 replace H := bnd H
 obtain ⟨t119, A7, H⟩ := H
 simp only [Option.some.injEq, Prod.mk.injEq] at H
 obtain ⟨rfl, rfl, rfl, rfl, rfl, rfl, rfl, rfl, rfl, rfl, rfl⟩ := H
 go_enter Try.func55, Try.ntmps55
 go_wp2_with (first | ((with_reducible refine gate_dst (N := 1) rfl ?_);refine bxd (N := 1) rfl HB ?_;clear HB;intro gb101 w8 hg HB BK101 GE101 hb;have GW101 := GE101;clear hb hg) | ((with_reducible refine gate_dst (N := 2) rfl ?_);refine bxe (N := 2) rfl ?_;intro gb102 hg w9 hbox hb;have BK102 := ak (hbox);have GW102 := b3s hg bs;have GE102 := GW102;replace HB := b2s bs hb;have NB101_102 := b4 hg BK101;have NB102_101 := b5 hg BK101;replace BK101 := b1 BK101 hb;clear hb hbox hg) | ((with_reducible refine gate_dst (N := 3) rfl ?_);refine bxe (N := 3) rfl ?_;intro gb103 hg w10 hbox hb;have BK103 := ak (hbox);have GW103 := b3s hg bs;have GE103 := GW103;replace HB := b2s bs hb;have NB101_103 := b4 hg BK101;have NB103_101 := b5 hg BK101;replace BK101 := b1 BK101 hb;have NB102_103 := b4 hg BK102;have NB103_102 := b5 hg BK102;replace BK102 := b1 BK102 hb;clear hb hbox hg;have hnb11 := NB101_102.out;have hnc11 := NB102_101.out;have hnb12 := NB101_103.out;have hnc12 := NB103_101.out;obtain ⟨hcz13_0, hcz13_1, hcz13_2, hcz13_3, hcz13_4, hcz13_5, hcz13_6, hcz13_7, hcz13_8, hcz13_9, hcz13_10, hfz13_0, hfz13_1, hfz13_2, hfz13_3, hfz13_4, hfz13_5, hfz13_6, hfz13_7, hfz13_8, hfz13_9, hfz13_10⟩ := cells11 BK101.out;have hnb14 := NB103_102.out;have hnc14 := NB102_103.out;obtain ⟨hcz15_0, hcz15_1, hcz15_2, hcz15_3, hcz15_4, hcz15_5, hcz15_6, hcz15_7, hcz15_8, hcz15_9, hcz15_10, hfz15_0, hfz15_1, hfz15_2, hfz15_3, hfz15_4, hfz15_5, hfz15_6, hfz15_7, hfz15_8, hfz15_9, hfz15_10⟩ := cells11 BK103.out) | ((with_reducible refine gate_callee (f := 128) rfl ?_);refine glG 21 rfl rfl Try.func128 (laws_toQuestionS.calls k _ _ l0_5 t104 _ (Kd.C_below HR0_5.out bs) HC0_5.out A2.out) ?_;rintro e w16 ⟨v105, rfl, ho0, hb⟩;refine ⟨_, rfl, ?_⟩;have HO106 := ak (Kd.R_lower ho0 (below_size bs));replace BK101 := ak (blk_below (g := gb101) (o := .cells #[.int .i64 a0_0, .bool a0_1, .int .i64 a0_2, .bool a0_3, .int .i64 a0_4, .slice A0_5 l0_5.length c0_5, .slice A0_6 l0_6.length c0_6, .slice A0_7 l0_7.length c0_7, .slice A0_8 l0_8.length c0_8, .slice A0_9 l0_9.length c0_9, .slice A0_10 l0_10.length c0_10] 86 (0, 0)) (by (with_reducible repeat (first | refine blk_drewN ?_ _ | refine blk_drew ?_ | refine blk_alloc ?_ _)); refine blk_far ?_ NB101_103.out _; (with_reducible repeat (first | refine blk_drewN ?_ _ | refine blk_drew ?_ | refine blk_alloc ?_ _)); refine blk_far ?_ NB101_103.out _; (with_reducible repeat (first | refine blk_drewN ?_ _ | refine blk_drew ?_ | refine blk_alloc ?_ _)); refine blk_far ?_ NB101_103.out _; (with_reducible repeat (first | refine blk_drewN ?_ _ | refine blk_drew ?_ | refine blk_alloc ?_ _)); refine blk_far ?_ NB101_103.out _; (with_reducible repeat (first | refine blk_drewN ?_ _ | refine blk_drew ?_ | refine blk_alloc ?_ _)); refine blk_far ?_ NB101_103.out _; (with_reducible repeat (first | refine blk_drewN ?_ _ | refine blk_drew ?_ | refine blk_alloc ?_ _)); exact BK101.out) hb);replace BK102 := ak (blk_below (g := gb102) (o := .cells #[.int .i64 0, .bool false, .int .i64 0, .bool false, .int .i64 0, .slice none 0 0, .slice none 0 0, .slice none 0 0, .slice none 0 0, .slice none 0 0, .slice none 0 0] 92 (0, 0)) (by (with_reducible repeat (first | refine blk_drewN ?_ _ | refine blk_drew ?_ | refine blk_alloc ?_ _)); refine blk_far ?_ NB102_103.out _; (with_reducible repeat (first | refine blk_drewN ?_ _ | refine blk_drew ?_ | refine blk_alloc ?_ _)); refine blk_far ?_ NB102_103.out _; (with_reducible repeat (first | refine blk_drewN ?_ _ | refine blk_drew ?_ | refine blk_alloc ?_ _)); refine blk_far ?_ NB102_103.out _; (with_reducible repeat (first | refine blk_drewN ?_ _ | refine blk_drew ?_ | refine blk_alloc ?_ _)); refine blk_far ?_ NB102_103.out _; (with_reducible repeat (first | refine blk_drewN ?_ _ | refine blk_drew ?_ | refine blk_alloc ?_ _)); refine blk_far ?_ NB102_103.out _; (with_reducible repeat (first | refine blk_drewN ?_ _ | refine blk_drew ?_ | refine blk_alloc ?_ _)); exact BK102.out) hb);replace BK103 := ak (blk_below (g := gb103) (o := .cells #[.int .i64 a0_0, .bool a0_1, .int .i64 a0_2, .bool a0_3, .int .i64 a0_4, .slice none 0 0, .slice none 0 0, .slice none 0 0, .slice none 0 0, .slice none 0 0, .slice none 0 0] 92 (0, 0)) (by (with_reducible repeat (first | refine blk_drewN ?_ _ | refine blk_drew ?_ | refine blk_alloc ?_ _)); refine blk_put (cs := #[.int .i64 a0_0, .bool a0_1, .int .i64 a0_2, .bool a0_3, .int .i64 0, .slice none 0 0, .slice none 0 0, .slice none 0 0, .slice none 0 0, .slice none 0 0, .slice none 0 0]) ?_ 4 _ rfl; (with_reducible repeat (first | refine blk_drewN ?_ _ | refine blk_drew ?_ | refine blk_alloc ?_ _)); refine blk_put (cs := #[.int .i64 a0_0, .bool a0_1, .int .i64 a0_2, .bool false, .int .i64 0, .slice none 0 0, .slice none 0 0, .slice none 0 0, .slice none 0 0, .slice none 0 0, .slice none 0 0]) ?_ 3 _ rfl; (with_reducible repeat (first | refine blk_drewN ?_ _ | refine blk_drew ?_ | refine blk_alloc ?_ _)); refine blk_put (cs := #[.int .i64 a0_0, .bool a0_1, .int .i64 0, .bool false, .int .i64 0, .slice none 0 0, .slice none 0 0, .slice none 0 0, .slice none 0 0, .slice none 0 0, .slice none 0 0]) ?_ 2 _ rfl; (with_reducible repeat (first | refine blk_drewN ?_ _ | refine blk_drew ?_ | refine blk_alloc ?_ _)); refine blk_put (cs := #[.int .i64 a0_0, .bool false, .int .i64 0, .bool false, .int .i64 0, .slice none 0 0, .slice none 0 0, .slice none 0 0, .slice none 0 0, .slice none 0 0, .slice none 0 0]) ?_ 1 _ rfl; (with_reducible repeat (first | refine blk_drewN ?_ _ | refine blk_drew ?_ | refine blk_alloc ?_ _)); refine blk_put (cs := #[.int .i64 0, .bool false, .int .i64 0, .bool false, .int .i64 0, .slice none 0 0, .slice none 0 0, .slice none 0 0, .slice none 0 0, .slice none 0 0, .slice none 0 0]) ?_ 0 _ rfl; (with_reducible repeat (first | refine blk_drewN ?_ _ | refine blk_drew ?_ | refine blk_alloc ?_ _)); exact BK103.out) hb);replace HB := b2s bs hb;(try clear hb);(try clear ho0);obtain ⟨Ao17, co17, eo17⟩ := Kd.R_slice HO106.out;subst eo17;obtain ⟨hcz18_0, hcz18_1, hcz18_2, hcz18_3, hcz18_4, hcz18_5, hcz18_6, hcz18_7, hcz18_8, hcz18_9, hcz18_10, hfz18_0, hfz18_1, hfz18_2, hfz18_3, hfz18_4, hfz18_5, hfz18_6, hfz18_7, hfz18_8, hfz18_9, hfz18_10⟩ := cells11 BK103.out;obtain ⟨hcz19_0, hcz19_1, hcz19_2, hcz19_3, hcz19_4, hcz19_5, hcz19_6, hcz19_7, hcz19_8, hcz19_9, hcz19_10, hfz19_0, hfz19_1, hfz19_2, hfz19_3, hfz19_4, hfz19_5, hfz19_6, hfz19_7, hfz19_8, hfz19_9, hfz19_10⟩ := cells11 BK101.out) | ((with_reducible refine gate_callee (f := 99) rfl ?_);refine glG 25 rfl rfl Try.func99 (laws_toRrS.calls k _ _ l0_6 t107 _ (Kd.C_below HR0_6.out bs) HC0_6.out A3.out) ?_;rintro e w20 ⟨v108, rfl, ho0, hb⟩;refine ⟨_, rfl, ?_⟩;replace HO106 := ak (Kd.R_below (by (with_reducible repeat (first | apply Kd.R_alloc | apply Kd.R_drewN | apply Kd.R_drew)); exact (Kd.R_mono (Kd.R_far (p := ⟨gb103, 5, none⟩) (Kd.R_types HO106.out BK103.out (by decide)) (fun _ hk => hk.2) (.slice Ao17 t104.length co17)) (fun _ h_ => h_.1))) hb);have HO109 := ak (Kd.R_lower ho0 (below_size bs));replace BK101 := ak (blk_below (g := gb101) (o := .cells #[.int .i64 a0_0, .bool a0_1, .int .i64 a0_2, .bool a0_3, .int .i64 a0_4, .slice A0_5 l0_5.length c0_5, .slice A0_6 l0_6.length c0_6, .slice A0_7 l0_7.length c0_7, .slice A0_8 l0_8.length c0_8, .slice A0_9 l0_9.length c0_9, .slice A0_10 l0_10.length c0_10] 86 (0, 0)) (by (with_reducible repeat (first | refine blk_drewN ?_ _ | refine blk_drew ?_ | refine blk_alloc ?_ _)); refine blk_far ?_ NB101_103.out _; (with_reducible repeat (first | refine blk_drewN ?_ _ | refine blk_drew ?_ | refine blk_alloc ?_ _)); exact BK101.out) hb);replace BK102 := ak (blk_below (g := gb102) (o := .cells #[.int .i64 0, .bool false, .int .i64 0, .bool false, .int .i64 0, .slice none 0 0, .slice none 0 0, .slice none 0 0, .slice none 0 0, .slice none 0 0, .slice none 0 0] 92 (0, 0)) (by (with_reducible repeat (first | refine blk_drewN ?_ _ | refine blk_drew ?_ | refine blk_alloc ?_ _)); refine blk_far ?_ NB102_103.out _; (with_reducible repeat (first | refine blk_drewN ?_ _ | refine blk_drew ?_ | refine blk_alloc ?_ _)); exact BK102.out) hb);replace BK103 := ak (blk_below (g := gb103) (o := .cells #[.int .i64 a0_0, .bool a0_1, .int .i64 a0_2, .bool a0_3, .int .i64 a0_4, .slice Ao17 t104.length co17, .slice none 0 0, .slice none 0 0, .slice none 0 0, .slice none 0 0, .slice none 0 0] 92 (0, 0)) (by (with_reducible repeat (first | refine blk_drewN ?_ _ | refine blk_drew ?_ | refine blk_alloc ?_ _)); refine blk_put (cs := #[.int .i64 a0_0, .bool a0_1, .int .i64 a0_2, .bool a0_3, .int .i64 a0_4, .slice none 0 0, .slice none 0 0, .slice none 0 0, .slice none 0 0, .slice none 0 0, .slice none 0 0]) ?_ 5 _ rfl; (with_reducible repeat (first | refine blk_drewN ?_ _ | refine blk_drew ?_ | refine blk_alloc ?_ _)); exact BK103.out) hb);replace HB := b2s bs hb;(try clear hb);(try clear ho0);obtain ⟨Ao21, co21, eo21⟩ := Kd.R_slice HO109.out;subst eo21;obtain ⟨hcz22_0, hcz22_1, hcz22_2, hcz22_3, hcz22_4, hcz22_5, hcz22_6, hcz22_7, hcz22_8, hcz22_9, hcz22_10, hfz22_0, hfz22_1, hfz22_2, hfz22_3, hfz22_4, hfz22_5, hfz22_6, hfz22_7, hfz22_8, hfz22_9, hfz22_10⟩ := cells11 BK103.out;obtain ⟨hcz23_0, hcz23_1, hcz23_2, hcz23_3, hcz23_4, hcz23_5, hcz23_6, hcz23_7, hcz23_8, hcz23_9, hcz23_10, hfz23_0, hfz23_1, hfz23_2, hfz23_3, hfz23_4, hfz23_5, hfz23_6, hfz23_7, hfz23_8, hfz23_9, hfz23_10⟩ := cells11 BK101.out) | ((with_reducible refine gate_callee (f := 99) rfl ?_);refine glG 29 rfl rfl Try.func99 (laws_toRrS.calls k _ _ l0_7 t110 _ (Kd.C_below HR0_7.out bs) HC0_7.out A4.out) ?_;rintro e w24 ⟨v111, rfl, ho0, hb⟩;refine ⟨_, rfl, ?_⟩;replace HO106 := ak (Kd.R_below (by (with_reducible repeat (first | apply Kd.R_alloc | apply Kd.R_drewN | apply Kd.R_drew)); exact (Kd.R_mono (Kd.R_far (p := ⟨gb103, 6, none⟩) (Kd.R_types HO106.out BK103.out (by decide)) (fun _ hk => hk.2) (.slice Ao21 t107.length co21)) (fun _ h_ => h_.1))) hb);have HO112 := ak (Kd.R_lower (Kd.R_new' ho0 (Kd.R_lt (by (with_reducible repeat (first | apply Kd.R_alloc | apply Kd.R_drewN | apply Kd.R_drew)); exact (Kd.R_mono (Kd.R_far (p := ⟨gb103, 6, none⟩) (Kd.R_types HO109.out BK103.out (by decide)) (fun _ hk => hk.2) (.slice Ao21 t107.length co21)) (fun _ h_ => h_.1))))) (below_size bs));replace HO109 := ak (Kd.R_elder' (by (with_reducible repeat (first | apply Kd.R_alloc | apply Kd.R_drewN | apply Kd.R_drew)); exact (Kd.R_mono (Kd.R_far (p := ⟨gb103, 6, none⟩) (Kd.R_types HO109.out BK103.out (by decide)) (fun _ hk => hk.2) (.slice Ao21 t107.length co21)) (fun _ h_ => h_.1))) (Kd.R_base ho0) hb);replace BK101 := ak (blk_below (g := gb101) (o := .cells #[.int .i64 a0_0, .bool a0_1, .int .i64 a0_2, .bool a0_3, .int .i64 a0_4, .slice A0_5 l0_5.length c0_5, .slice A0_6 l0_6.length c0_6, .slice A0_7 l0_7.length c0_7, .slice A0_8 l0_8.length c0_8, .slice A0_9 l0_9.length c0_9, .slice A0_10 l0_10.length c0_10] 86 (0, 0)) (by (with_reducible repeat (first | refine blk_drewN ?_ _ | refine blk_drew ?_ | refine blk_alloc ?_ _)); refine blk_far ?_ NB101_103.out _; (with_reducible repeat (first | refine blk_drewN ?_ _ | refine blk_drew ?_ | refine blk_alloc ?_ _)); exact BK101.out) hb);replace BK102 := ak (blk_below (g := gb102) (o := .cells #[.int .i64 0, .bool false, .int .i64 0, .bool false, .int .i64 0, .slice none 0 0, .slice none 0 0, .slice none 0 0, .slice none 0 0, .slice none 0 0, .slice none 0 0] 92 (0, 0)) (by (with_reducible repeat (first | refine blk_drewN ?_ _ | refine blk_drew ?_ | refine blk_alloc ?_ _)); refine blk_far ?_ NB102_103.out _; (with_reducible repeat (first | refine blk_drewN ?_ _ | refine blk_drew ?_ | refine blk_alloc ?_ _)); exact BK102.out) hb);replace BK103 := ak (blk_below (g := gb103) (o := .cells #[.int .i64 a0_0, .bool a0_1, .int .i64 a0_2, .bool a0_3, .int .i64 a0_4, .slice Ao17 t104.length co17, .slice Ao21 t107.length co21, .slice none 0 0, .slice none 0 0, .slice none 0 0, .slice none 0 0] 92 (0, 0)) (by (with_reducible repeat (first | refine blk_drewN ?_ _ | refine blk_drew ?_ | refine blk_alloc ?_ _)); refine blk_put (cs := #[.int .i64 a0_0, .bool a0_1, .int .i64 a0_2, .bool a0_3, .int .i64 a0_4, .slice Ao17 t104.length co17, .slice none 0 0, .slice none 0 0, .slice none 0 0, .slice none 0 0, .slice none 0 0]) ?_ 6 _ rfl; (with_reducible repeat (first | refine blk_drewN ?_ _ | refine blk_drew ?_ | refine blk_alloc ?_ _)); exact BK103.out) hb);replace HB := b2s bs hb;(try clear hb);(try clear ho0);obtain ⟨Ao25, co25, eo25⟩ := Kd.R_slice HO112.out;subst eo25;obtain ⟨hcz26_0, hcz26_1, hcz26_2, hcz26_3, hcz26_4, hcz26_5, hcz26_6, hcz26_7, hcz26_8, hcz26_9, hcz26_10, hfz26_0, hfz26_1, hfz26_2, hfz26_3, hfz26_4, hfz26_5, hfz26_6, hfz26_7, hfz26_8, hfz26_9, hfz26_10⟩ := cells11 BK103.out;obtain ⟨hcz27_0, hcz27_1, hcz27_2, hcz27_3, hcz27_4, hcz27_5, hcz27_6, hcz27_7, hcz27_8, hcz27_9, hcz27_10, hfz27_0, hfz27_1, hfz27_2, hfz27_3, hfz27_4, hfz27_5, hfz27_6, hfz27_7, hfz27_8, hfz27_9, hfz27_10⟩ := cells11 BK101.out) | ((with_reducible refine gate_callee (f := 99) rfl ?_);refine glG 33 rfl rfl Try.func99 (laws_toRrS.calls k _ _ l0_8 t113 _ (Kd.C_below HR0_8.out bs) HC0_8.out A5.out) ?_;rintro e w28 ⟨v114, rfl, ho0, hb⟩;refine ⟨_, rfl, ?_⟩;replace HO106 := ak (Kd.R_below (by (with_reducible repeat (first | apply Kd.R_alloc | apply Kd.R_drewN | apply Kd.R_drew)); exact (Kd.R_mono (Kd.R_far (p := ⟨gb103, 7, none⟩) (Kd.R_types HO106.out BK103.out (by decide)) (fun _ hk => hk.2) (.slice Ao25 t110.length co25)) (fun _ h_ => h_.1))) hb);have HO115 := ak (Kd.R_lower (Kd.R_new' (Kd.R_new' ho0 (Kd.R_lt (by (with_reducible repeat (first | apply Kd.R_alloc | apply Kd.R_drewN | apply Kd.R_drew)); exact (Kd.R_mono (Kd.R_far (p := ⟨gb103, 7, none⟩) (Kd.R_types HO109.out BK103.out (by decide)) (fun _ hk => hk.2) (.slice Ao25 t110.length co25)) (fun _ h_ => h_.1))))) (Kd.R_lt (by (with_reducible repeat (first | apply Kd.R_alloc | apply Kd.R_drewN | apply Kd.R_drew)); exact (Kd.R_mono (Kd.R_far (p := ⟨gb103, 7, none⟩) (Kd.R_types HO112.out BK103.out (by decide)) (fun _ hk => hk.2) (.slice Ao25 t110.length co25)) (fun _ h_ => h_.1))))) (below_size bs));replace HO109 := ak (Kd.R_elder' (by (with_reducible repeat (first | apply Kd.R_alloc | apply Kd.R_drewN | apply Kd.R_drew)); exact (Kd.R_mono (Kd.R_far (p := ⟨gb103, 7, none⟩) (Kd.R_types HO109.out BK103.out (by decide)) (fun _ hk => hk.2) (.slice Ao25 t110.length co25)) (fun _ h_ => h_.1))) (Kd.R_base ho0) hb);replace HO112 := ak (Kd.R_elder' (by (with_reducible repeat (first | apply Kd.R_alloc | apply Kd.R_drewN | apply Kd.R_drew)); exact (Kd.R_mono (Kd.R_far (p := ⟨gb103, 7, none⟩) (Kd.R_types HO112.out BK103.out (by decide)) (fun _ hk => hk.2) (.slice Ao25 t110.length co25)) (fun _ h_ => h_.1))) (Kd.R_base ho0) hb);replace BK101 := ak (blk_below (g := gb101) (o := .cells #[.int .i64 a0_0, .bool a0_1, .int .i64 a0_2, .bool a0_3, .int .i64 a0_4, .slice A0_5 l0_5.length c0_5, .slice A0_6 l0_6.length c0_6, .slice A0_7 l0_7.length c0_7, .slice A0_8 l0_8.length c0_8, .slice A0_9 l0_9.length c0_9, .slice A0_10 l0_10.length c0_10] 86 (0, 0)) (by (with_reducible repeat (first | refine blk_drewN ?_ _ | refine blk_drew ?_ | refine blk_alloc ?_ _)); refine blk_far ?_ NB101_103.out _; (with_reducible repeat (first | refine blk_drewN ?_ _ | refine blk_drew ?_ | refine blk_alloc ?_ _)); exact BK101.out) hb);replace BK102 := ak (blk_below (g := gb102) (o := .cells #[.int .i64 0, .bool false, .int .i64 0, .bool false, .int .i64 0, .slice none 0 0, .slice none 0 0, .slice none 0 0, .slice none 0 0, .slice none 0 0, .slice none 0 0] 92 (0, 0)) (by (with_reducible repeat (first | refine blk_drewN ?_ _ | refine blk_drew ?_ | refine blk_alloc ?_ _)); refine blk_far ?_ NB102_103.out _; (with_reducible repeat (first | refine blk_drewN ?_ _ | refine blk_drew ?_ | refine blk_alloc ?_ _)); exact BK102.out) hb);replace BK103 := ak (blk_below (g := gb103) (o := .cells #[.int .i64 a0_0, .bool a0_1, .int .i64 a0_2, .bool a0_3, .int .i64 a0_4, .slice Ao17 t104.length co17, .slice Ao21 t107.length co21, .slice Ao25 t110.length co25, .slice none 0 0, .slice none 0 0, .slice none 0 0] 92 (0, 0)) (by (with_reducible repeat (first | refine blk_drewN ?_ _ | refine blk_drew ?_ | refine blk_alloc ?_ _)); refine blk_put (cs := #[.int .i64 a0_0, .bool a0_1, .int .i64 a0_2, .bool a0_3, .int .i64 a0_4, .slice Ao17 t104.length co17, .slice Ao21 t107.length co21, .slice none 0 0, .slice none 0 0, .slice none 0 0, .slice none 0 0]) ?_ 7 _ rfl; (with_reducible repeat (first | refine blk_drewN ?_ _ | refine blk_drew ?_ | refine blk_alloc ?_ _)); exact BK103.out) hb);replace HB := b2s bs hb;(try clear hb);(try clear ho0);obtain ⟨Ao29, co29, eo29⟩ := Kd.R_slice HO115.out;subst eo29;obtain ⟨hcz30_0, hcz30_1, hcz30_2, hcz30_3, hcz30_4, hcz30_5, hcz30_6, hcz30_7, hcz30_8, hcz30_9, hcz30_10, hfz30_0, hfz30_1, hfz30_2, hfz30_3, hfz30_4, hfz30_5, hfz30_6, hfz30_7, hfz30_8, hfz30_9, hfz30_10⟩ := cells11 BK103.out;obtain ⟨hcz31_0, hcz31_1, hcz31_2, hcz31_3, hcz31_4, hcz31_5, hcz31_6, hcz31_7, hcz31_8, hcz31_9, hcz31_10, hfz31_0, hfz31_1, hfz31_2, hfz31_3, hfz31_4, hfz31_5, hfz31_6, hfz31_7, hfz31_8, hfz31_9, hfz31_10⟩ := cells11 BK101.out) | ((with_reducible refine gate_callee (f := 129) rfl ?_);refine glG 37 rfl rfl Try.func129 (laws_toWantS.calls k _ _ l0_9 t116 _ (Kd.C_below HR0_9.out bs) HC0_9.out A6.out) ?_;rintro e w32 ⟨v117, rfl, ho0, hb⟩;refine ⟨_, rfl, ?_⟩;replace HO106 := ak (Kd.R_below (by (with_reducible repeat (first | apply Kd.R_alloc | apply Kd.R_drewN | apply Kd.R_drew)); exact (Kd.R_mono (Kd.R_far (p := ⟨gb103, 8, none⟩) (Kd.R_types HO106.out BK103.out (by decide)) (fun _ hk => hk.2) (.slice Ao29 t113.length co29)) (fun _ h_ => h_.1))) hb);replace HO109 := ak (Kd.R_below (by (with_reducible repeat (first | apply Kd.R_alloc | apply Kd.R_drewN | apply Kd.R_drew)); exact (Kd.R_mono (Kd.R_far (p := ⟨gb103, 8, none⟩) (Kd.R_types HO109.out BK103.out (by decide)) (fun _ hk => hk.2) (.slice Ao29 t113.length co29)) (fun _ h_ => h_.1))) hb);replace HO112 := ak (Kd.R_below (by (with_reducible repeat (first | apply Kd.R_alloc | apply Kd.R_drewN | apply Kd.R_drew)); exact (Kd.R_mono (Kd.R_far (p := ⟨gb103, 8, none⟩) (Kd.R_types HO112.out BK103.out (by decide)) (fun _ hk => hk.2) (.slice Ao29 t113.length co29)) (fun _ h_ => h_.1))) hb);replace HO115 := ak (Kd.R_below (by (with_reducible repeat (first | apply Kd.R_alloc | apply Kd.R_drewN | apply Kd.R_drew)); exact (Kd.R_mono (Kd.R_far (p := ⟨gb103, 8, none⟩) (Kd.R_types HO115.out BK103.out (by decide)) (fun _ hk => hk.2) (.slice Ao29 t113.length co29)) (fun _ h_ => h_.1))) hb);have HO118 := ak (Kd.R_lower ho0 (below_size bs));replace BK101 := ak (blk_below (g := gb101) (o := .cells #[.int .i64 a0_0, .bool a0_1, .int .i64 a0_2, .bool a0_3, .int .i64 a0_4, .slice A0_5 l0_5.length c0_5, .slice A0_6 l0_6.length c0_6, .slice A0_7 l0_7.length c0_7, .slice A0_8 l0_8.length c0_8, .slice A0_9 l0_9.length c0_9, .slice A0_10 l0_10.length c0_10] 86 (0, 0)) (by (with_reducible repeat (first | refine blk_drewN ?_ _ | refine blk_drew ?_ | refine blk_alloc ?_ _)); refine blk_far ?_ NB101_103.out _; (with_reducible repeat (first | refine blk_drewN ?_ _ | refine blk_drew ?_ | refine blk_alloc ?_ _)); exact BK101.out) hb);replace BK102 := ak (blk_below (g := gb102) (o := .cells #[.int .i64 0, .bool false, .int .i64 0, .bool false, .int .i64 0, .slice none 0 0, .slice none 0 0, .slice none 0 0, .slice none 0 0, .slice none 0 0, .slice none 0 0] 92 (0, 0)) (by (with_reducible repeat (first | refine blk_drewN ?_ _ | refine blk_drew ?_ | refine blk_alloc ?_ _)); refine blk_far ?_ NB102_103.out _; (with_reducible repeat (first | refine blk_drewN ?_ _ | refine blk_drew ?_ | refine blk_alloc ?_ _)); exact BK102.out) hb);replace BK103 := ak (blk_below (g := gb103) (o := .cells #[.int .i64 a0_0, .bool a0_1, .int .i64 a0_2, .bool a0_3, .int .i64 a0_4, .slice Ao17 t104.length co17, .slice Ao21 t107.length co21, .slice Ao25 t110.length co25, .slice Ao29 t113.length co29, .slice none 0 0, .slice none 0 0] 92 (0, 0)) (by (with_reducible repeat (first | refine blk_drewN ?_ _ | refine blk_drew ?_ | refine blk_alloc ?_ _)); refine blk_put (cs := #[.int .i64 a0_0, .bool a0_1, .int .i64 a0_2, .bool a0_3, .int .i64 a0_4, .slice Ao17 t104.length co17, .slice Ao21 t107.length co21, .slice Ao25 t110.length co25, .slice none 0 0, .slice none 0 0, .slice none 0 0]) ?_ 8 _ rfl; (with_reducible repeat (first | refine blk_drewN ?_ _ | refine blk_drew ?_ | refine blk_alloc ?_ _)); exact BK103.out) hb);replace HB := b2s bs hb;(try clear hb);(try clear ho0);obtain ⟨Ao33, co33, eo33⟩ := Kd.R_slice HO118.out;subst eo33;obtain ⟨hcz34_0, hcz34_1, hcz34_2, hcz34_3, hcz34_4, hcz34_5, hcz34_6, hcz34_7, hcz34_8, hcz34_9, hcz34_10, hfz34_0, hfz34_1, hfz34_2, hfz34_3, hfz34_4, hfz34_5, hfz34_6, hfz34_7, hfz34_8, hfz34_9, hfz34_10⟩ := cells11 BK103.out;obtain ⟨hcz35_0, hcz35_1, hcz35_2, hcz35_3, hcz35_4, hcz35_5, hcz35_6, hcz35_7, hcz35_8, hcz35_9, hcz35_10, hfz35_0, hfz35_1, hfz35_2, hfz35_3, hfz35_4, hfz35_5, hfz35_6, hfz35_7, hfz35_8, hfz35_9, hfz35_10⟩ := cells11 BK101.out) | ((with_reducible refine gate_callee (f := 129) rfl ?_);refine glG 41 rfl rfl Try.func129 (laws_toWantS.calls k _ _ l0_10 t119 _ (Kd.C_below HR0_10.out bs) HC0_10.out A7.out) ?_;rintro e w36 ⟨v120, rfl, ho0, hb⟩;refine ⟨_, rfl, ?_⟩;replace HO106 := ak (Kd.R_below (by (with_reducible repeat (first | apply Kd.R_alloc | apply Kd.R_drewN | apply Kd.R_drew)); exact (Kd.R_mono (Kd.R_far (p := ⟨gb103, 9, none⟩) (Kd.R_types HO106.out BK103.out (by decide)) (fun _ hk => hk.2) (.slice Ao33 t116.length co33)) (fun _ h_ => h_.1))) hb);replace HO109 := ak (Kd.R_below (by (with_reducible repeat (first | apply Kd.R_alloc | apply Kd.R_drewN | apply Kd.R_drew)); exact (Kd.R_mono (Kd.R_far (p := ⟨gb103, 9, none⟩) (Kd.R_types HO109.out BK103.out (by decide)) (fun _ hk => hk.2) (.slice Ao33 t116.length co33)) (fun _ h_ => h_.1))) hb);replace HO112 := ak (Kd.R_below (by (with_reducible repeat (first | apply Kd.R_alloc | apply Kd.R_drewN | apply Kd.R_drew)); exact (Kd.R_mono (Kd.R_far (p := ⟨gb103, 9, none⟩) (Kd.R_types HO112.out BK103.out (by decide)) (fun _ hk => hk.2) (.slice Ao33 t116.length co33)) (fun _ h_ => h_.1))) hb);replace HO115 := ak (Kd.R_below (by (with_reducible repeat (first | apply Kd.R_alloc | apply Kd.R_drewN | apply Kd.R_drew)); exact (Kd.R_mono (Kd.R_far (p := ⟨gb103, 9, none⟩) (Kd.R_types HO115.out BK103.out (by decide)) (fun _ hk => hk.2) (.slice Ao33 t116.length co33)) (fun _ h_ => h_.1))) hb);have HO121 := ak (Kd.R_lower (Kd.R_new' ho0 (Kd.R_lt (by (with_reducible repeat (first | apply Kd.R_alloc | apply Kd.R_drewN | apply Kd.R_drew)); exact (Kd.R_mono (Kd.R_far (p := ⟨gb103, 9, none⟩) (Kd.R_types HO118.out BK103.out (by decide)) (fun _ hk => hk.2) (.slice Ao33 t116.length co33)) (fun _ h_ => h_.1))))) (below_size bs));replace HO118 := ak (Kd.R_elder' (by (with_reducible repeat (first | apply Kd.R_alloc | apply Kd.R_drewN | apply Kd.R_drew)); exact (Kd.R_mono (Kd.R_far (p := ⟨gb103, 9, none⟩) (Kd.R_types HO118.out BK103.out (by decide)) (fun _ hk => hk.2) (.slice Ao33 t116.length co33)) (fun _ h_ => h_.1))) (Kd.R_base ho0) hb);replace BK101 := ak (blk_below (g := gb101) (o := .cells #[.int .i64 a0_0, .bool a0_1, .int .i64 a0_2, .bool a0_3, .int .i64 a0_4, .slice A0_5 l0_5.length c0_5, .slice A0_6 l0_6.length c0_6, .slice A0_7 l0_7.length c0_7, .slice A0_8 l0_8.length c0_8, .slice A0_9 l0_9.length c0_9, .slice A0_10 l0_10.length c0_10] 86 (0, 0)) (by (with_reducible repeat (first | refine blk_drewN ?_ _ | refine blk_drew ?_ | refine blk_alloc ?_ _)); refine blk_far ?_ NB101_103.out _; (with_reducible repeat (first | refine blk_drewN ?_ _ | refine blk_drew ?_ | refine blk_alloc ?_ _)); exact BK101.out) hb);replace BK102 := ak (blk_below (g := gb102) (o := .cells #[.int .i64 0, .bool false, .int .i64 0, .bool false, .int .i64 0, .slice none 0 0, .slice none 0 0, .slice none 0 0, .slice none 0 0, .slice none 0 0, .slice none 0 0] 92 (0, 0)) (by (with_reducible repeat (first | refine blk_drewN ?_ _ | refine blk_drew ?_ | refine blk_alloc ?_ _)); refine blk_far ?_ NB102_103.out _; (with_reducible repeat (first | refine blk_drewN ?_ _ | refine blk_drew ?_ | refine blk_alloc ?_ _)); exact BK102.out) hb);replace BK103 := ak (blk_below (g := gb103) (o := .cells #[.int .i64 a0_0, .bool a0_1, .int .i64 a0_2, .bool a0_3, .int .i64 a0_4, .slice Ao17 t104.length co17, .slice Ao21 t107.length co21, .slice Ao25 t110.length co25, .slice Ao29 t113.length co29, .slice Ao33 t116.length co33, .slice none 0 0] 92 (0, 0)) (by (with_reducible repeat (first | refine blk_drewN ?_ _ | refine blk_drew ?_ | refine blk_alloc ?_ _)); refine blk_put (cs := #[.int .i64 a0_0, .bool a0_1, .int .i64 a0_2, .bool a0_3, .int .i64 a0_4, .slice Ao17 t104.length co17, .slice Ao21 t107.length co21, .slice Ao25 t110.length co25, .slice Ao29 t113.length co29, .slice none 0 0, .slice none 0 0]) ?_ 9 _ rfl; (with_reducible repeat (first | refine blk_drewN ?_ _ | refine blk_drew ?_ | refine blk_alloc ?_ _)); exact BK103.out) hb);replace HB := b2s bs hb;(try clear hb);(try clear ho0);obtain ⟨Ao37, co37, eo37⟩ := Kd.R_slice HO121.out;subst eo37;obtain ⟨hcz38_0, hcz38_1, hcz38_2, hcz38_3, hcz38_4, hcz38_5, hcz38_6, hcz38_7, hcz38_8, hcz38_9, hcz38_10, hfz38_0, hfz38_1, hfz38_2, hfz38_3, hfz38_4, hfz38_5, hfz38_6, hfz38_7, hfz38_8, hfz38_9, hfz38_10⟩ := cells11 BK103.out;obtain ⟨hcz39_0, hcz39_1, hcz39_2, hcz39_3, hcz39_4, hcz39_5, hcz39_6, hcz39_7, hcz39_8, hcz39_9, hcz39_10, hfz39_0, hfz39_1, hfz39_2, hfz39_3, hfz39_4, hfz39_5, hfz39_6, hfz39_7, hfz39_8, hfz39_9, hfz39_10⟩ := cells11 BK102.out))
 refine bodyPost_ret (results_cell_row rfl _ _ gb102 92 #[.int .i64 a0_0, .bool a0_1, .int .i64 a0_2, .bool a0_3, .int .i64 a0_4, .slice Ao17 t104.length co17, .slice Ao21 t107.length co21, .slice Ao25 t110.length co25, .slice Ao29 t113.length co29, .slice Ao33 t116.length co33, .slice Ao37 t119.length co37] (0, 0) _ rfl (by (with_reducible repeat (first | refine blk_drewN ?_ _ | refine blk_drew ?_ | refine blk_alloc ?_ _)); refine blk_put (cs := #[.int .i64 a0_0, .bool a0_1, .int .i64 a0_2, .bool a0_3, .int .i64 a0_4, .slice Ao17 t104.length co17, .slice Ao21 t107.length co21, .slice Ao25 t110.length co25, .slice Ao29 t113.length co29, .slice Ao33 t116.length co33, .slice none 0 0]) ?_ 10 _ rfl; (with_reducible repeat (first | refine blk_drewN ?_ _ | refine blk_drew ?_ | refine blk_alloc ?_ _)); refine blk_put (cs := #[.int .i64 a0_0, .bool a0_1, .int .i64 a0_2, .bool a0_3, .int .i64 a0_4, .slice Ao17 t104.length co17, .slice Ao21 t107.length co21, .slice Ao25 t110.length co25, .slice Ao29 t113.length co29, .slice none 0 0, .slice none 0 0]) ?_ 9 _ rfl; (with_reducible repeat (first | refine blk_drewN ?_ _ | refine blk_drew ?_ | refine blk_alloc ?_ _)); refine blk_put (cs := #[.int .i64 a0_0, .bool a0_1, .int .i64 a0_2, .bool a0_3, .int .i64 a0_4, .slice Ao17 t104.length co17, .slice Ao21 t107.length co21, .slice Ao25 t110.length co25, .slice none 0 0, .slice none 0 0, .slice none 0 0]) ?_ 8 _ rfl; (with_reducible repeat (first | refine blk_drewN ?_ _ | refine blk_drew ?_ | refine blk_alloc ?_ _)); refine blk_put (cs := #[.int .i64 a0_0, .bool a0_1, .int .i64 a0_2, .bool a0_3, .int .i64 a0_4, .slice Ao17 t104.length co17, .slice Ao21 t107.length co21, .slice none 0 0, .slice none 0 0, .slice none 0 0, .slice none 0 0]) ?_ 7 _ rfl; (with_reducible repeat (first | refine blk_drewN ?_ _ | refine blk_drew ?_ | refine blk_alloc ?_ _)); refine blk_put (cs := #[.int .i64 a0_0, .bool a0_1, .int .i64 a0_2, .bool a0_3, .int .i64 a0_4, .slice Ao17 t104.length co17, .slice none 0 0, .slice none 0 0, .slice none 0 0, .slice none 0 0, .slice none 0 0]) ?_ 6 _ rfl; (with_reducible repeat (first | refine blk_drewN ?_ _ | refine blk_drew ?_ | refine blk_alloc ?_ _)); refine blk_put (cs := #[.int .i64 a0_0, .bool a0_1, .int .i64 a0_2, .bool a0_3, .int .i64 a0_4, .slice none 0 0, .slice none 0 0, .slice none 0 0, .slice none 0 0, .slice none 0 0, .slice none 0 0]) ?_ 5 _ rfl; (with_reducible repeat (first | refine blk_drewN ?_ _ | refine blk_drew ?_ | refine blk_alloc ?_ _)); refine blk_put (cs := #[.int .i64 a0_0, .bool a0_1, .int .i64 a0_2, .bool a0_3, .int .i64 0, .slice none 0 0, .slice none 0 0, .slice none 0 0, .slice none 0 0, .slice none 0 0, .slice none 0 0]) ?_ 4 _ rfl; (with_reducible repeat (first | refine blk_drewN ?_ _ | refine blk_drew ?_ | refine blk_alloc ?_ _)); refine blk_put (cs := #[.int .i64 a0_0, .bool a0_1, .int .i64 a0_2, .bool false, .int .i64 0, .slice none 0 0, .slice none 0 0, .slice none 0 0, .slice none 0 0, .slice none 0 0, .slice none 0 0]) ?_ 3 _ rfl; (with_reducible repeat (first | refine blk_drewN ?_ _ | refine blk_drew ?_ | refine blk_alloc ?_ _)); refine blk_put (cs := #[.int .i64 a0_0, .bool a0_1, .int .i64 0, .bool false, .int .i64 0, .slice none 0 0, .slice none 0 0, .slice none 0 0, .slice none 0 0, .slice none 0 0, .slice none 0 0]) ?_ 2 _ rfl; (with_reducible repeat (first | refine blk_drewN ?_ _ | refine blk_drew ?_ | refine blk_alloc ?_ _)); refine blk_put (cs := #[.int .i64 a0_0, .bool false, .int .i64 0, .bool false, .int .i64 0, .slice none 0 0, .slice none 0 0, .slice none 0 0, .slice none 0 0, .slice none 0 0, .slice none 0 0]) ?_ 1 _ rfl; (with_reducible repeat (first | refine blk_drewN ?_ _ | refine blk_drew ?_ | refine blk_alloc ?_ _)); refine blk_put (cs := #[.int .i64 0, .bool false, .int .i64 0, .bool false, .int .i64 0, .slice none 0 0, .slice none 0 0, .slice none 0 0, .slice none 0 0, .slice none 0 0, .slice none 0 0]) ?_ 0 _ rfl; (with_reducible repeat (first | refine blk_drewN ?_ _ | refine blk_drew ?_ | refine blk_alloc ?_ _)); refine blk_far ?_ NB102_103.out _; (with_reducible repeat (first | refine blk_drewN ?_ _ | refine blk_drew ?_ | refine blk_alloc ?_ _)); exact BK102.out) Try.underlying92 rfl (by kernel_rfl)) rfl ?_
 exact ⟨_, _, _, _, _, _, o1, by (with_reducible repeat (first | apply Kd.R_alloc | apply Kd.R_drewN | apply Kd.R_drew)); exact Kd.R_mono (Kd.R_far (p := ⟨gb102, 10, none⟩) (Kd.R_far (p := ⟨gb102, 9, none⟩) (Kd.R_far (p := ⟨gb102, 8, none⟩) (Kd.R_far (p := ⟨gb102, 7, none⟩) (Kd.R_far (p := ⟨gb102, 6, none⟩) (Kd.R_far (p := ⟨gb102, 5, none⟩) (Kd.R_far (p := ⟨gb102, 4, none⟩) (Kd.R_far (p := ⟨gb102, 3, none⟩) (Kd.R_far (p := ⟨gb102, 2, none⟩) (Kd.R_far (p := ⟨gb102, 1, none⟩) (Kd.R_far (p := ⟨gb102, 0, none⟩) (Kd.R_far (p := ⟨gb103, 10, none⟩) (Kd.R_types (Kd.R_types HO106.out BK103.out (by decide)) BK102.out (by decide)) (fun _ hk => hk.1.2) (.slice Ao37 t119.length co37)) (fun _ hk => hk.2) (.int .i64 a0_0)) (fun _ hk => hk.2) (.bool a0_1)) (fun _ hk => hk.2) (.int .i64 a0_2)) (fun _ hk => hk.2) (.bool a0_3)) (fun _ hk => hk.2) (.int .i64 a0_4)) (fun _ hk => hk.2) (.slice Ao17 t104.length co17)) (fun _ hk => hk.2) (.slice Ao21 t107.length co21)) (fun _ hk => hk.2) (.slice Ao25 t110.length co25)) (fun _ hk => hk.2) (.slice Ao29 t113.length co29)) (fun _ hk => hk.2) (.slice Ao33 t116.length co33)) (fun _ hk => hk.2) (.slice Ao37 t119.length co37)) (fun _ hk => trivial), by (with_reducible repeat (first | apply Kd.R_alloc | apply Kd.R_drewN | apply Kd.R_drew)); exact Kd.R_mono (Kd.R_far (p := ⟨gb102, 10, none⟩) (Kd.R_far (p := ⟨gb102, 9, none⟩) (Kd.R_far (p := ⟨gb102, 8, none⟩) (Kd.R_far (p := ⟨gb102, 7, none⟩) (Kd.R_far (p := ⟨gb102, 6, none⟩) (Kd.R_far (p := ⟨gb102, 5, none⟩) (Kd.R_far (p := ⟨gb102, 4, none⟩) (Kd.R_far (p := ⟨gb102, 3, none⟩) (Kd.R_far (p := ⟨gb102, 2, none⟩) (Kd.R_far (p := ⟨gb102, 1, none⟩) (Kd.R_far (p := ⟨gb102, 0, none⟩) (Kd.R_far (p := ⟨gb103, 10, none⟩) (Kd.R_types (Kd.R_types HO109.out BK103.out (by decide)) BK102.out (by decide)) (fun _ hk => hk.1.2) (.slice Ao37 t119.length co37)) (fun _ hk => hk.2) (.int .i64 a0_0)) (fun _ hk => hk.2) (.bool a0_1)) (fun _ hk => hk.2) (.int .i64 a0_2)) (fun _ hk => hk.2) (.bool a0_3)) (fun _ hk => hk.2) (.int .i64 a0_4)) (fun _ hk => hk.2) (.slice Ao17 t104.length co17)) (fun _ hk => hk.2) (.slice Ao21 t107.length co21)) (fun _ hk => hk.2) (.slice Ao25 t110.length co25)) (fun _ hk => hk.2) (.slice Ao29 t113.length co29)) (fun _ hk => hk.2) (.slice Ao33 t116.length co33)) (fun _ hk => hk.2) (.slice Ao37 t119.length co37)) (fun _ hk => ⟨hk.1.1.1.2, hk.1.1.2⟩), by (with_reducible repeat (first | apply Kd.R_alloc | apply Kd.R_drewN | apply Kd.R_drew)); exact Kd.R_mono (Kd.R_far (p := ⟨gb102, 10, none⟩) (Kd.R_far (p := ⟨gb102, 9, none⟩) (Kd.R_far (p := ⟨gb102, 8, none⟩) (Kd.R_far (p := ⟨gb102, 7, none⟩) (Kd.R_far (p := ⟨gb102, 6, none⟩) (Kd.R_far (p := ⟨gb102, 5, none⟩) (Kd.R_far (p := ⟨gb102, 4, none⟩) (Kd.R_far (p := ⟨gb102, 3, none⟩) (Kd.R_far (p := ⟨gb102, 2, none⟩) (Kd.R_far (p := ⟨gb102, 1, none⟩) (Kd.R_far (p := ⟨gb102, 0, none⟩) (Kd.R_far (p := ⟨gb103, 10, none⟩) (Kd.R_types (Kd.R_types HO112.out BK103.out (by decide)) BK102.out (by decide)) (fun _ hk => hk.1.2) (.slice Ao37 t119.length co37)) (fun _ hk => hk.2) (.int .i64 a0_0)) (fun _ hk => hk.2) (.bool a0_1)) (fun _ hk => hk.2) (.int .i64 a0_2)) (fun _ hk => hk.2) (.bool a0_3)) (fun _ hk => hk.2) (.int .i64 a0_4)) (fun _ hk => hk.2) (.slice Ao17 t104.length co17)) (fun _ hk => hk.2) (.slice Ao21 t107.length co21)) (fun _ hk => hk.2) (.slice Ao25 t110.length co25)) (fun _ hk => hk.2) (.slice Ao29 t113.length co29)) (fun _ hk => hk.2) (.slice Ao33 t116.length co33)) (fun _ hk => hk.2) (.slice Ao37 t119.length co37)) (fun _ hk => ⟨hk.1.1.1.2, hk.1.1.2⟩), by (with_reducible repeat (first | apply Kd.R_alloc | apply Kd.R_drewN | apply Kd.R_drew)); exact Kd.R_mono (Kd.R_far (p := ⟨gb102, 10, none⟩) (Kd.R_far (p := ⟨gb102, 9, none⟩) (Kd.R_far (p := ⟨gb102, 8, none⟩) (Kd.R_far (p := ⟨gb102, 7, none⟩) (Kd.R_far (p := ⟨gb102, 6, none⟩) (Kd.R_far (p := ⟨gb102, 5, none⟩) (Kd.R_far (p := ⟨gb102, 4, none⟩) (Kd.R_far (p := ⟨gb102, 3, none⟩) (Kd.R_far (p := ⟨gb102, 2, none⟩) (Kd.R_far (p := ⟨gb102, 1, none⟩) (Kd.R_far (p := ⟨gb102, 0, none⟩) (Kd.R_far (p := ⟨gb103, 10, none⟩) (Kd.R_types (Kd.R_types HO115.out BK103.out (by decide)) BK102.out (by decide)) (fun _ hk => hk.1.2) (.slice Ao37 t119.length co37)) (fun _ hk => hk.2) (.int .i64 a0_0)) (fun _ hk => hk.2) (.bool a0_1)) (fun _ hk => hk.2) (.int .i64 a0_2)) (fun _ hk => hk.2) (.bool a0_3)) (fun _ hk => hk.2) (.int .i64 a0_4)) (fun _ hk => hk.2) (.slice Ao17 t104.length co17)) (fun _ hk => hk.2) (.slice Ao21 t107.length co21)) (fun _ hk => hk.2) (.slice Ao25 t110.length co25)) (fun _ hk => hk.2) (.slice Ao29 t113.length co29)) (fun _ hk => hk.2) (.slice Ao33 t116.length co33)) (fun _ hk => hk.2) (.slice Ao37 t119.length co37)) (fun _ hk => ⟨hk.1.1.1.2, hk.1.1.2⟩), by (with_reducible repeat (first | apply Kd.R_alloc | apply Kd.R_drewN | apply Kd.R_drew)); exact Kd.R_mono (Kd.R_far (p := ⟨gb102, 10, none⟩) (Kd.R_far (p := ⟨gb102, 9, none⟩) (Kd.R_far (p := ⟨gb102, 8, none⟩) (Kd.R_far (p := ⟨gb102, 7, none⟩) (Kd.R_far (p := ⟨gb102, 6, none⟩) (Kd.R_far (p := ⟨gb102, 5, none⟩) (Kd.R_far (p := ⟨gb102, 4, none⟩) (Kd.R_far (p := ⟨gb102, 3, none⟩) (Kd.R_far (p := ⟨gb102, 2, none⟩) (Kd.R_far (p := ⟨gb102, 1, none⟩) (Kd.R_far (p := ⟨gb102, 0, none⟩) (Kd.R_far (p := ⟨gb103, 10, none⟩) (Kd.R_types (Kd.R_types HO118.out BK103.out (by decide)) BK102.out (by decide)) (fun _ hk => hk.1.2) (.slice Ao37 t119.length co37)) (fun _ hk => hk.2) (.int .i64 a0_0)) (fun _ hk => hk.2) (.bool a0_1)) (fun _ hk => hk.2) (.int .i64 a0_2)) (fun _ hk => hk.2) (.bool a0_3)) (fun _ hk => hk.2) (.int .i64 a0_4)) (fun _ hk => hk.2) (.slice Ao17 t104.length co17)) (fun _ hk => hk.2) (.slice Ao21 t107.length co21)) (fun _ hk => hk.2) (.slice Ao25 t110.length co25)) (fun _ hk => hk.2) (.slice Ao29 t113.length co29)) (fun _ hk => hk.2) (.slice Ao33 t116.length co33)) (fun _ hk => hk.2) (.slice Ao37 t119.length co37)) (fun _ hk => hk.1.1.2), by (with_reducible repeat (first | apply Kd.R_alloc | apply Kd.R_drewN | apply Kd.R_drew)); exact Kd.R_mono (Kd.R_far (p := ⟨gb102, 10, none⟩) (Kd.R_far (p := ⟨gb102, 9, none⟩) (Kd.R_far (p := ⟨gb102, 8, none⟩) (Kd.R_far (p := ⟨gb102, 7, none⟩) (Kd.R_far (p := ⟨gb102, 6, none⟩) (Kd.R_far (p := ⟨gb102, 5, none⟩) (Kd.R_far (p := ⟨gb102, 4, none⟩) (Kd.R_far (p := ⟨gb102, 3, none⟩) (Kd.R_far (p := ⟨gb102, 2, none⟩) (Kd.R_far (p := ⟨gb102, 1, none⟩) (Kd.R_far (p := ⟨gb102, 0, none⟩) (Kd.R_far (p := ⟨gb103, 10, none⟩) (Kd.R_types (Kd.R_types HO121.out BK103.out (by decide)) BK102.out (by decide)) (fun _ hk => hk.1.2) (.slice Ao37 t119.length co37)) (fun _ hk => hk.2) (.int .i64 a0_0)) (fun _ hk => hk.2) (.bool a0_1)) (fun _ hk => hk.2) (.int .i64 a0_2)) (fun _ hk => hk.2) (.bool a0_3)) (fun _ hk => hk.2) (.int .i64 a0_4)) (fun _ hk => hk.2) (.slice Ao17 t104.length co17)) (fun _ hk => hk.2) (.slice Ao21 t107.length co21)) (fun _ hk => hk.2) (.slice Ao25 t110.length co25)) (fun _ hk => hk.2) (.slice Ao29 t113.length co29)) (fun _ hk => hk.2) (.slice Ao33 t116.length co33)) (fun _ hk => hk.2) (.slice Ao37 t119.length co37)) (fun _ hk => hk.1.1.2), bs⟩

/-! ### slices_IndexFunc_byte_byte_233: function 233 -/

set_option maxHeartbeats 2000000 in
theorem slices_IndexFunc_byte_byte_233.calls (g : Nat) (lb : Array Value) (eg : ∀ args w, (callFunc g args).run Try.prog w = .ok (.enter g args) w) (p : List Int → Bool) (A0 : Option Addr) (c0 : Nat) (l0 : List (List Int)) (w : World) (hr0 : Kd.C (Kd.slice 5 (Kd.int .u8)) w A0 l0.length l0)
  (hp : ∀ (W : World) (A : Option Addr) (c : Nat) (x : List Int), Below w.heap.size w W → Kd.C (Kd.int .u8) W A x.length x → x.length ≤ c → Calls Try.prog g (#[.slice A x.length c] ++ lb) W fun e w' => e = .returned (.bool (p x)) ∧ Below w.heap.size w w') :
  Calls Try.prog 233 #[.slice A0 l0.length c0, .func (.func g) #[] lb] w fun e w' => (∃ r : Int, e = .returned (.int .i64 r) ∧ decide (0 ≤ r) = l0.any p) ∧ Below w.heap.size w w' := by
 have HR0 := ak hr0
 have hbig : l0.length ≤ 9223372036854775807 := hr0.2.1
 have HP := ak hp
 clear hr0 hp
 go_enter Try.func233, Try.ntmps233
 go_wp2
 go_loopg [5, 8] l0.length (fun gg _ s8 wr => ∃ kk : Nat, kk ≤ l0.length ∧ l0.length - kk ≤ gg ∧ s8 = .int .i64 kk ∧ Aside0 (Below w.heap.size w wr) ∧ Aside0 ((l0.take kk).any p = false))
 case atStart => exact ⟨0, Nat.zero_le _, by omega, rfl, ⟨Below.refl _ w⟩, ⟨by simp⟩⟩
 case round =>
  obtain ⟨kk, hkk, hg, rfl, BW, AF⟩ := hrel
  by_cases hlt : kk < l0.length
  ·obtain ⟨ad, A1, c1, rfl, hcell, hc1, hC1⟩ := at_L10 HR0.out (kk : Int) (by omega) (by omega)
   replace hcell := pw_cell_below BW.out hcell
   have hcall := HP.out wr A1 c1 (rd_L10 l0 (kk : Int)) BW.out (Kd.C_below hC1 BW.out) hc1
   have hx : Aside0 (l0.take (kk + 1) = l0.take kk ++ [rd_L10 l0 (kk : Int)]) := ⟨by
    rw [List.take_succ_eq_append_getElem hlt]; simp [rd_L10, List.getD_eq_getElem?_getD, hlt]⟩
   clear hC1 hc1
   generalize rd_L10 l0 (kk : Int) = y at hcell hcall hx
   have hltz : (kk : Int) < (l0.length : Int) := by omega
   rw [show ((kk : Int)).toNat = kk from by omega] at hcell
   cases hq : p y with
   | true =>
    rw [hq] at hcall
    go_wp2_with (go_at_fn g; refine hcall.mono ?_; rintro e w' ⟨rfl, hb'⟩)
    go_ret
    refine ⟨⟨_, rfl, ?_⟩, hb'⟩
    have : l0.any p = true := by
     rw [← List.take_append_drop (kk + 1) l0, hx.out]; simp [hq]
    rw [this]; simp
   | false =>
    rw [hq] at hcall
    go_wp2_with (go_at_fn g; refine hcall.mono ?_; rintro e w' ⟨rfl, hb'⟩)
    go_roundg (l0.length - (kk + 1))
    case measure => omega
    case rel => exact ⟨kk + 1, by omega, by omega, by go_num, ⟨hb'⟩, ⟨by rw [hx.out, List.any_append, AF.out]; simp [hq]⟩⟩
  ·have hltz : ¬ (kk : Int) < (l0.length : Int) := by omega
   go_wp2
   go_ret
   refine ⟨⟨_, rfl, ?_⟩, BW.out⟩
   have := AF.out
   rw [List.take_of_length_le (by omega)] at this
   rw [this]; rfl

/-! ### slices_ContainsFunc_byte_byte_218: function 218 -/

set_option maxHeartbeats 2000000 in
theorem slices_ContainsFunc_byte_byte_218.calls (g : Nat) (lb : Array Value) (eg : ∀ args w, (callFunc g args).run Try.prog w = .ok (.enter g args) w) (p : List Int → Bool) (A0 : Option Addr) (c0 : Nat) (l0 : List (List Int)) (w : World) (hr0 : Kd.C (Kd.slice 5 (Kd.int .u8)) w A0 l0.length l0)
  (hp : ∀ (W : World) (A : Option Addr) (c : Nat) (x : List Int), Below w.heap.size w W → Kd.C (Kd.int .u8) W A x.length x → x.length ≤ c → Calls Try.prog g (#[.slice A x.length c] ++ lb) W fun e w' => e = .returned (.bool (p x)) ∧ Below w.heap.size w w') :
  Calls Try.prog 218 #[.slice A0 l0.length c0, .func (.func g) #[] lb] w fun e w' => e = .returned (.bool (l0.any p)) ∧ Below w.heap.size w w' := by
 have hc := slices_IndexFunc_byte_byte_233.calls g lb eg p A0 c0 l0 w hr0 hp
 generalize l0.any p = q at hc ⊢
 clear hp hr0
 go_enter Try.func218, Try.ntmps218
 go_wp2_with (go_at_call 233; refine hc.mono ?_; rintro e w' ⟨⟨r, rfl, rfl⟩, hb'⟩)
 go_ret
 exact ⟨rfl, hb'⟩

/-! ### impl_all_byte_1_219: function 219 -/

set_option maxHeartbeats 2000000 in
/-- What is handed to ContainsFunc: the predicate's contrary; the predicate lies in a variable. -/
theorem impl_all_byte_1_219.calls (g : Nat) (lb : Array Value) (eg : ∀ args w, (callFunc g args).run Try.prog w = .ok (.enter g args) w) (q : Bool) (A : Option Addr) (n c : Nat) (B : Nat) (w w0 : World) (hv : w.cell? ⟨B, 0, none⟩ = some (.func (.func g) #[] lb))
  (hp : Calls Try.prog g (#[.slice A n c] ++ lb) w fun e w' => e = .returned (.bool q) ∧ Below w0.heap.size w0 w') :
  Calls Try.prog 219 #[.slice A n c, .pointer (some ⟨B, 0, none⟩)] w fun e w' => e = .returned (.bool (!q)) ∧ Below w0.heap.size w0 w' := by
 go_enter Try.func219, Try.ntmps219
 go_wp2_with (go_at_fn g; refine hp.mono ?_; rintro e w' ⟨rfl, hb'⟩)
 go_ret
 exact ⟨rfl, hb'⟩

/-! ### impl_all_byte_154: function 154 -/

set_option maxHeartbeats 2000000 in
theorem impl_all_byte_154.calls (g : Nat) (lb : Array Value) (eg : ∀ args w, (callFunc g args).run Try.prog w = .ok (.enter g args) w) (p : List Int → Bool) (A0 : Option Addr) (c0 : Nat) (l0 : List (List Int)) (w : World) (hr0 : Kd.C (Kd.slice 5 (Kd.int .u8)) w A0 l0.length l0)
  (hp : ∀ (W : World) (A : Option Addr) (c : Nat) (x : List Int), Below w.heap.size w W → Kd.C (Kd.int .u8) W A x.length x → x.length ≤ c → Calls Try.prog g (#[.slice A x.length c] ++ lb) W fun e w' => e = .returned (.bool (p x)) ∧ Below W.heap.size W w') :
  Calls Try.prog 154 #[.slice A0 l0.length c0, .func (.func g) #[] lb] w fun e w' => e = .returned (.bool (l0.all p)) ∧ Below w.heap.size w w' := by
 have eg2 : ∀ args w, (callFunc 219 args).run Try.prog w = .ok (.enter 219 args) w := enters_of Try.func219 (by kernel_rfl) rfl
 have hb0 : Below w.heap.size w (w.alloc (.cells #[.func (.func g) #[] lb] 43)) := below_alloc (Below.refl _ _) _
 have hc := slices_ContainsFunc_byte_byte_218.calls 219 #[.pointer (some ⟨w.heap.size, 0, none⟩)] eg2 (fun x => !p x) A0 c0 l0 (w.alloc (.cells #[.func (.func g) #[] lb] 43)) (Kd.C_below hr0 hb0) (fun W A c x hW hC hc =>
  impl_all_byte_1_219.calls g lb eg (p x) A x.length c w.heap.size W _ ((hW.cell (p := ⟨w.heap.size, 0, none⟩) (by simp)).trans (by simp)) ((hp W A c x (hb0.trans (hW.mono (by simp))) hC hc).mono fun e w' ⟨he, hb⟩ => ⟨he, hW.trans (hb.mono hW.size)⟩))
 have e1 : (l0.any fun x => !p x) = !(l0.all p) := by rw [List.all_eq_not_any_not]; simp
 rw [e1] at hc
 generalize l0.all p = q at hc ⊢
 clear hp hr0 e1
 go_enter Try.func154, Try.ntmps154
 go_wp2_with (go_at_call 218; refine hc.mono ?_; rintro e w' ⟨rfl, hb'⟩)
 go_ret
 exact ⟨by simp, hb0.trans (hb'.mono (by simp))⟩

/-! ### slices_IndexFunc_byte_byte_238: function 238 -/

set_option maxHeartbeats 2000000 in
theorem slices_IndexFunc_byte_byte_238.calls (g : Nat) (lb : Array Value) (eg : ∀ args w, (callFunc g args).run Try.prog w = .ok (.enter g args) w) (p : Int → Bool) (A0 : Option Addr) (c0 : Nat) (l0 : List Int) (w : World) (hr0 : Kd.C (Kd.int .u8) w A0 l0.length l0)
  (hp : ∀ (W : World) (x : Int), Below w.heap.size w W → Calls Try.prog g (#[.int .u8 x] ++ lb) W fun e w' => e = .returned (.bool (p x)) ∧ Below w.heap.size w w') :
  Calls Try.prog 238 #[.slice A0 l0.length c0, .func (.func g) #[] lb] w fun e w' => (∃ r : Int, e = .returned (.int .i64 r) ∧ decide (0 ≤ r) = l0.any p) ∧ Below w.heap.size w w' := by
 have HR0 := ak hr0
 have hbig : l0.length ≤ 9223372036854775807 := hr0.2.1
 have HP := ak hp
 clear hr0 hp
 go_enter Try.func238, Try.ntmps238
 go_wp2
 go_loopg [5, 8] l0.length (fun gg _ s8 wr => ∃ kk : Nat, kk ≤ l0.length ∧ l0.length - kk ≤ gg ∧ s8 = .int .i64 kk ∧ Aside0 (Below w.heap.size w wr) ∧ Aside0 ((l0.take kk).any p = false))
 case atStart => exact ⟨0, Nat.zero_le _, by omega, rfl, ⟨Below.refl _ w⟩, ⟨by simp⟩⟩
 case round =>
  obtain ⟨kk, hkk, hg, rfl, BW, AF⟩ := hrel
  by_cases hlt : kk < l0.length
  ·obtain ⟨ad, rfl, hcell⟩ := Kd.at_int HR0.out (kk : Int) (by omega) (by omega)
   replace hcell := pw_cell_below BW.out hcell
   have hcall := HP.out wr (rd l0 (kk : Int)) BW.out
   have hx : Aside0 (l0.take (kk + 1) = l0.take kk ++ [rd l0 (kk : Int)]) := ⟨by
    rw [List.take_succ_eq_append_getElem hlt]; simp [rd, List.getD_eq_getElem?_getD, hlt]⟩
   generalize rd l0 (kk : Int) = y at hcell hcall hx
   have hltz : (kk : Int) < (l0.length : Int) := by omega
   rw [show ((kk : Int)).toNat = kk from by omega] at hcell
   cases hq : p y with
   | true =>
    rw [hq] at hcall
    go_wp2_with (go_at_fn g; refine hcall.mono ?_; rintro e w' ⟨rfl, hb'⟩)
    go_ret
    refine ⟨⟨_, rfl, ?_⟩, hb'⟩
    have : l0.any p = true := by
     rw [← List.take_append_drop (kk + 1) l0, hx.out]; simp [hq]
    rw [this]; simp
   | false =>
    rw [hq] at hcall
    go_wp2_with (go_at_fn g; refine hcall.mono ?_; rintro e w' ⟨rfl, hb'⟩)
    go_roundg (l0.length - (kk + 1))
    case measure => omega
    case rel => exact ⟨kk + 1, by omega, by omega, by go_num, ⟨hb'⟩, ⟨by rw [hx.out, List.any_append, AF.out]; simp [hq]⟩⟩
  ·have hltz : ¬ (kk : Int) < (l0.length : Int) := by omega
   go_wp2
   go_ret
   refine ⟨⟨_, rfl, ?_⟩, BW.out⟩
   have := AF.out
   rw [List.take_of_length_le (by omega)] at this
   rw [this]; rfl

/-! ### slices_ContainsFunc_byte_byte_234: function 234 -/

set_option maxHeartbeats 2000000 in
theorem slices_ContainsFunc_byte_byte_234.calls (g : Nat) (lb : Array Value) (eg : ∀ args w, (callFunc g args).run Try.prog w = .ok (.enter g args) w) (p : Int → Bool) (A0 : Option Addr) (c0 : Nat) (l0 : List Int) (w : World) (hr0 : Kd.C (Kd.int .u8) w A0 l0.length l0)
  (hp : ∀ (W : World) (x : Int), Below w.heap.size w W → Calls Try.prog g (#[.int .u8 x] ++ lb) W fun e w' => e = .returned (.bool (p x)) ∧ Below w.heap.size w w') :
  Calls Try.prog 234 #[.slice A0 l0.length c0, .func (.func g) #[] lb] w fun e w' => e = .returned (.bool (l0.any p)) ∧ Below w.heap.size w w' := by
 have hc := slices_IndexFunc_byte_byte_238.calls g lb eg p A0 c0 l0 w hr0 hp
 generalize l0.any p = q at hc ⊢
 clear hp hr0
 go_enter Try.func234, Try.ntmps234
 go_wp2_with (go_at_call 238; refine hc.mono ?_; rintro e w' ⟨⟨r, rfl, rfl⟩, hb'⟩)
 go_ret
 exact ⟨rfl, hb'⟩

/-! ### impl_all_byte_1_235: function 235 -/

set_option maxHeartbeats 2000000 in
/-- What is handed to ContainsFunc: the predicate's contrary; the predicate lies in a variable. -/
theorem impl_all_byte_1_235.calls (g : Nat) (lb : Array Value) (eg : ∀ args w, (callFunc g args).run Try.prog w = .ok (.enter g args) w) (q : Bool) (x : Int) (B : Nat) (w w0 : World) (hv : w.cell? ⟨B, 0, none⟩ = some (.func (.func g) #[] lb))
  (hp : Calls Try.prog g (#[.int .u8 x] ++ lb) w fun e w' => e = .returned (.bool q) ∧ Below w0.heap.size w0 w') :
  Calls Try.prog 235 #[.int .u8 x, .pointer (some ⟨B, 0, none⟩)] w fun e w' => e = .returned (.bool (!q)) ∧ Below w0.heap.size w0 w' := by
 go_enter Try.func235, Try.ntmps235
 go_wp2_with (go_at_fn g; refine hp.mono ?_; rintro e w' ⟨rfl, hb'⟩)
 go_ret
 exact ⟨rfl, hb'⟩

/-! ### impl_all_byte_220: function 220 -/

set_option maxHeartbeats 2000000 in
theorem impl_all_byte_220.calls (g : Nat) (lb : Array Value) (eg : ∀ args w, (callFunc g args).run Try.prog w = .ok (.enter g args) w) (p : Int → Bool) (A0 : Option Addr) (c0 : Nat) (l0 : List Int) (w : World) (hr0 : Kd.C (Kd.int .u8) w A0 l0.length l0)
  (hp : ∀ (W : World) (x : Int), Below w.heap.size w W → Calls Try.prog g (#[.int .u8 x] ++ lb) W fun e w' => e = .returned (.bool (p x)) ∧ Below W.heap.size W w') :
  Calls Try.prog 220 #[.slice A0 l0.length c0, .func (.func g) #[] lb] w fun e w' => e = .returned (.bool (l0.all p)) ∧ Below w.heap.size w w' := by
 have eg2 : ∀ args w, (callFunc 235 args).run Try.prog w = .ok (.enter 235 args) w := enters_of Try.func235 (by kernel_rfl) rfl
 have hb0 : Below w.heap.size w (w.alloc (.cells #[.func (.func g) #[] lb] 221)) := below_alloc (Below.refl _ _) _
 have hc := slices_ContainsFunc_byte_byte_234.calls 235 #[.pointer (some ⟨w.heap.size, 0, none⟩)] eg2 (fun x => !p x) A0 c0 l0 (w.alloc (.cells #[.func (.func g) #[] lb] 221)) (Kd.C_below hr0 hb0) (fun W x hW =>
  impl_all_byte_1_235.calls g lb eg (p x) x w.heap.size W _ ((hW.cell (p := ⟨w.heap.size, 0, none⟩) (by simp)).trans (by simp)) ((hp W x (hb0.trans (hW.mono (by simp)))).mono fun e w' ⟨he, hb⟩ => ⟨he, hW.trans (hb.mono hW.size)⟩))
 have e1 : (l0.any fun x => !p x) = !(l0.all p) := by rw [List.all_eq_not_any_not]; simp
 rw [e1] at hc
 generalize l0.all p = q at hc ⊢
 clear hp hr0 e1
 go_enter Try.func220, Try.ntmps220
 go_wp2_with (go_at_call 234; refine hc.mono ?_; rintro e w' ⟨rfl, hb'⟩)
 go_ret
 exact ⟨by simp, hb0.trans (hb'.mono (by simp))⟩

/-! ### impl_LabelOk_1: function 221 -/
def impl_LabelOk_1.f (a0 : Int) : Option (Bool) := if a0 ≥ 97 then (if a0 ≤ 122 then (some true) else (if a0 ≥ 48 then (if a0 ≤ 57 then (some true) else (some (a0 == 45))) else (some (a0 == 45)))) else (if a0 ≥ 48 then (if a0 ≤ 57 then (some true) else (some (a0 == 45))) else (some (a0 == 45)))
set_option maxHeartbeats 8000000 in
set_option maxRecDepth 100000 in
theorem impl_LabelOk_1.calls (a0 : Int) (r : Bool) (w : World) (h : impl_LabelOk_1.f a0 = some r) :
  Calls Try.prog 221 #[.int .u8 a0] w fun e w' => e = .returned (.bool r) ∧ Drawn0 w w' := by
 have H : (if a0 ≥ 97 then (if a0 ≤ 122 then (some true) else (if a0 ≥ 48 then (if a0 ≤ 57 then (some true) else (some (a0 == 45))) else (some (a0 == 45)))) else (if a0 ≥ 48 then (if a0 ≤ 57 then (some true) else (some (a0 == 45))) else (some (a0 == 45)))) = some r := h
 clear h
 replace H := ih H
 obtain ⟨c2b0, H⟩ | ⟨c2b0, H⟩ := H
 ·replace H := ip H
  obtain ⟨c3b0, H⟩ | ⟨c3b0, H⟩ := H
  ·obtain rfl := Option.some.inj H
   go_enter Try.func221, Try.ntmps221
   go_wp2
   go_ret
   exact ⟨o2, od⟩
  ·replace H := ih H
   obtain ⟨c4b0, H⟩ | ⟨c4b0, H⟩ := H
   ·replace H := ip H
    obtain ⟨c5b0, H⟩ | ⟨c5b0, H⟩ := H
    ·obtain rfl := Option.some.inj H
     go_enter Try.func221, Try.ntmps221
     go_wp2
     go_ret
     exact ⟨o2, od⟩
    ·obtain rfl := Option.some.inj H
     go_enter Try.func221, Try.ntmps221
     go_wp2
     go_ret
     exact ⟨o2, od⟩
   ·obtain rfl := Option.some.inj H
    go_enter Try.func221, Try.ntmps221
    go_wp2
    go_ret
    exact ⟨o2, od⟩
 ·replace H := ih H
  obtain ⟨c6b0, H⟩ | ⟨c6b0, H⟩ := H
  ·replace H := ip H
   obtain ⟨c7b0, H⟩ | ⟨c7b0, H⟩ := H
   ·obtain rfl := Option.some.inj H
    go_enter Try.func221, Try.ntmps221
    go_wp2
    go_ret
    exact ⟨o2, od⟩
   ·obtain rfl := Option.some.inj H
    go_enter Try.func221, Try.ntmps221
    go_wp2
    go_ret
    exact ⟨o2, od⟩
  ·obtain rfl := Option.some.inj H
   go_enter Try.func221, Try.ntmps221
   go_wp2
   go_ret
   exact ⟨o2, od⟩

/-! ### impl_LabelOk: function 155 -/

def impl_LabelOk.byte (x : Int) : Bool := (decide (97 ≤ x) && decide (x ≤ 122)) || (decide (48 ≤ x) && decide (x ≤ 57)) || x == 45
theorem impl_LabelOk.byte_f (x : Int) : impl_LabelOk_1.f x = some (impl_LabelOk.byte x) := by
 unfold impl_LabelOk_1.f impl_LabelOk.byte
 by_cases h1 : 97 ≤ x <;> by_cases h2 : x ≤ 122 <;> by_cases h3 : 48 ≤ x <;> by_cases h4 : x ≤ 57 <;> by_cases h5 : x = 45 <;> simp [*] <;> omega
def impl_LabelOk.v (l0 : List Int) : Bool := decide (1 ≤ l0.length) && decide (l0.length ≤ 15) && l0.all impl_LabelOk.byte
def impl_LabelOk.f (l0 : List Int) : Option Bool := some (impl_LabelOk.v l0)
set_option maxHeartbeats 8000000 in
set_option maxRecDepth 100000 in
theorem impl_LabelOk.calls (A0 : Option Addr) (c0 : Nat) (l0 : List Int) (r : Bool) (w : World) (hr0 : Kd.C (Kd.int .u8) w A0 l0.length l0) (hc0 : l0.length ≤ c0) (h : impl_LabelOk.f l0 = some r) :
  Calls Try.prog 155 #[.slice A0 l0.length c0] w fun e w' => e = .returned (.bool r) ∧ Below w.heap.size w w' := by
 have eg : ∀ args w, (callFunc 221 args).run Try.prog w = .ok (.enter 221 args) w := enters_of Try.func221 (by kernel_rfl) rfl
 have ha := impl_all_byte_220.calls 221 #[] eg impl_LabelOk.byte A0 c0 l0 w hr0 (fun W x hW => (impl_LabelOk_1.calls x _ W (impl_LabelOk.byte_f x)).mono fun e w' ⟨he, hd⟩ => ⟨he, hd.below⟩)
 have hbig : l0.length ≤ 9223372036854775807 := hr0.2.1
 have hrv : r = impl_LabelOk.v l0 := (Option.some.inj h).symm
 subst hrv
 unfold impl_LabelOk.v
 clear h hr0
 generalize l0.all impl_LabelOk.byte = q at ha ⊢
 by_cases h1 : 1 ≤ l0.length
 ·by_cases h2 : l0.length ≤ 15
  ·rw [decide_eq_true h1, decide_eq_true h2]
   simp only [Bool.true_and]
   go_enter Try.func155, Try.ntmps155
   go_wp2_with (first | (go_at_call 220;refine ha.mono ?_;rintro e w' ⟨rfl, hb'⟩) | (go_at_call 83;go_in))
   go_ret
   exact ⟨rfl, hb'⟩
  ·rw [decide_eq_true h1, decide_eq_false h2]
   simp only [Bool.and_false, Bool.false_and]
   go_enter Try.func155, Try.ntmps155
   go_wp2
   go_ret
   exact ⟨rfl, Below.refl _ _⟩
 ·rw [decide_eq_false h1]
  simp only [Bool.false_and]
  go_enter Try.func155, Try.ntmps155
  go_wp2
  go_ret
  exact ⟨rfl, Below.refl _ _⟩

/-! ### impl_NameOk: function 74 -/

def impl_NameOk.v (l : List (List Int)) : Bool := decide (l.length ≤ 6) && l.all impl_LabelOk.v
def impl_NameOk.f (l : List (List Int)) : Option Bool := some (impl_NameOk.v l)
set_option maxHeartbeats 8000000 in
set_option maxRecDepth 100000 in
theorem impl_NameOk.calls (A0_0 : Option Addr) (c0_0 : Nat) (l0_0 : List (List Int)) (r : Bool) (w : World) (hr0_0 : Kd.C (Kd.slice 5 (Kd.int .u8)) w A0_0 l0_0.length l0_0) (hc0_0 : l0_0.length ≤ c0_0) (h : impl_NameOk.f l0_0 = some r) :
  Calls Try.prog 74 #[.agg #[.slice A0_0 l0_0.length c0_0]] w fun e w' => e = .returned (.bool r) ∧ Below w.heap.size w w' := by
 have hu := Try.underlying31
 have eg : ∀ args w, (callFunc 155 args).run Try.prog w = .ok (.enter 155 args) w := enters_of Try.func155 (by kernel_rfl) rfl
 have hb0 : Below w.heap.size w (w.alloc (.cells #[.slice A0_0 l0_0.length c0_0] 31)) := below_alloc (Below.refl _ _) _
 have ha := fun (W : World) (hW : Below w.heap.size w W) => impl_all_byte_154.calls 155 #[] eg impl_LabelOk.v A0_0 c0_0 l0_0 W (Kd.C_below hr0_0 hW) (fun W2 A c x hW2 hC hc => (impl_LabelOk.calls A c x _ W2 hC hc rfl))
 have hbig : l0_0.length ≤ 9223372036854775807 := hr0_0.2.1
 have hrv : r = impl_NameOk.v l0_0 := (Option.some.inj h).symm
 subst hrv
 unfold impl_NameOk.v
 clear h hr0_0
 have HA := ak ha
 clear ha
 generalize l0_0.all impl_LabelOk.v = q at HA ⊢
 by_cases h2 : l0_0.length ≤ 6
 ·rw [decide_eq_true h2]
  simp only [Bool.true_and]
  go_enter Try.func74, Try.ntmps74
  go_wp2_with (go_at_call 154; refine (HA.out _ hb0).mono ?_; rintro e w' ⟨rfl, hb'⟩)
  go_ret
  exact ⟨rfl, hb0.trans (hb'.mono (by simp))⟩
 ·rw [decide_eq_false h2]
  simp only [Bool.false_and]
  go_enter Try.func74, Try.ntmps74
  go_wp2
  go_ret
  exact ⟨rfl, hb0⟩

/-! ### impl_within: function 83 -/
def impl_within.f (a0 : Int) (a1 : Int) (a2 : Int) : Option (Bool) := if a1 ≤ a0 then (some (decide (a0 ≤ a2))) else (some false)
set_option maxHeartbeats 8000000 in
set_option maxRecDepth 100000 in
theorem impl_within.calls (a0 : Int) (a1 : Int) (a2 : Int) (r : Bool) (w : World) (h : impl_within.f a0 a1 a2 = some r) :
  Calls Try.prog 83 #[.int .i64 a0, .int .i64 a1, .int .i64 a2] w fun e w' => e = .returned (.bool r) ∧ Drawn0 w w' := by
 have H : (if a1 ≤ a0 then (some (decide (a0 ≤ a2))) else (some false)) = some r := h
 clear h
 replace H := ip H
 obtain ⟨c4b0, H⟩ | ⟨c4b0, H⟩ := H
 ·obtain rfl := Option.some.inj H
  go_enter Try.func83, Try.ntmps83
  go_wp2
  go_ret
  exact ⟨o2, od⟩
 ·obtain rfl := Option.some.inj H
  go_enter Try.func83, Try.ntmps83
  go_wp2
  go_ret
  exact ⟨o2, od⟩

/-! ### impl_isCode: function 196 -/
def impl_isCode.f (a0 : Int) : Option (Bool) := (impl_within.f a0 0 10).bind fun t101 => (some t101)
set_option maxHeartbeats 8000000 in
set_option maxRecDepth 100000 in
theorem impl_isCode.calls (a0 : Int) (r : Bool) (w : World) (h : impl_isCode.f a0 = some r) :
  Calls Try.prog 196 #[.int .i64 a0] w fun e w' => e = .returned (.bool r) ∧ Drawn0 w w' := by
 have H : ((impl_within.f a0 0 10).bind fun t101 => (some t101)) = some r := h
 clear h
 replace H := bnd H
 obtain ⟨t101, A2, H⟩ := H
 obtain rfl := Option.some.inj H
 go_enter Try.func196, Try.ntmps196
 go_wp2_with (((with_reducible refine gate_callee (f := 83) rfl ?_);refine glD 4 rfl rfl Try.func83 (impl_within.calls a0 0 10 t101 _ A2.out) (fun nd => ?_)))
 go_ret
 exact ⟨o2, od⟩

/-! ### impl_typeName: function 162 -/

def impl_typeName.v (t : Int) : ByteArray := if t = 1 then ⟨#[65]⟩ else if t = 2 then ⟨#[78, 83]⟩ else if t = 5 then ⟨#[67, 78, 65, 77, 69]⟩ else if t = 6 then ⟨#[83, 79, 65]⟩ else if t = 12 then ⟨#[80, 84, 82]⟩ else if t = 16 then ⟨#[84, 88, 84]⟩ else if t = 49 then ⟨#[68, 72, 67, 73, 68]⟩ else ⟨#[]⟩
def impl_typeName.f (t : Int) : Option ByteArray := if -9223372036854775808 ≤ t ∧ t ≤ 9223372036854775807 then some (impl_typeName.v t) else none
theorem impl_typeName.inv {e : TypeId} (he : Try.prog.underlying e = some .string) {v : Value} {z : DataW Unit × List MemPlace} (h : plainElem Try.prog e v = some z) : ∃ s : ByteArray, v = .string s ∧ z = (.lit (.string s.data.toList), []) ∧ s.size ≤ maxLen := by
 unfold plainElem at h
 rw [he] at h
 cases v <;> simp at h
 exact ⟨_, rfl, h.2.symm, h.1⟩
theorem impl_typeName.ne {a b : Int} (h : ¬ a = b) : (Lit.int .i64 a) ≠ Lit.int .i64 b := fun e => h (by injection e)
set_option maxHeartbeats 8000000 in
set_option maxRecDepth 100000 in
theorem impl_typeName.calls (a0 : Int) (r : ByteArray) (w : World) (h : impl_typeName.f a0 = some r) :
  Calls Try.prog 162 #[.int .i64 a0] w fun e w' => e = .returned (.string r) ∧ Below w.heap.size w w' := by
 have hw : (Lit.int .i64 a0).wf = true := by
  unfold impl_typeName.f at h; split at h
  ·exact WalkArith.wf_i64 (by assumption)
  ·cases h
 have hr : impl_typeName.v a0 = r := by
  unfold impl_typeName.f at h; split at h
  ·exact Option.some.inj h
  ·cases h
 clear h
 have law : Go.Maps.Keyed Try.prog 3 := Go.Maps.int_keyed Try.underlying3
 have um := Try.underlying222
 have us := Try.underlying9
 have key : ∀ n : Int, (Lit.int .i64 n).wf = true → keyOf Try.prog 3 (.int .i64 n) = some (.int .i64 n) := fun n hn => Go.Maps.keyOf_int_mk Try.underlying3 hn
 have el : ∀ s : ByteArray, s.size ≤ maxLen → plainElem (H := Unit) Try.prog 9 (.string s) = some (.lit (.string s.data.toList), []) := fun s hs => plainElem_string us hs
 have o0 := World.ownsMap_made (H := Unit) w Try.prog 3 (plainElem Try.prog 9)
 obtain ⟨w1, r1, o1, g1⟩ := o0.update law um (by unfold maxLen; omega) (key 1 (by decide)) (el ⟨#[65]⟩ (by decide))
 obtain ⟨w2, r2, o2, g2⟩ := o1.update law um (by unfold maxLen; omega) (key 2 (by decide)) (el ⟨#[78, 83]⟩ (by decide))
 obtain ⟨w3, r3, o3, g3⟩ := o2.update law um (by unfold maxLen; omega) (key 5 (by decide)) (el ⟨#[67, 78, 65, 77, 69]⟩ (by decide))
 obtain ⟨w4, r4, o4, g4⟩ := o3.update law um (by unfold maxLen; omega) (key 6 (by decide)) (el ⟨#[83, 79, 65]⟩ (by decide))
 obtain ⟨w5, r5, o5, g5⟩ := o4.update law um (by unfold maxLen; omega) (key 12 (by decide)) (el ⟨#[80, 84, 82]⟩ (by decide))
 obtain ⟨w6, r6, o6, g6⟩ := o5.update law um (by unfold maxLen; omega) (key 16 (by decide)) (el ⟨#[84, 88, 84]⟩ (by decide))
 obtain ⟨w7, r7, o7, g7⟩ := o6.update law um (by unfold maxLen; omega) (key 49 (by decide)) (el ⟨#[68, 72, 67, 73, 68]⟩ (by decide))
 obtain ⟨v, ps, rl, hv⟩ := o7.lookup law um (z := .string ⟨#[]⟩) (by kernel_rfl) (el ⟨#[]⟩ (by decide)) (key a0 hw)
 obtain ⟨s, rfl, hs, _⟩ := impl_typeName.inv us hv
 have hB : Below w.heap.size w w7 := by
  have b0 := below_alloc (Below.refl w.heap.size w) (.map #[] 0)
  refine Below.grown (Below.grown (Below.grown (Below.grown (Below.grown (Below.grown (Below.grown b0 g1 ?_ ?_) g2 ?_ ?_) g3 ?_ ?_) g4 ?_ ?_) g5 ?_ ?_) g6 ?_ ?_) g7 ?_ ?_
  all_goals first
   | (intro j hj; cases hj; exact Nat.le_refl _)
   | (have := b0.size; have := g1.size; have := g2.size; have := g3.size; have := g4.size; have := g5.size; have := g6.size; omega)
 have e : s = impl_typeName.v a0 := by
  simp only [Prod.mk.injEq] at hs
  have hat := hs.1
  have fin : ∀ {l : ByteArray}, (DataW.lit (.string l.data.toList) : DataW Unit) = .lit (.string s.data.toList) → s = l := fun {l} he => by
   simp at he
   cases s; cases l; simp at he; rw [he]
  have im : ∀ {D : DataW Unit} {k d}, Go.Maps.IsMap D → Go.Maps.IsMap (D.put k d) := fun {D k d} ⟨es, he⟩ => by subst he; exact ⟨_, rfl⟩
  have i0 : Go.Maps.IsMap (DataW.map [] : DataW Unit) := ⟨_, rfl⟩
  unfold impl_typeName.v
  by_cases h7 : a0 = 49
  ·subst h7
   rw [Go.Maps.atKey_put_same (im (im (im (im (im (im i0)))))) (by trivial)] at hat
   exact fin hat
  rw [Go.Maps.atKey_put_other (impl_typeName.ne h7)] at hat
  by_cases h6 : a0 = 16
  ·subst h6
   rw [Go.Maps.atKey_put_same (im (im (im (im (im i0))))) (by trivial)] at hat
   exact fin hat
  rw [Go.Maps.atKey_put_other (impl_typeName.ne h6)] at hat
  by_cases h5 : a0 = 12
  ·subst h5
   rw [Go.Maps.atKey_put_same (im (im (im (im i0)))) (by trivial)] at hat
   exact fin hat
  rw [Go.Maps.atKey_put_other (impl_typeName.ne h5)] at hat
  by_cases h4 : a0 = 6
  ·subst h4
   rw [Go.Maps.atKey_put_same (im (im (im i0))) (by trivial)] at hat
   exact fin hat
  rw [Go.Maps.atKey_put_other (impl_typeName.ne h4)] at hat
  by_cases h3 : a0 = 5
  ·subst h3
   rw [Go.Maps.atKey_put_same (im (im i0)) (by trivial)] at hat
   exact fin hat
  rw [Go.Maps.atKey_put_other (impl_typeName.ne h3)] at hat
  by_cases h2 : a0 = 2
  ·subst h2
   rw [Go.Maps.atKey_put_same (im i0) (by trivial)] at hat
   exact fin hat
  rw [Go.Maps.atKey_put_other (impl_typeName.ne h2)] at hat
  by_cases h1 : a0 = 1
  ·subst h1
   rw [Go.Maps.atKey_put_same i0 (by trivial)] at hat
   exact fin hat
  rw [Go.Maps.atKey_put_other (impl_typeName.ne h1)] at hat
  rw [if_neg h1, if_neg h2, if_neg h3, if_neg h4, if_neg h5, if_neg h6, if_neg h7]
  exact fin hat
 have HB := ak hB
 subst e
 clear o0 o1 o2 o3 o4 o5 o6 o7 g1 g2 g3 g4 g5 g6 g7 hB hs hv key el law hw
 subst hr
 generalize impl_typeName.v a0 = s at rl ⊢
 have hmm := @run_makeMap Try.prog
 go_enter Try.func162, Try.ntmps162
 go_wp2
 go_ret
 exact ⟨rfl, HB.out⟩

/-! ### impl_TypeOk: function 82 -/

def impl_TypeOk.f (a0 : Int) : Option Bool := (impl_typeName.f a0).bind fun t => some (!t.toList.isEmpty)
set_option maxHeartbeats 8000000 in
set_option maxRecDepth 100000 in
theorem impl_TypeOk.calls (a0 : Int) (r : Bool) (w : World) (h : impl_TypeOk.f a0 = some r) :
  Calls Try.prog 82 #[.int .i64 a0] w fun e w' => e = .returned (.bool r) ∧ Below w.heap.size w w' := by
 obtain ⟨s, hs, hr⟩ := Option.bind_eq_some_iff.mp h
 have hr := Option.some.inj hr
 subst hr
 have HC := ak hs
 clear h hs
 go_enter Try.func82, Try.ntmps82
 go_wp2_with (go_at_call 162; refine (impl_typeName.calls a0 s _ HC.out).mono ?_; rintro e w' ⟨rfl, hb⟩)
 go_ret
 exact ⟨by first | rfl | simp, hb⟩

/-! ### impl_isAsked: function 197 -/
def impl_isAsked.f (a0 : Int) : Option (Bool) := (impl_TypeOk.f a0).bind fun t101 => (if t101 = true then (some true) else (some (a0 == 255)))
set_option maxHeartbeats 8000000 in
set_option maxRecDepth 100000 in
theorem impl_isAsked.calls (a0 : Int) (r : Bool) (w : World) (h : impl_isAsked.f a0 = some r) :
  Calls Try.prog 197 #[.int .i64 a0] w fun e w' => e = .returned (.bool r) ∧ Below w.heap.size w w' := by
 have HB := ak (Below.refl w.heap.size w)
 have H : ((impl_TypeOk.f a0).bind fun t101 => (if t101 = true then (some true) else (some (a0 == 255)))) = some r := h
 clear h
 replace H := bnd H
 obtain ⟨t101, A2, H⟩ := H
 replace H := ib H
 obtain ⟨rfl, H⟩ | ⟨rfl, H⟩ := H
 ·obtain rfl := Option.some.inj H
  go_enter Try.func197, Try.ntmps197
  go_wp2_with (((with_reducible refine gate_callee (f := 82) rfl ?_);refine glB 4 rfl rfl Try.func82 (impl_TypeOk.calls a0 true _ A2.out) (fun w4 hb => ?_);replace HB := b2 HB hb;(try clear hb)))
  go_ret
  exact ⟨o1, bw HB.out⟩
 ·obtain rfl := Option.some.inj H
  go_enter Try.func197, Try.ntmps197
  go_wp2_with (((with_reducible refine gate_callee (f := 82) rfl ?_);refine glB 4 rfl rfl Try.func82 (impl_TypeOk.calls a0 false _ A2.out) (fun w5 hb => ?_);replace HB := b2 HB hb;(try clear hb)))
  go_ret
  exact ⟨o1, bw HB.out⟩

/-! ### impl_hasTo: function 85 -/
def impl_hasTo.f (a0 : Int) : Option (Bool) := if a0 = 2 then (some true) else (if a0 = 5 then (some true) else (if a0 = 6 then (some true) else (some (a0 == 12))))
set_option maxHeartbeats 8000000 in
set_option maxRecDepth 100000 in
theorem impl_hasTo.calls (a0 : Int) (r : Bool) (w : World) (h : impl_hasTo.f a0 = some r) :
  Calls Try.prog 85 #[.int .i64 a0] w fun e w' => e = .returned (.bool r) ∧ Drawn0 w w' := by
 have H : (if a0 = 2 then (some true) else (if a0 = 5 then (some true) else (if a0 = 6 then (some true) else (some (a0 == 12))))) = some r := h
 clear h
 replace H := ie H
 obtain ⟨c2b0, c2b1, H⟩ | ⟨c2b0, c2b1, H⟩ := H
 ·obtain rfl := Option.some.inj H
  go_enter Try.func85, Try.ntmps85
  go_wp2
  go_ret
  exact ⟨o2, od⟩
 ·replace H := ie H
  obtain ⟨c3b0, c3b1, H⟩ | ⟨c3b0, c3b1, H⟩ := H
  ·obtain rfl := Option.some.inj H
   go_enter Try.func85, Try.ntmps85
   go_wp2
   go_ret
   exact ⟨o2, od⟩
  ·replace H := ie H
   obtain ⟨c4b0, c4b1, H⟩ | ⟨c4b0, c4b1, H⟩ := H
   ·obtain rfl := Option.some.inj H
    go_enter Try.func85, Try.ntmps85
    go_wp2
    go_ret
    exact ⟨o2, od⟩
   ·obtain rfl := Option.some.inj H
    go_enter Try.func85, Try.ntmps85
    go_wp2
    go_ret
    exact ⟨o2, od⟩

/-! ### impl_isWord: function 138 -/
def impl_isWord.f (a0 : Int) : Option (Bool) := (impl_within.f a0 0 4294967295).bind fun t101 => (some t101)
set_option maxHeartbeats 8000000 in
set_option maxRecDepth 100000 in
theorem impl_isWord.calls (a0 : Int) (r : Bool) (w : World) (h : impl_isWord.f a0 = some r) :
  Calls Try.prog 138 #[.int .i64 a0] w fun e w' => e = .returned (.bool r) ∧ Drawn0 w w' := by
 have H : ((impl_within.f a0 0 4294967295).bind fun t101 => (some t101)) = some r := h
 clear h
 replace H := bnd H
 obtain ⟨t101, A2, H⟩ := H
 obtain rfl := Option.some.inj H
 go_enter Try.func138, Try.ntmps138
 go_wp2_with (((with_reducible refine gate_callee (f := 83) rfl ?_);refine glD 4 rfl rfl Try.func83 (impl_within.calls a0 0 4294967295 t101 _ A2.out) (fun nd => ?_)))
 go_ret
 exact ⟨o2, od⟩

/-! ### impl_hasText: function 139 -/
def impl_hasText.f (a0 : Int) : Option (Bool) := if a0 = 16 then (some true) else (some (a0 == 49))
set_option maxHeartbeats 8000000 in
set_option maxRecDepth 100000 in
theorem impl_hasText.calls (a0 : Int) (r : Bool) (w : World) (h : impl_hasText.f a0 = some r) :
  Calls Try.prog 139 #[.int .i64 a0] w fun e w' => e = .returned (.bool r) ∧ Drawn0 w w' := by
 have H : (if a0 = 16 then (some true) else (some (a0 == 49))) = some r := h
 clear h
 replace H := ie H
 obtain ⟨c2b0, c2b1, H⟩ | ⟨c2b0, c2b1, H⟩ := H
 ·obtain rfl := Option.some.inj H
  go_enter Try.func139, Try.ntmps139
  go_wp2
  go_ret
  exact ⟨o2, od⟩
 ·obtain rfl := Option.some.inj H
  go_enter Try.func139, Try.ntmps139
  go_wp2
  go_ret
  exact ⟨o2, od⟩

/-! ### impl_RrOk: function 63 -/
mutual
def impl_RrOk.j0 : Nat → Bool → List (List Int) → Int → Int → Int → List (List Int) → List Int → List Int → Option (Bool)
 | 0, _, _, _, _, _, _, _, _ => none
 | k + 1, x22, x102000, x102001, x102002, x102003, x102004, x102005, x102006 => if x22 = true then (some false) else (if x102001 = 6 then (if (x102006.length : Int) = 2 then (if 0 < (x102006.length : Int) then ((impl_isWord.f (rd x102006 0)).bind fun t106 => (if t106 = true then (if 1 < (x102006.length : Int) then ((impl_within.f (rd x102006 1) 0 100000).bind fun t108 => (impl_RrOk.j1 k t108 x102000 x102001 x102002 x102003 x102004 x102005 x102006)) else (none)) else (impl_RrOk.j1 k false x102000 x102001 x102002 x102003 x102004 x102005 x102006))) else (none)) else (impl_RrOk.j1 k false x102000 x102001 x102002 x102003 x102004 x102005 x102006)) else (impl_RrOk.j1 k ((x102006.length : Int) == 0) x102000 x102001 x102002 x102003 x102004 x102005 x102006))
def impl_RrOk.j1 : Nat → Bool → List (List Int) → Int → Int → Int → List (List Int) → List Int → List Int → Option (Bool)
 | 0, _, _, _, _, _, _, _, _ => none
 | k + 1, x3, x102000, x102001, x102002, x102003, x102004, x102005, x102006 => if x102003 = 0 then (impl_RrOk.j2 k x3 true x102000 x102001 x102002 x102003 x102004 x102005 x102006) else (if x102001 = 1 then ((impl_isWord.f x102003).bind fun t109 => (impl_RrOk.j2 k x3 t109 x102000 x102001 x102002 x102003 x102004 x102005 x102006)) else (impl_RrOk.j2 k x3 false x102000 x102001 x102002 x102003 x102004 x102005 x102006))
def impl_RrOk.j2 : Nat → Bool → Bool → List (List Int) → Int → Int → Int → List (List Int) → List Int → List Int → Option (Bool)
 | 0, _, _, _, _, _, _, _, _, _ => none
 | k + 1, x3, x4, x102000, x102001, x102002, x102003, x102004, x102005, x102006 => if (x102004.length : Int) = 0 then (impl_RrOk.j3 k x3 x4 true x102000 x102001 x102002 x102003 x102004 x102005 x102006) else ((impl_hasTo.f x102001).bind fun t110 => (if t110 = true then ((impl_NameOk.f x102004).bind fun t111 => (impl_RrOk.j3 k x3 x4 t111 x102000 x102001 x102002 x102003 x102004 x102005 x102006)) else (impl_RrOk.j3 k x3 x4 false x102000 x102001 x102002 x102003 x102004 x102005 x102006)))
def impl_RrOk.j3 : Nat → Bool → Bool → Bool → List (List Int) → Int → Int → Int → List (List Int) → List Int → List Int → Option (Bool)
 | 0, _, _, _, _, _, _, _, _, _, _ => none
 | k + 1, x3, x4, x5, x102000, x102001, x102002, x102003, x102004, x102005, x102006 => if (x102005.length : Int) = 0 then (if x3 = true then (if x4 = true then (if x5 = true then (some true) else (some false)) else (some false)) else (some false)) else ((impl_hasText.f x102001).bind fun t112 => (if t112 = true then (if x3 = true then (if x4 = true then (if x5 = true then (some (decide ((x102005.length : Int) ≤ 40))) else (some false)) else (some false)) else (some false)) else (if x3 = true then (if x4 = true then (if x5 = true then (some false) else (some false)) else (some false)) else (some false))))
end
def impl_RrOk.f (k : Nat) (l0_0 : List (List Int)) (a0_1 : Int) (a0_2 : Int) (a0_3 : Int) (l0_4 : List (List Int)) (l0_5 : List Int) (l0_6 : List Int) : Option (Bool) := (impl_NameOk.f l0_0).bind fun t102 => (if t102 = true then ((impl_TypeOk.f a0_1).bind fun t103 => (if t103 = true then ((impl_within.f a0_2 0 100000).bind fun t104 => (impl_RrOk.j0 k (!t104) l0_0 a0_1 a0_2 a0_3 l0_4 l0_5 l0_6)) else (impl_RrOk.j0 k true l0_0 a0_1 a0_2 a0_3 l0_4 l0_5 l0_6))) else (impl_RrOk.j0 k true l0_0 a0_1 a0_2 a0_3 l0_4 l0_5 l0_6))
set_option maxHeartbeats 8000000 in
set_option maxRecDepth 100000 in
theorem impl_RrOk.calls (k : Nat) (A0_0 : Option Addr) (c0_0 : Nat) (l0_0 : List (List Int)) (a0_1 : Int) (a0_2 : Int) (a0_3 : Int) (A0_4 : Option Addr) (c0_4 : Nat) (l0_4 : List (List Int)) (A0_5 : Option Addr) (c0_5 : Nat) (l0_5 : List Int) (A0_6 : Option Addr) (c0_6 : Nat) (l0_6 : List Int) (r : Bool) (w : World) (hr0_0 : Kd.C (Kd.slice 5 (Kd.int .u8)) w A0_0 l0_0.length l0_0) (hc0_0 : l0_0.length ≤ c0_0) (hr0_4 : Kd.C (Kd.slice 5 (Kd.int .u8)) w A0_4 l0_4.length l0_4) (hc0_4 : l0_4.length ≤ c0_4) (hr0_5 : Kd.C (Kd.int .u8) w A0_5 l0_5.length l0_5) (hc0_5 : l0_5.length ≤ c0_5) (hr0_6 : Kd.C (Kd.int .i64) w A0_6 l0_6.length l0_6) (hc0_6 : l0_6.length ≤ c0_6) (h : impl_RrOk.f k l0_0 a0_1 a0_2 a0_3 l0_4 l0_5 l0_6 = some r) :
  Calls Try.prog 63 #[.agg #[.slice A0_0 l0_0.length c0_0, .int .i64 a0_1, .int .i64 a0_2, .int .i64 a0_3, .slice A0_4 l0_4.length c0_4, .slice A0_5 l0_5.length c0_5, .slice A0_6 l0_6.length c0_6]] w fun e w' => e = .returned (.bool r) ∧ Below w.heap.size w w' := by
 have hu33 := Try.underlying33
 have hu31 := Try.underlying31
 have HR0_0 := ak hr0_0
 have HC0_0 := ak hc0_0
 clear hr0_0 hc0_0
 have HR0_4 := ak hr0_4
 have HC0_4 := ak hc0_4
 clear hr0_4 hc0_4
 have HR0_5 := ak hr0_5
 have HC0_5 := ak hc0_5
 clear hr0_5 hc0_5
 have HR0_6 := ak hr0_6
 have HC0_6 := ak hc0_6
 clear hr0_6 hc0_6
 have HB := ak (Below.refl w.heap.size w)
 have H : ((impl_NameOk.f l0_0).bind fun t102 => (if t102 = true then ((impl_TypeOk.f a0_1).bind fun t103 => (if t103 = true then ((impl_within.f a0_2 0 100000).bind fun t104 => (impl_RrOk.j0 k (!t104) l0_0 a0_1 a0_2 a0_3 l0_4 l0_5 l0_6)) else (impl_RrOk.j0 k true l0_0 a0_1 a0_2 a0_3 l0_4 l0_5 l0_6))) else (impl_RrOk.j0 k true l0_0 a0_1 a0_2 a0_3 l0_4 l0_5 l0_6))) = some r := h
 clear h
 have HC2 := ak H
 clear H
 go_enter Try.func63, Try.ntmps63
 go_upto_region 1 with (((with_reducible refine gate_dst (N := 1) rfl ?_);(try (refine gate_guard (by rfl) ?_; dsimp only));refine bxd (N := 1) rfl HB ?_;clear HB;intro gb101 w3 hg HB BK101 GE101 hb;have GW101 := GE101;clear hb hg))
 (try simp only [Act.put, List.setIfInBounds_toArray, List.set_cons_zero, List.set_cons_succ])
 go_cut [22] (fun v22 wc => ∃ (kq : Nat) (x22_1 : Bool), v22 = .bool x22_1 ∧ Aside0 (impl_RrOk.j0 kq x22_1 l0_0 a0_1 a0_2 a0_3 l0_4 l0_5 l0_6 = some r) ∧ Aside0 (kq ≤ k) ∧ Aside0 (wc.heap[gb101]? = some (.cells #[(.slice A0_0 l0_0.length c0_0), .int .i64 a0_1, .int .i64 a0_2, .int .i64 a0_3, (.slice A0_4 l0_4.length c0_4), (.slice A0_5 l0_5.length c0_5), (.slice A0_6 l0_6.length c0_6)] 33 (0, 0))) ∧ Aside0 (Below w.heap.size w wc))
 case first =>
  have H := HC2.out
  clear HC2
  replace H := bnd H
  obtain ⟨t102, A4, H⟩ := H
  replace H := ib H
  obtain ⟨rfl, H⟩ | ⟨rfl, H⟩ := H
  ·replace H := bnd H
   obtain ⟨t103, A6, H⟩ := H
   replace H := ib H
   obtain ⟨rfl, H⟩ | ⟨rfl, H⟩ := H
   ·replace H := bnd H
    obtain ⟨t104, A8, H⟩ := H
    have H' := ak H
    clear H
    obtain ⟨hcz9_0, hcz9_1, hcz9_2, hcz9_3, hcz9_4, hcz9_5, hcz9_6, hfz9_0, hfz9_1, hfz9_2, hfz9_3, hfz9_4, hfz9_5, hfz9_6⟩ := cells7 BK101.out
    go_wp2_with (first | ((with_reducible refine gate_callee (f := 74) rfl ?_);refine glB 9 rfl rfl Try.func74 (impl_NameOk.calls _ _ l0_0 true _ (cv HR0_0 HB) HC0_0.out A4.out) (fun w10 hb => ?_);replace BK101 := b1 BK101 hb;replace HB := b2s bs hb;(try clear hb);obtain ⟨hcz11_0, hcz11_1, hcz11_2, hcz11_3, hcz11_4, hcz11_5, hcz11_6, hfz11_0, hfz11_1, hfz11_2, hfz11_3, hfz11_4, hfz11_5, hfz11_6⟩ := cells7 BK101.out) | (go_at_call 82;(with_reducible refine (impl_TypeOk.calls a0_1 true _ A6.out).mono ?_);rintro e w12 ⟨rfl, hb⟩;replace BK101 := b1 BK101 hb;replace HB := b2s bs hb;(try clear hb);obtain ⟨hcz13_0, hcz13_1, hcz13_2, hcz13_3, hcz13_4, hcz13_5, hcz13_6, hfz13_0, hfz13_1, hfz13_2, hfz13_3, hfz13_4, hfz13_5, hfz13_6⟩ := cells7 BK101.out) | (go_at_call 83;(with_reducible refine (impl_within.calls a0_2 0 100000 t104 _ A8.out).mono ?_);rintro e w' ⟨rfl, ⟨nd, rfl⟩⟩))
    go_meet
    case rel => exact ⟨_, (!t104), o2, H', ⟨o3⟩, ⟨bk BK101.out⟩, ⟨bs⟩⟩
   ·have H' := ak H
    clear H
    obtain ⟨hcz14_0, hcz14_1, hcz14_2, hcz14_3, hcz14_4, hcz14_5, hcz14_6, hfz14_0, hfz14_1, hfz14_2, hfz14_3, hfz14_4, hfz14_5, hfz14_6⟩ := cells7 BK101.out
    go_wp2_with (first | ((with_reducible refine gate_callee (f := 74) rfl ?_);refine glB 9 rfl rfl Try.func74 (impl_NameOk.calls _ _ l0_0 true _ (cv HR0_0 HB) HC0_0.out A4.out) (fun w15 hb => ?_);replace BK101 := b1 BK101 hb;replace HB := b2s bs hb;(try clear hb);obtain ⟨hcz16_0, hcz16_1, hcz16_2, hcz16_3, hcz16_4, hcz16_5, hcz16_6, hfz16_0, hfz16_1, hfz16_2, hfz16_3, hfz16_4, hfz16_5, hfz16_6⟩ := cells7 BK101.out) | (go_at_call 82;(with_reducible refine (impl_TypeOk.calls a0_1 false _ A6.out).mono ?_);rintro e w17 ⟨rfl, hb⟩;replace BK101 := b1 BK101 hb;replace HB := b2s bs hb;(try clear hb)))
    go_meet
    case rel => exact ⟨_, (true), o2, H', ⟨o3⟩, ⟨bk BK101.out⟩, ⟨bs⟩⟩
  ·have H' := ak H
   clear H
   obtain ⟨hcz18_0, hcz18_1, hcz18_2, hcz18_3, hcz18_4, hcz18_5, hcz18_6, hfz18_0, hfz18_1, hfz18_2, hfz18_3, hfz18_4, hfz18_5, hfz18_6⟩ := cells7 BK101.out
   go_wp2_with (((with_reducible refine gate_callee (f := 74) rfl ?_);refine glB 9 rfl rfl Try.func74 (impl_NameOk.calls _ _ l0_0 false _ (cv HR0_0 HB) HC0_0.out A4.out) (fun w19 hb => ?_);replace BK101 := b1 BK101 hb;replace HB := b2s bs hb;(try clear hb)))
   go_meet
   case rel => exact ⟨_, (true), o2, H', ⟨o3⟩, ⟨bk BK101.out⟩, ⟨bs⟩⟩
 case rest =>
  clear HC2
  obtain ⟨kq, x22_1, rfl, HA, HJ1, BK101, HB⟩ := hcut
  cases kq with
  | zero => exact absurd HA.out (by simp [impl_RrOk.j0])
  | succ kj1 =>
   have H := HA.out
   clear HA
   simp only [impl_RrOk.j0] at H
   replace H := ib H
   obtain ⟨rfl, H⟩ | ⟨rfl, H⟩ := H
   ·obtain rfl := Option.some.inj H
    go_wp2
    go_ret
    exact ⟨o1, bs⟩
   ·have HC21 := ak H
    clear H
    obtain ⟨hcz22_0, hcz22_1, hcz22_2, hcz22_3, hcz22_4, hcz22_5, hcz22_6, hfz22_0, hfz22_1, hfz22_2, hfz22_3, hfz22_4, hfz22_5, hfz22_6⟩ := cells7 BK101.out
    go_upto_if 29 with (fail)
    go_cut [3] (fun v3 wc => ∃ (kq : Nat) (x3_20 : Bool), v3 = .bool x3_20 ∧ Aside0 (impl_RrOk.j1 kq x3_20 l0_0 a0_1 a0_2 a0_3 l0_4 l0_5 l0_6 = some r) ∧ Aside0 (kq ≤ kj1) ∧ Aside0 (wc.heap[gb101]? = some (.cells #[(.slice A0_0 l0_0.length c0_0), .int .i64 a0_1, .int .i64 a0_2, .int .i64 a0_3, (.slice A0_4 l0_4.length c0_4), (.slice A0_5 l0_5.length c0_5), (.slice A0_6 l0_6.length c0_6)] 33 (0, 0))) ∧ Aside0 (Below w.heap.size w wc))
    case first =>
     have H := HC21.out
     clear HC21
     replace H := ie H
     obtain ⟨c23b0, c23b1, H⟩ | ⟨c23b0, c23b1, H⟩ := H
     ·(first | rw [c23b0] | (simp only [i64_w, i32_w]; rw [c23b0]) | skip)
      replace H := ie H
      obtain ⟨c24b0, c24b1, H⟩ | ⟨c24b0, c24b1, H⟩ := H
      ·replace H := ipN H
       obtain ⟨c25b0, H⟩ := H
       have c25b1 : decide (0 < l0_6.length) = true := decide_eq_true (by have := of_decide_eq_true c25b0; omega)
       replace H := bnd H
       obtain ⟨t106, A26, H⟩ := H
       replace H := ib H
       obtain ⟨rfl, H⟩ | ⟨rfl, H⟩ := H
       ·replace H := ipN H
        obtain ⟨c28b0, H⟩ := H
        have c28b1 : decide (1 < l0_6.length) = true := decide_eq_true (by have := of_decide_eq_true c28b0; omega)
        replace H := bnd H
        obtain ⟨t108, A29, H⟩ := H
        have H' := ak H
        clear H
        obtain ⟨hcz30_0, hcz30_1, hcz30_2, hcz30_3, hcz30_4, hcz30_5, hcz30_6, hfz30_0, hfz30_1, hfz30_2, hfz30_3, hfz30_4, hfz30_5, hfz30_6⟩ := cells7 BK101.out
        obtain ⟨ad105, rfl, hx105_0, p105, q105⟩ := el0_int HR0_6 0 (h0 := by decide)
        replace p105 := of_eq_true p105
        replace q105 := of_eq_true q105
        have qi105 : (0 < l0_6.length) = True := eq_true (by omega)
        (try rw [show ((0 : Int)).toNat = 0 from rfl] at hx105_0)
        (try rw [Addr.add_zero'] at hx105_0)
        replace hx105_0 := pw_cell_below HB.out hx105_0
        replace p105 := eq_true p105
        replace q105 := eq_true q105
        go_wp2_with (first | (go_at_call 138;(with_reducible refine (impl_isWord.calls (rd l0_6 0) true _ A26.out).mono ?_);rintro e w' ⟨rfl, ⟨nd, rfl⟩⟩;have p107 : 0 ≤ (1 : Int) := (by omega);have q107 : 1 < (l0_6.length : Int) := of_decide_eq_true (by first | (with_reducible assumption) | assumption);obtain ⟨ad107, e107, hx107_0⟩ := Kd.at_int HR0_6.out 1 p107 q107;obtain rfl : ad105 = ad107 := (by injection e107);(try simp only [show (1 : Int).toNat = 1 from rfl, Nat.reduceMul, Nat.reduceEqDiff, Go.Addr.add, ↓reduceIte] at hx107_0);have qi107 : (1 < l0_6.length) = True := eq_true (by omega);(try rw [show ((1 : Int)).toNat = 1 from rfl] at hx107_0);replace hx107_0 := pw_cell_below HB.out hx107_0;replace p107 := eq_true p107;replace q107 := eq_true q107) | (go_at_call 83;(with_reducible refine (impl_within.calls (rd l0_6 1) 0 100000 t108 _ A29.out).mono ?_);rintro e w' ⟨rfl, ⟨nd, rfl⟩⟩))
        go_meet
        case rel => exact ⟨_, (t108), o2, H', ⟨by have := HJ1.out; first | omega | exact Nat.le_refl _⟩, ⟨bk BK101.out⟩, ⟨bs⟩⟩
       ·have H' := ak H
        clear H
        obtain ⟨hcz31_0, hcz31_1, hcz31_2, hcz31_3, hcz31_4, hcz31_5, hcz31_6, hfz31_0, hfz31_1, hfz31_2, hfz31_3, hfz31_4, hfz31_5, hfz31_6⟩ := cells7 BK101.out
        obtain ⟨ad105, rfl, hx105_0, p105, q105⟩ := el0_int HR0_6 0 (h0 := by decide)
        replace p105 := of_eq_true p105
        replace q105 := of_eq_true q105
        have qi105 : (0 < l0_6.length) = True := eq_true (by omega)
        (try rw [show ((0 : Int)).toNat = 0 from rfl] at hx105_0)
        (try rw [Addr.add_zero'] at hx105_0)
        replace hx105_0 := pw_cell_below HB.out hx105_0
        replace p105 := eq_true p105
        replace q105 := eq_true q105
        go_wp2_with ((go_at_call 138;(with_reducible refine (impl_isWord.calls (rd l0_6 0) false _ A26.out).mono ?_);rintro e w' ⟨rfl, ⟨nd, rfl⟩⟩))
        go_meet
        case rel => exact ⟨_, (false), o2, H', ⟨by have := HJ1.out; first | omega | exact Nat.le_refl _⟩, ⟨bk BK101.out⟩, ⟨bs⟩⟩
      ·have H' := ak H
       clear H
       obtain ⟨hcz32_0, hcz32_1, hcz32_2, hcz32_3, hcz32_4, hcz32_5, hcz32_6, hfz32_0, hfz32_1, hfz32_2, hfz32_3, hfz32_4, hfz32_5, hfz32_6⟩ := cells7 BK101.out
       go_wp2
       go_meet
       case rel => exact ⟨_, (false), o2, H', ⟨by have := HJ1.out; first | omega | exact Nat.le_refl _⟩, ⟨bk BK101.out⟩, ⟨bs⟩⟩
     ·(first | rw [c23b0] | (simp only [i64_w, i32_w]; rw [c23b0]) | skip)
      have H' := ak H
      clear H
      go_wp2
      go_meet
      case rel => exact ⟨_, (((l0_6.length : Int) == 0)), o2, H', ⟨by have := HJ1.out; first | omega | exact Nat.le_refl _⟩, ⟨bk BK101.out⟩, ⟨bs⟩⟩
    case rest =>
     clear HC21
     (try clear hcz22_0)
     (try clear hcz22_1)
     (try clear hcz22_2)
     (try clear hcz22_3)
     (try clear hcz22_4)
     (try clear hcz22_5)
     (try clear hcz22_6)
     (try clear hfz22_0)
     (try clear hfz22_1)
     (try clear hfz22_2)
     (try clear hfz22_3)
     (try clear hfz22_4)
     (try clear hfz22_5)
     (try clear hfz22_6)
     obtain ⟨kq, x3_20, rfl, HA, HJ20, BK101, HB⟩ := hcut
     cases kq with
     | zero => exact absurd HA.out (by simp [impl_RrOk.j1])
     | succ kj20 =>
      have H := HA.out
      clear HA
      simp only [impl_RrOk.j1] at H
      have HC33 := ak H
      clear H
      go_upto_region 6 with (fail)
      go_cut [4] (fun v4 wc => ∃ (kq : Nat) (x4_32 : Bool), v4 = .bool x4_32 ∧ Aside0 (impl_RrOk.j2 kq x3_20 x4_32 l0_0 a0_1 a0_2 a0_3 l0_4 l0_5 l0_6 = some r) ∧ Aside0 (kq ≤ kj20) ∧ Aside0 (wc.heap[gb101]? = some (.cells #[(.slice A0_0 l0_0.length c0_0), .int .i64 a0_1, .int .i64 a0_2, .int .i64 a0_3, (.slice A0_4 l0_4.length c0_4), (.slice A0_5 l0_5.length c0_5), (.slice A0_6 l0_6.length c0_6)] 33 (0, 0))) ∧ Aside0 (Below w.heap.size w wc))
      case first =>
       have H := HC33.out
       clear HC33
       replace H := ie H
       obtain ⟨c34b0, c34b1, H⟩ | ⟨c34b0, c34b1, H⟩ := H
       ·(first | rw [c34b0] | (simp only [i64_w, i32_w]; rw [c34b0]) | skip)
        have H' := ak H
        clear H
        obtain ⟨hcz35_0, hcz35_1, hcz35_2, hcz35_3, hcz35_4, hcz35_5, hcz35_6, hfz35_0, hfz35_1, hfz35_2, hfz35_3, hfz35_4, hfz35_5, hfz35_6⟩ := cells7 BK101.out
        go_wp2
        go_meet
        case rel => exact ⟨_, (true), o2, H', ⟨by have := HJ1.out; have := HJ20.out; first | omega | exact Nat.le_refl _⟩, ⟨bk BK101.out⟩, ⟨bs⟩⟩
       ·(first | rw [c34b0] | (simp only [i64_w, i32_w]; rw [c34b0]) | skip)
        replace H := ie H
        obtain ⟨c36b0, c36b1, H⟩ | ⟨c36b0, c36b1, H⟩ := H
        ·replace H := bnd H
         obtain ⟨t109, A37, H⟩ := H
         have H' := ak H
         clear H
         obtain ⟨hcz38_0, hcz38_1, hcz38_2, hcz38_3, hcz38_4, hcz38_5, hcz38_6, hfz38_0, hfz38_1, hfz38_2, hfz38_3, hfz38_4, hfz38_5, hfz38_6⟩ := cells7 BK101.out
         go_wp2_with ((go_at_call 138;(with_reducible refine (impl_isWord.calls a0_3 t109 _ A37.out).mono ?_);rintro e w' ⟨rfl, ⟨nd, rfl⟩⟩))
         go_meet
         case rel => exact ⟨_, (t109), o2, H', ⟨by have := HJ1.out; have := HJ20.out; first | omega | exact Nat.le_refl _⟩, ⟨bk BK101.out⟩, ⟨bs⟩⟩
        ·have H' := ak H
         clear H
         obtain ⟨hcz39_0, hcz39_1, hcz39_2, hcz39_3, hcz39_4, hcz39_5, hcz39_6, hfz39_0, hfz39_1, hfz39_2, hfz39_3, hfz39_4, hfz39_5, hfz39_6⟩ := cells7 BK101.out
         go_wp2
         go_meet
         case rel => exact ⟨_, (false), o2, H', ⟨by have := HJ1.out; have := HJ20.out; first | omega | exact Nat.le_refl _⟩, ⟨bk BK101.out⟩, ⟨bs⟩⟩
      case rest =>
       clear HC33
       (try clear hcz22_0)
       (try clear hcz22_1)
       (try clear hcz22_2)
       (try clear hcz22_3)
       (try clear hcz22_4)
       (try clear hcz22_5)
       (try clear hcz22_6)
       (try clear hfz22_0)
       (try clear hfz22_1)
       (try clear hfz22_2)
       (try clear hfz22_3)
       (try clear hfz22_4)
       (try clear hfz22_5)
       (try clear hfz22_6)
       obtain ⟨kq, x4_32, rfl, HA, HJ32, BK101, HB⟩ := hcut
       cases kq with
       | zero => exact absurd HA.out (by simp [impl_RrOk.j2])
       | succ kj32 =>
        have H := HA.out
        clear HA
        simp only [impl_RrOk.j2] at H
        have HC40 := ak H
        clear H
        go_upto_region 7 with (fail)
        go_cut [5] (fun v5 wc => ∃ (kq : Nat) (x5_39 : Bool), v5 = .bool x5_39 ∧ Aside0 (impl_RrOk.j3 kq x3_20 x4_32 x5_39 l0_0 a0_1 a0_2 a0_3 l0_4 l0_5 l0_6 = some r) ∧ Aside0 (kq ≤ kj32) ∧ Aside0 (wc.heap[gb101]? = some (.cells #[(.slice A0_0 l0_0.length c0_0), .int .i64 a0_1, .int .i64 a0_2, .int .i64 a0_3, (.slice A0_4 l0_4.length c0_4), (.slice A0_5 l0_5.length c0_5), (.slice A0_6 l0_6.length c0_6)] 33 (0, 0))) ∧ Aside0 (Below w.heap.size w wc))
        case first =>
         have H := HC40.out
         clear HC40
         replace H := ie H
         obtain ⟨c41b0, c41b1, H⟩ | ⟨c41b0, c41b1, H⟩ := H
         ·(first | rw [c41b0] | (simp only [i64_w, i32_w]; rw [c41b0]) | skip)
          have H' := ak H
          clear H
          obtain ⟨hcz42_0, hcz42_1, hcz42_2, hcz42_3, hcz42_4, hcz42_5, hcz42_6, hfz42_0, hfz42_1, hfz42_2, hfz42_3, hfz42_4, hfz42_5, hfz42_6⟩ := cells7 BK101.out
          go_wp2
          go_meet
          case rel => exact ⟨_, (true), o2, H', ⟨by have := HJ1.out; have := HJ20.out; have := HJ32.out; first | omega | exact Nat.le_refl _⟩, ⟨bk BK101.out⟩, ⟨bs⟩⟩
         ·have c41b2 : ¬ (l0_4 = []) := fun h_ => bne_iff_ne.mp c41b1 (by rw [h_]; rfl)
          (first | rw [c41b0] | (simp only [i64_w, i32_w]; rw [c41b0]) | skip)
          replace H := bnd H
          obtain ⟨t110, A43, H⟩ := H
          replace H := ib H
          obtain ⟨rfl, H⟩ | ⟨rfl, H⟩ := H
          ·replace H := bnd H
           obtain ⟨t111, A45, H⟩ := H
           have H' := ak H
           clear H
           obtain ⟨hcz46_0, hcz46_1, hcz46_2, hcz46_3, hcz46_4, hcz46_5, hcz46_6, hfz46_0, hfz46_1, hfz46_2, hfz46_3, hfz46_4, hfz46_5, hfz46_6⟩ := cells7 BK101.out
           go_wp2_with (first | (go_at_call 85;(with_reducible refine (impl_hasTo.calls a0_1 true _ A43.out).mono ?_);rintro e w' ⟨rfl, ⟨nd, rfl⟩⟩) | (go_at_call 74;(with_reducible refine (impl_NameOk.calls _ _ l0_4 t111 _ ?side1 HC0_4.out A45.out).mono ?_);(case side1 => repeat (first | exact (Kd.C_below HR0_4.out bs) | (with_reducible refine Kd.C_alloc ?_ _) | (with_reducible refine Kd.C_drewN ?_ _) | (with_reducible refine Kd.C_drew ?_)));rintro e w47 ⟨rfl, hb⟩;replace BK101 := b1 BK101 hb;replace HB := b2s bs hb;(try clear hb)))
           go_meet
           case rel => exact ⟨_, (t111), o2, H', ⟨by have := HJ1.out; have := HJ20.out; have := HJ32.out; first | omega | exact Nat.le_refl _⟩, ⟨bk BK101.out⟩, ⟨bs⟩⟩
          ·have H' := ak H
           clear H
           obtain ⟨hcz48_0, hcz48_1, hcz48_2, hcz48_3, hcz48_4, hcz48_5, hcz48_6, hfz48_0, hfz48_1, hfz48_2, hfz48_3, hfz48_4, hfz48_5, hfz48_6⟩ := cells7 BK101.out
           go_wp2_with ((go_at_call 85;(with_reducible refine (impl_hasTo.calls a0_1 false _ A43.out).mono ?_);rintro e w' ⟨rfl, ⟨nd, rfl⟩⟩))
           go_meet
           case rel => exact ⟨_, (false), o2, H', ⟨by have := HJ1.out; have := HJ20.out; have := HJ32.out; first | omega | exact Nat.le_refl _⟩, ⟨bk BK101.out⟩, ⟨bs⟩⟩
        case rest =>
         clear HC40
         (try clear hcz22_0)
         (try clear hcz22_1)
         (try clear hcz22_2)
         (try clear hcz22_3)
         (try clear hcz22_4)
         (try clear hcz22_5)
         (try clear hcz22_6)
         (try clear hfz22_0)
         (try clear hfz22_1)
         (try clear hfz22_2)
         (try clear hfz22_3)
         (try clear hfz22_4)
         (try clear hfz22_5)
         (try clear hfz22_6)
         obtain ⟨kq, x5_39, rfl, HA, HJ39, BK101, HB⟩ := hcut
         cases kq with
         | zero => exact absurd HA.out (by simp [impl_RrOk.j3])
         | succ kj39 =>
          have H := HA.out
          clear HA
          simp only [impl_RrOk.j3] at H
          replace H := ie H
          obtain ⟨c49b0, c49b1, H⟩ | ⟨c49b0, c49b1, H⟩ := H
          ·replace H := ib H
           obtain ⟨rfl, H⟩ | ⟨rfl, H⟩ := H
           ·replace H := ib H
            obtain ⟨rfl, H⟩ | ⟨rfl, H⟩ := H
            ·replace H := ib H
             obtain ⟨rfl, H⟩ | ⟨rfl, H⟩ := H
             ·obtain rfl := Option.some.inj H
              obtain ⟨hcz53_0, hcz53_1, hcz53_2, hcz53_3, hcz53_4, hcz53_5, hcz53_6, hfz53_0, hfz53_1, hfz53_2, hfz53_3, hfz53_4, hfz53_5, hfz53_6⟩ := cells7 BK101.out
              go_wp2
              go_ret
              exact ⟨o1, bs⟩
             ·obtain rfl := Option.some.inj H
              obtain ⟨hcz54_0, hcz54_1, hcz54_2, hcz54_3, hcz54_4, hcz54_5, hcz54_6, hfz54_0, hfz54_1, hfz54_2, hfz54_3, hfz54_4, hfz54_5, hfz54_6⟩ := cells7 BK101.out
              go_wp2
              go_ret
              exact ⟨o1, bs⟩
            ·obtain rfl := Option.some.inj H
             obtain ⟨hcz55_0, hcz55_1, hcz55_2, hcz55_3, hcz55_4, hcz55_5, hcz55_6, hfz55_0, hfz55_1, hfz55_2, hfz55_3, hfz55_4, hfz55_5, hfz55_6⟩ := cells7 BK101.out
             go_wp2
             go_ret
             exact ⟨o1, bs⟩
           ·obtain rfl := Option.some.inj H
            obtain ⟨hcz56_0, hcz56_1, hcz56_2, hcz56_3, hcz56_4, hcz56_5, hcz56_6, hfz56_0, hfz56_1, hfz56_2, hfz56_3, hfz56_4, hfz56_5, hfz56_6⟩ := cells7 BK101.out
            go_wp2
            go_ret
            exact ⟨o1, bs⟩
          ·have c49b2 : ¬ (l0_5 = []) := fun h_ => bne_iff_ne.mp c49b1 (by rw [h_]; rfl)
           replace H := bnd H
           obtain ⟨t112, A57, H⟩ := H
           replace H := ib H
           obtain ⟨rfl, H⟩ | ⟨rfl, H⟩ := H
           ·replace H := ib H
            obtain ⟨rfl, H⟩ | ⟨rfl, H⟩ := H
            ·replace H := ib H
             obtain ⟨rfl, H⟩ | ⟨rfl, H⟩ := H
             ·replace H := ib H
              obtain ⟨rfl, H⟩ | ⟨rfl, H⟩ := H
              ·obtain rfl := Option.some.inj H
               obtain ⟨hcz62_0, hcz62_1, hcz62_2, hcz62_3, hcz62_4, hcz62_5, hcz62_6, hfz62_0, hfz62_1, hfz62_2, hfz62_3, hfz62_4, hfz62_5, hfz62_6⟩ := cells7 BK101.out
               go_wp2_with ((go_at_call 139;(with_reducible refine (impl_hasText.calls a0_1 true _ A57.out).mono ?_);rintro e w' ⟨rfl, ⟨nd, rfl⟩⟩))
               go_ret
               exact ⟨o1, bs⟩
              ·obtain rfl := Option.some.inj H
               obtain ⟨hcz63_0, hcz63_1, hcz63_2, hcz63_3, hcz63_4, hcz63_5, hcz63_6, hfz63_0, hfz63_1, hfz63_2, hfz63_3, hfz63_4, hfz63_5, hfz63_6⟩ := cells7 BK101.out
               go_wp2_with ((go_at_call 139;(with_reducible refine (impl_hasText.calls a0_1 true _ A57.out).mono ?_);rintro e w' ⟨rfl, ⟨nd, rfl⟩⟩))
               go_ret
               exact ⟨o1, bs⟩
             ·obtain rfl := Option.some.inj H
              obtain ⟨hcz64_0, hcz64_1, hcz64_2, hcz64_3, hcz64_4, hcz64_5, hcz64_6, hfz64_0, hfz64_1, hfz64_2, hfz64_3, hfz64_4, hfz64_5, hfz64_6⟩ := cells7 BK101.out
              go_wp2_with ((go_at_call 139;(with_reducible refine (impl_hasText.calls a0_1 true _ A57.out).mono ?_);rintro e w' ⟨rfl, ⟨nd, rfl⟩⟩))
              go_ret
              exact ⟨o1, bs⟩
            ·obtain rfl := Option.some.inj H
             obtain ⟨hcz65_0, hcz65_1, hcz65_2, hcz65_3, hcz65_4, hcz65_5, hcz65_6, hfz65_0, hfz65_1, hfz65_2, hfz65_3, hfz65_4, hfz65_5, hfz65_6⟩ := cells7 BK101.out
             go_wp2_with ((go_at_call 139;(with_reducible refine (impl_hasText.calls a0_1 true _ A57.out).mono ?_);rintro e w' ⟨rfl, ⟨nd, rfl⟩⟩))
             go_ret
             exact ⟨o1, bs⟩
           ·replace H := ib H
            obtain ⟨rfl, H⟩ | ⟨rfl, H⟩ := H
            ·replace H := ib H
             obtain ⟨rfl, H⟩ | ⟨rfl, H⟩ := H
             ·replace H := ib H
              obtain ⟨rfl, H⟩ | ⟨rfl, H⟩ := H
              ·obtain rfl := Option.some.inj H
               obtain ⟨hcz69_0, hcz69_1, hcz69_2, hcz69_3, hcz69_4, hcz69_5, hcz69_6, hfz69_0, hfz69_1, hfz69_2, hfz69_3, hfz69_4, hfz69_5, hfz69_6⟩ := cells7 BK101.out
               go_wp2_with ((go_at_call 139;(with_reducible refine (impl_hasText.calls a0_1 false _ A57.out).mono ?_);rintro e w' ⟨rfl, ⟨nd, rfl⟩⟩))
               go_ret
               exact ⟨o1, bs⟩
              ·obtain rfl := Option.some.inj H
               obtain ⟨hcz70_0, hcz70_1, hcz70_2, hcz70_3, hcz70_4, hcz70_5, hcz70_6, hfz70_0, hfz70_1, hfz70_2, hfz70_3, hfz70_4, hfz70_5, hfz70_6⟩ := cells7 BK101.out
               go_wp2_with ((go_at_call 139;(with_reducible refine (impl_hasText.calls a0_1 false _ A57.out).mono ?_);rintro e w' ⟨rfl, ⟨nd, rfl⟩⟩))
               go_ret
               exact ⟨o1, bs⟩
             ·obtain rfl := Option.some.inj H
              obtain ⟨hcz71_0, hcz71_1, hcz71_2, hcz71_3, hcz71_4, hcz71_5, hcz71_6, hfz71_0, hfz71_1, hfz71_2, hfz71_3, hfz71_4, hfz71_5, hfz71_6⟩ := cells7 BK101.out
              go_wp2_with ((go_at_call 139;(with_reducible refine (impl_hasText.calls a0_1 false _ A57.out).mono ?_);rintro e w' ⟨rfl, ⟨nd, rfl⟩⟩))
              go_ret
              exact ⟨o1, bs⟩
            ·obtain rfl := Option.some.inj H
             obtain ⟨hcz72_0, hcz72_1, hcz72_2, hcz72_3, hcz72_4, hcz72_5, hcz72_6, hfz72_0, hfz72_1, hfz72_2, hfz72_3, hfz72_4, hfz72_5, hfz72_6⟩ := cells7 BK101.out
             go_wp2_with ((go_at_call 139;(with_reducible refine (impl_hasText.calls a0_1 false _ A57.out).mono ?_);rintro e w' ⟨rfl, ⟨nd, rfl⟩⟩))
             go_ret
             exact ⟨o1, bs⟩

/-! ### impl_Rr_223: function 223 -/

/-- Where the first element stands of which q holds; -1: nowhere. -/
def impl_Rr_223.idx (q : S33 → Option Bool) : List S33 → Int → Option Int
 | [], _ => some (-1)
 | x :: l, i => (q x).bind fun b => if b = true then some i else impl_Rr_223.idx q l (i + 1)
set_option maxHeartbeats 2000000 in
theorem impl_Rr_223.calls (g : Nat) (lb : Array Value) (eg : ∀ args w, (callFunc g args).run Try.prog w = .ok (.enter g args) w) (q : S33 → Option Bool) (A0 : Option Addr) (c0 : Nat) (l0 : List S33) (r : Int) (w : World) (hr0 : Kd.C k33 w A0 l0.length l0)
  (hp : ∀ (W : World) (cs : List Value) (x : S33) (b : Bool), Below w.heap.size w W → k33.K W x cs → q x = some b → Calls Try.prog g (#[.agg cs.toArray] ++ lb) W fun e w' => e = .returned (.bool b) ∧ Below W.heap.size W w') (h : impl_Rr_223.idx q l0 0 = some r) :
  Calls Try.prog 223 #[.slice A0 l0.length c0, .func (.func g) #[] lb] w fun e w' => e = .returned (.int .i64 r) ∧ Below w.heap.size w w' := by
 have HR0 := ak hr0
 have hbig : l0.length ≤ 9223372036854775807 := hr0.2.1
 have HP := ak hp
 have HX := ak h
 clear hr0 hp h
 go_enter Try.func223, Try.ntmps223
 go_wp2
 go_loopg [5, 8] l0.length (fun gg _ s8 wr => ∃ kk : Nat, kk ≤ l0.length ∧ l0.length - kk ≤ gg ∧ s8 = .int .i64 kk ∧ Aside0 (Below w.heap.size w wr) ∧ Aside0 (impl_Rr_223.idx q (l0.drop kk) (kk : Int) = some r))
 case atStart => exact ⟨0, Nat.zero_le _, by omega, rfl, ⟨Below.refl _ w⟩, ⟨by simpa using HX.out⟩⟩
 case round =>
  clear HX
  obtain ⟨kk, hkk, hg, rfl, BW, AF⟩ := hrel
  by_cases hlt : kk < l0.length
  ·obtain ⟨ad, c, rfl, hcl, hK, hcc⟩ := Kd.C_get HR0.out z33 (kk : Int) (by omega) (by omega)
   have hcl : c.length = 7 := hcl
   obtain ⟨x0, x1, x2, x3, x4, x5, x6, rfl⟩ : ∃ x0 x1 x2 x3 x4 x5 x6 : Value, c = [x0, x1, x2, x3, x4, x5, x6] := by
    match c, hcl with
    | [x0, x1, x2, x3, x4, x5, x6], _ => exact ⟨x0, x1, x2, x3, x4, x5, x6, rfl⟩
   have hK1 := k33.K_below BW.out hK
   have hcc : ∀ j u, [x0, x1, x2, x3, x4, x5, x6][j]? = some u → wr.cell? (ad.add (kk * 7 + j)) = some u := fun j u hj => by
    have := hcc j u hj
    rw [show ((kk : Int)).toNat = kk from by omega] at this
    exact pw_cell_below BW.out this
   have hx : l0.drop kk = l0.getD ((kk : Int)).toNat z33 :: l0.drop (kk + 1) := by
    rw [List.drop_eq_getElem_cons hlt, show ((kk : Int)).toNat = kk from by omega]; simp [List.getD_eq_getElem?_getD, hlt]
   have AF1 := AF.out
   rw [hx] at AF1
   simp only [impl_Rr_223.idx] at AF1
   clear AF hx hK
   generalize l0.getD ((kk : Int)).toNat z33 = y at hK1 AF1
   obtain ⟨b, hb, AF2⟩ := Option.bind_eq_some_iff.1 AF1
   clear AF1
   have hcall := (HP.out wr _ y b BW.out hK1 hb).mono (fun e w' (h : e = .returned (.bool b) ∧ Below wr.heap.size wr w') => (⟨h.1, below_step BW.out h.2⟩ : e = .returned (.bool b) ∧ Below w.heap.size w w'))
   clear hK1 hb
   have hc0 : wr.cell? (ad.add (kk * 7)) = some x0 := by simpa using hcc 0 _ rfl
   have hc1 : wr.cell? ⟨(ad.add (kk * 7)).block, (ad.add (kk * 7)).off + 1, none⟩ = some x1 := by rw [← add_field _ _ 1 (by omega)]; exact hcc 1 _ rfl
   have hc2 : wr.cell? ⟨(ad.add (kk * 7)).block, (ad.add (kk * 7)).off + 2, none⟩ = some x2 := by rw [← add_field _ _ 2 (by omega)]; exact hcc 2 _ rfl
   have hc3 : wr.cell? ⟨(ad.add (kk * 7)).block, (ad.add (kk * 7)).off + 3, none⟩ = some x3 := by rw [← add_field _ _ 3 (by omega)]; exact hcc 3 _ rfl
   have hc4 : wr.cell? ⟨(ad.add (kk * 7)).block, (ad.add (kk * 7)).off + 4, none⟩ = some x4 := by rw [← add_field _ _ 4 (by omega)]; exact hcc 4 _ rfl
   have hc5 : wr.cell? ⟨(ad.add (kk * 7)).block, (ad.add (kk * 7)).off + 5, none⟩ = some x5 := by rw [← add_field _ _ 5 (by omega)]; exact hcc 5 _ rfl
   have hc6 : wr.cell? ⟨(ad.add (kk * 7)).block, (ad.add (kk * 7)).off + 6, none⟩ = some x6 := by rw [← add_field _ _ 6 (by omega)]; exact hcc 6 _ rfl
   clear hcc
   have hltz : (kk : Int) < (l0.length : Int) := by omega
   cases b with
   | true =>
    go_wp2_with (go_at_fn g; refine hcall.mono ?_; rintro e w' ⟨rfl, hb'⟩)
    go_ret
    refine ⟨?_, hb'⟩
    have := Option.some.inj AF2
    rw [← this]; rfl
   | false =>
    have AF3 := ak AF2
    clear AF2
    go_wp2_with (go_at_fn g; refine hcall.mono ?_; rintro e w' ⟨rfl, hb'⟩)
    go_roundg (l0.length - (kk + 1))
    case measure => omega
    case rel => exact ⟨kk + 1, by omega, by omega, by go_num, ⟨hb'⟩, ⟨by have := AF3.out; simpa using this⟩⟩
  ·have hltz : ¬ (kk : Int) < (l0.length : Int) := by omega
   have AF1 := AF.out
   rw [List.drop_of_length_le (by omega)] at AF1
   have := Option.some.inj AF1
   clear AF AF1
   go_wp2
   go_ret
   exact ⟨by rw [← this]; rfl, BW.out⟩

/-! ### impl_Rr_172: function 172 -/

set_option maxHeartbeats 2000000 in
theorem impl_Rr_172.calls (g : Nat) (lb : Array Value) (eg : ∀ args w, (callFunc g args).run Try.prog w = .ok (.enter g args) w) (q : S33 → Option Bool) (A0 : Option Addr) (c0 : Nat) (l0 : List S33) (r : Int) (w : World) (hr0 : Kd.C k33 w A0 l0.length l0)
  (hp : ∀ (W : World) (cs : List Value) (x : S33) (b : Bool), Below w.heap.size w W → k33.K W x cs → q x = some b → Calls Try.prog g (#[.agg cs.toArray] ++ lb) W fun e w' => e = .returned (.bool b) ∧ Below W.heap.size W w') (h : impl_Rr_223.idx q l0 0 = some r) :
  Calls Try.prog 172 #[.slice A0 l0.length c0, .func (.func g) #[] lb] w fun e w' => e = .returned (.bool (decide (0 ≤ r))) ∧ Below w.heap.size w w' := by
 have hc := impl_Rr_223.calls g lb eg q A0 c0 l0 r w hr0 hp h
 clear hp hr0 h
 go_enter Try.func172, Try.ntmps172
 go_wp2_with (go_at_call 223; refine hc.mono ?_; rintro e w' ⟨rfl, hb'⟩)
 go_ret
 exact ⟨rfl, hb'⟩

/-! ### impl_Rr_1: function 173 -/

set_option maxHeartbeats 2000000 in
/-- What is handed to ContainsFunc: the predicate's contrary; the predicate lies in a variable. -/
theorem impl_Rr_1.calls (g : Nat) (lb : Array Value) (eg : ∀ args w, (callFunc g args).run Try.prog w = .ok (.enter g args) w) (q : Bool) (x : S33) (cs : List Value) (B : Nat) (w : World) (hK : k33.K w x cs) (hv : w.cell? ⟨B, 0, none⟩ = some (.func (.func g) #[] lb))
  (hp : ∀ W : World, Below w.heap.size w W → Calls Try.prog g (#[.agg cs.toArray] ++ lb) W fun e w' => e = .returned (.bool q) ∧ Below W.heap.size W w') :
  Calls Try.prog 173 #[.agg cs.toArray, .pointer (some ⟨B, 0, none⟩)] w fun e w' => e = .returned (.bool (!q)) ∧ Below w.heap.size w w' := by
 obtain ⟨A0, c0, A4, c4, A5, c5, A6, c6, rfl, l0, g0, l4, g4, l5, g5, l6, g6⟩ := k33_open hK
 have HB := ak (Below.refl w.heap.size w)
 have HV := ak hv
 have HP := ak hp
 clear hK hv hp l0 g0 l4 g4 l5 g5 l6 g6
 go_enter Try.func173, Try.ntmps173
 go_wp2_with (first | ((with_reducible refine gate_dst (N := 2) rfl ?_);refine bxd (N := 2) rfl HB ?_;clear HB;intro gb w2 hg HB BK GE hb;clear hg hb;obtain ⟨hz0, hz1, hz2, hz3, hz4, hz5, hz6, hf0, hf1, hf2, hf3, hf4, hf5, hf6⟩ := cells7 BK.out;have hv := (HB.out.cell (World.block_lt_of_cell? w _ HV.out)).trans HV.out) | (go_at_fn g;refine (HP.out _ HB.out).mono ?_;rintro e w3 ⟨rfl, hb⟩))
 go_ret
 exact ⟨rfl, below_step HB.out hb⟩

/-! ### impl_Rr_100: function 100 -/

def impl_Rr_100.q (k : Nat) (x : S33) : Option Bool := impl_RrOk.f k x.f0.f0 x.f1 x.f2 x.f3 x.f4.f0 x.f5 x.f6
def impl_Rr_100.f (k : Nat) (l0 : List S33) : Option Bool := (impl_Rr_223.idx (fun x => (impl_Rr_100.q k x).map (fun b => !b)) l0 0).map fun r => !decide (0 ≤ r)
set_option maxHeartbeats 2000000 in
theorem impl_Rr_100.any (g : Nat) (lb : Array Value) (eg : ∀ args w, (callFunc g args).run Try.prog w = .ok (.enter g args) w) (q : S33 → Option Bool) (A0 : Option Addr) (c0 : Nat) (l0 : List S33) (r : Int) (w : World) (hr0 : Kd.C k33 w A0 l0.length l0)
  (hp : ∀ (W : World) (cs : List Value) (x : S33) (b : Bool), Below w.heap.size w W → k33.K W x cs → q x = some b → Calls Try.prog g (#[.agg cs.toArray] ++ lb) W fun e w' => e = .returned (.bool b) ∧ Below W.heap.size W w') (h : impl_Rr_223.idx (fun x => (q x).map (fun b => !b)) l0 0 = some r) :
  Calls Try.prog 100 #[.slice A0 l0.length c0, .func (.func g) #[] lb] w fun e w' => e = .returned (.bool (!decide (0 ≤ r))) ∧ Below w.heap.size w w' := by
 have eg2 : ∀ args w, (callFunc 173 args).run Try.prog w = .ok (.enter 173 args) w := enters_of Try.func173 (by kernel_rfl) rfl
 have hb0 : Below w.heap.size w (w.alloc (.cells #[.func (.func g) #[] lb] 97)) := below_alloc (Below.refl _ _) _
 have hc := impl_Rr_172.calls 173 #[.pointer (some ⟨w.heap.size, 0, none⟩)] eg2 (fun x => (q x).map (fun b => !b)) A0 c0 l0 r (w.alloc (.cells #[.func (.func g) #[] lb] 97)) (Kd.C_below hr0 hb0) (fun W cs x b hW hK hq => by
  obtain ⟨b', hb', rfl⟩ := Option.map_eq_some_iff.1 hq
  exact impl_Rr_1.calls g lb eg b' x cs w.heap.size W hK ((hW.cell (p := ⟨w.heap.size, 0, none⟩) (by simp)).trans (by simp)) (fun W2 hW2 => hp W2 cs x b' ((hb0.trans (hW.mono (by simp))).trans (hW2.mono (hb0.trans (hW.mono (by simp))).size)) (k33.K_below hW2 hK) hb')) h
 clear hp hr0 h
 go_enter Try.func100, Try.ntmps100
 go_wp2_with (go_at_call 172; refine hc.mono ?_; rintro e w' ⟨rfl, hb'⟩)
 go_ret
 exact ⟨rfl, hb0.trans (hb'.mono (by simp))⟩
set_option maxHeartbeats 2000000 in
theorem impl_Rr_100.calls (k : Nat) (A0 : Option Addr) (c0 : Nat) (l0 : List S33) (r : Bool) (w : World) (hr0 : Kd.C k33 w A0 l0.length l0) (hc0 : l0.length ≤ c0) (h : impl_Rr_100.f k l0 = some r) :
  Calls Try.prog 100 #[.slice A0 l0.length c0, .func (.func 63) #[] #[]] w fun e w' => e = .returned (.bool r) ∧ Below w.heap.size w w' := by
 have eg : ∀ args w, (callFunc 63 args).run Try.prog w = .ok (.enter 63 args) w := enters_of Try.func63 (by kernel_rfl) rfl
 obtain ⟨i, hi, rfl⟩ := Option.map_eq_some_iff.1 h
 refine impl_Rr_100.any 63 #[] eg (impl_Rr_100.q k) A0 c0 l0 i w hr0 (fun W cs x b hW hK hq => ?_) hi
 obtain ⟨A0, c0, A4, c4, A5, c5, A6, c6, rfl, l0, g0, l4, g4, l5, g5, l6, g6⟩ := k33_open hK
 exact impl_RrOk.calls k _ _ x.f0.f0 x.f1 x.f2 x.f3 _ _ x.f4.f0 _ _ x.f5 _ _ x.f6 b W g0 l0 g4 l4 g5 l5 g6 l6 hq

/-! ### impl_areRrs: function 198 -/
def impl_areRrs.f (k : Nat) (l0 : List (S33)) : Option (Bool) := if (l0.length : Int) ≤ 12 then ((impl_Rr_100.f k l0).bind fun t101 => (some t101)) else (some false)
set_option maxHeartbeats 8000000 in
set_option maxRecDepth 100000 in
theorem impl_areRrs.calls (k : Nat) (A0 : Option Addr) (c0 : Nat) (l0 : List (S33)) (r : Bool) (w : World) (hr0 : Kd.C k33 w A0 l0.length l0) (hc0 : l0.length ≤ c0) (h : impl_areRrs.f k l0 = some r) :
  Calls Try.prog 198 #[.slice A0 l0.length c0] w fun e w' => e = .returned (.bool r) ∧ Below w.heap.size w w' := by
 have HR0 := ak hr0
 have HC0 := ak hc0
 clear hr0 hc0
 have HB := ak (Below.refl w.heap.size w)
 have H : (if (l0.length : Int) ≤ 12 then ((impl_Rr_100.f k l0).bind fun t101 => (some t101)) else (some false)) = some r := h
 clear h
 replace H := ip H
 obtain ⟨c2b0, H⟩ | ⟨c2b0, H⟩ := H
 ·have c2b1 : decide (l0.length ≤ 12) = true := decide_eq_true (by have := of_decide_eq_true c2b0; omega)
  replace H := bnd H
  obtain ⟨t101, A3, H⟩ := H
  obtain rfl := Option.some.inj H
  go_enter Try.func198, Try.ntmps198
  go_wp2_with ((go_at_call 100;(with_reducible refine (impl_Rr_100.calls k _ _ l0 t101 _ (cd HR0) HC0.out A3.out).mono ?_);rintro e w4 ⟨rfl, hb⟩;replace HB := b2 HB hb;(try clear hb)))
  go_ret
  exact ⟨o1, bw HB.out⟩
 ·have c2b1 : decide (l0.length ≤ 12) = false := decide_eq_false (by have := of_decide_eq_false c2b0; omega)
  obtain rfl := Option.some.inj H
  go_enter Try.func198, Try.ntmps198
  go_wp2
  go_ret
  exact ⟨o1, bw HB.out⟩

/-! ### impl_WantOk: function 227 -/
def impl_WantOk.j0 : Nat → Bool → List (List Int) → Int → Int → Int → List (List Int) → List Int → List Int → Int → Bool → List (List Int) → Int → Int → Int → List (List Int) → List Int → List Int → Option (Bool)
 | 0, _, _, _, _, _, _, _, _, _, _, _, _, _, _, _, _, _ => none
 | k + 1, x6, x102000, x102001, x102002, x102003, x102004, x102005, x102006, x102007, x102008, x103000, x103001, x103002, x103003, x103004, x103005, x103006 => if x6 = true then (some false) else (if x102008 = true then (if x102007 = 1 then (some false) else ((impl_NameOk.f x103000).bind fun t103 => (if t103 = true then ((impl_isAsked.f x103001).bind fun t104 => (if t104 = true then (if x103002 = 0 then (if x103003 = 0 then (if (x103004.length : Int) = 0 then (if (x103005.length : Int) = 0 then (some ((x103006.length : Int) == 0)) else (some false)) else (some false)) else (some false)) else (some false)) else (some false))) else (some false)))) else (if x102007 = 255 then (some false) else ((impl_RrOk.f k x103000 x103001 x103002 x103003 x103004 x103005 x103006).bind fun t105 => (if t105 = true then (if x102007 = 1 then (some true) else (some (x103002 == 0))) else (some false)))))
def impl_WantOk.f (k : Nat) (l0_0 : List (List Int)) (a0_1 : Int) (a0_2 : Int) (a0_3 : Int) (l0_4 : List (List Int)) (l0_5 : List Int) (l0_6 : List Int) (a0_7 : Int) (a0_8 : Bool) : Option (Bool) := if a0_7 = 1 then (impl_WantOk.j0 k false l0_0 a0_1 a0_2 a0_3 l0_4 l0_5 l0_6 a0_7 a0_8 l0_0 a0_1 a0_2 a0_3 l0_4 l0_5 l0_6) else (if a0_7 = 254 then (impl_WantOk.j0 k false l0_0 a0_1 a0_2 a0_3 l0_4 l0_5 l0_6 a0_7 a0_8 l0_0 a0_1 a0_2 a0_3 l0_4 l0_5 l0_6) else (impl_WantOk.j0 k (a0_7 != 255) l0_0 a0_1 a0_2 a0_3 l0_4 l0_5 l0_6 a0_7 a0_8 l0_0 a0_1 a0_2 a0_3 l0_4 l0_5 l0_6))
set_option maxHeartbeats 8000000 in
set_option maxRecDepth 100000 in
theorem impl_WantOk.calls (k : Nat) (A0_0 : Option Addr) (c0_0 : Nat) (l0_0 : List (List Int)) (a0_1 : Int) (a0_2 : Int) (a0_3 : Int) (A0_4 : Option Addr) (c0_4 : Nat) (l0_4 : List (List Int)) (A0_5 : Option Addr) (c0_5 : Nat) (l0_5 : List Int) (A0_6 : Option Addr) (c0_6 : Nat) (l0_6 : List Int) (a0_7 : Int) (a0_8 : Bool) (r : Bool) (w : World) (hr0_0 : Kd.C (Kd.slice 5 (Kd.int .u8)) w A0_0 l0_0.length l0_0) (hc0_0 : l0_0.length ≤ c0_0) (hr0_4 : Kd.C (Kd.slice 5 (Kd.int .u8)) w A0_4 l0_4.length l0_4) (hc0_4 : l0_4.length ≤ c0_4) (hr0_5 : Kd.C (Kd.int .u8) w A0_5 l0_5.length l0_5) (hc0_5 : l0_5.length ≤ c0_5) (hr0_6 : Kd.C (Kd.int .i64) w A0_6 l0_6.length l0_6) (hc0_6 : l0_6.length ≤ c0_6) (h : impl_WantOk.f k l0_0 a0_1 a0_2 a0_3 l0_4 l0_5 l0_6 a0_7 a0_8 = some r) :
  Calls Try.prog 227 #[.agg #[.slice A0_0 l0_0.length c0_0, .int .i64 a0_1, .int .i64 a0_2, .int .i64 a0_3, .slice A0_4 l0_4.length c0_4, .slice A0_5 l0_5.length c0_5, .slice A0_6 l0_6.length c0_6, .int .i64 a0_7, .bool a0_8]] w fun e w' => e = .returned (.bool r) ∧ Below w.heap.size w w' := by
 have hu205 := Try.underlying205
 have hu33 := Try.underlying33
 have hu31 := Try.underlying31
 have HR0_0 := ak hr0_0
 have HC0_0 := ak hc0_0
 clear hr0_0 hc0_0
 have HR0_4 := ak hr0_4
 have HC0_4 := ak hc0_4
 clear hr0_4 hc0_4
 have HR0_5 := ak hr0_5
 have HC0_5 := ak hc0_5
 clear hr0_5 hc0_5
 have HR0_6 := ak hr0_6
 have HC0_6 := ak hc0_6
 clear hr0_6 hc0_6
 have HB := ak (Below.refl w.heap.size w)
 have H : (if a0_7 = 1 then (impl_WantOk.j0 k false l0_0 a0_1 a0_2 a0_3 l0_4 l0_5 l0_6 a0_7 a0_8 l0_0 a0_1 a0_2 a0_3 l0_4 l0_5 l0_6) else (if a0_7 = 254 then (impl_WantOk.j0 k false l0_0 a0_1 a0_2 a0_3 l0_4 l0_5 l0_6 a0_7 a0_8 l0_0 a0_1 a0_2 a0_3 l0_4 l0_5 l0_6) else (impl_WantOk.j0 k (a0_7 != 255) l0_0 a0_1 a0_2 a0_3 l0_4 l0_5 l0_6 a0_7 a0_8 l0_0 a0_1 a0_2 a0_3 l0_4 l0_5 l0_6))) = some r := h
 clear h
 have HC2 := ak H
 clear H
 go_enter Try.func227, Try.ntmps227
 go_upto_region 2 with (first | ((with_reducible refine gate_dst (N := 1) rfl ?_);(try (refine gate_guard (by rfl) ?_; dsimp only));refine bxd (N := 1) rfl HB ?_;clear HB;intro gb101 w3 hg HB BK101 GE101 hb;have GW101 := GE101;clear hb hg;obtain ⟨hcz4_0, hcz4_1, hcz4_2, hcz4_3, hcz4_4, hcz4_5, hcz4_6, hcz4_7, hcz4_8, hfz4_0, hfz4_1, hfz4_2, hfz4_3, hfz4_4, hfz4_5, hfz4_6, hfz4_7, hfz4_8⟩ := cells9 BK101.out) | ((with_reducible refine gate_dst (N := 3) rfl ?_);(try (refine gate_guard (by rfl) ?_; dsimp only));refine bxe (N := 3) rfl ?_;intro gb102 hg w5 hbox hb;have BK102 := ak (hbox);have GW102 := b3s hg bs;have GE102 := GW102;replace HB := b2s bs hb;have NB101_102 := b4 hg BK101;have NB102_101 := b5 hg BK101;replace BK101 := b1 BK101 hb;clear hb hbox hg;have hnb6 := NB102_101.out;have hnc6 := NB101_102.out;obtain ⟨hcz7_0, hcz7_1, hcz7_2, hcz7_3, hcz7_4, hcz7_5, hcz7_6, hfz7_0, hfz7_1, hfz7_2, hfz7_3, hfz7_4, hfz7_5, hfz7_6⟩ := cells7 BK102.out))
 (try simp only [Act.put, List.setIfInBounds_toArray, List.set_cons_zero, List.set_cons_succ])
 go_cut [6] (fun v6 wc => ∃ (kq : Nat) (x6_1 : Bool), v6 = .bool x6_1 ∧ Aside0 (impl_WantOk.j0 kq x6_1 l0_0 a0_1 a0_2 a0_3 l0_4 l0_5 l0_6 a0_7 a0_8 l0_0 a0_1 a0_2 a0_3 l0_4 l0_5 l0_6 = some r) ∧ Aside0 (kq ≤ k) ∧ Aside0 (wc.heap[gb101]? = some (.cells #[(.slice A0_0 l0_0.length c0_0), .int .i64 a0_1, .int .i64 a0_2, .int .i64 a0_3, (.slice A0_4 l0_4.length c0_4), (.slice A0_5 l0_5.length c0_5), (.slice A0_6 l0_6.length c0_6), .int .i64 a0_7, .bool a0_8] 205 (0, 0))) ∧ Aside0 (wc.heap[gb102]? = some (.cells #[(.slice A0_0 l0_0.length c0_0), .int .i64 a0_1, .int .i64 a0_2, .int .i64 a0_3, (.slice A0_4 l0_4.length c0_4), (.slice A0_5 l0_5.length c0_5), (.slice A0_6 l0_6.length c0_6)] 33 (0, 0))) ∧ Aside0 (Below w.heap.size w wc))
 case first =>
  have H := HC2.out
  clear HC2
  replace H := ie H
  obtain ⟨c8b0, c8b1, H⟩ | ⟨c8b0, c8b1, H⟩ := H
  ·(first | rw [c8b0] | (simp only [i64_w, i32_w]; rw [c8b0]) | skip)
   have H' := ak H
   clear H
   have hnb9 := NB101_102.out
   have hnc9 := NB102_101.out
   obtain ⟨hcz10_0, hcz10_1, hcz10_2, hcz10_3, hcz10_4, hcz10_5, hcz10_6, hcz10_7, hcz10_8, hfz10_0, hfz10_1, hfz10_2, hfz10_3, hfz10_4, hfz10_5, hfz10_6, hfz10_7, hfz10_8⟩ := cells9 BK101.out
   go_wp2
   go_meet
   case rel => exact ⟨_, (false), o2, H', ⟨o3⟩, ⟨bfar7 NB101_102.out BK101.out⟩, ⟨bput7 BK102.out⟩, ⟨bs⟩⟩
  ·(first | rw [c8b0] | (simp only [i64_w, i32_w]; rw [c8b0]) | skip)
   replace H := ie H
   obtain ⟨c11b0, c11b1, H⟩ | ⟨c11b0, c11b1, H⟩ := H
   ·have H' := ak H
    clear H
    have hnb12 := NB101_102.out
    have hnc12 := NB102_101.out
    obtain ⟨hcz13_0, hcz13_1, hcz13_2, hcz13_3, hcz13_4, hcz13_5, hcz13_6, hcz13_7, hcz13_8, hfz13_0, hfz13_1, hfz13_2, hfz13_3, hfz13_4, hfz13_5, hfz13_6, hfz13_7, hfz13_8⟩ := cells9 BK101.out
    go_wp2
    go_meet
    case rel => exact ⟨_, (false), o2, H', ⟨o3⟩, ⟨bfar7 NB101_102.out BK101.out⟩, ⟨bput7 BK102.out⟩, ⟨bs⟩⟩
   ·have H' := ak H
    clear H
    have hnb14 := NB101_102.out
    have hnc14 := NB102_101.out
    obtain ⟨hcz15_0, hcz15_1, hcz15_2, hcz15_3, hcz15_4, hcz15_5, hcz15_6, hcz15_7, hcz15_8, hfz15_0, hfz15_1, hfz15_2, hfz15_3, hfz15_4, hfz15_5, hfz15_6, hfz15_7, hfz15_8⟩ := cells9 BK101.out
    go_wp2
    go_meet
    case rel => exact ⟨_, ((a0_7 != 255)), o2, H', ⟨o3⟩, ⟨bfar7 NB101_102.out BK101.out⟩, ⟨bput7 BK102.out⟩, ⟨bs⟩⟩
 case rest =>
  clear HC2
  (try clear hcz4_0)
  (try clear hcz4_1)
  (try clear hcz4_2)
  (try clear hcz4_3)
  (try clear hcz4_4)
  (try clear hcz4_5)
  (try clear hcz4_6)
  (try clear hcz4_7)
  (try clear hcz4_8)
  (try clear hcz7_0)
  (try clear hcz7_1)
  (try clear hcz7_2)
  (try clear hcz7_3)
  (try clear hcz7_4)
  (try clear hcz7_5)
  (try clear hcz7_6)
  (try clear hfz4_0)
  (try clear hfz4_1)
  (try clear hfz4_2)
  (try clear hfz4_3)
  (try clear hfz4_4)
  (try clear hfz4_5)
  (try clear hfz4_6)
  (try clear hfz4_7)
  (try clear hfz4_8)
  (try clear hfz7_0)
  (try clear hfz7_1)
  (try clear hfz7_2)
  (try clear hfz7_3)
  (try clear hfz7_4)
  (try clear hfz7_5)
  (try clear hfz7_6)
  obtain ⟨kq, x6_1, rfl, HA, HJ1, BK101, BK102, HB⟩ := hcut
  cases kq with
  | zero => exact absurd HA.out (by simp [impl_WantOk.j0])
  | succ kj1 =>
   have H := HA.out
   clear HA
   simp only [impl_WantOk.j0] at H
   replace H := ib H
   obtain ⟨rfl, H⟩ | ⟨rfl, H⟩ := H
   ·obtain rfl := Option.some.inj H
    go_wp2
    go_ret
    exact ⟨o1, bs⟩
   ·replace H := ib H
    obtain ⟨rfl, H⟩ | ⟨rfl, H⟩ := H
    ·replace H := ie H
     obtain ⟨c18b0, c18b1, H⟩ | ⟨c18b0, c18b1, H⟩ := H
     ·obtain rfl := Option.some.inj H
      have hnb19 := NB101_102.out
      have hnc19 := NB102_101.out
      obtain ⟨hcz20_0, hcz20_1, hcz20_2, hcz20_3, hcz20_4, hcz20_5, hcz20_6, hcz20_7, hcz20_8, hfz20_0, hfz20_1, hfz20_2, hfz20_3, hfz20_4, hfz20_5, hfz20_6, hfz20_7, hfz20_8⟩ := cells9 BK101.out
      go_wp2
      go_ret
      exact ⟨o1, bs⟩
     ·replace H := bnd H
      obtain ⟨t103, A21, H⟩ := H
      replace H := ib H
      obtain ⟨rfl, H⟩ | ⟨rfl, H⟩ := H
      ·replace H := bnd H
       obtain ⟨t104, A23, H⟩ := H
       replace H := ib H
       obtain ⟨rfl, H⟩ | ⟨rfl, H⟩ := H
       ·replace H := ie H
        obtain ⟨c25b0, c25b1, H⟩ | ⟨c25b0, c25b1, H⟩ := H
        ·replace H := ie H
         obtain ⟨c26b0, c26b1, H⟩ | ⟨c26b0, c26b1, H⟩ := H
         ·replace H := ie H
          obtain ⟨c27b0, c27b1, H⟩ | ⟨c27b0, c27b1, H⟩ := H
          ·replace H := ie H
           obtain ⟨c28b0, c28b1, H⟩ | ⟨c28b0, c28b1, H⟩ := H
           ·obtain rfl := Option.some.inj H
            have hnb29 := NB101_102.out
            have hnc29 := NB102_101.out
            obtain ⟨hcz30_0, hcz30_1, hcz30_2, hcz30_3, hcz30_4, hcz30_5, hcz30_6, hcz30_7, hcz30_8, hfz30_0, hfz30_1, hfz30_2, hfz30_3, hfz30_4, hfz30_5, hfz30_6, hfz30_7, hfz30_8⟩ := cells9 BK101.out
            obtain ⟨hcz31_0, hcz31_1, hcz31_2, hcz31_3, hcz31_4, hcz31_5, hcz31_6, hfz31_0, hfz31_1, hfz31_2, hfz31_3, hfz31_4, hfz31_5, hfz31_6⟩ := cells7 BK102.out
            go_wp2_with (first | (go_at_call 74;(with_reducible refine (impl_NameOk.calls _ _ l0_0 true _ (cv HR0_0 HB) HC0_0.out A21.out).mono ?_);rintro e w32 ⟨rfl, hb⟩;replace BK101 := b1 BK101 hb;replace BK102 := b1 BK102 hb;replace HB := b2s bs hb;(try clear hb);obtain ⟨hcz33_0, hcz33_1, hcz33_2, hcz33_3, hcz33_4, hcz33_5, hcz33_6, hfz33_0, hfz33_1, hfz33_2, hfz33_3, hfz33_4, hfz33_5, hfz33_6⟩ := cells7 BK102.out) | (go_at_call 197;(with_reducible refine (impl_isAsked.calls a0_1 true _ A23.out).mono ?_);rintro e w34 ⟨rfl, hb⟩;replace BK101 := b1 BK101 hb;replace BK102 := b1 BK102 hb;replace HB := b2s bs hb;(try clear hb);obtain ⟨hcz35_0, hcz35_1, hcz35_2, hcz35_3, hcz35_4, hcz35_5, hcz35_6, hfz35_0, hfz35_1, hfz35_2, hfz35_3, hfz35_4, hfz35_5, hfz35_6⟩ := cells7 BK102.out))
            go_ret
            exact ⟨o1, bs⟩
           ·have c28b2 : ¬ (l0_5 = []) := fun h_ => bne_iff_ne.mp c28b1 (by rw [h_]; rfl)
            obtain rfl := Option.some.inj H
            have hnb36 := NB101_102.out
            have hnc36 := NB102_101.out
            obtain ⟨hcz37_0, hcz37_1, hcz37_2, hcz37_3, hcz37_4, hcz37_5, hcz37_6, hcz37_7, hcz37_8, hfz37_0, hfz37_1, hfz37_2, hfz37_3, hfz37_4, hfz37_5, hfz37_6, hfz37_7, hfz37_8⟩ := cells9 BK101.out
            obtain ⟨hcz38_0, hcz38_1, hcz38_2, hcz38_3, hcz38_4, hcz38_5, hcz38_6, hfz38_0, hfz38_1, hfz38_2, hfz38_3, hfz38_4, hfz38_5, hfz38_6⟩ := cells7 BK102.out
            go_wp2_with (first | (go_at_call 74;(with_reducible refine (impl_NameOk.calls _ _ l0_0 true _ (cv HR0_0 HB) HC0_0.out A21.out).mono ?_);rintro e w39 ⟨rfl, hb⟩;replace BK101 := b1 BK101 hb;replace BK102 := b1 BK102 hb;replace HB := b2s bs hb;(try clear hb);obtain ⟨hcz40_0, hcz40_1, hcz40_2, hcz40_3, hcz40_4, hcz40_5, hcz40_6, hfz40_0, hfz40_1, hfz40_2, hfz40_3, hfz40_4, hfz40_5, hfz40_6⟩ := cells7 BK102.out) | (go_at_call 197;(with_reducible refine (impl_isAsked.calls a0_1 true _ A23.out).mono ?_);rintro e w41 ⟨rfl, hb⟩;replace BK101 := b1 BK101 hb;replace BK102 := b1 BK102 hb;replace HB := b2s bs hb;(try clear hb);obtain ⟨hcz42_0, hcz42_1, hcz42_2, hcz42_3, hcz42_4, hcz42_5, hcz42_6, hfz42_0, hfz42_1, hfz42_2, hfz42_3, hfz42_4, hfz42_5, hfz42_6⟩ := cells7 BK102.out))
            go_ret
            exact ⟨o1, bs⟩
          ·have c27b2 : ¬ (l0_4 = []) := fun h_ => bne_iff_ne.mp c27b1 (by rw [h_]; rfl)
           obtain rfl := Option.some.inj H
           have hnb43 := NB101_102.out
           have hnc43 := NB102_101.out
           obtain ⟨hcz44_0, hcz44_1, hcz44_2, hcz44_3, hcz44_4, hcz44_5, hcz44_6, hcz44_7, hcz44_8, hfz44_0, hfz44_1, hfz44_2, hfz44_3, hfz44_4, hfz44_5, hfz44_6, hfz44_7, hfz44_8⟩ := cells9 BK101.out
           obtain ⟨hcz45_0, hcz45_1, hcz45_2, hcz45_3, hcz45_4, hcz45_5, hcz45_6, hfz45_0, hfz45_1, hfz45_2, hfz45_3, hfz45_4, hfz45_5, hfz45_6⟩ := cells7 BK102.out
           go_wp2_with (first | (go_at_call 74;(with_reducible refine (impl_NameOk.calls _ _ l0_0 true _ (cv HR0_0 HB) HC0_0.out A21.out).mono ?_);rintro e w46 ⟨rfl, hb⟩;replace BK101 := b1 BK101 hb;replace BK102 := b1 BK102 hb;replace HB := b2s bs hb;(try clear hb);obtain ⟨hcz47_0, hcz47_1, hcz47_2, hcz47_3, hcz47_4, hcz47_5, hcz47_6, hfz47_0, hfz47_1, hfz47_2, hfz47_3, hfz47_4, hfz47_5, hfz47_6⟩ := cells7 BK102.out) | (go_at_call 197;(with_reducible refine (impl_isAsked.calls a0_1 true _ A23.out).mono ?_);rintro e w48 ⟨rfl, hb⟩;replace BK101 := b1 BK101 hb;replace BK102 := b1 BK102 hb;replace HB := b2s bs hb;(try clear hb);obtain ⟨hcz49_0, hcz49_1, hcz49_2, hcz49_3, hcz49_4, hcz49_5, hcz49_6, hfz49_0, hfz49_1, hfz49_2, hfz49_3, hfz49_4, hfz49_5, hfz49_6⟩ := cells7 BK102.out))
           go_ret
           exact ⟨o1, bs⟩
         ·obtain rfl := Option.some.inj H
          have hnb50 := NB101_102.out
          have hnc50 := NB102_101.out
          obtain ⟨hcz51_0, hcz51_1, hcz51_2, hcz51_3, hcz51_4, hcz51_5, hcz51_6, hcz51_7, hcz51_8, hfz51_0, hfz51_1, hfz51_2, hfz51_3, hfz51_4, hfz51_5, hfz51_6, hfz51_7, hfz51_8⟩ := cells9 BK101.out
          obtain ⟨hcz52_0, hcz52_1, hcz52_2, hcz52_3, hcz52_4, hcz52_5, hcz52_6, hfz52_0, hfz52_1, hfz52_2, hfz52_3, hfz52_4, hfz52_5, hfz52_6⟩ := cells7 BK102.out
          go_wp2_with (first | (go_at_call 74;(with_reducible refine (impl_NameOk.calls _ _ l0_0 true _ (cv HR0_0 HB) HC0_0.out A21.out).mono ?_);rintro e w53 ⟨rfl, hb⟩;replace BK101 := b1 BK101 hb;replace BK102 := b1 BK102 hb;replace HB := b2s bs hb;(try clear hb);obtain ⟨hcz54_0, hcz54_1, hcz54_2, hcz54_3, hcz54_4, hcz54_5, hcz54_6, hfz54_0, hfz54_1, hfz54_2, hfz54_3, hfz54_4, hfz54_5, hfz54_6⟩ := cells7 BK102.out) | (go_at_call 197;(with_reducible refine (impl_isAsked.calls a0_1 true _ A23.out).mono ?_);rintro e w55 ⟨rfl, hb⟩;replace BK101 := b1 BK101 hb;replace BK102 := b1 BK102 hb;replace HB := b2s bs hb;(try clear hb);obtain ⟨hcz56_0, hcz56_1, hcz56_2, hcz56_3, hcz56_4, hcz56_5, hcz56_6, hfz56_0, hfz56_1, hfz56_2, hfz56_3, hfz56_4, hfz56_5, hfz56_6⟩ := cells7 BK102.out))
          go_ret
          exact ⟨o1, bs⟩
        ·obtain rfl := Option.some.inj H
         have hnb57 := NB101_102.out
         have hnc57 := NB102_101.out
         obtain ⟨hcz58_0, hcz58_1, hcz58_2, hcz58_3, hcz58_4, hcz58_5, hcz58_6, hcz58_7, hcz58_8, hfz58_0, hfz58_1, hfz58_2, hfz58_3, hfz58_4, hfz58_5, hfz58_6, hfz58_7, hfz58_8⟩ := cells9 BK101.out
         obtain ⟨hcz59_0, hcz59_1, hcz59_2, hcz59_3, hcz59_4, hcz59_5, hcz59_6, hfz59_0, hfz59_1, hfz59_2, hfz59_3, hfz59_4, hfz59_5, hfz59_6⟩ := cells7 BK102.out
         go_wp2_with (first | (go_at_call 74;(with_reducible refine (impl_NameOk.calls _ _ l0_0 true _ (cv HR0_0 HB) HC0_0.out A21.out).mono ?_);rintro e w60 ⟨rfl, hb⟩;replace BK101 := b1 BK101 hb;replace BK102 := b1 BK102 hb;replace HB := b2s bs hb;(try clear hb);obtain ⟨hcz61_0, hcz61_1, hcz61_2, hcz61_3, hcz61_4, hcz61_5, hcz61_6, hfz61_0, hfz61_1, hfz61_2, hfz61_3, hfz61_4, hfz61_5, hfz61_6⟩ := cells7 BK102.out) | (go_at_call 197;(with_reducible refine (impl_isAsked.calls a0_1 true _ A23.out).mono ?_);rintro e w62 ⟨rfl, hb⟩;replace BK101 := b1 BK101 hb;replace BK102 := b1 BK102 hb;replace HB := b2s bs hb;(try clear hb);obtain ⟨hcz63_0, hcz63_1, hcz63_2, hcz63_3, hcz63_4, hcz63_5, hcz63_6, hfz63_0, hfz63_1, hfz63_2, hfz63_3, hfz63_4, hfz63_5, hfz63_6⟩ := cells7 BK102.out))
         go_ret
         exact ⟨o1, bs⟩
       ·obtain rfl := Option.some.inj H
        have hnb64 := NB101_102.out
        have hnc64 := NB102_101.out
        obtain ⟨hcz65_0, hcz65_1, hcz65_2, hcz65_3, hcz65_4, hcz65_5, hcz65_6, hcz65_7, hcz65_8, hfz65_0, hfz65_1, hfz65_2, hfz65_3, hfz65_4, hfz65_5, hfz65_6, hfz65_7, hfz65_8⟩ := cells9 BK101.out
        obtain ⟨hcz66_0, hcz66_1, hcz66_2, hcz66_3, hcz66_4, hcz66_5, hcz66_6, hfz66_0, hfz66_1, hfz66_2, hfz66_3, hfz66_4, hfz66_5, hfz66_6⟩ := cells7 BK102.out
        go_wp2_with (first | (go_at_call 74;(with_reducible refine (impl_NameOk.calls _ _ l0_0 true _ (cv HR0_0 HB) HC0_0.out A21.out).mono ?_);rintro e w67 ⟨rfl, hb⟩;replace BK101 := b1 BK101 hb;replace BK102 := b1 BK102 hb;replace HB := b2s bs hb;(try clear hb);obtain ⟨hcz68_0, hcz68_1, hcz68_2, hcz68_3, hcz68_4, hcz68_5, hcz68_6, hfz68_0, hfz68_1, hfz68_2, hfz68_3, hfz68_4, hfz68_5, hfz68_6⟩ := cells7 BK102.out) | (go_at_call 197;(with_reducible refine (impl_isAsked.calls a0_1 false _ A23.out).mono ?_);rintro e w69 ⟨rfl, hb⟩;replace BK101 := b1 BK101 hb;replace BK102 := b1 BK102 hb;replace HB := b2s bs hb;(try clear hb)))
        go_ret
        exact ⟨o1, bs⟩
      ·obtain rfl := Option.some.inj H
       have hnb70 := NB101_102.out
       have hnc70 := NB102_101.out
       obtain ⟨hcz71_0, hcz71_1, hcz71_2, hcz71_3, hcz71_4, hcz71_5, hcz71_6, hcz71_7, hcz71_8, hfz71_0, hfz71_1, hfz71_2, hfz71_3, hfz71_4, hfz71_5, hfz71_6, hfz71_7, hfz71_8⟩ := cells9 BK101.out
       obtain ⟨hcz72_0, hcz72_1, hcz72_2, hcz72_3, hcz72_4, hcz72_5, hcz72_6, hfz72_0, hfz72_1, hfz72_2, hfz72_3, hfz72_4, hfz72_5, hfz72_6⟩ := cells7 BK102.out
       go_wp2_with ((go_at_call 74;(with_reducible refine (impl_NameOk.calls _ _ l0_0 false _ (cv HR0_0 HB) HC0_0.out A21.out).mono ?_);rintro e w73 ⟨rfl, hb⟩;replace BK101 := b1 BK101 hb;replace BK102 := b1 BK102 hb;replace HB := b2s bs hb;(try clear hb)))
       go_ret
       exact ⟨o1, bs⟩
    ·replace H := ie H
     obtain ⟨c74b0, c74b1, H⟩ | ⟨c74b0, c74b1, H⟩ := H
     ·obtain rfl := Option.some.inj H
      have hnb75 := NB101_102.out
      have hnc75 := NB102_101.out
      obtain ⟨hcz76_0, hcz76_1, hcz76_2, hcz76_3, hcz76_4, hcz76_5, hcz76_6, hcz76_7, hcz76_8, hfz76_0, hfz76_1, hfz76_2, hfz76_3, hfz76_4, hfz76_5, hfz76_6, hfz76_7, hfz76_8⟩ := cells9 BK101.out
      go_wp2
      go_ret
      exact ⟨o1, bs⟩
     ·replace H := bnd H
      obtain ⟨t105, A77, H⟩ := H
      replace H := ib H
      obtain ⟨rfl, H⟩ | ⟨rfl, H⟩ := H
      ·replace H := ie H
       obtain ⟨c79b0, c79b1, H⟩ | ⟨c79b0, c79b1, H⟩ := H
       ·obtain rfl := Option.some.inj H
        have hnb80 := NB101_102.out
        have hnc80 := NB102_101.out
        obtain ⟨hcz81_0, hcz81_1, hcz81_2, hcz81_3, hcz81_4, hcz81_5, hcz81_6, hcz81_7, hcz81_8, hfz81_0, hfz81_1, hfz81_2, hfz81_3, hfz81_4, hfz81_5, hfz81_6, hfz81_7, hfz81_8⟩ := cells9 BK101.out
        obtain ⟨hcz82_0, hcz82_1, hcz82_2, hcz82_3, hcz82_4, hcz82_5, hcz82_6, hfz82_0, hfz82_1, hfz82_2, hfz82_3, hfz82_4, hfz82_5, hfz82_6⟩ := cells7 BK102.out
        go_wp2_with ((go_at_call 63;(with_reducible refine (impl_RrOk.calls kj1 _ _ l0_0 a0_1 a0_2 a0_3 _ _ l0_4 _ _ l0_5 _ _ l0_6 true _ (cv HR0_0 HB) HC0_0.out (cv HR0_4 HB) HC0_4.out (cv HR0_5 HB) HC0_5.out (cv HR0_6 HB) HC0_6.out A77.out).mono ?_);rintro e w83 ⟨rfl, hb⟩;replace BK101 := b1 BK101 hb;replace BK102 := b1 BK102 hb;replace HB := b2s bs hb;(try clear hb);obtain ⟨hcz84_0, hcz84_1, hcz84_2, hcz84_3, hcz84_4, hcz84_5, hcz84_6, hcz84_7, hcz84_8, hfz84_0, hfz84_1, hfz84_2, hfz84_3, hfz84_4, hfz84_5, hfz84_6, hfz84_7, hfz84_8⟩ := cells9 BK101.out))
        go_ret
        exact ⟨o1, bs⟩
       ·obtain rfl := Option.some.inj H
        have hnb85 := NB101_102.out
        have hnc85 := NB102_101.out
        obtain ⟨hcz86_0, hcz86_1, hcz86_2, hcz86_3, hcz86_4, hcz86_5, hcz86_6, hcz86_7, hcz86_8, hfz86_0, hfz86_1, hfz86_2, hfz86_3, hfz86_4, hfz86_5, hfz86_6, hfz86_7, hfz86_8⟩ := cells9 BK101.out
        obtain ⟨hcz87_0, hcz87_1, hcz87_2, hcz87_3, hcz87_4, hcz87_5, hcz87_6, hfz87_0, hfz87_1, hfz87_2, hfz87_3, hfz87_4, hfz87_5, hfz87_6⟩ := cells7 BK102.out
        go_wp2_with ((go_at_call 63;(with_reducible refine (impl_RrOk.calls kj1 _ _ l0_0 a0_1 a0_2 a0_3 _ _ l0_4 _ _ l0_5 _ _ l0_6 true _ (cv HR0_0 HB) HC0_0.out (cv HR0_4 HB) HC0_4.out (cv HR0_5 HB) HC0_5.out (cv HR0_6 HB) HC0_6.out A77.out).mono ?_);rintro e w88 ⟨rfl, hb⟩;replace BK101 := b1 BK101 hb;replace BK102 := b1 BK102 hb;replace HB := b2s bs hb;(try clear hb);obtain ⟨hcz89_0, hcz89_1, hcz89_2, hcz89_3, hcz89_4, hcz89_5, hcz89_6, hcz89_7, hcz89_8, hfz89_0, hfz89_1, hfz89_2, hfz89_3, hfz89_4, hfz89_5, hfz89_6, hfz89_7, hfz89_8⟩ := cells9 BK101.out;obtain ⟨hcz90_0, hcz90_1, hcz90_2, hcz90_3, hcz90_4, hcz90_5, hcz90_6, hfz90_0, hfz90_1, hfz90_2, hfz90_3, hfz90_4, hfz90_5, hfz90_6⟩ := cells7 BK102.out))
        go_ret
        exact ⟨o1, bs⟩
      ·obtain rfl := Option.some.inj H
       have hnb91 := NB101_102.out
       have hnc91 := NB102_101.out
       obtain ⟨hcz92_0, hcz92_1, hcz92_2, hcz92_3, hcz92_4, hcz92_5, hcz92_6, hcz92_7, hcz92_8, hfz92_0, hfz92_1, hfz92_2, hfz92_3, hfz92_4, hfz92_5, hfz92_6, hfz92_7, hfz92_8⟩ := cells9 BK101.out
       obtain ⟨hcz93_0, hcz93_1, hcz93_2, hcz93_3, hcz93_4, hcz93_5, hcz93_6, hfz93_0, hfz93_1, hfz93_2, hfz93_3, hfz93_4, hfz93_5, hfz93_6⟩ := cells7 BK102.out
       go_wp2_with ((go_at_call 63;(with_reducible refine (impl_RrOk.calls kj1 _ _ l0_0 a0_1 a0_2 a0_3 _ _ l0_4 _ _ l0_5 _ _ l0_6 false _ (cv HR0_0 HB) HC0_0.out (cv HR0_4 HB) HC0_4.out (cv HR0_5 HB) HC0_5.out (cv HR0_6 HB) HC0_6.out A77.out).mono ?_);rintro e w94 ⟨rfl, hb⟩;replace BK101 := b1 BK101 hb;replace BK102 := b1 BK102 hb;replace HB := b2s bs hb;(try clear hb)))
       go_ret
       exact ⟨o1, bs⟩

/-! ### impl_Want_239: function 239 -/

/-- Where the first element stands of which q holds; -1: nowhere. -/
def impl_Want_239.idx (q : S205 → Option Bool) : List S205 → Int → Option Int
 | [], _ => some (-1)
 | x :: l, i => (q x).bind fun b => if b = true then some i else impl_Want_239.idx q l (i + 1)
set_option maxHeartbeats 2000000 in
theorem impl_Want_239.calls (g : Nat) (lb : Array Value) (eg : ∀ args w, (callFunc g args).run Try.prog w = .ok (.enter g args) w) (q : S205 → Option Bool) (A0 : Option Addr) (c0 : Nat) (l0 : List S205) (r : Int) (w : World) (hr0 : Kd.C k205 w A0 l0.length l0)
  (hp : ∀ (W : World) (cs : List Value) (x : S205) (b : Bool), Below w.heap.size w W → k205.K W x cs → q x = some b → Calls Try.prog g (#[.agg cs.toArray] ++ lb) W fun e w' => e = .returned (.bool b) ∧ Below W.heap.size W w') (h : impl_Want_239.idx q l0 0 = some r) :
  Calls Try.prog 239 #[.slice A0 l0.length c0, .func (.func g) #[] lb] w fun e w' => e = .returned (.int .i64 r) ∧ Below w.heap.size w w' := by
 have HR0 := ak hr0
 have hbig : l0.length ≤ 9223372036854775807 := hr0.2.1
 have HP := ak hp
 have HX := ak h
 clear hr0 hp h
 go_enter Try.func239, Try.ntmps239
 go_wp2
 go_loopg [5, 8] l0.length (fun gg _ s8 wr => ∃ kk : Nat, kk ≤ l0.length ∧ l0.length - kk ≤ gg ∧ s8 = .int .i64 kk ∧ Aside0 (Below w.heap.size w wr) ∧ Aside0 (impl_Want_239.idx q (l0.drop kk) (kk : Int) = some r))
 case atStart => exact ⟨0, Nat.zero_le _, by omega, rfl, ⟨Below.refl _ w⟩, ⟨by simpa using HX.out⟩⟩
 case round =>
  clear HX
  obtain ⟨kk, hkk, hg, rfl, BW, AF⟩ := hrel
  by_cases hlt : kk < l0.length
  ·obtain ⟨ad, c, rfl, hcl, hK, hcc⟩ := Kd.C_get HR0.out z205 (kk : Int) (by omega) (by omega)
   have hcl : c.length = 9 := hcl
   obtain ⟨x0, x1, x2, x3, x4, x5, x6, x7, x8, rfl⟩ : ∃ x0 x1 x2 x3 x4 x5 x6 x7 x8 : Value, c = [x0, x1, x2, x3, x4, x5, x6, x7, x8] := by
    match c, hcl with
    | [x0, x1, x2, x3, x4, x5, x6, x7, x8], _ => exact ⟨x0, x1, x2, x3, x4, x5, x6, x7, x8, rfl⟩
   have hK1 := k205.K_below BW.out hK
   have hcc : ∀ j u, [x0, x1, x2, x3, x4, x5, x6, x7, x8][j]? = some u → wr.cell? (ad.add (kk * 9 + j)) = some u := fun j u hj => by
    have := hcc j u hj
    rw [show ((kk : Int)).toNat = kk from by omega] at this
    exact pw_cell_below BW.out this
   have hx : l0.drop kk = l0.getD ((kk : Int)).toNat z205 :: l0.drop (kk + 1) := by
    rw [List.drop_eq_getElem_cons hlt, show ((kk : Int)).toNat = kk from by omega]; simp [List.getD_eq_getElem?_getD, hlt]
   have AF1 := AF.out
   rw [hx] at AF1
   simp only [impl_Want_239.idx] at AF1
   clear AF hx hK
   generalize l0.getD ((kk : Int)).toNat z205 = y at hK1 AF1
   obtain ⟨b, hb, AF2⟩ := Option.bind_eq_some_iff.1 AF1
   clear AF1
   have hcall := (HP.out wr _ y b BW.out hK1 hb).mono (fun e w' (h : e = .returned (.bool b) ∧ Below wr.heap.size wr w') => (⟨h.1, below_step BW.out h.2⟩ : e = .returned (.bool b) ∧ Below w.heap.size w w'))
   clear hK1 hb
   have hc0 : wr.cell? (ad.add (kk * 9)) = some x0 := by simpa using hcc 0 _ rfl
   have hc1 : wr.cell? ⟨(ad.add (kk * 9)).block, (ad.add (kk * 9)).off + 1, none⟩ = some x1 := by rw [← add_field _ _ 1 (by omega)]; exact hcc 1 _ rfl
   have hc2 : wr.cell? ⟨(ad.add (kk * 9)).block, (ad.add (kk * 9)).off + 2, none⟩ = some x2 := by rw [← add_field _ _ 2 (by omega)]; exact hcc 2 _ rfl
   have hc3 : wr.cell? ⟨(ad.add (kk * 9)).block, (ad.add (kk * 9)).off + 3, none⟩ = some x3 := by rw [← add_field _ _ 3 (by omega)]; exact hcc 3 _ rfl
   have hc4 : wr.cell? ⟨(ad.add (kk * 9)).block, (ad.add (kk * 9)).off + 4, none⟩ = some x4 := by rw [← add_field _ _ 4 (by omega)]; exact hcc 4 _ rfl
   have hc5 : wr.cell? ⟨(ad.add (kk * 9)).block, (ad.add (kk * 9)).off + 5, none⟩ = some x5 := by rw [← add_field _ _ 5 (by omega)]; exact hcc 5 _ rfl
   have hc6 : wr.cell? ⟨(ad.add (kk * 9)).block, (ad.add (kk * 9)).off + 6, none⟩ = some x6 := by rw [← add_field _ _ 6 (by omega)]; exact hcc 6 _ rfl
   have hc7 : wr.cell? ⟨(ad.add (kk * 9)).block, (ad.add (kk * 9)).off + 7, none⟩ = some x7 := by rw [← add_field _ _ 7 (by omega)]; exact hcc 7 _ rfl
   have hc8 : wr.cell? ⟨(ad.add (kk * 9)).block, (ad.add (kk * 9)).off + 8, none⟩ = some x8 := by rw [← add_field _ _ 8 (by omega)]; exact hcc 8 _ rfl
   clear hcc
   have hltz : (kk : Int) < (l0.length : Int) := by omega
   cases b with
   | true =>
    go_wp2_with (go_at_fn g; refine hcall.mono ?_; rintro e w' ⟨rfl, hb'⟩)
    go_ret
    refine ⟨?_, hb'⟩
    have := Option.some.inj AF2
    rw [← this]; rfl
   | false =>
    have AF3 := ak AF2
    clear AF2
    go_wp2_with (go_at_fn g; refine hcall.mono ?_; rintro e w' ⟨rfl, hb'⟩)
    go_roundg (l0.length - (kk + 1))
    case measure => omega
    case rel => exact ⟨kk + 1, by omega, by omega, by go_num, ⟨hb'⟩, ⟨by have := AF3.out; simpa using this⟩⟩
  ·have hltz : ¬ (kk : Int) < (l0.length : Int) := by omega
   have AF1 := AF.out
   rw [List.drop_of_length_le (by omega)] at AF1
   have := Option.some.inj AF1
   clear AF AF1
   go_wp2
   go_ret
   exact ⟨by rw [← this]; rfl, BW.out⟩

/-! ### impl_Want_236: function 236 -/

set_option maxHeartbeats 2000000 in
theorem impl_Want_236.calls (g : Nat) (lb : Array Value) (eg : ∀ args w, (callFunc g args).run Try.prog w = .ok (.enter g args) w) (q : S205 → Option Bool) (A0 : Option Addr) (c0 : Nat) (l0 : List S205) (r : Int) (w : World) (hr0 : Kd.C k205 w A0 l0.length l0)
  (hp : ∀ (W : World) (cs : List Value) (x : S205) (b : Bool), Below w.heap.size w W → k205.K W x cs → q x = some b → Calls Try.prog g (#[.agg cs.toArray] ++ lb) W fun e w' => e = .returned (.bool b) ∧ Below W.heap.size W w') (h : impl_Want_239.idx q l0 0 = some r) :
  Calls Try.prog 236 #[.slice A0 l0.length c0, .func (.func g) #[] lb] w fun e w' => e = .returned (.bool (decide (0 ≤ r))) ∧ Below w.heap.size w w' := by
 have hc := impl_Want_239.calls g lb eg q A0 c0 l0 r w hr0 hp h
 clear hp hr0 h
 go_enter Try.func236, Try.ntmps236
 go_wp2_with (go_at_call 239; refine hc.mono ?_; rintro e w' ⟨rfl, hb'⟩)
 go_ret
 exact ⟨rfl, hb'⟩

/-! ### impl_Want_1: function 237 -/

set_option maxHeartbeats 2000000 in
/-- What is handed to ContainsFunc: the predicate's contrary; the predicate lies in a variable. -/
theorem impl_Want_1.calls (g : Nat) (lb : Array Value) (eg : ∀ args w, (callFunc g args).run Try.prog w = .ok (.enter g args) w) (q : Bool) (x : S205) (cs : List Value) (B : Nat) (w : World) (hK : k205.K w x cs) (hv : w.cell? ⟨B, 0, none⟩ = some (.func (.func g) #[] lb))
  (hp : ∀ W : World, Below w.heap.size w W → Calls Try.prog g (#[.agg cs.toArray] ++ lb) W fun e w' => e = .returned (.bool q) ∧ Below W.heap.size W w') :
  Calls Try.prog 237 #[.agg cs.toArray, .pointer (some ⟨B, 0, none⟩)] w fun e w' => e = .returned (.bool (!q)) ∧ Below w.heap.size w w' := by
 obtain ⟨A0, c0, A4, c4, A5, c5, A6, c6, rfl, l0, g0, l4, g4, l5, g5, l6, g6⟩ := k205_open hK
 have HB := ak (Below.refl w.heap.size w)
 have HV := ak hv
 have HP := ak hp
 clear hK hv hp l0 g0 l4 g4 l5 g5 l6 g6
 go_enter Try.func237, Try.ntmps237
 go_wp2_with (first | ((with_reducible refine gate_dst (N := 2) rfl ?_);refine bxd (N := 2) rfl HB ?_;clear HB;intro gb w2 hg HB BK GE hb;clear hg hb;obtain ⟨hz0, hz1, hz2, hz3, hz4, hz5, hz6, hz7, hz8, hf0, hf1, hf2, hf3, hf4, hf5, hf6, hf7, hf8⟩ := cells9 BK.out;have hv := (HB.out.cell (World.block_lt_of_cell? w _ HV.out)).trans HV.out) | (go_at_fn g;refine (HP.out _ HB.out).mono ?_;rintro e w3 ⟨rfl, hb⟩))
 go_ret
 exact ⟨rfl, below_step HB.out hb⟩

/-! ### impl_Want_226: function 226 -/

def impl_Want_226.q (k : Nat) (x : S205) : Option Bool := impl_WantOk.f k x.f0.f0.f0 x.f0.f1 x.f0.f2 x.f0.f3 x.f0.f4.f0 x.f0.f5 x.f0.f6 x.f1 x.f2
def impl_Want_226.f (k : Nat) (l0 : List S205) : Option Bool := (impl_Want_239.idx (fun x => (impl_Want_226.q k x).map (fun b => !b)) l0 0).map fun r => !decide (0 ≤ r)
set_option maxHeartbeats 2000000 in
theorem impl_Want_226.any (g : Nat) (lb : Array Value) (eg : ∀ args w, (callFunc g args).run Try.prog w = .ok (.enter g args) w) (q : S205 → Option Bool) (A0 : Option Addr) (c0 : Nat) (l0 : List S205) (r : Int) (w : World) (hr0 : Kd.C k205 w A0 l0.length l0)
  (hp : ∀ (W : World) (cs : List Value) (x : S205) (b : Bool), Below w.heap.size w W → k205.K W x cs → q x = some b → Calls Try.prog g (#[.agg cs.toArray] ++ lb) W fun e w' => e = .returned (.bool b) ∧ Below W.heap.size W w') (h : impl_Want_239.idx (fun x => (q x).map (fun b => !b)) l0 0 = some r) :
  Calls Try.prog 226 #[.slice A0 l0.length c0, .func (.func g) #[] lb] w fun e w' => e = .returned (.bool (!decide (0 ≤ r))) ∧ Below w.heap.size w w' := by
 have eg2 : ∀ args w, (callFunc 237 args).run Try.prog w = .ok (.enter 237 args) w := enters_of Try.func237 (by kernel_rfl) rfl
 have hb0 : Below w.heap.size w (w.alloc (.cells #[.func (.func g) #[] lb] 224)) := below_alloc (Below.refl _ _) _
 have hc := impl_Want_236.calls 237 #[.pointer (some ⟨w.heap.size, 0, none⟩)] eg2 (fun x => (q x).map (fun b => !b)) A0 c0 l0 r (w.alloc (.cells #[.func (.func g) #[] lb] 224)) (Kd.C_below hr0 hb0) (fun W cs x b hW hK hq => by
  obtain ⟨b', hb', rfl⟩ := Option.map_eq_some_iff.1 hq
  exact impl_Want_1.calls g lb eg b' x cs w.heap.size W hK ((hW.cell (p := ⟨w.heap.size, 0, none⟩) (by simp)).trans (by simp)) (fun W2 hW2 => hp W2 cs x b' ((hb0.trans (hW.mono (by simp))).trans (hW2.mono (hb0.trans (hW.mono (by simp))).size)) (k205.K_below hW2 hK) hb')) h
 clear hp hr0 h
 go_enter Try.func226, Try.ntmps226
 go_wp2_with (go_at_call 236; refine hc.mono ?_; rintro e w' ⟨rfl, hb'⟩)
 go_ret
 exact ⟨rfl, hb0.trans (hb'.mono (by simp))⟩
set_option maxHeartbeats 2000000 in
theorem impl_Want_226.calls (k : Nat) (A0 : Option Addr) (c0 : Nat) (l0 : List S205) (r : Bool) (w : World) (hr0 : Kd.C k205 w A0 l0.length l0) (hc0 : l0.length ≤ c0) (h : impl_Want_226.f k l0 = some r) :
  Calls Try.prog 226 #[.slice A0 l0.length c0, .func (.func 227) #[] #[]] w fun e w' => e = .returned (.bool r) ∧ Below w.heap.size w w' := by
 have eg : ∀ args w, (callFunc 227 args).run Try.prog w = .ok (.enter 227 args) w := enters_of Try.func227 (by kernel_rfl) rfl
 obtain ⟨i, hi, rfl⟩ := Option.map_eq_some_iff.1 h
 refine impl_Want_226.any 227 #[] eg (impl_Want_226.q k) A0 c0 l0 i w hr0 (fun W cs x b hW hK hq => ?_) hi
 obtain ⟨A0, c0, A4, c4, A5, c5, A6, c6, rfl, l0, g0, l4, g4, l5, g5, l6, g6⟩ := k205_open hK
 exact impl_WantOk.calls k _ _ x.f0.f0.f0 x.f0.f1 x.f0.f2 x.f0.f3 _ _ x.f0.f4.f0 _ _ x.f0.f5 _ _ x.f0.f6 x.f1 x.f2 b W g0 l0 g4 l4 g5 l5 g6 l6 hq

/-! ### impl_areWants: function 199 -/
def impl_areWants.f (k : Nat) (l0 : List (S205)) : Option (Bool) := if (l0.length : Int) ≤ 12 then ((impl_Want_226.f k l0).bind fun t101 => (some t101)) else (some false)
set_option maxHeartbeats 8000000 in
set_option maxRecDepth 100000 in
theorem impl_areWants.calls (k : Nat) (A0 : Option Addr) (c0 : Nat) (l0 : List (S205)) (r : Bool) (w : World) (hr0 : Kd.C k205 w A0 l0.length l0) (hc0 : l0.length ≤ c0) (h : impl_areWants.f k l0 = some r) :
  Calls Try.prog 199 #[.slice A0 l0.length c0] w fun e w' => e = .returned (.bool r) ∧ Below w.heap.size w w' := by
 have HR0 := ak hr0
 have HC0 := ak hc0
 clear hr0 hc0
 have HB := ak (Below.refl w.heap.size w)
 have H : (if (l0.length : Int) ≤ 12 then ((impl_Want_226.f k l0).bind fun t101 => (some t101)) else (some false)) = some r := h
 clear h
 replace H := ip H
 obtain ⟨c2b0, H⟩ | ⟨c2b0, H⟩ := H
 ·have c2b1 : decide (l0.length ≤ 12) = true := decide_eq_true (by have := of_decide_eq_true c2b0; omega)
  replace H := bnd H
  obtain ⟨t101, A3, H⟩ := H
  obtain rfl := Option.some.inj H
  go_enter Try.func199, Try.ntmps199
  go_wp2_with ((go_at_call 226;(with_reducible refine (impl_Want_226.calls k _ _ l0 t101 _ (cd HR0) HC0.out A3.out).mono ?_);rintro e w4 ⟨rfl, hb⟩;replace HB := b2 HB hb;(try clear hb)))
  go_ret
  exact ⟨o1, bw HB.out⟩
 ·have c2b1 : decide (l0.length ≤ 12) = false := decide_eq_false (by have := of_decide_eq_false c2b0; omega)
  obtain rfl := Option.some.inj H
  go_enter Try.func199, Try.ntmps199
  go_wp2
  go_ret
  exact ⟨o1, bw HB.out⟩

/-! ### impl_Msg_shaped: function 130 -/
mutual
def impl_Msg_shaped.j0 : Nat → Bool → Int → Bool → Int → Bool → Int → List (S200) → List (S33) → List (S33) → List (S33) → List (S205) → List (S205) → Option (Bool)
 | 0, _, _, _, _, _, _, _, _, _, _, _, _ => none
 | k + 1, x36, x102000, x102001, x102002, x102003, x102004, x102005, x102006, x102007, x102008, x102009, x102010 => if x36 = true then (some false) else ((impl_areRrs.f k x102006).bind fun t108 => (if t108 = true then ((impl_areRrs.f k x102007).bind fun t109 => (if t109 = true then ((impl_areRrs.f k x102008).bind fun t110 => (if t110 = true then ((impl_areWants.f k x102009).bind fun t111 => (if t111 = true then ((impl_areWants.f k x102010).bind fun t112 => (impl_Msg_shaped.j1 k (!t112) x102000 x102001 x102002 x102003 x102004 x102005 x102006 x102007 x102008 x102009 x102010)) else (impl_Msg_shaped.j1 k true x102000 x102001 x102002 x102003 x102004 x102005 x102006 x102007 x102008 x102009 x102010))) else (impl_Msg_shaped.j1 k true x102000 x102001 x102002 x102003 x102004 x102005 x102006 x102007 x102008 x102009 x102010))) else (impl_Msg_shaped.j1 k true x102000 x102001 x102002 x102003 x102004 x102005 x102006 x102007 x102008 x102009 x102010))) else (impl_Msg_shaped.j1 k true x102000 x102001 x102002 x102003 x102004 x102005 x102006 x102007 x102008 x102009 x102010)))
def impl_Msg_shaped.j1 : Nat → Bool → Int → Bool → Int → Bool → Int → List (S200) → List (S33) → List (S33) → List (S33) → List (S205) → List (S205) → Option (Bool)
 | 0, _, _, _, _, _, _, _, _, _, _, _, _ => none
 | k + 1, x64, x102000, x102001, x102002, x102003, x102004, x102005, x102006, x102007, x102008, x102009, x102010 => if x64 = true then (some false) else (if x102002 = 0 then (some ((wrap64 ((x102009.length : Int) + (x102010.length : Int))) == 0)) else (if x102002 = 5 then (if 0 < (x102005.length : Int) then (if ((rd_T200 x102005 0).f1) = 6 then (some ((wrap64 ((wrap64 ((x102006.length : Int) + (x102007.length : Int))) + (x102008.length : Int))) == 0)) else (some false)) else (none)) else (some false)))
end
def impl_Msg_shaped.f (k : Nat) (a0_0 : Int) (a0_1 : Bool) (a0_2 : Int) (a0_3 : Bool) (a0_4 : Int) (l0_5 : List (S200)) (l0_6 : List (S33)) (l0_7 : List (S33)) (l0_8 : List (S33)) (l0_9 : List (S205)) (l0_10 : List (S205)) : Option (Bool) := (impl_within.f a0_0 0 65535).bind fun t102 => (if t102 = true then ((impl_isCode.f a0_4).bind fun t103 => (if t103 = true then (if (l0_5.length : Int) = 1 then (if 0 < (l0_5.length : Int) then ((impl_NameOk.f ((rd_T200 l0_5 0).f0.f0)).bind fun t105 => (if t105 = true then ((impl_isAsked.f ((rd_T200 l0_5 0).f1)).bind fun t107 => (impl_Msg_shaped.j0 k (!t107) a0_0 a0_1 a0_2 a0_3 a0_4 l0_5 l0_6 l0_7 l0_8 l0_9 l0_10)) else (impl_Msg_shaped.j0 k true a0_0 a0_1 a0_2 a0_3 a0_4 l0_5 l0_6 l0_7 l0_8 l0_9 l0_10))) else (none)) else (impl_Msg_shaped.j0 k true a0_0 a0_1 a0_2 a0_3 a0_4 l0_5 l0_6 l0_7 l0_8 l0_9 l0_10)) else (impl_Msg_shaped.j0 k true a0_0 a0_1 a0_2 a0_3 a0_4 l0_5 l0_6 l0_7 l0_8 l0_9 l0_10))) else (impl_Msg_shaped.j0 k true a0_0 a0_1 a0_2 a0_3 a0_4 l0_5 l0_6 l0_7 l0_8 l0_9 l0_10))
set_option maxHeartbeats 8000000 in
set_option maxRecDepth 100000 in
theorem impl_Msg_shaped.calls (k : Nat) (a0_0 : Int) (a0_1 : Bool) (a0_2 : Int) (a0_3 : Bool) (a0_4 : Int) (A0_5 : Option Addr) (c0_5 : Nat) (l0_5 : List (S200)) (A0_6 : Option Addr) (c0_6 : Nat) (l0_6 : List (S33)) (A0_7 : Option Addr) (c0_7 : Nat) (l0_7 : List (S33)) (A0_8 : Option Addr) (c0_8 : Nat) (l0_8 : List (S33)) (A0_9 : Option Addr) (c0_9 : Nat) (l0_9 : List (S205)) (A0_10 : Option Addr) (c0_10 : Nat) (l0_10 : List (S205)) (r : Bool) (w : World) (hr0_5 : Kd.C k200 w A0_5 l0_5.length l0_5) (hc0_5 : l0_5.length ≤ c0_5) (hr0_6 : Kd.C k33 w A0_6 l0_6.length l0_6) (hc0_6 : l0_6.length ≤ c0_6) (hr0_7 : Kd.C k33 w A0_7 l0_7.length l0_7) (hc0_7 : l0_7.length ≤ c0_7) (hr0_8 : Kd.C k33 w A0_8 l0_8.length l0_8) (hc0_8 : l0_8.length ≤ c0_8) (hr0_9 : Kd.C k205 w A0_9 l0_9.length l0_9) (hc0_9 : l0_9.length ≤ c0_9) (hr0_10 : Kd.C k205 w A0_10 l0_10.length l0_10) (hc0_10 : l0_10.length ≤ c0_10) (h : impl_Msg_shaped.f k a0_0 a0_1 a0_2 a0_3 a0_4 l0_5 l0_6 l0_7 l0_8 l0_9 l0_10 = some r) :
  Calls Try.prog 130 #[.agg #[.int .i64 a0_0, .bool a0_1, .int .i64 a0_2, .bool a0_3, .int .i64 a0_4, .slice A0_5 l0_5.length c0_5, .slice A0_6 l0_6.length c0_6, .slice A0_7 l0_7.length c0_7, .slice A0_8 l0_8.length c0_8, .slice A0_9 l0_9.length c0_9, .slice A0_10 l0_10.length c0_10]] w fun e w' => e = .returned (.bool r) ∧ Below w.heap.size w w' := by
 have hu92 := Try.underlying92
 have hu31 := Try.underlying31
 have HR0_5 := ak hr0_5
 have HC0_5 := ak hc0_5
 clear hr0_5 hc0_5
 have HR0_6 := ak hr0_6
 have HC0_6 := ak hc0_6
 clear hr0_6 hc0_6
 have HR0_7 := ak hr0_7
 have HC0_7 := ak hc0_7
 clear hr0_7 hc0_7
 have HR0_8 := ak hr0_8
 have HC0_8 := ak hc0_8
 clear hr0_8 hc0_8
 have HR0_9 := ak hr0_9
 have HC0_9 := ak hc0_9
 clear hr0_9 hc0_9
 have HR0_10 := ak hr0_10
 have HC0_10 := ak hc0_10
 clear hr0_10 hc0_10
 have HB := ak (Below.refl w.heap.size w)
 have H : ((impl_within.f a0_0 0 65535).bind fun t102 => (if t102 = true then ((impl_isCode.f a0_4).bind fun t103 => (if t103 = true then (if (l0_5.length : Int) = 1 then (if 0 < (l0_5.length : Int) then ((impl_NameOk.f ((rd_T200 l0_5 0).f0.f0)).bind fun t105 => (if t105 = true then ((impl_isAsked.f ((rd_T200 l0_5 0).f1)).bind fun t107 => (impl_Msg_shaped.j0 k (!t107) a0_0 a0_1 a0_2 a0_3 a0_4 l0_5 l0_6 l0_7 l0_8 l0_9 l0_10)) else (impl_Msg_shaped.j0 k true a0_0 a0_1 a0_2 a0_3 a0_4 l0_5 l0_6 l0_7 l0_8 l0_9 l0_10))) else (none)) else (impl_Msg_shaped.j0 k true a0_0 a0_1 a0_2 a0_3 a0_4 l0_5 l0_6 l0_7 l0_8 l0_9 l0_10)) else (impl_Msg_shaped.j0 k true a0_0 a0_1 a0_2 a0_3 a0_4 l0_5 l0_6 l0_7 l0_8 l0_9 l0_10))) else (impl_Msg_shaped.j0 k true a0_0 a0_1 a0_2 a0_3 a0_4 l0_5 l0_6 l0_7 l0_8 l0_9 l0_10))) = some r := h
 clear h
 have HC2 := ak H
 clear H
 go_enter Try.func130, Try.ntmps130
 go_upto_region 1 with (((with_reducible refine gate_dst (N := 1) rfl ?_);(try (refine gate_guard (by rfl) ?_; dsimp only));refine bxd (N := 1) rfl HB ?_;clear HB;intro gb101 w3 hg HB BK101 GE101 hb;have GW101 := GE101;clear hb hg))
 (try simp only [Act.put, List.setIfInBounds_toArray, List.set_cons_zero, List.set_cons_succ])
 go_cut [36] (fun v36 wc => ∃ (kq : Nat) (x36_1 : Bool), v36 = .bool x36_1 ∧ Aside0 (impl_Msg_shaped.j0 kq x36_1 a0_0 a0_1 a0_2 a0_3 a0_4 l0_5 l0_6 l0_7 l0_8 l0_9 l0_10 = some r) ∧ Aside0 (kq ≤ k) ∧ Aside0 (wc.heap[gb101]? = some (.cells #[.int .i64 a0_0, .bool a0_1, .int .i64 a0_2, .bool a0_3, .int .i64 a0_4, (.slice A0_5 l0_5.length c0_5), (.slice A0_6 l0_6.length c0_6), (.slice A0_7 l0_7.length c0_7), (.slice A0_8 l0_8.length c0_8), (.slice A0_9 l0_9.length c0_9), (.slice A0_10 l0_10.length c0_10)] 92 (0, 0))) ∧ Aside0 (Below w.heap.size w wc))
 case first =>
  have H := HC2.out
  clear HC2
  replace H := bnd H
  obtain ⟨t102, A4, H⟩ := H
  replace H := ib H
  obtain ⟨rfl, H⟩ | ⟨rfl, H⟩ := H
  ·replace H := bnd H
   obtain ⟨t103, A6, H⟩ := H
   replace H := ib H
   obtain ⟨rfl, H⟩ | ⟨rfl, H⟩ := H
   ·replace H := ie H
    obtain ⟨c8b0, c8b1, H⟩ | ⟨c8b0, c8b1, H⟩ := H
    ·(first | rw [c8b0] | (simp only [i64_w, i32_w]; rw [c8b0]) | skip)
     replace H := ipN H
     obtain ⟨c9b0, H⟩ := H
     have c9b1 : decide (0 < l0_5.length) = true := decide_eq_true (by have := of_decide_eq_true c9b0; omega)
     replace H := bnd H
     obtain ⟨t105, A10, H⟩ := H
     replace H := ib H
     obtain ⟨rfl, H⟩ | ⟨rfl, H⟩ := H
     ·replace H := bnd H
      obtain ⟨t107, A12, H⟩ := H
      have H' := ak H
      clear H
      obtain ⟨hcz13_0, hcz13_1, hcz13_2, hcz13_3, hcz13_4, hcz13_5, hcz13_6, hcz13_7, hcz13_8, hcz13_9, hcz13_10, hfz13_0, hfz13_1, hfz13_2, hfz13_3, hfz13_4, hfz13_5, hfz13_6, hfz13_7, hfz13_8, hfz13_9, hfz13_10⟩ := cells11 BK101.out
      go_wp2_with (first | ((with_reducible refine gate_callee (f := 83) rfl ?_);refine glD 5 rfl rfl Try.func83 (impl_within.calls a0_0 0 65535 true _ A4.out) (fun nd => ?_)) | (go_at_call 196;(with_reducible refine (impl_isCode.calls a0_4 true _ A6.out).mono ?_);rintro e w' ⟨rfl, ⟨nd, rfl⟩⟩;have p104 : 0 ≤ (0 : Int) := (by omega);have q104 : 0 < (l0_5.length : Int) := of_decide_eq_true (by first | (with_reducible assumption) | assumption);obtain ⟨ad104, A104_0, c104_0, e104, hx104_0, hx104_1, hl104_0, hi104_0⟩ := at_T200 HR0_5.out 0 p104 q104;cases e104;have qi104 : (0 < l0_5.length) = True := eq_true (by omega);(try rw [show ((0 : Int)).toNat = 0 from rfl] at hx104_0);(try rw [show 0 * 2 = 0 from rfl] at hx104_0);(try rw [Addr.add_zero'] at hx104_0);(try rw [show ((0 : Int)).toNat = 0 from rfl] at hx104_1);(try rw [show 0 * 2 = 0 from rfl] at hx104_1);(try rw [Addr.add_zero'] at hx104_1);replace hx104_0 := pw_cell_below HB.out hx104_0;replace hx104_1 := pw_cell_below HB.out hx104_1;have HR104_0 := ak hi104_0;have HC104_0 := ak hl104_0;clear hi104_0 hl104_0;replace p104 := eq_true p104;replace q104 := eq_true q104) | (go_at_call 74;(with_reducible refine (impl_NameOk.calls _ _ ((rd_T200 l0_5 0).f0.f0) true _ ?side1 HC104_0.out A10.out).mono ?_);(case side1 => repeat (first | exact (Kd.C_below HR104_0.out bs) | (with_reducible refine Kd.C_alloc ?_ _) | (with_reducible refine Kd.C_drewN ?_ _) | (with_reducible refine Kd.C_drew ?_)));rintro e w14 ⟨rfl, hb⟩;replace BK101 := b1 BK101 hb;replace HB := b2s bs hb;(try clear hb);obtain ⟨hcz15_0, hcz15_1, hcz15_2, hcz15_3, hcz15_4, hcz15_5, hcz15_6, hcz15_7, hcz15_8, hcz15_9, hcz15_10, hfz15_0, hfz15_1, hfz15_2, hfz15_3, hfz15_4, hfz15_5, hfz15_6, hfz15_7, hfz15_8, hfz15_9, hfz15_10⟩ := cells11 BK101.out;have p106 : 0 ≤ (0 : Int) := (by omega);have q106 : 0 < (l0_5.length : Int) := of_decide_eq_true (by first | (with_reducible assumption) | assumption);obtain ⟨ad106, A106_0, c106_0, e106, hx106_0, hx106_1, hl106_0, hi106_0⟩ := at_T200 HR0_5.out 0 p106 q106;obtain rfl : ad104 = ad106 := (by injection e106);have qi106 : (0 < l0_5.length) = True := eq_true (by omega);(try rw [show ((0 : Int)).toNat = 0 from rfl] at hx106_0);(try rw [show 0 * 2 = 0 from rfl] at hx106_0);(try rw [Addr.add_zero'] at hx106_0);(try rw [show ((0 : Int)).toNat = 0 from rfl] at hx106_1);(try rw [show 0 * 2 = 0 from rfl] at hx106_1);(try rw [Addr.add_zero'] at hx106_1);replace hx106_0 := pw_cell_below HB.out hx106_0;replace hx106_1 := pw_cell_below HB.out hx106_1;have HR106_0 := ak hi106_0;have HC106_0 := ak hl106_0;clear hi106_0 hl106_0;replace p106 := eq_true p106;replace q106 := eq_true q106) | (go_at_call 197;(with_reducible refine (impl_isAsked.calls ((rd_T200 l0_5 0).f1) t107 _ A12.out).mono ?_);rintro e w16 ⟨rfl, hb⟩;replace BK101 := b1 BK101 hb;replace HB := b2s bs hb;(try clear hb)))
      go_meet
      case rel => exact ⟨_, (!t107), o2, H', ⟨o3⟩, ⟨bk BK101.out⟩, ⟨bs⟩⟩
     ·have H' := ak H
      clear H
      obtain ⟨hcz17_0, hcz17_1, hcz17_2, hcz17_3, hcz17_4, hcz17_5, hcz17_6, hcz17_7, hcz17_8, hcz17_9, hcz17_10, hfz17_0, hfz17_1, hfz17_2, hfz17_3, hfz17_4, hfz17_5, hfz17_6, hfz17_7, hfz17_8, hfz17_9, hfz17_10⟩ := cells11 BK101.out
      go_wp2_with (first | ((with_reducible refine gate_callee (f := 83) rfl ?_);refine glD 5 rfl rfl Try.func83 (impl_within.calls a0_0 0 65535 true _ A4.out) (fun nd => ?_)) | (go_at_call 196;(with_reducible refine (impl_isCode.calls a0_4 true _ A6.out).mono ?_);rintro e w' ⟨rfl, ⟨nd, rfl⟩⟩;have p104 : 0 ≤ (0 : Int) := (by omega);have q104 : 0 < (l0_5.length : Int) := of_decide_eq_true (by first | (with_reducible assumption) | assumption);obtain ⟨ad104, A104_0, c104_0, e104, hx104_0, hx104_1, hl104_0, hi104_0⟩ := at_T200 HR0_5.out 0 p104 q104;cases e104;have qi104 : (0 < l0_5.length) = True := eq_true (by omega);(try rw [show ((0 : Int)).toNat = 0 from rfl] at hx104_0);(try rw [show 0 * 2 = 0 from rfl] at hx104_0);(try rw [Addr.add_zero'] at hx104_0);(try rw [show ((0 : Int)).toNat = 0 from rfl] at hx104_1);(try rw [show 0 * 2 = 0 from rfl] at hx104_1);(try rw [Addr.add_zero'] at hx104_1);replace hx104_0 := pw_cell_below HB.out hx104_0;replace hx104_1 := pw_cell_below HB.out hx104_1;have HR104_0 := ak hi104_0;have HC104_0 := ak hl104_0;clear hi104_0 hl104_0;replace p104 := eq_true p104;replace q104 := eq_true q104) | (go_at_call 74;(with_reducible refine (impl_NameOk.calls _ _ ((rd_T200 l0_5 0).f0.f0) false _ ?side1 HC104_0.out A10.out).mono ?_);(case side1 => repeat (first | exact (Kd.C_below HR104_0.out bs) | (with_reducible refine Kd.C_alloc ?_ _) | (with_reducible refine Kd.C_drewN ?_ _) | (with_reducible refine Kd.C_drew ?_)));rintro e w18 ⟨rfl, hb⟩;replace BK101 := b1 BK101 hb;replace HB := b2s bs hb;(try clear hb)))
      go_meet
      case rel => exact ⟨_, (true), o2, H', ⟨o3⟩, ⟨bk BK101.out⟩, ⟨bs⟩⟩
    ·(first | rw [c8b0] | (simp only [i64_w, i32_w]; rw [c8b0]) | skip)
     have H' := ak H
     clear H
     obtain ⟨hcz19_0, hcz19_1, hcz19_2, hcz19_3, hcz19_4, hcz19_5, hcz19_6, hcz19_7, hcz19_8, hcz19_9, hcz19_10, hfz19_0, hfz19_1, hfz19_2, hfz19_3, hfz19_4, hfz19_5, hfz19_6, hfz19_7, hfz19_8, hfz19_9, hfz19_10⟩ := cells11 BK101.out
     go_wp2_with (first | ((with_reducible refine gate_callee (f := 83) rfl ?_);refine glD 5 rfl rfl Try.func83 (impl_within.calls a0_0 0 65535 true _ A4.out) (fun nd => ?_)) | (go_at_call 196;(with_reducible refine (impl_isCode.calls a0_4 true _ A6.out).mono ?_);rintro e w' ⟨rfl, ⟨nd, rfl⟩⟩))
     go_meet
     case rel => exact ⟨_, (true), o2, H', ⟨o3⟩, ⟨bk BK101.out⟩, ⟨bs⟩⟩
   ·have H' := ak H
    clear H
    obtain ⟨hcz20_0, hcz20_1, hcz20_2, hcz20_3, hcz20_4, hcz20_5, hcz20_6, hcz20_7, hcz20_8, hcz20_9, hcz20_10, hfz20_0, hfz20_1, hfz20_2, hfz20_3, hfz20_4, hfz20_5, hfz20_6, hfz20_7, hfz20_8, hfz20_9, hfz20_10⟩ := cells11 BK101.out
    go_wp2_with (first | ((with_reducible refine gate_callee (f := 83) rfl ?_);refine glD 5 rfl rfl Try.func83 (impl_within.calls a0_0 0 65535 true _ A4.out) (fun nd => ?_)) | (go_at_call 196;(with_reducible refine (impl_isCode.calls a0_4 false _ A6.out).mono ?_);rintro e w' ⟨rfl, ⟨nd, rfl⟩⟩))
    go_meet
    case rel => exact ⟨_, (true), o2, H', ⟨o3⟩, ⟨bk BK101.out⟩, ⟨bs⟩⟩
  ·have H' := ak H
   clear H
   obtain ⟨hcz21_0, hcz21_1, hcz21_2, hcz21_3, hcz21_4, hcz21_5, hcz21_6, hcz21_7, hcz21_8, hcz21_9, hcz21_10, hfz21_0, hfz21_1, hfz21_2, hfz21_3, hfz21_4, hfz21_5, hfz21_6, hfz21_7, hfz21_8, hfz21_9, hfz21_10⟩ := cells11 BK101.out
   go_wp2_with (((with_reducible refine gate_callee (f := 83) rfl ?_);refine glD 5 rfl rfl Try.func83 (impl_within.calls a0_0 0 65535 false _ A4.out) (fun nd => ?_)))
   go_meet
   case rel => exact ⟨_, (true), o2, H', ⟨o3⟩, ⟨bk BK101.out⟩, ⟨bs⟩⟩
 case rest =>
  clear HC2
  obtain ⟨kq, x36_1, rfl, HA, HJ1, BK101, HB⟩ := hcut
  cases kq with
  | zero => exact absurd HA.out (by simp [impl_Msg_shaped.j0])
  | succ kj1 =>
   have H := HA.out
   clear HA
   simp only [impl_Msg_shaped.j0] at H
   replace H := ib H
   obtain ⟨rfl, H⟩ | ⟨rfl, H⟩ := H
   ·obtain rfl := Option.some.inj H
    go_wp2
    go_ret
    exact ⟨o1, bs⟩
   ·have HC23 := ak H
    clear H
    go_upto_region 3 with (fail)
    go_cut [64] (fun v64 wc => ∃ (kq : Nat) (x64_22 : Bool), v64 = .bool x64_22 ∧ Aside0 (impl_Msg_shaped.j1 kq x64_22 a0_0 a0_1 a0_2 a0_3 a0_4 l0_5 l0_6 l0_7 l0_8 l0_9 l0_10 = some r) ∧ Aside0 (kq ≤ kj1) ∧ Aside0 (wc.heap[gb101]? = some (.cells #[.int .i64 a0_0, .bool a0_1, .int .i64 a0_2, .bool a0_3, .int .i64 a0_4, (.slice A0_5 l0_5.length c0_5), (.slice A0_6 l0_6.length c0_6), (.slice A0_7 l0_7.length c0_7), (.slice A0_8 l0_8.length c0_8), (.slice A0_9 l0_9.length c0_9), (.slice A0_10 l0_10.length c0_10)] 92 (0, 0))) ∧ Aside0 (Below w.heap.size w wc))
    case first =>
     have H := HC23.out
     clear HC23
     replace H := bnd H
     obtain ⟨t108, A24, H⟩ := H
     replace H := ib H
     obtain ⟨rfl, H⟩ | ⟨rfl, H⟩ := H
     ·replace H := bnd H
      obtain ⟨t109, A26, H⟩ := H
      replace H := ib H
      obtain ⟨rfl, H⟩ | ⟨rfl, H⟩ := H
      ·replace H := bnd H
       obtain ⟨t110, A28, H⟩ := H
       replace H := ib H
       obtain ⟨rfl, H⟩ | ⟨rfl, H⟩ := H
       ·replace H := bnd H
        obtain ⟨t111, A30, H⟩ := H
        replace H := ib H
        obtain ⟨rfl, H⟩ | ⟨rfl, H⟩ := H
        ·replace H := bnd H
         obtain ⟨t112, A32, H⟩ := H
         have H' := ak H
         clear H
         obtain ⟨hcz33_0, hcz33_1, hcz33_2, hcz33_3, hcz33_4, hcz33_5, hcz33_6, hcz33_7, hcz33_8, hcz33_9, hcz33_10, hfz33_0, hfz33_1, hfz33_2, hfz33_3, hfz33_4, hfz33_5, hfz33_6, hfz33_7, hfz33_8, hfz33_9, hfz33_10⟩ := cells11 BK101.out
         go_wp2_with (first | ((with_reducible refine gate_callee (f := 198) rfl ?_);refine glB 39 rfl rfl Try.func198 (impl_areRrs.calls kj1 _ _ l0_6 true _ (cv HR0_6 HB) HC0_6.out A24.out) (fun w34 hb => ?_);replace BK101 := b1 BK101 hb;replace HB := b2s bs hb;(try clear hb);obtain ⟨hcz35_0, hcz35_1, hcz35_2, hcz35_3, hcz35_4, hcz35_5, hcz35_6, hcz35_7, hcz35_8, hcz35_9, hcz35_10, hfz35_0, hfz35_1, hfz35_2, hfz35_3, hfz35_4, hfz35_5, hfz35_6, hfz35_7, hfz35_8, hfz35_9, hfz35_10⟩ := cells11 BK101.out) | (go_at_call 198;(with_reducible refine (impl_areRrs.calls kj1 _ _ l0_7 true _ (cv HR0_7 HB) HC0_7.out A26.out).mono ?_);rintro e w36 ⟨rfl, hb⟩;replace BK101 := b1 BK101 hb;replace HB := b2s bs hb;(try clear hb);obtain ⟨hcz37_0, hcz37_1, hcz37_2, hcz37_3, hcz37_4, hcz37_5, hcz37_6, hcz37_7, hcz37_8, hcz37_9, hcz37_10, hfz37_0, hfz37_1, hfz37_2, hfz37_3, hfz37_4, hfz37_5, hfz37_6, hfz37_7, hfz37_8, hfz37_9, hfz37_10⟩ := cells11 BK101.out) | (go_at_call 198;(with_reducible refine (impl_areRrs.calls kj1 _ _ l0_8 true _ (cv HR0_8 HB) HC0_8.out A28.out).mono ?_);rintro e w38 ⟨rfl, hb⟩;replace BK101 := b1 BK101 hb;replace HB := b2s bs hb;(try clear hb);obtain ⟨hcz39_0, hcz39_1, hcz39_2, hcz39_3, hcz39_4, hcz39_5, hcz39_6, hcz39_7, hcz39_8, hcz39_9, hcz39_10, hfz39_0, hfz39_1, hfz39_2, hfz39_3, hfz39_4, hfz39_5, hfz39_6, hfz39_7, hfz39_8, hfz39_9, hfz39_10⟩ := cells11 BK101.out) | (go_at_call 199;(with_reducible refine (impl_areWants.calls kj1 _ _ l0_9 true _ (cv HR0_9 HB) HC0_9.out A30.out).mono ?_);rintro e w40 ⟨rfl, hb⟩;replace BK101 := b1 BK101 hb;replace HB := b2s bs hb;(try clear hb);obtain ⟨hcz41_0, hcz41_1, hcz41_2, hcz41_3, hcz41_4, hcz41_5, hcz41_6, hcz41_7, hcz41_8, hcz41_9, hcz41_10, hfz41_0, hfz41_1, hfz41_2, hfz41_3, hfz41_4, hfz41_5, hfz41_6, hfz41_7, hfz41_8, hfz41_9, hfz41_10⟩ := cells11 BK101.out) | (go_at_call 199;(with_reducible refine (impl_areWants.calls kj1 _ _ l0_10 t112 _ (cv HR0_10 HB) HC0_10.out A32.out).mono ?_);rintro e w42 ⟨rfl, hb⟩;replace BK101 := b1 BK101 hb;replace HB := b2s bs hb;(try clear hb)))
         go_meet
         case rel => exact ⟨_, (!t112), o2, H', ⟨by have := HJ1.out; first | omega | exact Nat.le_refl _⟩, ⟨bk BK101.out⟩, ⟨bs⟩⟩
        ·have H' := ak H
         clear H
         obtain ⟨hcz43_0, hcz43_1, hcz43_2, hcz43_3, hcz43_4, hcz43_5, hcz43_6, hcz43_7, hcz43_8, hcz43_9, hcz43_10, hfz43_0, hfz43_1, hfz43_2, hfz43_3, hfz43_4, hfz43_5, hfz43_6, hfz43_7, hfz43_8, hfz43_9, hfz43_10⟩ := cells11 BK101.out
         go_wp2_with (first | ((with_reducible refine gate_callee (f := 198) rfl ?_);refine glB 39 rfl rfl Try.func198 (impl_areRrs.calls kj1 _ _ l0_6 true _ (cv HR0_6 HB) HC0_6.out A24.out) (fun w44 hb => ?_);replace BK101 := b1 BK101 hb;replace HB := b2s bs hb;(try clear hb);obtain ⟨hcz45_0, hcz45_1, hcz45_2, hcz45_3, hcz45_4, hcz45_5, hcz45_6, hcz45_7, hcz45_8, hcz45_9, hcz45_10, hfz45_0, hfz45_1, hfz45_2, hfz45_3, hfz45_4, hfz45_5, hfz45_6, hfz45_7, hfz45_8, hfz45_9, hfz45_10⟩ := cells11 BK101.out) | (go_at_call 198;(with_reducible refine (impl_areRrs.calls kj1 _ _ l0_7 true _ (cv HR0_7 HB) HC0_7.out A26.out).mono ?_);rintro e w46 ⟨rfl, hb⟩;replace BK101 := b1 BK101 hb;replace HB := b2s bs hb;(try clear hb);obtain ⟨hcz47_0, hcz47_1, hcz47_2, hcz47_3, hcz47_4, hcz47_5, hcz47_6, hcz47_7, hcz47_8, hcz47_9, hcz47_10, hfz47_0, hfz47_1, hfz47_2, hfz47_3, hfz47_4, hfz47_5, hfz47_6, hfz47_7, hfz47_8, hfz47_9, hfz47_10⟩ := cells11 BK101.out) | (go_at_call 198;(with_reducible refine (impl_areRrs.calls kj1 _ _ l0_8 true _ (cv HR0_8 HB) HC0_8.out A28.out).mono ?_);rintro e w48 ⟨rfl, hb⟩;replace BK101 := b1 BK101 hb;replace HB := b2s bs hb;(try clear hb);obtain ⟨hcz49_0, hcz49_1, hcz49_2, hcz49_3, hcz49_4, hcz49_5, hcz49_6, hcz49_7, hcz49_8, hcz49_9, hcz49_10, hfz49_0, hfz49_1, hfz49_2, hfz49_3, hfz49_4, hfz49_5, hfz49_6, hfz49_7, hfz49_8, hfz49_9, hfz49_10⟩ := cells11 BK101.out) | (go_at_call 199;(with_reducible refine (impl_areWants.calls kj1 _ _ l0_9 false _ (cv HR0_9 HB) HC0_9.out A30.out).mono ?_);rintro e w50 ⟨rfl, hb⟩;replace BK101 := b1 BK101 hb;replace HB := b2s bs hb;(try clear hb)))
         go_meet
         case rel => exact ⟨_, (true), o2, H', ⟨by have := HJ1.out; first | omega | exact Nat.le_refl _⟩, ⟨bk BK101.out⟩, ⟨bs⟩⟩
       ·have H' := ak H
        clear H
        obtain ⟨hcz51_0, hcz51_1, hcz51_2, hcz51_3, hcz51_4, hcz51_5, hcz51_6, hcz51_7, hcz51_8, hcz51_9, hcz51_10, hfz51_0, hfz51_1, hfz51_2, hfz51_3, hfz51_4, hfz51_5, hfz51_6, hfz51_7, hfz51_8, hfz51_9, hfz51_10⟩ := cells11 BK101.out
        go_wp2_with (first | ((with_reducible refine gate_callee (f := 198) rfl ?_);refine glB 39 rfl rfl Try.func198 (impl_areRrs.calls kj1 _ _ l0_6 true _ (cv HR0_6 HB) HC0_6.out A24.out) (fun w52 hb => ?_);replace BK101 := b1 BK101 hb;replace HB := b2s bs hb;(try clear hb);obtain ⟨hcz53_0, hcz53_1, hcz53_2, hcz53_3, hcz53_4, hcz53_5, hcz53_6, hcz53_7, hcz53_8, hcz53_9, hcz53_10, hfz53_0, hfz53_1, hfz53_2, hfz53_3, hfz53_4, hfz53_5, hfz53_6, hfz53_7, hfz53_8, hfz53_9, hfz53_10⟩ := cells11 BK101.out) | (go_at_call 198;(with_reducible refine (impl_areRrs.calls kj1 _ _ l0_7 true _ (cv HR0_7 HB) HC0_7.out A26.out).mono ?_);rintro e w54 ⟨rfl, hb⟩;replace BK101 := b1 BK101 hb;replace HB := b2s bs hb;(try clear hb);obtain ⟨hcz55_0, hcz55_1, hcz55_2, hcz55_3, hcz55_4, hcz55_5, hcz55_6, hcz55_7, hcz55_8, hcz55_9, hcz55_10, hfz55_0, hfz55_1, hfz55_2, hfz55_3, hfz55_4, hfz55_5, hfz55_6, hfz55_7, hfz55_8, hfz55_9, hfz55_10⟩ := cells11 BK101.out) | (go_at_call 198;(with_reducible refine (impl_areRrs.calls kj1 _ _ l0_8 false _ (cv HR0_8 HB) HC0_8.out A28.out).mono ?_);rintro e w56 ⟨rfl, hb⟩;replace BK101 := b1 BK101 hb;replace HB := b2s bs hb;(try clear hb)))
        go_meet
        case rel => exact ⟨_, (true), o2, H', ⟨by have := HJ1.out; first | omega | exact Nat.le_refl _⟩, ⟨bk BK101.out⟩, ⟨bs⟩⟩
      ·have H' := ak H
       clear H
       obtain ⟨hcz57_0, hcz57_1, hcz57_2, hcz57_3, hcz57_4, hcz57_5, hcz57_6, hcz57_7, hcz57_8, hcz57_9, hcz57_10, hfz57_0, hfz57_1, hfz57_2, hfz57_3, hfz57_4, hfz57_5, hfz57_6, hfz57_7, hfz57_8, hfz57_9, hfz57_10⟩ := cells11 BK101.out
       go_wp2_with (first | ((with_reducible refine gate_callee (f := 198) rfl ?_);refine glB 39 rfl rfl Try.func198 (impl_areRrs.calls kj1 _ _ l0_6 true _ (cv HR0_6 HB) HC0_6.out A24.out) (fun w58 hb => ?_);replace BK101 := b1 BK101 hb;replace HB := b2s bs hb;(try clear hb);obtain ⟨hcz59_0, hcz59_1, hcz59_2, hcz59_3, hcz59_4, hcz59_5, hcz59_6, hcz59_7, hcz59_8, hcz59_9, hcz59_10, hfz59_0, hfz59_1, hfz59_2, hfz59_3, hfz59_4, hfz59_5, hfz59_6, hfz59_7, hfz59_8, hfz59_9, hfz59_10⟩ := cells11 BK101.out) | (go_at_call 198;(with_reducible refine (impl_areRrs.calls kj1 _ _ l0_7 false _ (cv HR0_7 HB) HC0_7.out A26.out).mono ?_);rintro e w60 ⟨rfl, hb⟩;replace BK101 := b1 BK101 hb;replace HB := b2s bs hb;(try clear hb)))
       go_meet
       case rel => exact ⟨_, (true), o2, H', ⟨by have := HJ1.out; first | omega | exact Nat.le_refl _⟩, ⟨bk BK101.out⟩, ⟨bs⟩⟩
     ·have H' := ak H
      clear H
      obtain ⟨hcz61_0, hcz61_1, hcz61_2, hcz61_3, hcz61_4, hcz61_5, hcz61_6, hcz61_7, hcz61_8, hcz61_9, hcz61_10, hfz61_0, hfz61_1, hfz61_2, hfz61_3, hfz61_4, hfz61_5, hfz61_6, hfz61_7, hfz61_8, hfz61_9, hfz61_10⟩ := cells11 BK101.out
      go_wp2_with (((with_reducible refine gate_callee (f := 198) rfl ?_);refine glB 39 rfl rfl Try.func198 (impl_areRrs.calls kj1 _ _ l0_6 false _ (cv HR0_6 HB) HC0_6.out A24.out) (fun w62 hb => ?_);replace BK101 := b1 BK101 hb;replace HB := b2s bs hb;(try clear hb)))
      go_meet
      case rel => exact ⟨_, (true), o2, H', ⟨by have := HJ1.out; first | omega | exact Nat.le_refl _⟩, ⟨bk BK101.out⟩, ⟨bs⟩⟩
    case rest =>
     clear HC23
     obtain ⟨kq, x64_22, rfl, HA, HJ22, BK101, HB⟩ := hcut
     cases kq with
     | zero => exact absurd HA.out (by simp [impl_Msg_shaped.j1])
     | succ kj22 =>
      have H := HA.out
      clear HA
      simp only [impl_Msg_shaped.j1] at H
      replace H := ib H
      obtain ⟨rfl, H⟩ | ⟨rfl, H⟩ := H
      ·obtain rfl := Option.some.inj H
       go_wp2
       go_ret
       exact ⟨o1, bs⟩
      ·replace H := ie H
       obtain ⟨c64b0, c64b1, H⟩ | ⟨c64b0, c64b1, H⟩ := H
       ·obtain rfl := Option.some.inj H
        obtain ⟨hcz65_0, hcz65_1, hcz65_2, hcz65_3, hcz65_4, hcz65_5, hcz65_6, hcz65_7, hcz65_8, hcz65_9, hcz65_10, hfz65_0, hfz65_1, hfz65_2, hfz65_3, hfz65_4, hfz65_5, hfz65_6, hfz65_7, hfz65_8, hfz65_9, hfz65_10⟩ := cells11 BK101.out
        go_wp2
        go_ret
        exact ⟨o1, bs⟩
       ·replace H := ie H
        obtain ⟨c66b0, c66b1, H⟩ | ⟨c66b0, c66b1, H⟩ := H
        ·replace H := ipN H
         obtain ⟨c67b0, H⟩ := H
         have c67b1 : decide (0 < l0_5.length) = true := decide_eq_true (by have := of_decide_eq_true c67b0; omega)
         replace H := ie H
         obtain ⟨c68b0, c68b1, H⟩ | ⟨c68b0, c68b1, H⟩ := H
         ·obtain rfl := Option.some.inj H
          obtain ⟨hcz69_0, hcz69_1, hcz69_2, hcz69_3, hcz69_4, hcz69_5, hcz69_6, hcz69_7, hcz69_8, hcz69_9, hcz69_10, hfz69_0, hfz69_1, hfz69_2, hfz69_3, hfz69_4, hfz69_5, hfz69_6, hfz69_7, hfz69_8, hfz69_9, hfz69_10⟩ := cells11 BK101.out
          have p113 : 0 ≤ (0 : Int) := (by omega)
          have q113 : 0 < (l0_5.length : Int) := of_decide_eq_true (by first | (with_reducible assumption) | assumption)
          obtain ⟨ad113, A113_0, c113_0, e113, hx113_0, hx113_1, hl113_0, hi113_0⟩ := at_T200 HR0_5.out 0 p113 q113
          cases e113
          have qi113 : (0 < l0_5.length) = True := eq_true (by omega)
          (try rw [show ((0 : Int)).toNat = 0 from rfl] at hx113_0)
          (try rw [show 0 * 2 = 0 from rfl] at hx113_0)
          (try rw [Addr.add_zero'] at hx113_0)
          (try rw [show ((0 : Int)).toNat = 0 from rfl] at hx113_1)
          (try rw [show 0 * 2 = 0 from rfl] at hx113_1)
          (try rw [Addr.add_zero'] at hx113_1)
          replace hx113_0 := pw_cell_below HB.out hx113_0
          replace hx113_1 := pw_cell_below HB.out hx113_1
          have HR113_0 := ak hi113_0
          have HC113_0 := ak hl113_0
          clear hi113_0 hl113_0
          replace p113 := eq_true p113
          replace q113 := eq_true q113
          go_wp2
          go_ret
          exact ⟨o1, bs⟩
         ·obtain rfl := Option.some.inj H
          obtain ⟨hcz70_0, hcz70_1, hcz70_2, hcz70_3, hcz70_4, hcz70_5, hcz70_6, hcz70_7, hcz70_8, hcz70_9, hcz70_10, hfz70_0, hfz70_1, hfz70_2, hfz70_3, hfz70_4, hfz70_5, hfz70_6, hfz70_7, hfz70_8, hfz70_9, hfz70_10⟩ := cells11 BK101.out
          have p113 : 0 ≤ (0 : Int) := (by omega)
          have q113 : 0 < (l0_5.length : Int) := of_decide_eq_true (by first | (with_reducible assumption) | assumption)
          obtain ⟨ad113, A113_0, c113_0, e113, hx113_0, hx113_1, hl113_0, hi113_0⟩ := at_T200 HR0_5.out 0 p113 q113
          cases e113
          have qi113 : (0 < l0_5.length) = True := eq_true (by omega)
          (try rw [show ((0 : Int)).toNat = 0 from rfl] at hx113_0)
          (try rw [show 0 * 2 = 0 from rfl] at hx113_0)
          (try rw [Addr.add_zero'] at hx113_0)
          (try rw [show ((0 : Int)).toNat = 0 from rfl] at hx113_1)
          (try rw [show 0 * 2 = 0 from rfl] at hx113_1)
          (try rw [Addr.add_zero'] at hx113_1)
          replace hx113_0 := pw_cell_below HB.out hx113_0
          replace hx113_1 := pw_cell_below HB.out hx113_1
          have HR113_0 := ak hi113_0
          have HC113_0 := ak hl113_0
          clear hi113_0 hl113_0
          replace p113 := eq_true p113
          replace q113 := eq_true q113
          go_wp2
          go_ret
          exact ⟨o1, bs⟩
        ·obtain rfl := Option.some.inj H
         obtain ⟨hcz71_0, hcz71_1, hcz71_2, hcz71_3, hcz71_4, hcz71_5, hcz71_6, hcz71_7, hcz71_8, hcz71_9, hcz71_10, hfz71_0, hfz71_1, hfz71_2, hfz71_3, hfz71_4, hfz71_5, hfz71_6, hfz71_7, hfz71_8, hfz71_9, hfz71_10⟩ := cells11 BK101.out
         go_wp2
         go_ret
         exact ⟨o1, bs⟩

/-! ### slices_Grow_byte_byte: function 212 -/

set_option maxHeartbeats 8000000 in
set_option maxRecDepth 100000 in
/-- Grow of nil by n: an own row without elements. -/
theorem slices_Grow_byte_byte.calls (n : Int) (w : World) (h0 : 0 ≤ n) (hn : n.toNat < 140737488355328) :
  Calls Try.prog 212 #[.slice none 0 0, .int .i64 n] w fun e w' => ∃ v0_ : Value, e = .returned (v0_) ∧ Kd.R (Kd.int .u8) 5 w' w.heap.size (fun _ => True) v0_ [] ∧ Below w.heap.size w w' := by
 have HN := ak hn
 have hbig : n ≤ 9223372036854775807 := by omega
 clear hn
 by_cases hp : 0 < n
 ·go_enter Try.func212, Try.ntmps212
  go_wp2_with (((with_reducible refine gate_builtin (b := .append) (xs := #[.tmp 20, .tmp 21]) rfl ?_);at_builtin;refine Kd.R_append_zeros (Kd.int .u8) (w0 := w) w.heap.size rfl (.tmp 20) (.tmp 21) 25 3 5 (.int .u8 0) 1 rfl Try.underlying25 Try.underlying3 info5 rfl (by decide) (by omega) (.slice none 0 0) [] 0 n (fun _ => True) rfl rfl ?aZ (fun _ _ => trivial) (Kd.R_nil _ _ _ _ _) h0 (Below.refl _ _) (Nat.le_refl _) ?aL ?_;(case aZ => rfl);(case aL => have := HN.out; simp; omega);intro v114 w5 ho hb hg hat;have HO := ak ho;have HB := ak hb;clear ho hb hg hat;obtain ⟨A5, c5, e5⟩ := Kd.R_slice HO.out;subst e5;have HLEN := ak (Kd.R_reads' HO.out).2.1;have hcut : ∀ W, Sem.run Try.prog (Instr.slice 25 (.slice A5 (([] : List Int) ++ List.replicate n.toNat 0).length c5) none (some (.int .i64 0)) none) W = .ok (.slice A5 0 c5) W := fun W => by go_simp))
  go_ret
  exact ⟨_, rfl, Kd.R_take (m := 0) HO.out (Nat.zero_le _), HB.out⟩
 ·have : n = 0 := by omega
  subst this
  go_enter Try.func212, Try.ntmps212
  go_wp2
  go_ret
  exact ⟨_, rfl, Kd.R_nil _ _ _ _ _, Below.refl _ _⟩

/-! ### slices_Concat_byte_byte: function 148 -/

def slices_Concat_byte_byte.total (ll : List (List Int)) : Nat := (ll.map List.length).sum
def slices_Concat_byte_byte.f (l0 : List (List Int)) : Option (List Int) := if slices_Concat_byte_byte.total l0 < 140737488355328 then some l0.flatten else none
theorem slices_Concat_byte_byte.total_snoc (l : List (List Int)) (x : List Int) : slices_Concat_byte_byte.total (l ++ [x]) = slices_Concat_byte_byte.total l + x.length := by simp [slices_Concat_byte_byte.total]
theorem slices_Concat_byte_byte.total_take (l : List (List Int)) (k : Nat) : slices_Concat_byte_byte.total (l.take k) ≤ slices_Concat_byte_byte.total l := by
 have h := congrArg slices_Concat_byte_byte.total (List.take_append_drop k l)
 have h2 : slices_Concat_byte_byte.total (l.take k ++ l.drop k) = slices_Concat_byte_byte.total (l.take k) + slices_Concat_byte_byte.total (l.drop k) := by simp only [slices_Concat_byte_byte.total, List.map_append, List.sum_append]
 omega
theorem slices_Concat_byte_byte.flatten_len (l : List (List Int)) : l.flatten.length = slices_Concat_byte_byte.total l := by simp [slices_Concat_byte_byte.total, List.length_flatten]
set_option maxHeartbeats 8000000 in
set_option maxRecDepth 100000 in
theorem slices_Concat_byte_byte.calls (A0 : Option Addr) (c0 : Nat) (l0 : List (List Int)) (r : List Int) (w : World) (hr0 : Kd.C (Kd.slice 5 (Kd.int .u8)) w A0 l0.length l0) (hc0 : l0.length ≤ c0) (h : slices_Concat_byte_byte.f l0 = some r) :
  Calls Try.prog 148 #[.slice A0 l0.length c0] w fun e w' => ∃ v0_ : Value, e = .returned (v0_) ∧ Kd.R (Kd.int .u8) 5 w' w.heap.size (fun _ => True) v0_ r ∧ Below w.heap.size w w' := by
 have HR0 := ak hr0
 have hbig : l0.length ≤ 9223372036854775807 := hr0.2.1
 have HLM : Aside0 (slices_Concat_byte_byte.total l0 < 140737488355328) := by
  unfold slices_Concat_byte_byte.f at h; split at h
  ·exact ⟨by assumption⟩
  ·cases h
 have hr : l0.flatten = r := by
  unfold slices_Concat_byte_byte.f at h; rw [if_pos HLM.out] at h; exact Option.some.inj h
 subst hr
 clear hr0 hc0 h
 go_enter Try.func148, Try.ntmps148
 go_wp2
 go_loopg [3, 11] l0.length (fun gg s3 s11 wr => ∃ kk : Nat, kk ≤ l0.length ∧ l0.length - kk ≤ gg ∧ s11 = .int .i64 kk ∧ s3 = .int .i64 (slices_Concat_byte_byte.total (l0.take kk)) ∧ w = wr)
 case atStart => exact ⟨0, Nat.zero_le _, by omega, rfl, rfl, rfl⟩
 case round =>
  obtain ⟨kk, hkk, hg, rfl, rfl, rfl⟩ := hrel
  by_cases hlt : kk < l0.length
  ·obtain ⟨ad, A1, c1, rfl, hcell, hc1, hC1⟩ := at_L10 HR0.out (kk : Int) (by omega) (by omega)
   have hx : Aside0 (l0.take (kk + 1) = l0.take kk ++ [rd_L10 l0 (kk : Int)]) := ⟨by
    rw [List.take_succ_eq_append_getElem hlt]; simp [rd_L10, List.getD_eq_getElem?_getD, hlt]⟩
   have ht1 := slices_Concat_byte_byte.total_take l0 (kk + 1)
   have hsn := slices_Concat_byte_byte.total_snoc (l0.take kk) (rd_L10 l0 (kk : Int))
   rw [← hx.out] at hsn
   have hlm := HLM.out
   rw [show ((kk : Int)).toNat = kk from by omega] at hcell
   obtain ⟨n1, hn1⟩ : ∃ n : Nat, (rd_L10 l0 (kk : Int)).length = n := ⟨_, rfl⟩
   rw [hn1] at hcell hsn
   obtain ⟨t1, e1⟩ : ∃ n : Nat, slices_Concat_byte_byte.total (l0.take kk) = n := ⟨_, rfl⟩
   obtain ⟨t2, e2⟩ : ∃ n : Nat, slices_Concat_byte_byte.total (l0.take (kk + 1)) = n := ⟨_, rfl⟩
   rw [e1] at hsn ⊢
   rw [e2] at hsn ht1
   have hb1 : (t1 : Int) + n1 ≤ 140737488355328 := by omega
   have HS := ak hsn
   have E2 := ak e2
   clear hsn ht1 hlm e1 e2 hn1 hC1 hc1 hx
   have hltz : (kk : Int) < (l0.length : Int) := by omega
   go_wp2
   go_roundg (l0.length - (kk + 1))
   case measure => omega
   case rel => exact ⟨kk + 1, by omega, by omega, by go_num, by rw [E2.out, HS.out]; go_num, rfl⟩
  ·have : kk = l0.length := by omega
   subst this
   rw [List.take_of_length_le (Nat.le_refl _)]
   obtain ⟨t1, e1⟩ : ∃ n : Nat, slices_Concat_byte_byte.total l0 = n := ⟨_, rfl⟩
   rw [e1]
   have HLM1 : Aside0 (t1 < 140737488355328) := by rw [← e1]; exact HLM
   have E1 := ak e1
   clear e1
   go_wp2_with (go_at_call 212; refine (slices_Grow_byte_byte.calls (t1 : Int) _ (by omega) (by have := HLM1.out; omega)).mono ?_; rintro e w' ⟨v1, rfl, ho, hb⟩; have HO := ak ho; have HB := ak hb; clear ho hb)
   go_loopg [6, 27] l0.length (fun gg s6 s27 w' => ∃ kk : Nat, kk ≤ l0.length ∧ l0.length - kk ≤ gg ∧ s27 = .int .i64 kk ∧ Aside0 (Kd.R (Kd.int .u8) 5 w' w.heap.size (fun _ => True) s6 (l0.take kk).flatten) ∧ Aside0 (Below w.heap.size w w'))
   case atStart => exact ⟨0, Nat.zero_le _, by omega, rfl, ⟨by simpa using HO.out⟩, HB⟩
   case round =>
    clear HO HB
    obtain ⟨kk, hkk, hg, rfl, HO, HB⟩ := hrel
    by_cases hlt : kk < l0.length
    ·obtain ⟨ad, A1, c1, rfl, hcell, hc1, hC1⟩ := at_L10 HR0.out (kk : Int) (by omega) (by omega)
     have hx : Aside0 ((l0.take (kk + 1)).flatten = (l0.take kk).flatten ++ rd_L10 l0 (kk : Int)) := ⟨by
      rw [List.take_succ_eq_append_getElem hlt, List.flatten_append]; congr 1; simp [rd_L10, List.getD_eq_getElem?_getD, hlt]⟩
     have HLL : Aside0 ((l0.take kk).flatten.length + (rd_L10 l0 (kk : Int)).length < 140737488355328) := ⟨by
      have h1 := congrArg List.length hx.out
      rw [List.length_append, slices_Concat_byte_byte.flatten_len] at h1
      have h2 := slices_Concat_byte_byte.total_take l0 (kk + 1)
      have h3 := HLM.out
      omega⟩
     replace hcell := pw_cell_below HB.out hcell
     rw [show ((kk : Int)).toNat = kk from by omega] at hcell
     have HC1 := ak (Kd.C_below hC1 HB.out)
     clear hC1
     generalize rd_L10 l0 (kk : Int) = x1 at hx HLL hcell HC1 hc1
     generalize (l0.take kk).flatten = acc at HO hx HLL
     have hltz : (kk : Int) < (l0.length : Int) := by omega
     go_wp2_with (((with_reducible refine gate_builtin (b := .append) (xs := #[.tmp 31, .tmp 32]) rfl ?_); at_builtin; refine Kd.R_append_rows (Kd.int .u8) (w0 := w) w.heap.size rfl (.tmp 31) (.tmp 32) 25 5 (.int .u8 0) 1 rfl Try.underlying25 info5 rfl (by decide) (by omega) _ acc x1 _ _ _ (fun _ => True) (fun _ => False) rfl rfl ?aO ?aR (fun _ _ h => h) (fun _ h => h.elim) ?aF ?aB ?aS ?aL ?_; (case aR => repeat (first | exact HC1.out | (with_reducible refine Kd.C_alloc ?_ _) | (with_reducible refine Kd.C_drewN ?_ _) | (with_reducible refine Kd.C_drew ?_))); (case aB => exact (bw HB.out)); (case aF => exact (fun _ _ => trivial)); (case aO => exact (rw_ HO.out)); (case aS => exact (below_size (bw HB.out))); (case aL => have := HLL.out; omega); intro v114 w5 ho hb hg hat; replace HB := ak (hb); have HO115 := ak (ho); clear HO; clear ho hb hg hat))
     go_roundg (l0.length - (kk + 1))
     case measure => omega
     case rel => exact ⟨kk + 1, by omega, by omega, by go_num, ⟨by rw [hx.out]; exact HO115.out⟩, HB⟩
    ·have : kk = l0.length := by omega
     subst this
     go_wp2
     go_ret
     refine ⟨_, rfl, ?_, HB.out⟩
     have := HO.out
     rw [List.take_of_length_le (Nat.le_refl _)] at this
     exact this

/-! ### impl_Name_wire: function 156 -/
def impl_Name_wire.l0 : Nat → List Int → List (List Int) → Int → Int → Option (List Int)
 | 0, _, _, _, _ => none
 | k + 1, x3, x8, x9, x10 => if x10 < x9 then (if 0 ≤ x10 then (if x10 < (x8.length : Int) then (if x3.length < 140737488355328 then ((some (x3 ++ [(((rd_L10 x8 x10).length : Int)) % 256] : List Int)).bind fun y106 => (if y106.length + (rd_L10 x8 x10).length < 140737488355328 then (impl_Name_wire.l0 k (y106 ++ (rd_L10 x8 x10)) x8 x9 (wrap64 (x10 + 1))) else (none))) else (none)) else (none)) else (none)) else (if x3.length < 140737488355328 then (some (x3 ++ [0])) else (none))
def impl_Name_wire.f (k : Nat) (l0_0 : List (List Int)) : Option (List Int) := impl_Name_wire.l0 k (([] : List Int)) l0_0 (l0_0.length : Int) 0
set_option maxHeartbeats 8000000 in
set_option maxRecDepth 100000 in
theorem impl_Name_wire.calls (k : Nat) (A0_0 : Option Addr) (c0_0 : Nat) (l0_0 : List (List Int)) (r : List Int) (w : World) (hr0_0 : Kd.C (Kd.slice 5 (Kd.int .u8)) w A0_0 l0_0.length l0_0) (hc0_0 : l0_0.length ≤ c0_0) (h : impl_Name_wire.f k l0_0 = some r) :
  Calls Try.prog 156 #[.agg #[.slice A0_0 l0_0.length c0_0]] w fun e w' => ∃ v0_ : Value, e = .returned (v0_) ∧ Kd.R (Kd.int .u8) 5 w' w.heap.size (fun _ => True) v0_ r ∧ Below w.heap.size w w' := by
 have hu31 := Try.underlying31
 have HR0_0 := ak hr0_0
 have HC0_0 := ak hc0_0
 clear hr0_0 hc0_0
 have HB := ak (Below.refl w.heap.size w)
 have H : (impl_Name_wire.l0 k (([] : List Int)) l0_0 (l0_0.length : Int) 0) = some r := h
 clear h
 replace H : ∃ y102 : List Int, y102 = (([] : List Int)) ∧ (impl_Name_wire.l0 k y102 l0_0 (l0_0.length : Int) 0) = some r := ⟨_, rfl, H⟩
 obtain ⟨y102, hy102, H⟩ := H
 have Ny102 := ak hy102
 clear hy102
 have H' := ak H
 clear H
 go_enter Try.func156, Try.ntmps156
 go_wp2_with (first | ((with_reducible refine gate_dst (N := 1) rfl ?_);refine bxd (N := 1) rfl HB ?_;clear HB;intro gb101 w2 hg HB BK101 GE101 hb;have GW101 := GE101;clear hb hg) | ((with_reducible refine gate_dst (N := 6) rfl ?_);refine Kd.R_lit (Kd.int .u8) _ 5 ?hg (N := 6) ?hd (xs := ([] : List Int)) (inner := []) (ok := fun _ => True) (okp := fun _ => True) ?hr ?hp (fun _ hk => hk) trivial (Below.refl _ _) (Nat.le_refl _) (by simp) ?_;(case hd => rfl);(case hg => rfl);(case hr => first | (go_simp; done) | (go_simp; rfl));(case hp => exact (Reps.none _ _));intro v103 w3 ho4 hb hg_ hnew_;clear hg_ hnew_;(first | rw [← Ny102.out] at ho4 | (simp only [Int.reduceToNat] at ho4; rw [← Ny102.out] at ho4));have HO104 := ak (Kd.R_lower ho4 (below_size bs));replace BK101 := b1 BK101 hb;replace HB := b2s bs hb;clear hb ho4;obtain ⟨hcz5_0, hfz5_0⟩ := cells1 BK101.out))
 go_loopg [3, 10] k (fun kq v3 v10 w' => ∃ (x3_1 : List Int) (x10_1 : Int), v10 = .int .i64 x10_1 ∧ Aside0 (impl_Name_wire.l0 kq x3_1 l0_0 (l0_0.length : Int) x10_1 = some r) ∧ Aside0 (kq ≤ k) ∧ Aside0 (Kd.R (Kd.int .u8) 5 w' w.heap.size (fun _ => True) v3 x3_1) ∧ Aside0 (w'.heap[gb101]? = some (.cells #[(.slice A0_0 l0_0.length c0_0)] 31 (0, 0))) ∧ Aside0 (Below w.heap.size w w'))
 case atStart => exact ⟨(y102), (0), o2, H', ⟨Nat.le_refl _⟩, ⟨rw_ HO104.out⟩, ⟨bk BK101.out⟩, ⟨bs⟩⟩
 case round =>
  clear H'
  (try clear hcz5_0)
  (try clear hfz5_0)
  obtain ⟨x3_1, x10_1, rfl, HA, HK1, HO_3, BK101, HB⟩ := hrel
  cases gk with
  | zero => exact absurd HA.out (by simp [impl_Name_wire.l0])
  | succ k1 =>
   have H := HA.out
   clear HA
   simp only [impl_Name_wire.l0] at H
   replace H := ip H
   obtain ⟨c6b0, H⟩ | ⟨c6b0, H⟩ := H
   ·replace H := ipN H
    obtain ⟨c7b0, H⟩ := H
    replace H := ipN H
    obtain ⟨c8b0, H⟩ := H
    by_cases c9 : x3_1.length < 140737488355328
    ·rw [if_pos c9] at H
     have LMc9 := ak c9
     clear c9
     obtain ⟨y106, hy106⟩ : ∃ y_ : List Int, y_ = (x3_1 ++ [(((rd_L10 l0_0 x10_1).length : Int)) % 256]) := ⟨_, rfl⟩
     (try with_reducible replace H := bnS H)
     (try rw [← hy106] at H)
     have Ny106 := ak hy106
     clear hy106
     by_cases c10 : y106.length + (rd_L10 l0_0 x10_1).length < 140737488355328
     ·rw [if_pos c10] at H
      have LMc10 := ak c10
      clear c10
      obtain ⟨y109, hy109⟩ : ∃ y_ : List Int, y_ = (y106 ++ (rd_L10 l0_0 x10_1)) := ⟨_, rfl⟩
      (try with_reducible replace H := bnS H)
      (try rw [← hy109] at H)
      have Ny109 := ak hy109
      clear hy109
      have H' := ak H
      clear H
      obtain ⟨ad105, A105_0, c105_0, rfl, hx105_0, HC105_0, HR105_0, p105, q105⟩ := el_L10 HR0_0 HB x10_1
      go_wp2_with (first | ((with_reducible refine gate_builtin (b := .append) (xs := #[.tmp 14, .tmp 18]) rfl ?_);at_builtin;refine Kd.R_append (Kd.int .u8) (w0 := w) w.heap.size rfl (.tmp 14) (.tmp 18) 25 5 (.int .u8 0) 1 rfl Try.underlying25 info5 rfl (by decide) (by omega) u3 x3_1 ((((rd_L10 l0_0 x10_1).length : Int)) % 256) [.int .u8 ((((rd_L10 l0_0 x10_1).length : Int)) % 256)] (fun _ => True) (fun _ => False) rfl rfl ?aP (fun _ hk => hk.elim) ?aF ?aO ?aB ?aS ?aL ?_;(case aP => exact rfl);(case aB => exact bs);(case aF => exact (fun _ _ => trivial));(case aO => exact (rw_ HO_3.out));(case aS => exact (below_size bs));(case aL => have := LMc9.out; omega);intro v107 w11 ho hb hg hat;rw [← Ny106.out] at ho;replace BK101 := ak (blk_grown (bk BK101.out) hg (Kd.R_ne HO_3.out BK101.out (by decide)));replace HB := ak (hb);have HO108 := ak (ho);clear HO_3;clear ho hb hg hat) | ((with_reducible refine gate_builtin (b := .append) (xs := #[.tmp 19, .tmp 20]) rfl ?_);at_builtin;refine Kd.R_append_rows (Kd.int .u8) (w0 := w) w.heap.size rfl (.tmp 19) (.tmp 20) 25 5 (.int .u8 0) 1 rfl Try.underlying25 info5 rfl (by decide) (by omega) v107 y106 (rd_L10 l0_0 x10_1) _ _ _ (fun _ => True) (fun _ => False) rfl rfl ?aO ?aR (fun _ _ h => h) (fun _ h => h.elim) ?aF ?aB ?aS ?aL ?_;(case aR => exact cw HR105_0.out HB.out);(case aB => exact bs);(case aF => exact (fun _ _ => trivial));(case aO => exact (rw_ HO108.out));(case aS => exact (below_size bs));(case aL => have := LMc10.out; omega);intro v110 w12 ho hb hg hat;rw [← Ny109.out] at ho;replace BK101 := ak (blk_grown (bk BK101.out) hg (Kd.R_ne HO108.out BK101.out (by decide)));replace HB := ak (hb);have HO111 := ak (ho);clear HO108;clear ho hb hg hat))
      go_roundg k1
      case measure => have := HK1.out; omega
      case rel => exact ⟨(y109), (wrap64 (x10_1 + 1)), o2, H', ⟨by have := HK1.out; omega⟩, ⟨rw_ HO111.out⟩, ⟨bk BK101.out⟩, ⟨bs⟩⟩
     ·rw [if_neg c10] at H
      exact absurd H (by simp)
    ·rw [if_neg c9] at H
     exact absurd H (by simp)
   ·by_cases c13 : x3_1.length < 140737488355328
    ·rw [if_pos c13] at H
     have LMc13 := ak c13
     clear c13
     obtain ⟨y112, hy112⟩ : ∃ y_ : List Int, y_ = (x3_1 ++ [0]) := ⟨_, rfl⟩
     (try with_reducible replace H := bnS H)
     (try rw [← hy112] at H)
     have Ny112 := ak hy112
     clear hy112
     obtain rfl := Option.some.inj H
     go_wp2_with (((with_reducible refine gate_builtin (b := .append) (xs := #[.tmp 23, .tmp 24]) rfl ?_);at_builtin;refine Kd.R_append (Kd.int .u8) (w0 := w) w.heap.size rfl (.tmp 23) (.tmp 24) 25 5 (.int .u8 0) 1 rfl Try.underlying25 info5 rfl (by decide) (by omega) u3 x3_1 0 [.int .u8 0] (fun _ => True) (fun _ => False) rfl rfl ?aP (fun _ hk => hk.elim) ?aF ?aO ?aB ?aS ?aL ?_;(case aP => exact rfl);(case aB => exact bs);(case aF => exact (fun _ _ => trivial));(case aO => exact (rw_ HO_3.out));(case aS => exact (below_size bs));(case aL => have := LMc13.out; omega);intro v113 w14 ho hb hg hat;rw [← Ny112.out] at ho;replace BK101 := ak (blk_grown (bk BK101.out) hg (Kd.R_ne HO_3.out BK101.out (by decide)));replace HB := ak (hb);have HO114 := ak (ho);clear HO_3;clear ho hb hg hat))
     go_ret
     exact ⟨_, o1, rw_ HO114.out, bs⟩
    ·rw [if_neg c13] at H
     exact absurd H (by simp)

/-! ### impl_two: function 200 -/
def impl_two.f (a0 : Int) : Option (List Int) := some (([(a0 / 256) % 256, (a0) % 256] : List Int))
set_option maxHeartbeats 8000000 in
set_option maxRecDepth 100000 in
theorem impl_two.calls (a0 : Int) (r : List Int) (w : World) (h : impl_two.f a0 = some r) :
  Calls Try.prog 200 #[.int .i64 a0] w fun e w' => ∃ v0_ : Value, e = .returned (v0_) ∧ Kd.R (Kd.int .u8) 5 w' w.heap.size (fun _ => True) v0_ r ∧ Below w.heap.size w w' := by
 have HB := ak (Below.refl w.heap.size w)
 have H : (some (([(a0 / 256) % 256, (a0) % 256] : List Int))) = some r := h
 clear h
 obtain ⟨y101, hy101⟩ : ∃ y_ : List Int, y_ = (([(a0 / 256) % 256, (a0) % 256] : List Int)) := ⟨_, rfl⟩
 (try with_reducible replace H := bnS H)
 (try rw [← hy101] at H)
 have Ny101 := ak hy101
 clear hy101
 obtain rfl := Option.some.inj H
 go_enter Try.func200, Try.ntmps200
 go_wp2_with (((with_reducible refine gate_dst (N := 8) rfl ?_);refine Kd.R_lit (Kd.int .u8) _ 5 ?hg (N := 8) ?hd (xs := ([(a0 / 256) % 256, (a0) % 256] : List Int)) (inner := [.int .u8 ((a0 / 256) % 256), .int .u8 ((a0) % 256)]) (ok := fun _ => True) (okp := fun _ => True) ?hr ?hp (fun _ hk => hk) trivial (Below.refl _ _) (Nat.le_refl _) (by simp) ?_;(case hd => rfl);(case hg => rfl);(case hr => first | (go_simp; done) | (go_simp; rfl));(case hp => exact (Reps.one (show Kd.M (Kd.int .u8) _ _ _ ((a0 / 256) % 256) [.int .u8 ((a0 / 256) % 256)] from rfl) (Reps.one (show Kd.M (Kd.int .u8) _ _ _ ((a0) % 256) [.int .u8 ((a0) % 256)] from rfl) (Reps.none _ _))));intro v102 w2 ho3 hb hg_ hnew_;clear hg_ hnew_;(first | rw [← Ny101.out] at ho3 | (simp only [Int.reduceToNat] at ho3; rw [← Ny101.out] at ho3));have HO103 := ak (Kd.R_lower ho3 (below_size (bw HB.out)));replace HB := b2 HB hb;clear hb ho3))
 go_ret
 exact ⟨_, o1, rw_ HO103.out, bw HB.out⟩

/-! ### impl_four: function 149 -/
def impl_four.f (a0 : Int) : Option (List Int) := (impl_two.f (a0 / 65536)).bind fun t101 => ((impl_two.f a0).bind fun t104 => (if t101.length + t104.length < 140737488355328 then (some (t101 ++ t104)) else (none)))
set_option maxHeartbeats 8000000 in
set_option maxRecDepth 100000 in
theorem impl_four.calls (a0 : Int) (r : List Int) (w : World) (h : impl_four.f a0 = some r) :
  Calls Try.prog 149 #[.int .i64 a0] w fun e w' => ∃ v0_ : Value, e = .returned (v0_) ∧ Kd.R (Kd.int .u8) 5 w' w.heap.size (fun _ => True) v0_ r ∧ Below w.heap.size w w' := by
 have HB := ak (Below.refl w.heap.size w)
 have H : ((impl_two.f (a0 / 65536)).bind fun t101 => ((impl_two.f a0).bind fun t104 => (if t101.length + t104.length < 140737488355328 then (some (t101 ++ t104)) else (none)))) = some r := h
 clear h
 replace H := bnd H
 obtain ⟨t101, A2, H⟩ := H
 replace H := bnd H
 obtain ⟨t104, A3, H⟩ := H
 by_cases c4 : t101.length + t104.length < 140737488355328
 ·rw [if_pos c4] at H
  have LMc4 := ak c4
  clear c4
  obtain ⟨y107, hy107⟩ : ∃ y_ : List Int, y_ = (t101 ++ t104) := ⟨_, rfl⟩
  (try with_reducible replace H := bnS H)
  (try rw [← hy107] at H)
  have Ny107 := ak hy107
  clear hy107
  obtain rfl := Option.some.inj H
  go_enter Try.func149, Try.ntmps149
  go_wp2_with (first | ((with_reducible refine gate_callee (f := 200) rfl ?_);refine glG 5 rfl rfl Try.func200 (impl_two.calls (a0 / 65536) t101 _ A2.out) ?_;rintro e w5 ⟨v102, rfl, ho0, hb⟩;refine ⟨_, rfl, ?_⟩;have HO103 := ak (Kd.R_lower ho0 (below_size (bw HB.out)));replace HB := b2 HB hb;(try clear hb);(try clear ho0)) | ((with_reducible refine gate_callee (f := 200) rfl ?_);refine glG 7 rfl rfl Try.func200 (impl_two.calls a0 t104 _ A3.out) ?_;rintro e w6 ⟨v105, rfl, ho0, hb⟩;refine ⟨_, rfl, ?_⟩;have HO106 := ak (Kd.R_lower (Kd.R_new' ho0 (Kd.R_lt (rw_ HO103.out))) (below_size (bw HB.out)));replace HO103 := ak (Kd.R_elder' (rw_ HO103.out) (Kd.R_base ho0) hb);replace HB := b2 HB hb;(try clear hb);(try clear ho0);obtain ⟨Ao8, co8, eo8⟩ := Kd.R_slice HO106.out;subst eo8) | ((with_reducible refine gate_builtin (b := .append) (xs := #[.tmp 5, .tmp 7]) rfl ?_);at_builtin;refine Kd.R_append_rows (Kd.int .u8) (w0 := w) w.heap.size rfl (.tmp 5) (.tmp 7) 25 5 (.int .u8 0) 1 rfl Try.underlying25 info5 rfl (by decide) (by omega) v102 t101 t104 _ _ _ (fun k_ => some k_ ≠ (.slice Ao8 t104.length co8 : Value).ownBlock) (fun _ => False) rfl rfl ?aO ?aR (fun _ _ h => h) (fun _ h => h.elim) ?aF ?aB ?aS ?aL ?_;(case aR => repeat (first | exact (Kd.R_reads' HO106.out).2.2 | (with_reducible refine Kd.C_alloc ?_ _) | (with_reducible refine Kd.C_drewN ?_ _) | (with_reducible refine Kd.C_drew ?_)));(case aB => exact (bw HB.out));(case aF => exact (fun k_ hk => Kd.fresh' (Kd.R_lt (rw_ HO106.out)) k_ hk));(case aO => exact (rw_ (Kd.R_mono HO103.out (fun _ hk => hk.2))));(case aS => exact (below_size (bw HB.out)));(case aL => have := LMc4.out; omega);intro v108 w7 ho hb hg hat;rw [← Ny107.out] at ho;replace HO106 := ak (Kd.R_after (ok := (fun _ => True)) (rw_ HO106.out) hg hat);replace HB := ak (hb);have HO109 := ak (ho);clear HO103;clear ho hb hg hat))
  go_ret
  exact ⟨_, o1, by (with_reducible repeat (first | apply Kd.R_alloc | apply Kd.R_drewN | apply Kd.R_drew)); exact Kd.R_mono HO109.out (fun _ hk => trivial), bw HB.out⟩
 ·rw [if_neg c4] at H
  exact absurd H (by simp)

/-! ### impl_Rr_data: function 144 -/
def impl_Rr_data.l0 : Nat → List Int → List Int → Int → Int → Option (List Int)
 | 0, _, _, _, _ => none
 | k + 1, x3, x21, x22, x23 => if x23 < x22 then (if 0 ≤ x23 then (if x23 < (x21.length : Int) then ((impl_four.f (rd x21 x23)).bind fun t110 => (if x3.length + t110.length < 140737488355328 then (impl_Rr_data.l0 k (x3 ++ t110) x21 x22 (wrap64 (x23 + 1))) else (none))) else (none)) else (none)) else (some x3)
def impl_Rr_data.f (k : Nat) (l0_0 : List (List Int)) (a0_1 : Int) (a0_2 : Int) (a0_3 : Int) (l0_4 : List (List Int)) (l0_5 : List Int) (l0_6 : List Int) : Option (List Int) := if a0_1 = 1 then ((impl_four.f a0_3).bind fun t102 => (some t102)) else ((impl_hasTo.f a0_1).bind fun t105 => (if t105 = true then ((impl_Name_wire.f k l0_4).bind fun t106 => (impl_Rr_data.l0 k t106 l0_6 (l0_6.length : Int) 0)) else ((some (([((l0_5.length : Int)) % 256] : List Int) : List Int)).bind fun y116 => (if y116.length + l0_5.length < 140737488355328 then (some (y116 ++ l0_5)) else (none)))))
set_option maxHeartbeats 8000000 in
set_option maxRecDepth 100000 in
theorem impl_Rr_data.calls (k : Nat) (A0_0 : Option Addr) (c0_0 : Nat) (l0_0 : List (List Int)) (a0_1 : Int) (a0_2 : Int) (a0_3 : Int) (A0_4 : Option Addr) (c0_4 : Nat) (l0_4 : List (List Int)) (A0_5 : Option Addr) (c0_5 : Nat) (l0_5 : List Int) (A0_6 : Option Addr) (c0_6 : Nat) (l0_6 : List Int) (r : List Int) (w : World) (hr0_0 : Kd.C (Kd.slice 5 (Kd.int .u8)) w A0_0 l0_0.length l0_0) (hc0_0 : l0_0.length ≤ c0_0) (hr0_4 : Kd.C (Kd.slice 5 (Kd.int .u8)) w A0_4 l0_4.length l0_4) (hc0_4 : l0_4.length ≤ c0_4) (hr0_5 : Kd.C (Kd.int .u8) w A0_5 l0_5.length l0_5) (hc0_5 : l0_5.length ≤ c0_5) (hr0_6 : Kd.C (Kd.int .i64) w A0_6 l0_6.length l0_6) (hc0_6 : l0_6.length ≤ c0_6) (h : impl_Rr_data.f k l0_0 a0_1 a0_2 a0_3 l0_4 l0_5 l0_6 = some r) :
  Calls Try.prog 144 #[.agg #[.slice A0_0 l0_0.length c0_0, .int .i64 a0_1, .int .i64 a0_2, .int .i64 a0_3, .slice A0_4 l0_4.length c0_4, .slice A0_5 l0_5.length c0_5, .slice A0_6 l0_6.length c0_6]] w fun e w' => ∃ v0_ : Value, e = .returned (v0_) ∧ Kd.R (Kd.int .u8) 5 w' w.heap.size (fun _ => True) v0_ r ∧ Below w.heap.size w w' := by
 have hu33 := Try.underlying33
 have hu31 := Try.underlying31
 have HR0_0 := ak hr0_0
 have HC0_0 := ak hc0_0
 clear hr0_0 hc0_0
 have HR0_4 := ak hr0_4
 have HC0_4 := ak hc0_4
 clear hr0_4 hc0_4
 have HR0_5 := ak hr0_5
 have HC0_5 := ak hc0_5
 clear hr0_5 hc0_5
 have HR0_6 := ak hr0_6
 have HC0_6 := ak hc0_6
 clear hr0_6 hc0_6
 have HB := ak (Below.refl w.heap.size w)
 have H : (if a0_1 = 1 then ((impl_four.f a0_3).bind fun t102 => (some t102)) else ((impl_hasTo.f a0_1).bind fun t105 => (if t105 = true then ((impl_Name_wire.f k l0_4).bind fun t106 => (impl_Rr_data.l0 k t106 l0_6 (l0_6.length : Int) 0)) else ((some (([((l0_5.length : Int)) % 256] : List Int) : List Int)).bind fun y116 => (if y116.length + l0_5.length < 140737488355328 then (some (y116 ++ l0_5)) else (none)))))) = some r := h
 clear h
 replace H := ie H
 obtain ⟨c2b0, c2b1, H⟩ | ⟨c2b0, c2b1, H⟩ := H
 ·replace H := bnd H
  obtain ⟨t102, A3, H⟩ := H
  obtain rfl := Option.some.inj H
  go_enter Try.func144, Try.ntmps144
  go_wp2_with (first | ((with_reducible refine gate_dst (N := 1) rfl ?_);refine bxd (N := 1) rfl HB ?_;clear HB;intro gb101 w4 hg HB BK101 GE101 hb;have GW101 := GE101;clear hb hg;obtain ⟨hcz5_0, hcz5_1, hcz5_2, hcz5_3, hcz5_4, hcz5_5, hcz5_6, hfz5_0, hfz5_1, hfz5_2, hfz5_3, hfz5_4, hfz5_5, hfz5_6⟩ := cells7 BK101.out) | ((with_reducible refine gate_callee (f := 149) rfl ?_);refine glG 12 rfl rfl Try.func149 (impl_four.calls a0_3 t102 _ A3.out) ?_;rintro e w6 ⟨v103, rfl, ho0, hb⟩;refine ⟨_, rfl, ?_⟩;have HO104 := ak (Kd.R_lower ho0 (below_size bs));replace BK101 := b1 BK101 hb;replace HB := b2s bs hb;(try clear hb);(try clear ho0)))
  go_ret
  exact ⟨_, o1, rw_ HO104.out, bs⟩
 ·replace H := bnd H
  obtain ⟨t105, A7, H⟩ := H
  replace H := ib H
  obtain ⟨rfl, H⟩ | ⟨rfl, H⟩ := H
  ·replace H := bnd H
   obtain ⟨t106, A9, H⟩ := H
   have H' := ak H
   clear H
   go_enter Try.func144, Try.ntmps144
   go_wp2_with (first | ((with_reducible refine gate_dst (N := 1) rfl ?_);refine bxd (N := 1) rfl HB ?_;clear HB;intro gb101 w10 hg HB BK101 GE101 hb;have GW101 := GE101;clear hb hg;obtain ⟨hcz11_0, hcz11_1, hcz11_2, hcz11_3, hcz11_4, hcz11_5, hcz11_6, hfz11_0, hfz11_1, hfz11_2, hfz11_3, hfz11_4, hfz11_5, hfz11_6⟩ := cells7 BK101.out) | ((with_reducible refine gate_callee (f := 85) rfl ?_);refine glD 16 rfl rfl Try.func85 (impl_hasTo.calls a0_1 true _ A7.out) (fun nd => ?_)) | ((with_reducible refine gate_callee (f := 156) rfl ?_);refine glG 19 rfl rfl Try.func156 (impl_Name_wire.calls k _ _ l0_4 t106 _ ?side1 HC0_4.out A9.out) ?_;(case side1 => repeat (first | exact (Kd.C_below HR0_4.out bs) | (with_reducible refine Kd.C_alloc ?_ _) | (with_reducible refine Kd.C_drewN ?_ _) | (with_reducible refine Kd.C_drew ?_)));rintro e w12 ⟨v107, rfl, ho0, hb⟩;refine ⟨_, rfl, ?_⟩;have HO108 := ak (Kd.R_lower ho0 (below_size bs));replace BK101 := b1 BK101 hb;replace HB := b2s bs hb;(try clear hb);(try clear ho0);obtain ⟨hcz13_0, hcz13_1, hcz13_2, hcz13_3, hcz13_4, hcz13_5, hcz13_6, hfz13_0, hfz13_1, hfz13_2, hfz13_3, hfz13_4, hfz13_5, hfz13_6⟩ := cells7 BK101.out))
   go_loopg [3, 23] k (fun kq v3 v23 w' => ∃ (x3_1 : List Int) (x23_1 : Int), v23 = .int .i64 x23_1 ∧ Aside0 (impl_Rr_data.l0 kq x3_1 l0_6 (l0_6.length : Int) x23_1 = some r) ∧ Aside0 (kq ≤ k) ∧ Aside0 (Kd.R (Kd.int .u8) 5 w' w.heap.size (fun _ => True) v3 x3_1) ∧ Aside0 (w'.heap[gb101]? = some (.cells #[(.slice A0_0 l0_0.length c0_0), .int .i64 a0_1, .int .i64 a0_2, .int .i64 a0_3, (.slice A0_4 l0_4.length c0_4), (.slice A0_5 l0_5.length c0_5), (.slice A0_6 l0_6.length c0_6)] 33 (0, 0))) ∧ Aside0 (Below w.heap.size w w'))
   case atStart => exact ⟨(t106), (0), o2, H', ⟨Nat.le_refl _⟩, ⟨rw_ HO108.out⟩, ⟨bk BK101.out⟩, ⟨bs⟩⟩
   case round =>
    clear H'
    (try clear c2b0)
    (try clear c2b1)
    (try clear hcz11_0)
    (try clear hcz11_1)
    (try clear hcz11_2)
    (try clear hcz11_3)
    (try clear hcz11_4)
    (try clear hcz11_5)
    (try clear hcz11_6)
    (try clear hcz13_0)
    (try clear hcz13_1)
    (try clear hcz13_2)
    (try clear hcz13_3)
    (try clear hcz13_4)
    (try clear hcz13_5)
    (try clear hcz13_6)
    (try clear hfz11_0)
    (try clear hfz11_1)
    (try clear hfz11_2)
    (try clear hfz11_3)
    (try clear hfz11_4)
    (try clear hfz11_5)
    (try clear hfz11_6)
    (try clear hfz13_0)
    (try clear hfz13_1)
    (try clear hfz13_2)
    (try clear hfz13_3)
    (try clear hfz13_4)
    (try clear hfz13_5)
    (try clear hfz13_6)
    obtain ⟨x3_1, x23_1, rfl, HA, HK1, HO_3, BK101, HB⟩ := hrel
    cases gk with
    | zero => exact absurd HA.out (by simp [impl_Rr_data.l0])
    | succ k1 =>
     have H := HA.out
     clear HA
     simp only [impl_Rr_data.l0] at H
     replace H := ip H
     obtain ⟨c14b0, H⟩ | ⟨c14b0, H⟩ := H
     ·replace H := ipN H
      obtain ⟨c15b0, H⟩ := H
      replace H := ipN H
      obtain ⟨c16b0, H⟩ := H
      replace H := bnd H
      obtain ⟨t110, A17, H⟩ := H
      by_cases c18 : x3_1.length + t110.length < 140737488355328
      ·rw [if_pos c18] at H
       have LMc18 := ak c18
       clear c18
       obtain ⟨y113, hy113⟩ : ∃ y_ : List Int, y_ = (x3_1 ++ t110) := ⟨_, rfl⟩
       (try with_reducible replace H := bnS H)
       (try rw [← hy113] at H)
       have Ny113 := ak hy113
       clear hy113
       have H' := ak H
       clear H
       obtain ⟨ad109, rfl, hx109_0, p109, q109⟩ := el_int HR0_6 HB x23_1
       go_wp2_with (first | ((with_reducible refine gate_callee (f := 149) rfl ?_);refine glG 29 rfl rfl Try.func149 (impl_four.calls (rd l0_6 x23_1) t110 _ A17.out) ?_;rintro e w19 ⟨v111, rfl, ho0, hb⟩;refine ⟨_, rfl, ?_⟩;have HO112 := ak (Kd.R_lower (Kd.R_new' ho0 (Kd.R_lt (rw_ HO_3.out))) (below_size bs));replace HO_3 := ak (Kd.R_elder' (rw_ HO_3.out) (Kd.R_base ho0) hb);replace BK101 := b1 BK101 hb;replace HB := b2s bs hb;(try clear hb);(try clear ho0);obtain ⟨Ao21, co21, eo21⟩ := Kd.R_slice HO112.out;subst eo21) | ((with_reducible refine gate_builtin (b := .append) (xs := #[.tmp 27, .tmp 29]) rfl ?_);at_builtin;refine Kd.R_append_rows (Kd.int .u8) (w0 := w) w.heap.size rfl (.tmp 27) (.tmp 29) 25 5 (.int .u8 0) 1 rfl Try.underlying25 info5 rfl (by decide) (by omega) u3 x3_1 t110 _ _ _ (fun k_ => some k_ ≠ (.slice Ao21 t110.length co21 : Value).ownBlock) (fun _ => False) rfl rfl ?aO ?aR (fun _ _ h => h) (fun _ h => h.elim) ?aF ?aB ?aS ?aL ?_;(case aR => repeat (first | exact (Kd.R_reads' HO112.out).2.2 | (with_reducible refine Kd.C_alloc ?_ _) | (with_reducible refine Kd.C_drewN ?_ _) | (with_reducible refine Kd.C_drew ?_)));(case aB => exact bs);(case aF => exact (fun k_ hk => Kd.fresh' (Kd.R_lt (rw_ HO112.out)) k_ hk));(case aO => exact (rw_ (Kd.R_mono HO_3.out (fun _ hk => hk.2))));(case aS => exact (below_size bs));(case aL => have := LMc18.out; omega);intro v114 w20 ho hb hg hat;rw [← Ny113.out] at ho;replace BK101 := ak (blk_grown (bk BK101.out) hg (Kd.R_ne HO_3.out BK101.out (by decide)));replace HO112 := ak (Kd.R_after (ok := (fun _ => True)) (rw_ HO112.out) hg hat);replace HB := ak (hb);have HO115 := ak (ho);clear HO_3;clear ho hb hg hat))
       go_roundg k1
       case measure => have := HK1.out; omega
       case rel => exact ⟨(y113), (wrap64 (x23_1 + 1)), o2, H', ⟨by have := HK1.out; omega⟩, ⟨by (with_reducible repeat (first | apply Kd.R_alloc | apply Kd.R_drewN | apply Kd.R_drew)); exact Kd.R_mono HO115.out (fun _ hk => trivial)⟩, ⟨bk BK101.out⟩, ⟨bs⟩⟩
      ·rw [if_neg c18] at H
       exact absurd H (by simp)
     ·obtain rfl := Option.some.inj H
      go_wp2
      go_ret
      exact ⟨_, o1, rw_ HO_3.out, bs⟩
  ·obtain ⟨y116, hy116⟩ : ∃ y_ : List Int, y_ = (([((l0_5.length : Int)) % 256] : List Int)) := ⟨_, rfl⟩
   (try with_reducible replace H := bnS H)
   (try rw [← hy116] at H)
   have Ny116 := ak hy116
   clear hy116
   by_cases c22 : y116.length + l0_5.length < 140737488355328
   ·rw [if_pos c22] at H
    have LMc22 := ak c22
    clear c22
    obtain ⟨y119, hy119⟩ : ∃ y_ : List Int, y_ = (y116 ++ l0_5) := ⟨_, rfl⟩
    (try with_reducible replace H := bnS H)
    (try rw [← hy119] at H)
    have Ny119 := ak hy119
    clear hy119
    obtain rfl := Option.some.inj H
    go_enter Try.func144, Try.ntmps144
    go_wp2_with (first | ((with_reducible refine gate_dst (N := 1) rfl ?_);refine bxd (N := 1) rfl HB ?_;clear HB;intro gb101 w23 hg HB BK101 GE101 hb;have GW101 := GE101;clear hb hg;obtain ⟨hcz24_0, hcz24_1, hcz24_2, hcz24_3, hcz24_4, hcz24_5, hcz24_6, hfz24_0, hfz24_1, hfz24_2, hfz24_3, hfz24_4, hfz24_5, hfz24_6⟩ := cells7 BK101.out) | ((with_reducible refine gate_callee (f := 85) rfl ?_);refine glD 16 rfl rfl Try.func85 (impl_hasTo.calls a0_1 false _ A7.out) (fun nd => ?_)) | ((with_reducible refine gate_dst (N := 37) rfl ?_);refine Kd.R_lit (Kd.int .u8) _ 5 ?hg (N := 37) ?hd (xs := ([((l0_5.length : Int)) % 256] : List Int)) (inner := [.int .u8 (((l0_5.length : Int)) % 256)]) (ok := fun _ => True) (okp := fun _ => True) ?hr ?hp (fun _ hk => hk) trivial (Below.refl _ _) (Nat.le_refl _) (by simp) ?_;(case hd => rfl);(case hg => rfl);(case hr => first | (go_simp; done) | (go_simp; rfl));(case hp => exact (Reps.one (show Kd.M (Kd.int .u8) _ _ _ (((l0_5.length : Int)) % 256) [.int .u8 (((l0_5.length : Int)) % 256)] from rfl) (Reps.none _ _)));intro v117 w25 ho26 hb hg_ hnew_;clear hg_ hnew_;(first | rw [← Ny116.out] at ho26 | (simp only [Int.reduceToNat] at ho26; rw [← Ny116.out] at ho26));have HO118 := ak (Kd.R_lower ho26 (below_size bs));replace BK101 := b1 BK101 hb;replace HB := b2s bs hb;clear hb ho26;obtain ⟨hcz27_0, hcz27_1, hcz27_2, hcz27_3, hcz27_4, hcz27_5, hcz27_6, hfz27_0, hfz27_1, hfz27_2, hfz27_3, hfz27_4, hfz27_5, hfz27_6⟩ := cells7 BK101.out) | ((with_reducible refine gate_builtin (b := .append) (xs := #[.tmp 37, .tmp 39]) rfl ?_);at_builtin;refine Kd.R_append_rows (Kd.int .u8) (w0 := w) w.heap.size rfl (.tmp 37) (.tmp 39) 25 5 (.int .u8 0) 1 rfl Try.underlying25 info5 rfl (by decide) (by omega) v117 y116 l0_5 _ _ _ (fun _ => True) (fun _ => False) rfl rfl ?aO ?aR (fun _ _ h => h) (fun _ h => h.elim) ?aF ?aB ?aS ?aL ?_;(case aR => exact cw HR0_5.out HB.out);(case aB => exact bs);(case aF => exact (fun _ _ => trivial));(case aO => exact (rw_ HO118.out));(case aS => exact (below_size bs));(case aL => have := LMc22.out; omega);intro v120 w28 ho hb hg hat;rw [← Ny119.out] at ho;replace BK101 := ak (blk_grown (bk BK101.out) hg (Kd.R_ne HO118.out BK101.out (by decide)));replace HB := ak (hb);have HO121 := ak (ho);clear HO118;clear ho hb hg hat))
    go_ret
    exact ⟨_, o1, rw_ HO121.out, bs⟩
   ·rw [if_neg c22] at H
    exact absurd H (by simp)

end Go.Proofs.Ytagedmajlppohaa.Q
