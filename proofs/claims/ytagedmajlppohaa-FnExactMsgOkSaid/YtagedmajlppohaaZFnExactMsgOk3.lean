/- Printed by a program of this session (wip/myprint.py), which drives the kit's printer: functions and what their calls do. -/
import Derived.Test.YtagedmajlppohaaZFnExactMsgOk0
import Derived.Test.YtagedmajlppohaaZFnExactMsgOk1
import Derived.Test.YtagedmajlppohaaZFnExactMsgOk2
import Derived.Lib.Bytealg
namespace Go.Proofs.Ytagedmajlppohaa.Q
open Go.RowKit Go Go.Proofs.YtagedmajlppohaaW.PrintWords Go.Proofs.YtagedmajlppohaaW.PrintLast Go.Proofs.YtagedmajlppohaaW.PrintMore

set_option linter.unusedVariables false
set_option linter.unusedSimpArgs false

/-! ### impl_recordBytes: function 228 -/
def impl_recordBytes.f (k : Nat) (l0_0 : List (List Int)) (a1 : Int) (a2 : Int) (a3 : Int) (l4 : List Int) : Option (List Int) := (impl_Name_wire.f k l0_0).bind fun t102 => ((impl_two.f a1).bind fun t105 => ((impl_two.f a2).bind fun t108 => ((impl_four.f a3).bind fun t111 => ((impl_two.f (l4.length : Int)).bind fun t114 => ((slices_Concat_byte_byte.f (([t102, t105, t108, t111, t114, l4] : List (List Int)))).bind fun t120 => (some t120))))))
set_option maxHeartbeats 8000000 in
set_option maxRecDepth 100000 in
theorem impl_recordBytes.calls (k : Nat) (A0_0 : Option Addr) (c0_0 : Nat) (l0_0 : List (List Int)) (a1 : Int) (a2 : Int) (a3 : Int) (P4_ : Nat → Prop) (A4 : Option Addr) (c4 : Nat) (l4 : List Int) (r : List Int) (w : World) (hr0_0 : Kd.C (Kd.slice 5 (Kd.int .u8)) w A0_0 l0_0.length l0_0) (hc0_0 : l0_0.length ≤ c0_0) (hs4 : Kd.V (Kd.int .u8) 5 w w.heap.size (fun k_ => P4_ k_) (.slice A4 l4.length c4) l4) (h : impl_recordBytes.f k l0_0 a1 a2 a3 l4 = some r) :
  Calls Try.prog 228 #[.agg #[.slice A0_0 l0_0.length c0_0], .int .i64 a1, .int .i64 a2, .int .i64 a3, .slice A4 l4.length c4] w fun e w' => ∃ v0_ : Value, e = .returned (v0_) ∧ Kd.R (Kd.int .u8) 5 w' w.heap.size (fun k_ => (w.heap.size ≤ k_)) v0_ r ∧ Below w.heap.size w w' := by
 have hu31 := Try.underlying31
 have HR0_0 := ak hr0_0
 have HC0_0 := ak hc0_0
 clear hr0_0 hc0_0
 have HO4 := ak (show Kd.V (Kd.int .u8) 5 w w.heap.size (fun k_ => (P4_ k_ ∨ w.heap.size ≤ k_)) (.slice A4 l4.length c4) l4 from Kd.V_mono hs4 (fun k_ hk => .inl hk))
 have HB := ak (Below.refl w.heap.size w)
 have H : ((impl_Name_wire.f k l0_0).bind fun t102 => ((impl_two.f a1).bind fun t105 => ((impl_two.f a2).bind fun t108 => ((impl_four.f a3).bind fun t111 => ((impl_two.f (l4.length : Int)).bind fun t114 => ((slices_Concat_byte_byte.f (([t102, t105, t108, t111, t114, l4] : List (List Int)))).bind fun t120 => (some t120))))))) = some r := h
 clear h
 replace H := bnd H
 obtain ⟨t102, A6, H⟩ := H
 replace H := bnd H
 obtain ⟨t105, A7, H⟩ := H
 replace H := bnd H
 obtain ⟨t108, A8, H⟩ := H
 replace H := bnd H
 obtain ⟨t111, A9, H⟩ := H
 replace H := bnd H
 obtain ⟨t114, A10, H⟩ := H
 obtain ⟨y117, hy117⟩ : ∃ y_ : List (List Int), y_ = (([t102, t105, t108, t111, t114, l4] : List (List Int))) := ⟨_, rfl⟩
 (try with_reducible replace H := bnS H)
 (try rw [← hy117] at H)
 have Ny117 := ak hy117
 clear hy117
 replace H := bnd H
 obtain ⟨t120, A11, H⟩ := H
 obtain rfl := Option.some.inj H
 go_enter Try.func228, Try.ntmps228
 go_wp2_with (first | ((with_reducible refine gate_dst (N := 5) rfl ?_);refine bxe (N := 5) rfl ?_;intro gb101 hg w12 hbox hb;replace HO4 := ak (Kd.V_below (Kd.V_elderB (vw HO4.out) gb101 (Nat.le_of_eq hg.symm)) hb);have BK101 := ak (hbox);have GW101 := b3 hg HB;have GE101 := GW101;replace HB := b2 HB hb;clear hb hbox hg;obtain ⟨hcz13_0, hfz13_0⟩ := cells1 BK101.out) | ((with_reducible refine gate_callee (f := 156) rfl ?_);refine glG 12 rfl rfl Try.func156 (impl_Name_wire.calls k _ _ l0_0 t102 _ (cv HR0_0 HB) HC0_0.out A6.out) ?_;rintro e w14 ⟨v103, rfl, ho0, hb⟩;refine ⟨_, rfl, ?_⟩;replace HO4 := ak (Kd.V_elder' (vw HO4.out) (Kd.R_base ho0) hb);have HO104 := ak (Kd.R_lower (Kd.R_newM (M := fun k_ => (w.heap.size ≤ k_)) ho0 (below_size bs) (fun k_ h_ => h_)) (below_size bs));replace BK101 := b1 BK101 hb;replace HB := b2s bs hb;(try clear hb);(try clear hb2);(try clear hk);(try clear hi);(try clear ho0)) | ((with_reducible refine gate_callee (f := 200) rfl ?_);refine glG 14 rfl rfl Try.func200 (impl_two.calls a1 t105 _ A7.out) ?_;rintro e w15 ⟨v106, rfl, ho0, hb⟩;refine ⟨_, rfl, ?_⟩;replace HO4 := ak (Kd.V_elder' (vw HO4.out) (Kd.R_base ho0) hb);have HO107 := ak (Kd.R_lower (Kd.R_new' (Kd.R_newM (M := fun k_ => (w.heap.size ≤ k_)) ho0 (below_size bs) (fun k_ h_ => h_)) (Kd.R_lt (rw_ HO104.out))) (below_size bs));replace HO104 := ak (Kd.R_elder' (rw_ HO104.out) (Kd.R_base ho0) hb);replace BK101 := b1 BK101 hb;replace HB := b2s bs hb;(try clear hb);(try clear hb2);(try clear hk);(try clear hi);(try clear ho0)) | ((with_reducible refine gate_callee (f := 200) rfl ?_);refine glG 16 rfl rfl Try.func200 (impl_two.calls a2 t108 _ A8.out) ?_;rintro e w16 ⟨v109, rfl, ho0, hb⟩;refine ⟨_, rfl, ?_⟩;replace HO4 := ak (Kd.V_elder' (vw HO4.out) (Kd.R_base ho0) hb);have HO110 := ak (Kd.R_lower (Kd.R_new' (Kd.R_new' (Kd.R_newM (M := fun k_ => (w.heap.size ≤ k_)) ho0 (below_size bs) (fun k_ h_ => h_)) (Kd.R_lt (rw_ HO104.out))) (Kd.R_lt (rw_ HO107.out))) (below_size bs));replace HO104 := ak (Kd.R_elder' (rw_ HO104.out) (Kd.R_base ho0) hb);replace HO107 := ak (Kd.R_elder' (rw_ HO107.out) (Kd.R_base ho0) hb);replace BK101 := b1 BK101 hb;replace HB := b2s bs hb;(try clear hb);(try clear hb2);(try clear hk);(try clear hi);(try clear ho0)) | ((with_reducible refine gate_callee (f := 149) rfl ?_);refine glG 18 rfl rfl Try.func149 (impl_four.calls a3 t111 _ A9.out) ?_;rintro e w17 ⟨v112, rfl, ho0, hb⟩;refine ⟨_, rfl, ?_⟩;replace HO4 := ak (Kd.V_elder' (vw HO4.out) (Kd.R_base ho0) hb);have HO113 := ak (Kd.R_lower (Kd.R_new' (Kd.R_new' (Kd.R_new' (Kd.R_newM (M := fun k_ => (w.heap.size ≤ k_)) ho0 (below_size bs) (fun k_ h_ => h_)) (Kd.R_lt (rw_ HO104.out))) (Kd.R_lt (rw_ HO107.out))) (Kd.R_lt (rw_ HO110.out))) (below_size bs));replace HO104 := ak (Kd.R_elder' (rw_ HO104.out) (Kd.R_base ho0) hb);replace HO107 := ak (Kd.R_elder' (rw_ HO107.out) (Kd.R_base ho0) hb);replace HO110 := ak (Kd.R_elder' (rw_ HO110.out) (Kd.R_base ho0) hb);replace BK101 := b1 BK101 hb;replace HB := b2s bs hb;(try clear hb);(try clear hb2);(try clear hk);(try clear hi);(try clear ho0)) | ((with_reducible refine gate_callee (f := 200) rfl ?_);refine glG 21 rfl rfl Try.func200 (impl_two.calls (l4.length : Int) t114 _ A10.out) ?_;rintro e w18 ⟨v115, rfl, ho0, hb⟩;refine ⟨_, rfl, ?_⟩;replace HO4 := ak (Kd.V_elder' (vw HO4.out) (Kd.R_base ho0) hb);have HO116 := ak (Kd.R_lower (Kd.R_new' (Kd.R_new' (Kd.R_new' (Kd.R_new' (Kd.R_newM (M := fun k_ => (w.heap.size ≤ k_)) ho0 (below_size bs) (fun k_ h_ => h_)) (Kd.R_lt (rw_ HO104.out))) (Kd.R_lt (rw_ HO107.out))) (Kd.R_lt (rw_ HO110.out))) (Kd.R_lt (rw_ HO113.out))) (below_size bs));replace HO104 := ak (Kd.R_elder' (rw_ HO104.out) (Kd.R_base ho0) hb);replace HO107 := ak (Kd.R_elder' (rw_ HO107.out) (Kd.R_base ho0) hb);replace HO110 := ak (Kd.R_elder' (rw_ HO110.out) (Kd.R_base ho0) hb);replace HO113 := ak (Kd.R_elder' (rw_ HO113.out) (Kd.R_base ho0) hb);replace BK101 := b1 BK101 hb;replace HB := b2s bs hb;(try clear hb);(try clear hb2);(try clear hk);(try clear hi);(try clear ho0);obtain ⟨Ao19, co19, eo19⟩ := Kd.R_slice HO104.out;subst eo19;obtain ⟨Ao20, co20, eo20⟩ := Kd.R_slice HO107.out;subst eo20;obtain ⟨Ao21, co21, eo21⟩ := Kd.R_slice HO110.out;subst eo21;obtain ⟨Ao22, co22, eo22⟩ := Kd.R_slice HO113.out;subst eo22;obtain ⟨Ao23, co23, eo23⟩ := Kd.R_slice HO116.out;subst eo23) | ((with_reducible refine gate_dst (N := 23) rfl ?_);refine Kd.N_lit (Kd.slice 5 (Kd.int .u8)) _ 25 ?hg (N' := 23) ?hd (xs := ([t102, t105, t108, t111, t114, l4] : List (List Int))) (inner := [.slice Ao19 t102.length co19, .slice Ao20 t105.length co20, .slice Ao21 t108.length co21, .slice Ao22 t111.length co22, .slice Ao23 t114.length co23, .slice A4 l4.length c4]) (ok := (fun k_ => (P4_ k_ ∨ w.heap.size ≤ k_) ∧ k_ ≠ gb101)) (okp := (fun k_ => (P4_ k_ ∨ w.heap.size ≤ k_) ∧ k_ ≠ gb101)) ?hr ?hp (fun _ hk => hk) ((show ∀ k_, w18.heap.size ≤ k_ → (fun k_ => (P4_ k_ ∨ w.heap.size ≤ k_) ∧ k_ ≠ gb101) k_ from fun k_ hk => ⟨(.inr (Nat.le_trans (below_size bs) hk)), Kd.freshB (g := gb101) (o := .cells #[.slice A0_0 l0_0.length c0_0] 31 (0, 0)) (bk BK101.out) k_ hk⟩) _ (Nat.le_refl _)) (Below.refl _ _) (Nat.le_refl _) (by simp) ?_;(case hd => rfl);(case hg => rfl);(case hr => first | (go_simp; done) | (go_simp; rfl));(case hp => exact (Reps.one (show Kd.FK (Kd.slice 5 (Kd.int .u8)) _ _ t102 [.slice Ao19 t102.length co19] from (Kd.FK_slice_mk (Kd.R_reads' (Kd.R_mono (ok' := (fun k_ => (P4_ k_ ∨ w.heap.size ≤ k_) ∧ k_ ≠ gb101)) (Kd.R_types (HO104.out) BK101.out (by decide)) (fun k_ hk => ⟨(.inr (hk.1.1.1.1.1.1)), hk.2⟩))).2.1 (Kd.R_F (Kd.R_mono (ok' := (fun k_ => (P4_ k_ ∨ w.heap.size ≤ k_) ∧ k_ ≠ gb101)) (Kd.R_types (HO104.out) BK101.out (by decide)) (fun k_ hk => ⟨(.inr (hk.1.1.1.1.1.1)), hk.2⟩))))) (Reps.one (show Kd.FK (Kd.slice 5 (Kd.int .u8)) _ _ t105 [.slice Ao20 t105.length co20] from (Kd.FK_slice_mk (Kd.R_reads' (Kd.R_mono (ok' := (fun k_ => (P4_ k_ ∨ w.heap.size ≤ k_) ∧ k_ ≠ gb101)) (Kd.R_types (HO107.out) BK101.out (by decide)) (fun k_ hk => ⟨(.inr (hk.1.1.1.1.1.1)), hk.2⟩))).2.1 (Kd.R_F (Kd.R_mono (ok' := (fun k_ => (P4_ k_ ∨ w.heap.size ≤ k_) ∧ k_ ≠ gb101)) (Kd.R_types (HO107.out) BK101.out (by decide)) (fun k_ hk => ⟨(.inr (hk.1.1.1.1.1.1)), hk.2⟩))))) (Reps.one (show Kd.FK (Kd.slice 5 (Kd.int .u8)) _ _ t108 [.slice Ao21 t108.length co21] from (Kd.FK_slice_mk (Kd.R_reads' (Kd.R_mono (ok' := (fun k_ => (P4_ k_ ∨ w.heap.size ≤ k_) ∧ k_ ≠ gb101)) (Kd.R_types (HO110.out) BK101.out (by decide)) (fun k_ hk => ⟨(.inr (hk.1.1.1.1.1.1)), hk.2⟩))).2.1 (Kd.R_F (Kd.R_mono (ok' := (fun k_ => (P4_ k_ ∨ w.heap.size ≤ k_) ∧ k_ ≠ gb101)) (Kd.R_types (HO110.out) BK101.out (by decide)) (fun k_ hk => ⟨(.inr (hk.1.1.1.1.1.1)), hk.2⟩))))) (Reps.one (show Kd.FK (Kd.slice 5 (Kd.int .u8)) _ _ t111 [.slice Ao22 t111.length co22] from (Kd.FK_slice_mk (Kd.R_reads' (Kd.R_mono (ok' := (fun k_ => (P4_ k_ ∨ w.heap.size ≤ k_) ∧ k_ ≠ gb101)) (Kd.R_types (HO113.out) BK101.out (by decide)) (fun k_ hk => ⟨(.inr (hk.1.1.1.1.1.1)), hk.2⟩))).2.1 (Kd.R_F (Kd.R_mono (ok' := (fun k_ => (P4_ k_ ∨ w.heap.size ≤ k_) ∧ k_ ≠ gb101)) (Kd.R_types (HO113.out) BK101.out (by decide)) (fun k_ hk => ⟨(.inr (hk.1.1.1.1.1.1)), hk.2⟩))))) (Reps.one (show Kd.FK (Kd.slice 5 (Kd.int .u8)) _ _ t114 [.slice Ao23 t114.length co23] from (Kd.FK_slice_mk (Kd.R_reads' (Kd.R_mono (ok' := (fun k_ => (P4_ k_ ∨ w.heap.size ≤ k_) ∧ k_ ≠ gb101)) (Kd.R_types (HO116.out) BK101.out (by decide)) (fun k_ hk => ⟨(.inr (hk.1.1.1.1.1.1)), hk.2⟩))).2.1 (Kd.R_F (Kd.R_mono (ok' := (fun k_ => (P4_ k_ ∨ w.heap.size ≤ k_) ∧ k_ ≠ gb101)) (Kd.R_types (HO116.out) BK101.out (by decide)) (fun k_ hk => ⟨(.inr (hk.1.1.1.1.1.1)), hk.2⟩))))) (Reps.one (show Kd.FK (Kd.slice 5 (Kd.int .u8)) _ _ l4 [.slice A4 l4.length c4] from (Kd.FK_slice_mk (Kd.V_reads' (Kd.V_mono (ok' := (fun k_ => (P4_ k_ ∨ w.heap.size ≤ k_) ∧ k_ ≠ gb101)) (HO4.out) (fun k_ hk => ⟨hk.1.1.1.1.1.1, hk.1.1.1.1.1.2⟩))).2.1 (Kd.V_F (Kd.V_mono (ok' := (fun k_ => (P4_ k_ ∨ w.heap.size ≤ k_) ∧ k_ ≠ gb101)) (HO4.out) (fun k_ hk => ⟨hk.1.1.1.1.1.1, hk.1.1.1.1.1.2⟩))))) (Reps.none _ _))))))));intro v118 w24 ho25 hb hg_ hnew_;clear hg_ hnew_;(first | rw [← Ny117.out] at ho25 | (simp only [Int.reduceToNat] at ho25; rw [← Ny117.out] at ho25));replace HO4 := ak (Kd.V_elder' (vw HO4.out) (Kd.N_base ho25) hb);have HO119 := ak (Kd.N_lower ho25 (below_size bs));replace BK101 := b1 BK101 hb;replace HB := b2s bs hb;clear HO104 HO107 HO110 HO113 HO116;clear hb ho25;obtain ⟨Ao26, co26, eo26⟩ := Kd.N_slice HO119.out;subst eo26) | ((with_reducible refine gate_callee (f := 148) rfl ?_);refine glG 24 rfl rfl Try.func148 (slices_Concat_byte_byte.calls _ _ y117 t120 _ ?side1 ?side2 A11.out) ?_;(case side1 => repeat (first | exact (Kd.N_reads' HO119.out).2.2 | (with_reducible refine Kd.C_alloc ?_ _) | (with_reducible refine Kd.C_drewN ?_ _) | (with_reducible refine Kd.C_drew ?_)));(case side2 => exact (Kd.N_reads' HO119.out).2.1);rintro e w27 ⟨v121, rfl, ho0, hb⟩;refine ⟨_, rfl, ?_⟩;replace HO4 := ak (Kd.V_elder' (vw HO4.out) (Kd.R_base ho0) hb);replace HO119 := ak (Kd.N_elder' (nw HO119.out) (Kd.R_base ho0) hb);have HO122 := ak (Kd.R_lower (Kd.R_newM (M := fun k_ => (w.heap.size ≤ k_)) ho0 (below_size bs) (fun k_ h_ => h_)) (below_size bs));replace BK101 := b1 BK101 hb;replace HB := b2s bs hb;(try clear hb);(try clear hb2);(try clear hk);(try clear hi);(try clear ho0)))
 go_ret
 exact ⟨_, o1, by (with_reducible repeat (first | apply Kd.R_alloc | apply Kd.R_drewN | apply Kd.R_drew)); exact Kd.R_mono HO122.out (fun _ hk => hk.1), bs⟩

/-! ### impl_Want_wire: function 201 -/
def impl_Want_wire.f (k : Nat) (l0_0 : List (List Int)) (a0_1 : Int) (a0_2 : Int) (a0_3 : Int) (l0_4 : List (List Int)) (l0_5 : List Int) (l0_6 : List Int) (a0_7 : Int) (a0_8 : Bool) : Option (List Int) := if a0_8 = true then ((impl_recordBytes.f k l0_0 a0_1 a0_7 0 ([] : List Int)).bind fun t102 => (some t102)) else ((impl_Rr_data.f k l0_0 a0_1 a0_2 a0_3 l0_4 l0_5 l0_6).bind fun t105 => ((impl_recordBytes.f k l0_0 a0_1 a0_7 a0_2 t105).bind fun t108 => (some t108)))
def impl_Want_wire.T3 : Bool × List (List Nat × List Nat) := (true, [([], []), ([0], [0]), ([1], [1]), ([], []), ([3], [3]), ([4], [4]), ([], []), ([6], [6]), ([], []), ([8], [8]), ([9], [9]), ([], []), ([11], [11]), ([12], [12]), ([2, 5, 7, 10, 13, 13], [2, 5, 7, 10, 13]), ([14, 14, 0, 1, 2, 3, 4, 5, 6, 7, 8, 9, 10, 11, 12, 13, 14], [14])])
def impl_Want_wire.B3 : List Nat := [0, 1, 3, 0, 8, 24, 0, 64, 0, 256, 768, 0, 2048, 6144, 16383, 32767]
theorem impl_Want_wire.tab3 : rtab .any (opsOf Try.f201 3) = impl_Want_wire.T3 := by kernel_rfl
theorem impl_Want_wire.bits3 : waitsOk impl_Want_wire.T3.2 impl_Want_wire.B3 = true := by kernel_rfl
set_option maxHeartbeats 8000000 in
set_option maxRecDepth 100000 in
theorem impl_Want_wire.calls (k : Nat) (A0_0 : Option Addr) (c0_0 : Nat) (l0_0 : List (List Int)) (a0_1 : Int) (a0_2 : Int) (a0_3 : Int) (A0_4 : Option Addr) (c0_4 : Nat) (l0_4 : List (List Int)) (A0_5 : Option Addr) (c0_5 : Nat) (l0_5 : List Int) (A0_6 : Option Addr) (c0_6 : Nat) (l0_6 : List Int) (a0_7 : Int) (a0_8 : Bool) (r : List Int) (w : World) (hr0_0 : Kd.C (Kd.slice 5 (Kd.int .u8)) w A0_0 l0_0.length l0_0) (hc0_0 : l0_0.length ≤ c0_0) (hr0_4 : Kd.C (Kd.slice 5 (Kd.int .u8)) w A0_4 l0_4.length l0_4) (hc0_4 : l0_4.length ≤ c0_4) (hr0_5 : Kd.C (Kd.int .u8) w A0_5 l0_5.length l0_5) (hc0_5 : l0_5.length ≤ c0_5) (hr0_6 : Kd.C (Kd.int .i64) w A0_6 l0_6.length l0_6) (hc0_6 : l0_6.length ≤ c0_6) (h : impl_Want_wire.f k l0_0 a0_1 a0_2 a0_3 l0_4 l0_5 l0_6 a0_7 a0_8 = some r) :
  Calls Try.prog 201 #[.agg #[.slice A0_0 l0_0.length c0_0, .int .i64 a0_1, .int .i64 a0_2, .int .i64 a0_3, .slice A0_4 l0_4.length c0_4, .slice A0_5 l0_5.length c0_5, .slice A0_6 l0_6.length c0_6, .int .i64 a0_7, .bool a0_8]] w fun e w' => ∃ v0_ : Value, e = .returned (v0_) ∧ Kd.R (Kd.int .u8) 5 w' w.heap.size (fun _ => True) v0_ r ∧ Below w.heap.size w w' := by
 have hu205 := Try.underlying205
 have hu31 := Try.underlying31
 have hu33 := Try.underlying33
 have HR0_0 := ak hr0_0
 have HC0_0 := ak hc0_0
 clear hr0_0 hc0_0
 have HR0_4 := ak hr0_4
 have HC0_4 := ak hc0_4
 clear hr0_4 hc0_4
 have HR0_5 := ak hr0_5
 have HC0_5 := ak hc0_5
 clear hr0_5 hc0_5
 have HR0_6 := ak hr0_6
 have HC0_6 := ak hc0_6
 clear hr0_6 hc0_6
 have HB := ak (Below.refl w.heap.size w)
 have H : (if a0_8 = true then ((impl_recordBytes.f k l0_0 a0_1 a0_7 0 ([] : List Int)).bind fun t102 => (some t102)) else ((impl_Rr_data.f k l0_0 a0_1 a0_2 a0_3 l0_4 l0_5 l0_6).bind fun t105 => ((impl_recordBytes.f k l0_0 a0_1 a0_7 a0_2 t105).bind fun t108 => (some t108)))) = some r := h
 clear h
 replace H := ib H
 obtain ⟨rfl, H⟩ | ⟨rfl, H⟩ := H
 ·replace H := bnd H
  obtain ⟨t102, A3, H⟩ := H
  obtain rfl := Option.some.inj H
  go_enter Try.func201, Try.ntmps201
  go_wp2_with (first | ((with_reducible refine gate_dst (N := 1) rfl ?_);refine bxd (N := 1) rfl HB ?_;clear HB;intro gb101 w4 hg HB BK101 GE101 hb;have GW101 := GE101;clear hb hg;obtain ⟨hcz5_0, hcz5_1, hcz5_2, hcz5_3, hcz5_4, hcz5_5, hcz5_6, hcz5_7, hcz5_8, hfz5_0, hfz5_1, hfz5_2, hfz5_3, hfz5_4, hfz5_5, hfz5_6, hfz5_7, hfz5_8⟩ := cells9 BK101.out) | ((with_reducible refine gate_callee (f := 228) rfl ?_);refine goesL_ (some 13) rfl rfl Try.func228 (by kernel_rfl) rfl #[.agg #[.slice A0_0 l0_0.length c0_0], .int .i64 a0_1, .int .i64 a0_7, .int .i64 0, .slice none 0 0] rfl (by (try simp only [List.map_toArray, List.map_cons, List.map_nil]); first | done | rfl | (simp only [List.length_drop, List.length_take]; rfl)) ?_;(refine (impl_recordBytes.calls k _ _ l0_0 a0_1 a0_7 0 (fun k_ => False) _ _ ([] : List Int) t102 _ ?side1 ?side2 ?side3 A3.out).mono ?_);(case side1 => exact cw HR0_0.out HB.out);(case side2 => exact HC0_0.out);(case side3 => exact Kd.V_nil _ _ _ _ _);rintro e w6 ⟨v103, rfl, ho0, hb⟩;refine ⟨_, rfl, ?_⟩;have HO104 := ak (Kd.R_lower (Kd.R_mono (ok' := fun k_ => True) ho0 (fun _ hk_ => trivial)) (below_size bs));replace BK101 := b1 BK101 hb;replace HB := b2s bs hb;(try clear hb);(try clear ho0)))
  go_ret
  exact ⟨_, o1, rw_ HO104.out, bs⟩
 ·replace H := bnd H
  obtain ⟨t105, A7, H⟩ := H
  replace H := bnd H
  obtain ⟨t108, A8, H⟩ := H
  obtain rfl := Option.some.inj H
  go_enter Try.func201, Try.ntmps201
  try go_wp2_with (((with_reducible refine gate_dst (N := 1) rfl ?_);refine bxd (N := 1) rfl HB ?_;clear HB;intro gb101 w9 hg HB BK101 GE101 hb;have GW101 := GE101;clear hb hg;obtain ⟨hcz10_0, hcz10_1, hcz10_2, hcz10_3, hcz10_4, hcz10_5, hcz10_6, hcz10_7, hcz10_8, hfz10_0, hfz10_1, hfz10_2, hfz10_3, hfz10_4, hfz10_5, hfz10_6, hfz10_7, hfz10_8⟩ := cells9 BK101.out))
  replace BK101 := ak (blk_drew BK101.out)
  replace HB := ak (below_drew1 HB.out)
  refine start_ (n := 16) (S := fun w' => w'.cell? ⟨gb101, 0, none⟩ = some (.slice A0_0 l0_0.length c0_0) ∧ w'.cell? ⟨gb101, 1, none⟩ = some (.int .i64 a0_1) ∧ w'.cell? ⟨gb101, 2, none⟩ = some (.int .i64 a0_2) ∧ w'.cell? ⟨gb101, 3, none⟩ = some (.int .i64 a0_3) ∧ w'.cell? ⟨gb101, 4, none⟩ = some (.slice A0_4 l0_4.length c0_4) ∧ w'.cell? ⟨gb101, 5, none⟩ = some (.slice A0_5 l0_5.length c0_5) ∧ w'.cell? ⟨gb101, 6, none⟩ = some (.slice A0_6 l0_6.length c0_6) ∧ w'.cell? ⟨gb101, 7, none⟩ = some (.int .i64 a0_7) ∧ w'.cell? ⟨gb101, 8, none⟩ = some (.bool false)) (ds := []) (bA 16 0) (by kernel_rfl) rfl rfl kq (fun hHeld => ?_); refine with_tabW impl_Want_wire.tab3 impl_Want_wire.bits3 (fun HT_ HW_ => ?_)
  generalize w9.drew = w11 at BK101 HB hHeld ⊢
  refine pu HT_ 0 ?_
  refine pu HT_ 1 ?_
  refine pu HT_ 3 ?_
  refine pu HT_ 4 ?_
  refine pu HT_ 6 ?_
  refine pu HT_ 8 ?_
  refine pu HT_ 9 ?_
  refine pu HT_ 11 ?_
  refine ta HT_ HW_ hHeld 2 ?_
  refine ta HT_ HW_ hHeld 5 ?_
  refine ta HT_ HW_ hHeld 7 ?_
  refine ta HT_ HW_ hHeld 10 ?_
  refine ta HT_ HW_ hHeld 12 ?_
  refine on HT_ 13 (fun K hK => ?_)
  refine gsG Try.func144 (impl_Rr_data.calls k _ _ l0_0 a0_1 a0_2 a0_3 _ _ l0_4 _ _ l0_5 _ _ l0_6 t105 _ (cv HR0_0 HB) HC0_0.out (cv HR0_4 HB) HC0_4.out (cv HR0_5 HB) HC0_5.out (cv HR0_6 HB) HC0_6.out A7.out) ?_
  rintro e w12 ⟨v106, rfl, ho0, hb⟩
  refine ⟨_, rfl, ?_⟩
  have HO107 := ak (Kd.R_lower ho0 (below_size bs))
  replace BK101 := b1 BK101 hb
  replace HB := b2s bs hb
  (try clear hb)
  (try clear ho0)
  obtain ⟨Ao13, co13, eo13⟩ := Kd.R_slice HO107.out
  (first | subst eo13 | (injection eo13 with f1_ f2_ f3_; have f4_ := f1_.symm; have f5_ := f3_.symm; clear f1_ f2_ f3_; subst f4_; subst f5_))
  refine hK.out _ _ ⟨(blk_cell BK101.out 0).trans rfl, (blk_cell BK101.out 1).trans rfl, (blk_cell BK101.out 2).trans rfl, (blk_cell BK101.out 3).trans rfl, (blk_cell BK101.out 4).trans rfl, (blk_cell BK101.out 5).trans rfl, (blk_cell BK101.out 6).trans rfl, (blk_cell BK101.out 7).trans rfl, (blk_cell BK101.out 8).trans rfl⟩ (fun hHeld => ?_)
  clear hK K
  refine norm_ (a' := ?_) ?_ ?_; rotate_left; go_simp; rfl
  refine on HT_ 14 (fun K hK => ?_)
  refine gsG Try.func228 (impl_recordBytes.calls k _ _ l0_0 a0_1 a0_7 a0_2 (fun k_ => some k_ = (.slice Ao13 t105.length co13 : Value).ownBlock) _ _ t105 t108 _ (cv HR0_0 HB) HC0_0.out ?side3 A8.out) ?_
  (case side3 => exact Kd.R_V (Kd.R_tight rfl (Kd.R_types (HO107.out) BK101.out (by decide))))
  rintro e w14 ⟨v109, rfl, ho0, hb⟩
  refine ⟨_, rfl, ?_⟩
  have HO110 := ak (Kd.R_lower (Kd.R_new' (Kd.R_mono (ok' := fun k_ => True) ho0 (fun _ hk_ => trivial)) (Kd.R_lt (rw_ HO107.out))) (below_size bs))
  replace HO107 := ak (Kd.R_elder' (rw_ HO107.out) (Kd.R_base ho0) hb)
  replace BK101 := b1 BK101 hb
  replace HB := b2s bs hb
  refine hK.out _ _ kp (fun hHeld => ?_)
  (try clear hb)
  (try clear ho0)
  clear hK K
  refine norm_ (a' := ?_) ?_ ?_; rotate_left; go_simp; rfl
  refine pu HT_ 15 ?_
  refine done_ (done_of HT_.out (by kernel_rfl)) ?_
  try go_wp2
  go_ret
  exact ⟨_, o1, by (with_reducible repeat (first | apply Kd.R_alloc | apply Kd.R_drewN | apply Kd.R_drew)); exact Kd.R_mono HO110.out (fun _ hk => trivial), bs⟩

/-! ### impl_Rr_wire: function 202 -/
def impl_Rr_wire.f (k : Nat) (l0_0 : List (List Int)) (a0_1 : Int) (a0_2 : Int) (a0_3 : Int) (l0_4 : List (List Int)) (l0_5 : List Int) (l0_6 : List Int) : Option (List Int) := (impl_Rr_data.f k l0_0 a0_1 a0_2 a0_3 l0_4 l0_5 l0_6).bind fun t102 => ((impl_recordBytes.f k l0_0 a0_1 1 a0_2 t102).bind fun t105 => (some t105))
def impl_Rr_wire.T1 : Bool × List (List Nat × List Nat) := (true, [([], []), ([0], [0]), ([], []), ([2], [2]), ([], []), ([4], [4]), ([], []), ([6], [6]), ([1, 3, 5, 7, 7], [1, 3, 5, 7]), ([8, 8, 0, 1, 2, 3, 4, 5, 6, 7, 8], [8])])
def impl_Rr_wire.B1 : List Nat := [0, 1, 0, 4, 0, 16, 0, 64, 255, 511]
theorem impl_Rr_wire.tab1 : rtab .any (opsOf Try.f202 1) = impl_Rr_wire.T1 := by kernel_rfl
theorem impl_Rr_wire.bits1 : waitsOk impl_Rr_wire.T1.2 impl_Rr_wire.B1 = true := by kernel_rfl
set_option maxHeartbeats 8000000 in
set_option maxRecDepth 100000 in
theorem impl_Rr_wire.calls (k : Nat) (A0_0 : Option Addr) (c0_0 : Nat) (l0_0 : List (List Int)) (a0_1 : Int) (a0_2 : Int) (a0_3 : Int) (A0_4 : Option Addr) (c0_4 : Nat) (l0_4 : List (List Int)) (A0_5 : Option Addr) (c0_5 : Nat) (l0_5 : List Int) (A0_6 : Option Addr) (c0_6 : Nat) (l0_6 : List Int) (r : List Int) (w : World) (hr0_0 : Kd.C (Kd.slice 5 (Kd.int .u8)) w A0_0 l0_0.length l0_0) (hc0_0 : l0_0.length ≤ c0_0) (hr0_4 : Kd.C (Kd.slice 5 (Kd.int .u8)) w A0_4 l0_4.length l0_4) (hc0_4 : l0_4.length ≤ c0_4) (hr0_5 : Kd.C (Kd.int .u8) w A0_5 l0_5.length l0_5) (hc0_5 : l0_5.length ≤ c0_5) (hr0_6 : Kd.C (Kd.int .i64) w A0_6 l0_6.length l0_6) (hc0_6 : l0_6.length ≤ c0_6) (h : impl_Rr_wire.f k l0_0 a0_1 a0_2 a0_3 l0_4 l0_5 l0_6 = some r) :
  Calls Try.prog 202 #[.agg #[.slice A0_0 l0_0.length c0_0, .int .i64 a0_1, .int .i64 a0_2, .int .i64 a0_3, .slice A0_4 l0_4.length c0_4, .slice A0_5 l0_5.length c0_5, .slice A0_6 l0_6.length c0_6]] w fun e w' => ∃ v0_ : Value, e = .returned (v0_) ∧ Kd.R (Kd.int .u8) 5 w' w.heap.size (fun _ => True) v0_ r ∧ Below w.heap.size w w' := by
 have hu33 := Try.underlying33
 have hu31 := Try.underlying31
 have HR0_0 := ak hr0_0
 have HC0_0 := ak hc0_0
 clear hr0_0 hc0_0
 have HR0_4 := ak hr0_4
 have HC0_4 := ak hc0_4
 clear hr0_4 hc0_4
 have HR0_5 := ak hr0_5
 have HC0_5 := ak hc0_5
 clear hr0_5 hc0_5
 have HR0_6 := ak hr0_6
 have HC0_6 := ak hc0_6
 clear hr0_6 hc0_6
 have HB := ak (Below.refl w.heap.size w)
 have H : ((impl_Rr_data.f k l0_0 a0_1 a0_2 a0_3 l0_4 l0_5 l0_6).bind fun t102 => ((impl_recordBytes.f k l0_0 a0_1 1 a0_2 t102).bind fun t105 => (some t105))) = some r := h
 clear h
 replace H := bnd H
 obtain ⟨t102, A2, H⟩ := H
 replace H := bnd H
 obtain ⟨t105, A3, H⟩ := H
 obtain rfl := Option.some.inj H
 go_enter Try.func202, Try.ntmps202
 try go_wp2_with (((with_reducible refine gate_dst (N := 1) rfl ?_);refine bxd (N := 1) rfl HB ?_;clear HB;intro gb101 w4 hg HB BK101 GE101 hb;have GW101 := GE101;clear hb hg))
 replace BK101 := ak (blk_drew BK101.out)
 replace HB := ak (below_drew1 HB.out)
 refine start_ (n := 10) (S := fun w' => w'.cell? ⟨gb101, 0, none⟩ = some (.slice A0_0 l0_0.length c0_0) ∧ w'.cell? ⟨gb101, 1, none⟩ = some (.int .i64 a0_1) ∧ w'.cell? ⟨gb101, 2, none⟩ = some (.int .i64 a0_2) ∧ w'.cell? ⟨gb101, 3, none⟩ = some (.int .i64 a0_3) ∧ w'.cell? ⟨gb101, 4, none⟩ = some (.slice A0_4 l0_4.length c0_4) ∧ w'.cell? ⟨gb101, 5, none⟩ = some (.slice A0_5 l0_5.length c0_5) ∧ w'.cell? ⟨gb101, 6, none⟩ = some (.slice A0_6 l0_6.length c0_6)) (ds := []) (bA 10 0) (by kernel_rfl) rfl rfl kq (fun hHeld => ?_); refine with_tabW impl_Rr_wire.tab1 impl_Rr_wire.bits1 (fun HT_ HW_ => ?_)
 generalize w4.drew = w5 at BK101 HB hHeld ⊢
 refine pu HT_ 0 ?_
 refine pu HT_ 2 ?_
 refine pu HT_ 4 ?_
 refine ta HT_ HW_ hHeld 1 ?_
 refine ta HT_ HW_ hHeld 3 ?_
 refine ta HT_ HW_ hHeld 5 ?_
 refine ta HT_ HW_ hHeld 6 ?_
 refine on HT_ 7 (fun K hK => ?_)
 refine gsG Try.func144 (impl_Rr_data.calls k _ _ l0_0 a0_1 a0_2 a0_3 _ _ l0_4 _ _ l0_5 _ _ l0_6 t102 _ (cv HR0_0 HB) HC0_0.out (cv HR0_4 HB) HC0_4.out (cv HR0_5 HB) HC0_5.out (cv HR0_6 HB) HC0_6.out A2.out) ?_
 rintro e w6 ⟨v103, rfl, ho0, hb⟩
 refine ⟨_, rfl, ?_⟩
 have HO104 := ak (Kd.R_lower ho0 (below_size bs))
 replace BK101 := b1 BK101 hb
 replace HB := b2s bs hb
 (try clear hb)
 (try clear ho0)
 obtain ⟨Ao7, co7, eo7⟩ := Kd.R_slice HO104.out
 (first | subst eo7 | (injection eo7 with f1_ f2_ f3_; have f4_ := f1_.symm; have f5_ := f3_.symm; clear f1_ f2_ f3_; subst f4_; subst f5_))
 refine hK.out _ _ ⟨(blk_cell BK101.out 0).trans rfl, (blk_cell BK101.out 1).trans rfl, (blk_cell BK101.out 2).trans rfl, (blk_cell BK101.out 3).trans rfl, (blk_cell BK101.out 4).trans rfl, (blk_cell BK101.out 5).trans rfl, (blk_cell BK101.out 6).trans rfl⟩ (fun hHeld => ?_)
 clear hK K
 refine norm_ (a' := ?_) ?_ ?_; rotate_left; go_simp; rfl
 refine on HT_ 8 (fun K hK => ?_)
 refine gsG Try.func228 (impl_recordBytes.calls k _ _ l0_0 a0_1 1 a0_2 (fun k_ => some k_ = (.slice Ao7 t102.length co7 : Value).ownBlock) _ _ t102 t105 _ (cv HR0_0 HB) HC0_0.out ?side3 A3.out) ?_
 (case side3 => exact Kd.R_V (Kd.R_tight rfl (Kd.R_types (HO104.out) BK101.out (by decide))))
 rintro e w8 ⟨v106, rfl, ho0, hb⟩
 refine ⟨_, rfl, ?_⟩
 have HO107 := ak (Kd.R_lower (Kd.R_new' (Kd.R_mono (ok' := fun k_ => True) ho0 (fun _ hk_ => trivial)) (Kd.R_lt (rw_ HO104.out))) (below_size bs))
 replace HO104 := ak (Kd.R_elder' (rw_ HO104.out) (Kd.R_base ho0) hb)
 replace BK101 := b1 BK101 hb
 replace HB := b2s bs hb
 refine hK.out _ _ kp (fun hHeld => ?_)
 (try clear hb)
 (try clear ho0)
 clear hK K
 refine norm_ (a' := ?_) ?_ ?_; rotate_left; go_simp; rfl
 refine pu HT_ 9 ?_
 refine done_ (done_of HT_.out (by kernel_rfl)) ?_
 try go_wp2
 go_ret
 exact ⟨_, o1, by (with_reducible repeat (first | apply Kd.R_alloc | apply Kd.R_drewN | apply Kd.R_drew)); exact Kd.R_mono HO107.out (fun _ hk => trivial), bs⟩

/-! ### impl_Msg_wire: function 131 -/

mutual
def impl_Msg_wire.j0 : Nat → Int → Int → Bool → Int → Bool → Int → List (S200) → List (S33) → List (S33) → List (S33) → List (S205) → List (S205) → Option (List Int)
 | 0, _, _, _, _, _, _, _, _, _, _, _, _ => none
 | k + 1, x3, x102000, x102001, x102002, x102003, x102004, x102005, x102006, x102007, x102008, x102009, x102010 => if x102003 = true then (impl_Msg_wire.j1 k (Go.bits .or .i64 x3 1024) x102000 x102001 x102002 x102003 x102004 x102005 x102006 x102007 x102008 x102009 x102010) else (impl_Msg_wire.j1 k x3 x102000 x102001 x102002 x102003 x102004 x102005 x102006 x102007 x102008 x102009 x102010)
def impl_Msg_wire.j1 : Nat → Int → Int → Bool → Int → Bool → Int → List (S200) → List (S33) → List (S33) → List (S33) → List (S205) → List (S205) → Option (List Int)
 | 0, _, _, _, _, _, _, _, _, _, _, _, _ => none
 | k + 1, x3, x102000, x102001, x102002, x102003, x102004, x102005, x102006, x102007, x102008, x102009, x102010 => (some (([x102000, x3, 1, wrap64 ((x102006.length : Int) + (x102009.length : Int)), wrap64 ((x102007.length : Int) + (x102010.length : Int)), (x102008.length : Int)] : List Int) : List Int)).bind fun y105 => (impl_Msg_wire.l0 k (([] : List Int)) y105 (y105.length : Int) 0 x102000 x102001 x102002 x102003 x102004 x102005 x102006 x102007 x102008 x102009 x102010)
def impl_Msg_wire.l0 : Nat → List Int → List Int → Int → Int → Int → Bool → Int → Bool → Int → List (S200) → List (S33) → List (S33) → List (S33) → List (S205) → List (S205) → Option (List Int)
 | 0, _, _, _, _, _, _, _, _, _, _, _, _, _, _, _ => none
 | k + 1, x4, x50, x51, x52, x102000, x102001, x102002, x102003, x102004, x102005, x102006, x102007, x102008, x102009, x102010 => if x52 < x51 then (if 0 ≤ x52 then (if x52 < (x50.length : Int) then ((impl_two.f (rd x50 x52)).bind fun t109 => (if x4.length + t109.length < 140737488355328 then (impl_Msg_wire.l0 k (x4 ++ t109) x50 x51 (wrap64 (x52 + 1)) x102000 x102001 x102002 x102003 x102004 x102005 x102006 x102007 x102008 x102009 x102010) else (none))) else (none)) else (none)) else (if 0 < (x102005.length : Int) then ((impl_Name_wire.f k ((rd_T200 x102005 0).f0.f0)).bind fun t116 => ((impl_two.f ((rd_T200 x102005 0).f1)).bind fun t120 => ((impl_two.f 1).bind fun t123 => ((slices_Concat_byte_byte.f (([x4, t116, t120, t123] : List (List Int)))).bind fun t129 => ((some (([x102009, x102010] : List (List (S205))) : List (List (S205)))).bind fun y132 => (impl_Msg_wire.l1 k t129 y132 (y132.length : Int) 0 x102000 x102001 x102002 x102003 x102004 x102005 x102006 x102007 x102008 x102009 x102010)))))) else (none))
def impl_Msg_wire.l1 : Nat → List Int → List (List (S205)) → Int → Int → Int → Bool → Int → Bool → Int → List (S200) → List (S33) → List (S33) → List (S33) → List (S205) → List (S205) → Option (List Int)
 | 0, _, _, _, _, _, _, _, _, _, _, _, _, _, _, _ => none
 | k + 1, x4, x81, x82, x83, x102000, x102001, x102002, x102003, x102004, x102005, x102006, x102007, x102008, x102009, x102010 => if x83 < x82 then (if 0 ≤ x83 then (if x83 < (x81.length : Int) then (impl_Msg_wire.l2 k x4 x81 x82 x83 (rd_L43 x81 x83) ((rd_L43 x81 x83).length : Int) 0 x102000 x102001 x102002 x102003 x102004 x102005 x102006 x102007 x102008 x102009 x102010) else (none)) else (none)) else ((some (([x102006, x102007, x102008] : List (List (S33))) : List (List (S33)))).bind fun y144 => (impl_Msg_wire.l3 k x4 y144 (y144.length : Int) 0))
def impl_Msg_wire.l2 : Nat → List Int → List (List (S205)) → Int → Int → List (S205) → Int → Int → Int → Bool → Int → Bool → Int → List (S200) → List (S33) → List (S33) → List (S33) → List (S205) → List (S205) → Option (List Int)
 | 0, _, _, _, _, _, _, _, _, _, _, _, _, _, _, _, _, _, _ => none
 | k + 1, x4, x81, x82, x83, x87, x88, x89, x102000, x102001, x102002, x102003, x102004, x102005, x102006, x102007, x102008, x102009, x102010 => if x89 < x88 then (if 0 ≤ x89 then (if x89 < (x87.length : Int) then ((impl_Want_wire.f k ((rd_T205 x87 x89).f0.f0.f0) ((rd_T205 x87 x89).f0.f1) ((rd_T205 x87 x89).f0.f2) ((rd_T205 x87 x89).f0.f3) ((rd_T205 x87 x89).f0.f4.f0) ((rd_T205 x87 x89).f0.f5) ((rd_T205 x87 x89).f0.f6) ((rd_T205 x87 x89).f1) ((rd_T205 x87 x89).f2)).bind fun t138 => (if x4.length + t138.length < 140737488355328 then (impl_Msg_wire.l2 k (x4 ++ t138) x81 x82 x83 x87 x88 (wrap64 (x89 + 1)) x102000 x102001 x102002 x102003 x102004 x102005 x102006 x102007 x102008 x102009 x102010) else (none))) else (none)) else (none)) else (impl_Msg_wire.l1 k x4 x81 x82 (wrap64 (x83 + 1)) x102000 x102001 x102002 x102003 x102004 x102005 x102006 x102007 x102008 x102009 x102010)
def impl_Msg_wire.l3 : Nat → List Int → List (List (S33)) → Int → Int → Option (List Int)
 | 0, _, _, _, _ => none
 | k + 1, x4, x105, x106, x107 => if x107 < x106 then (if 0 ≤ x107 then (if x107 < (x105.length : Int) then (impl_Msg_wire.l4 k x4 x105 x106 x107 (rd_L23 x105 x107) ((rd_L23 x105 x107).length : Int) 0) else (none)) else (none)) else (some x4)
def impl_Msg_wire.l4 : Nat → List Int → List (List (S33)) → Int → Int → List (S33) → Int → Int → Option (List Int)
 | 0, _, _, _, _, _, _, _ => none
 | k + 1, x4, x105, x106, x107, x111, x112, x113 => if x113 < x112 then (if 0 ≤ x113 then (if x113 < (x111.length : Int) then ((impl_Rr_wire.f k ((rd_T33 x111 x113).f0.f0) ((rd_T33 x111 x113).f1) ((rd_T33 x111 x113).f2) ((rd_T33 x111 x113).f3) ((rd_T33 x111 x113).f4.f0) ((rd_T33 x111 x113).f5) ((rd_T33 x111 x113).f6)).bind fun t150 => (if x4.length + t150.length < 140737488355328 then (impl_Msg_wire.l4 k (x4 ++ t150) x105 x106 x107 x111 x112 (wrap64 (x113 + 1))) else (none))) else (none)) else (none)) else (impl_Msg_wire.l3 k x4 x105 x106 (wrap64 (x107 + 1)))
end
def impl_Msg_wire.f (k : Nat) (a0_0 : Int) (a0_1 : Bool) (a0_2 : Int) (a0_3 : Bool) (a0_4 : Int) (l0_5 : List (S200)) (l0_6 : List (S33)) (l0_7 : List (S33)) (l0_8 : List (S33)) (l0_9 : List (S205)) (l0_10 : List (S205)) : Option (List Int) := if a0_1 = true then (impl_Msg_wire.j0 k (Go.bits .or .i64 (Go.bits .or .i64 (wrap64 (a0_2 * 2048)) a0_4) 32768) a0_0 a0_1 a0_2 a0_3 a0_4 l0_5 l0_6 l0_7 l0_8 l0_9 l0_10) else (impl_Msg_wire.j0 k (Go.bits .or .i64 (wrap64 (a0_2 * 2048)) a0_4) a0_0 a0_1 a0_2 a0_3 a0_4 l0_5 l0_6 l0_7 l0_8 l0_9 l0_10)
def impl_Msg_wire.T12 : Bool × List (List Nat × List Nat) := (true, [([], []), ([], []), ([1], [1]), ([2], [2]), ([3], [3]), ([4], [4]), ([5], [5]), ([], []), ([7], [7]), ([8], [8]), ([9], [9]), ([10], [10]), ([11, 6], [11]), ([12], []), ([0, 6, 12, 13], [0, 6, 12, 13]), ([14, 13], [14]), ([15, 15, 0, 1, 2, 3, 4, 5, 6, 7, 8, 9, 10, 11, 12, 13, 14, 15], [0, 15])])
def impl_Msg_wire.B12 : List Nat := [0, 0, 2, 6, 14, 30, 62, 0, 128, 384, 896, 1920, 4094, 8190, 16383, 32767, 65535]
theorem impl_Msg_wire.tab12 : rtab .any (opsOf Try.f131 12) = impl_Msg_wire.T12 := by kernel_rfl
theorem impl_Msg_wire.bits12 : waitsOk impl_Msg_wire.T12.2 impl_Msg_wire.B12 = true := by kernel_rfl
def impl_Msg_wire.sel {α : Type} (L : List (List α)) (i : Int) : List α := L.getD i.toNat []
theorem impl_Msg_wire.sel2 {α : Type} {d : Kd α} {w W : World} {g t : Nat} {A B : Option Addr} {a b : Nat} {x y : List α} (h : Aside0 (W.heap[g]? = some (.cells #[(.slice A x.length a), (.slice B y.length b)] t (0, 0)))) (hA : Aside0 (d.C w A x.length x)) (ha : Aside0 (x.length ≤ a)) (hB : Aside0 (d.C w B y.length y)) (hb : Aside0 (y.length ≤ b)) (_ : List α) {i : Int} (h0 : decide (0 ≤ i) = true) (h1 : decide (i < 2) = true) :
    ∃ C c, W.cell? ((⟨g, 0, none⟩ : Addr).add i.toNat) = some (.slice C (impl_Msg_wire.sel [x, y] i).length c) ∧ W.cell? ⟨g, i.toNat, none⟩ = some (.slice C (impl_Msg_wire.sel [x, y] i).length c) ∧ Aside0 (d.C w C (impl_Msg_wire.sel [x, y] i).length (impl_Msg_wire.sel [x, y] i)) ∧ Aside0 ((impl_Msg_wire.sel [x, y] i).length ≤ c) ∧ (0 ≤ i) = True ∧ (i < 2) = True := by
  have p := of_decide_eq_true h0
  have q := of_decide_eq_true h1
  rw [add_plain]
  have e : i = 0 ∨ i = 1 := by omega
  rcases e with rfl | rfl
  · exact ⟨A, a, (blk_cell h.out 0).trans rfl, (blk_cell h.out 0).trans rfl, hA, ha, eq_true p, eq_true q⟩
  · exact ⟨B, b, (blk_cell h.out 1).trans rfl, (blk_cell h.out 1).trans rfl, hB, hb, eq_true p, eq_true q⟩
theorem impl_Msg_wire.sel3 {α : Type} {d : Kd α} {w W : World} {g t : Nat} {A B D : Option Addr} {a b u : Nat} {x y z : List α} (h : Aside0 (W.heap[g]? = some (.cells #[(.slice A x.length a), (.slice B y.length b), (.slice D z.length u)] t (0, 0)))) (hA : Aside0 (d.C w A x.length x)) (ha : Aside0 (x.length ≤ a)) (hB : Aside0 (d.C w B y.length y)) (hb : Aside0 (y.length ≤ b)) (hD : Aside0 (d.C w D z.length z)) (hd : Aside0 (z.length ≤ u)) (_ : List α) {i : Int} (h0 : decide (0 ≤ i) = true) (h1 : decide (i < 3) = true) :
    ∃ C c, W.cell? ((⟨g, 0, none⟩ : Addr).add i.toNat) = some (.slice C (impl_Msg_wire.sel [x, y, z] i).length c) ∧ W.cell? ⟨g, i.toNat, none⟩ = some (.slice C (impl_Msg_wire.sel [x, y, z] i).length c) ∧ Aside0 (d.C w C (impl_Msg_wire.sel [x, y, z] i).length (impl_Msg_wire.sel [x, y, z] i)) ∧ Aside0 ((impl_Msg_wire.sel [x, y, z] i).length ≤ c) ∧ (0 ≤ i) = True ∧ (i < 3) = True := by
  have p := of_decide_eq_true h0
  have q := of_decide_eq_true h1
  rw [add_plain]
  have e : i = 0 ∨ i = 1 ∨ i = 2 := by omega
  rcases e with rfl | rfl | rfl
  · exact ⟨A, a, (blk_cell h.out 0).trans rfl, (blk_cell h.out 0).trans rfl, hA, ha, eq_true p, eq_true q⟩
  · exact ⟨B, b, (blk_cell h.out 1).trans rfl, (blk_cell h.out 1).trans rfl, hB, hb, eq_true p, eq_true q⟩
  · exact ⟨D, u, (blk_cell h.out 2).trans rfl, (blk_cell h.out 2).trans rfl, hD, hd, eq_true p, eq_true q⟩
set_option maxHeartbeats 8000000 in
set_option maxRecDepth 100000 in
theorem impl_Msg_wire.calls (k : Nat) (a0_0 : Int) (a0_1 : Bool) (a0_2 : Int) (a0_3 : Bool) (a0_4 : Int) (A0_5 : Option Addr) (c0_5 : Nat) (l0_5 : List (S200)) (A0_6 : Option Addr) (c0_6 : Nat) (l0_6 : List (S33)) (A0_7 : Option Addr) (c0_7 : Nat) (l0_7 : List (S33)) (A0_8 : Option Addr) (c0_8 : Nat) (l0_8 : List (S33)) (A0_9 : Option Addr) (c0_9 : Nat) (l0_9 : List (S205)) (A0_10 : Option Addr) (c0_10 : Nat) (l0_10 : List (S205)) (r : List Int) (w : World) (hr0_5 : Kd.C k200 w A0_5 l0_5.length l0_5) (hc0_5 : l0_5.length ≤ c0_5) (hr0_6 : Kd.C k33 w A0_6 l0_6.length l0_6) (hc0_6 : l0_6.length ≤ c0_6) (hr0_7 : Kd.C k33 w A0_7 l0_7.length l0_7) (hc0_7 : l0_7.length ≤ c0_7) (hr0_8 : Kd.C k33 w A0_8 l0_8.length l0_8) (hc0_8 : l0_8.length ≤ c0_8) (hr0_9 : Kd.C k205 w A0_9 l0_9.length l0_9) (hc0_9 : l0_9.length ≤ c0_9) (hr0_10 : Kd.C k205 w A0_10 l0_10.length l0_10) (hc0_10 : l0_10.length ≤ c0_10) (h : impl_Msg_wire.f k a0_0 a0_1 a0_2 a0_3 a0_4 l0_5 l0_6 l0_7 l0_8 l0_9 l0_10 = some r) :
  Calls Try.prog 131 #[.agg #[.int .i64 a0_0, .bool a0_1, .int .i64 a0_2, .bool a0_3, .int .i64 a0_4, .slice A0_5 l0_5.length c0_5, .slice A0_6 l0_6.length c0_6, .slice A0_7 l0_7.length c0_7, .slice A0_8 l0_8.length c0_8, .slice A0_9 l0_9.length c0_9, .slice A0_10 l0_10.length c0_10]] w fun e w' => ∃ v0_ : Value, e = .returned (v0_) ∧ Kd.R (Kd.int .u8) 5 w' w.heap.size (fun _ => True) v0_ r ∧ Below w.heap.size w w' := by
 have hu92 := Try.underlying92
 have hu31 := Try.underlying31
 have hu205 := Try.underlying205
 have hu33 := Try.underlying33
 have HR0_5 := ak hr0_5
 have HC0_5 := ak hc0_5
 clear hr0_5 hc0_5
 have HR0_6 := ak hr0_6
 have HC0_6 := ak hc0_6
 clear hr0_6 hc0_6
 have HR0_7 := ak hr0_7
 have HC0_7 := ak hc0_7
 clear hr0_7 hc0_7
 have HR0_8 := ak hr0_8
 have HC0_8 := ak hc0_8
 clear hr0_8 hc0_8
 have HR0_9 := ak hr0_9
 have HC0_9 := ak hc0_9
 clear hr0_9 hc0_9
 have HR0_10 := ak hr0_10
 have HC0_10 := ak hc0_10
 clear hr0_10 hc0_10
 have HB := ak (Below.refl w.heap.size w)
 have H : (if a0_1 = true then (impl_Msg_wire.j0 k (Go.bits .or .i64 (Go.bits .or .i64 (wrap64 (a0_2 * 2048)) a0_4) 32768) a0_0 a0_1 a0_2 a0_3 a0_4 l0_5 l0_6 l0_7 l0_8 l0_9 l0_10) else (impl_Msg_wire.j0 k (Go.bits .or .i64 (wrap64 (a0_2 * 2048)) a0_4) a0_0 a0_1 a0_2 a0_3 a0_4 l0_5 l0_6 l0_7 l0_8 l0_9 l0_10)) = some r := h
 clear h
 have HC2 := ak H
 clear H
 go_enter Try.func131, Try.ntmps131
 go_upto_if 22 with (((with_reducible refine gate_dst (N := 1) rfl ?_);refine bxd (N := 1) rfl HB ?_;clear HB;intro gb101 w3 hg HB BK101 GE101 hb;have GW101 := GE101;clear hb hg;have hcz4_0 : w3.cell? ⟨gb101, 0, none⟩ = some (.int .i64 a0_0) := (blk_cell BK101.out 0).trans rfl;have hcz4_1 : w3.cell? ⟨gb101, 1, none⟩ = some (.bool a0_1) := (blk_cell BK101.out 1).trans rfl;have hcz4_2 : w3.cell? ⟨gb101, 2, none⟩ = some (.int .i64 a0_2) := (blk_cell BK101.out 2).trans rfl;have hcz4_3 : w3.cell? ⟨gb101, 3, none⟩ = some (.bool a0_3) := (blk_cell BK101.out 3).trans rfl;have hcz4_4 : w3.cell? ⟨gb101, 4, none⟩ = some (.int .i64 a0_4) := (blk_cell BK101.out 4).trans rfl;have hcz4_5 : w3.cell? ⟨gb101, 5, none⟩ = some (.slice A0_5 l0_5.length c0_5) := (blk_cell BK101.out 5).trans rfl;have hcz4_6 : w3.cell? ⟨gb101, 6, none⟩ = some (.slice A0_6 l0_6.length c0_6) := (blk_cell BK101.out 6).trans rfl;have hcz4_7 : w3.cell? ⟨gb101, 7, none⟩ = some (.slice A0_7 l0_7.length c0_7) := (blk_cell BK101.out 7).trans rfl;have hcz4_8 : w3.cell? ⟨gb101, 8, none⟩ = some (.slice A0_8 l0_8.length c0_8) := (blk_cell BK101.out 8).trans rfl;have hcz4_9 : w3.cell? ⟨gb101, 9, none⟩ = some (.slice A0_9 l0_9.length c0_9) := (blk_cell BK101.out 9).trans rfl;have hcz4_10 : w3.cell? ⟨gb101, 10, none⟩ = some (.slice A0_10 l0_10.length c0_10) := (blk_cell BK101.out 10).trans rfl;have hfz4_0 := blk_frozen BK101.out 0;have hfz4_1 := blk_frozen BK101.out 1;have hfz4_2 := blk_frozen BK101.out 2;have hfz4_3 := blk_frozen BK101.out 3;have hfz4_4 := blk_frozen BK101.out 4;have hfz4_5 := blk_frozen BK101.out 5;have hfz4_6 := blk_frozen BK101.out 6;have hfz4_7 := blk_frozen BK101.out 7;have hfz4_8 := blk_frozen BK101.out 8;have hfz4_9 := blk_frozen BK101.out 9;have hfz4_10 := blk_frozen BK101.out 10))
 (try simp only [Act.put, List.setIfInBounds_toArray, List.set_cons_zero, List.set_cons_succ])
 go_cut [3] (fun v3 wc => ∃ (kq : Nat) (x3_1 : Int), v3 = .int .i64 x3_1 ∧ Aside0 (impl_Msg_wire.j0 kq x3_1 a0_0 a0_1 a0_2 a0_3 a0_4 l0_5 l0_6 l0_7 l0_8 l0_9 l0_10 = some r) ∧ Aside0 (kq ≤ k) ∧ Aside0 (wc.heap[gb101]? = some (.cells #[.int .i64 a0_0, .bool a0_1, .int .i64 a0_2, .bool a0_3, .int .i64 a0_4, (.slice A0_5 l0_5.length c0_5), (.slice A0_6 l0_6.length c0_6), (.slice A0_7 l0_7.length c0_7), (.slice A0_8 l0_8.length c0_8), (.slice A0_9 l0_9.length c0_9), (.slice A0_10 l0_10.length c0_10)] 92 (0, 0))) ∧ Aside0 (Below w.heap.size w wc))
 case first =>
  have H := HC2.out
  clear HC2
  replace H := ib H
  obtain ⟨rfl, H⟩ | ⟨rfl, H⟩ := H
  ·have H' := ak H
   clear H
   go_wp2
   go_meet
   case rel => exact ⟨_, (Go.bits .or .i64 (Go.bits .or .i64 (wrap64 (a0_2 * 2048)) a0_4) 32768), o2, H', ⟨o3⟩, ⟨bk BK101.out⟩, ⟨bs⟩⟩
  ·have H' := ak H
   clear H
   go_wp2
   go_meet
   case rel => exact ⟨_, (Go.bits .or .i64 (wrap64 (a0_2 * 2048)) a0_4), o2, H', ⟨o3⟩, ⟨bk BK101.out⟩, ⟨bs⟩⟩
 case rest =>
  clear HC2
  (try clear hcz4_0)
  (try clear hcz4_1)
  (try clear hcz4_10)
  (try clear hcz4_2)
  (try clear hcz4_3)
  (try clear hcz4_4)
  (try clear hcz4_5)
  (try clear hcz4_6)
  (try clear hcz4_7)
  (try clear hcz4_8)
  (try clear hcz4_9)
  (try clear hfz4_0)
  (try clear hfz4_1)
  (try clear hfz4_10)
  (try clear hfz4_2)
  (try clear hfz4_3)
  (try clear hfz4_4)
  (try clear hfz4_5)
  (try clear hfz4_6)
  (try clear hfz4_7)
  (try clear hfz4_8)
  (try clear hfz4_9)
  obtain ⟨kq, x3_1, rfl, HA, HJ1, BK101, HB⟩ := hcut
  cases kq with
  | zero => exact absurd HA.out (by simp [impl_Msg_wire.j0])
  | succ kj1 =>
   have H := HA.out
   clear HA
   simp only [impl_Msg_wire.j0] at H
   have HC6 := ak H
   clear H
   have hcz7_0 : wc.cell? ⟨gb101, 0, none⟩ = some (.int .i64 a0_0) := (blk_cell BK101.out 0).trans rfl
   have hcz7_1 : wc.cell? ⟨gb101, 1, none⟩ = some (.bool a0_1) := (blk_cell BK101.out 1).trans rfl
   have hcz7_2 : wc.cell? ⟨gb101, 2, none⟩ = some (.int .i64 a0_2) := (blk_cell BK101.out 2).trans rfl
   have hcz7_3 : wc.cell? ⟨gb101, 3, none⟩ = some (.bool a0_3) := (blk_cell BK101.out 3).trans rfl
   have hcz7_4 : wc.cell? ⟨gb101, 4, none⟩ = some (.int .i64 a0_4) := (blk_cell BK101.out 4).trans rfl
   have hcz7_5 : wc.cell? ⟨gb101, 5, none⟩ = some (.slice A0_5 l0_5.length c0_5) := (blk_cell BK101.out 5).trans rfl
   have hcz7_6 : wc.cell? ⟨gb101, 6, none⟩ = some (.slice A0_6 l0_6.length c0_6) := (blk_cell BK101.out 6).trans rfl
   have hcz7_7 : wc.cell? ⟨gb101, 7, none⟩ = some (.slice A0_7 l0_7.length c0_7) := (blk_cell BK101.out 7).trans rfl
   have hcz7_8 : wc.cell? ⟨gb101, 8, none⟩ = some (.slice A0_8 l0_8.length c0_8) := (blk_cell BK101.out 8).trans rfl
   have hcz7_9 : wc.cell? ⟨gb101, 9, none⟩ = some (.slice A0_9 l0_9.length c0_9) := (blk_cell BK101.out 9).trans rfl
   have hcz7_10 : wc.cell? ⟨gb101, 10, none⟩ = some (.slice A0_10 l0_10.length c0_10) := (blk_cell BK101.out 10).trans rfl
   have hfz7_0 := blk_frozen BK101.out 0
   have hfz7_1 := blk_frozen BK101.out 1
   have hfz7_2 := blk_frozen BK101.out 2
   have hfz7_3 := blk_frozen BK101.out 3
   have hfz7_4 := blk_frozen BK101.out 4
   have hfz7_5 := blk_frozen BK101.out 5
   have hfz7_6 := blk_frozen BK101.out 6
   have hfz7_7 := blk_frozen BK101.out 7
   have hfz7_8 := blk_frozen BK101.out 8
   have hfz7_9 := blk_frozen BK101.out 9
   have hfz7_10 := blk_frozen BK101.out 10
   go_upto_if 26 with (fail)
   go_cut [3] (fun v3 wc => ∃ (kq : Nat) (x3_5 : Int), v3 = .int .i64 x3_5 ∧ Aside0 (impl_Msg_wire.j1 kq x3_5 a0_0 a0_1 a0_2 a0_3 a0_4 l0_5 l0_6 l0_7 l0_8 l0_9 l0_10 = some r) ∧ Aside0 (kq ≤ kj1) ∧ Aside0 (wc.heap[gb101]? = some (.cells #[.int .i64 a0_0, .bool a0_1, .int .i64 a0_2, .bool a0_3, .int .i64 a0_4, (.slice A0_5 l0_5.length c0_5), (.slice A0_6 l0_6.length c0_6), (.slice A0_7 l0_7.length c0_7), (.slice A0_8 l0_8.length c0_8), (.slice A0_9 l0_9.length c0_9), (.slice A0_10 l0_10.length c0_10)] 92 (0, 0))) ∧ Aside0 (Below w.heap.size w wc))
   case first =>
    have H := HC6.out
    clear HC6
    replace H := ib H
    obtain ⟨rfl, H⟩ | ⟨rfl, H⟩ := H
    ·have H' := ak H
     clear H
     go_wp2
     go_meet
     case rel => exact ⟨_, (Go.bits .or .i64 x3_1 1024), o2, H', ⟨by have := HJ1.out; first | omega | exact Nat.le_refl _⟩, ⟨bk BK101.out⟩, ⟨bs⟩⟩
    ·have H' := ak H
     clear H
     go_wp2
     go_meet
     case rel => exact ⟨_, (x3_1), o2, H', ⟨by have := HJ1.out; first | omega | exact Nat.le_refl _⟩, ⟨bk BK101.out⟩, ⟨bs⟩⟩
   case rest =>
    clear HC6
    (try clear hcz4_0)
    (try clear hcz4_1)
    (try clear hcz4_10)
    (try clear hcz4_2)
    (try clear hcz4_3)
    (try clear hcz4_4)
    (try clear hcz4_5)
    (try clear hcz4_6)
    (try clear hcz4_7)
    (try clear hcz4_8)
    (try clear hcz4_9)
    (try clear hcz7_0)
    (try clear hcz7_1)
    (try clear hcz7_10)
    (try clear hcz7_2)
    (try clear hcz7_3)
    (try clear hcz7_4)
    (try clear hcz7_5)
    (try clear hcz7_6)
    (try clear hcz7_7)
    (try clear hcz7_8)
    (try clear hcz7_9)
    (try clear hfz4_0)
    (try clear hfz4_1)
    (try clear hfz4_10)
    (try clear hfz4_2)
    (try clear hfz4_3)
    (try clear hfz4_4)
    (try clear hfz4_5)
    (try clear hfz4_6)
    (try clear hfz4_7)
    (try clear hfz4_8)
    (try clear hfz4_9)
    (try clear hfz7_0)
    (try clear hfz7_1)
    (try clear hfz7_10)
    (try clear hfz7_2)
    (try clear hfz7_3)
    (try clear hfz7_4)
    (try clear hfz7_5)
    (try clear hfz7_6)
    (try clear hfz7_7)
    (try clear hfz7_8)
    (try clear hfz7_9)
    obtain ⟨kq, x3_5, rfl, HA, HJ5, BK101, HB⟩ := hcut
    cases kq with
    | zero => exact absurd HA.out (by simp [impl_Msg_wire.j1])
    | succ kj5 =>
     have H := HA.out
     clear HA
     simp only [impl_Msg_wire.j1] at H
     replace H : ∃ y102 : List Int, y102 = (([] : List Int)) ∧ ((some (([a0_0, x3_5, 1, wrap64 ((l0_6.length : Int) + (l0_9.length : Int)), wrap64 ((l0_7.length : Int) + (l0_10.length : Int)), (l0_8.length : Int)] : List Int) : List Int)).bind fun y105 => (impl_Msg_wire.l0 kj5 y102 y105 (y105.length : Int) 0 a0_0 a0_1 a0_2 a0_3 a0_4 l0_5 l0_6 l0_7 l0_8 l0_9 l0_10)) = some r := ⟨_, rfl, H⟩
     obtain ⟨y102, hy102, H⟩ := H
     have Ny102 := ak hy102
     clear hy102
     obtain ⟨y105, hy105⟩ : ∃ y_ : List Int, y_ = (([a0_0, x3_5, 1, wrap64 ((l0_6.length : Int) + (l0_9.length : Int)), wrap64 ((l0_7.length : Int) + (l0_10.length : Int)), (l0_8.length : Int)] : List Int)) := ⟨_, rfl⟩
     (try with_reducible replace H := bnS H)
     (try rw [← hy105] at H)
     have Ny105 := ak hy105
     clear hy105
     have H' := ak H
     clear H
     go_wp2_with (first | ((with_reducible refine gate_dst (N := 29) rfl ?_);refine Kd.R_lit (Kd.int .u8) _ 5 ?hg (N := 29) ?hd (xs := ([] : List Int)) (inner := []) (ok := fun _ => True) (okp := fun _ => True) ?hr ?hp (fun _ hk => hk) trivial (Below.refl _ _) (Nat.le_refl _) (by simp) ?_;(case hd => rfl);(case hg => rfl);(case hr => first | (go_simp; done) | (go_simp; rfl));(case hp => exact (Reps.none _ _));intro v103 w9 ho10 hb hg_ hnew_;clear hg_ hnew_;(first | rw [← Ny102.out] at ho10 | (simp only [Int.reduceToNat] at ho10; rw [← Ny102.out] at ho10));have HO104 := ak (Kd.R_lower ho10 (below_size bs));replace BK101 := b1 BK101 hb;replace HB := b2s bs hb;clear hb ho10;have hcz11_0 : w9.cell? ⟨gb101, 0, none⟩ = some (.int .i64 a0_0) := (blk_cell BK101.out 0).trans rfl;have hcz11_1 : w9.cell? ⟨gb101, 1, none⟩ = some (.bool a0_1) := (blk_cell BK101.out 1).trans rfl;have hcz11_2 : w9.cell? ⟨gb101, 2, none⟩ = some (.int .i64 a0_2) := (blk_cell BK101.out 2).trans rfl;have hcz11_3 : w9.cell? ⟨gb101, 3, none⟩ = some (.bool a0_3) := (blk_cell BK101.out 3).trans rfl;have hcz11_4 : w9.cell? ⟨gb101, 4, none⟩ = some (.int .i64 a0_4) := (blk_cell BK101.out 4).trans rfl;have hcz11_5 : w9.cell? ⟨gb101, 5, none⟩ = some (.slice A0_5 l0_5.length c0_5) := (blk_cell BK101.out 5).trans rfl;have hcz11_6 : w9.cell? ⟨gb101, 6, none⟩ = some (.slice A0_6 l0_6.length c0_6) := (blk_cell BK101.out 6).trans rfl;have hcz11_7 : w9.cell? ⟨gb101, 7, none⟩ = some (.slice A0_7 l0_7.length c0_7) := (blk_cell BK101.out 7).trans rfl;have hcz11_8 : w9.cell? ⟨gb101, 8, none⟩ = some (.slice A0_8 l0_8.length c0_8) := (blk_cell BK101.out 8).trans rfl;have hcz11_9 : w9.cell? ⟨gb101, 9, none⟩ = some (.slice A0_9 l0_9.length c0_9) := (blk_cell BK101.out 9).trans rfl;have hcz11_10 : w9.cell? ⟨gb101, 10, none⟩ = some (.slice A0_10 l0_10.length c0_10) := (blk_cell BK101.out 10).trans rfl;have hfz11_0 := blk_frozen BK101.out 0;have hfz11_1 := blk_frozen BK101.out 1;have hfz11_2 := blk_frozen BK101.out 2;have hfz11_3 := blk_frozen BK101.out 3;have hfz11_4 := blk_frozen BK101.out 4;have hfz11_5 := blk_frozen BK101.out 5;have hfz11_6 := blk_frozen BK101.out 6;have hfz11_7 := blk_frozen BK101.out 7;have hfz11_8 := blk_frozen BK101.out 8;have hfz11_9 := blk_frozen BK101.out 9;have hfz11_10 := blk_frozen BK101.out 10) | ((with_reducible refine gate_dst (N := 50) rfl ?_);refine Kd.R_lit (Kd.int .i64) _ 3 ?hg (N := 50) ?hd (xs := ([a0_0, x3_5, 1, wrap64 ((l0_6.length : Int) + (l0_9.length : Int)), wrap64 ((l0_7.length : Int) + (l0_10.length : Int)), (l0_8.length : Int)] : List Int)) (inner := [.int .i64 a0_0, .int .i64 x3_5, .int .i64 1, .int .i64 (wrap64 ((l0_6.length : Int) + (l0_9.length : Int))), .int .i64 (wrap64 ((l0_7.length : Int) + (l0_10.length : Int))), .int .i64 (l0_8.length : Int)]) (ok := fun _ => True) (okp := fun _ => True) ?hr ?hp (fun _ hk => hk) trivial (Below.refl _ _) (Nat.le_refl _) (by simp) ?_;(case hd => rfl);(case hg => rfl);(case hr => first | (go_simp; done) | (go_simp; rfl));(case hp => exact (Reps.one (show Kd.M (Kd.int .i64) _ _ _ a0_0 [.int .i64 a0_0] from rfl) (Reps.one (show Kd.M (Kd.int .i64) _ _ _ x3_5 [.int .i64 x3_5] from rfl) (Reps.one (show Kd.M (Kd.int .i64) _ _ _ 1 [.int .i64 1] from rfl) (Reps.one (show Kd.M (Kd.int .i64) _ _ _ (wrap64 ((l0_6.length : Int) + (l0_9.length : Int))) [.int .i64 (wrap64 ((l0_6.length : Int) + (l0_9.length : Int)))] from rfl) (Reps.one (show Kd.M (Kd.int .i64) _ _ _ (wrap64 ((l0_7.length : Int) + (l0_10.length : Int))) [.int .i64 (wrap64 ((l0_7.length : Int) + (l0_10.length : Int)))] from rfl) (Reps.one (show Kd.M (Kd.int .i64) _ _ _ (l0_8.length : Int) [.int .i64 (l0_8.length : Int)] from rfl) (Reps.none _ _))))))));intro v106 w12 ho13 hb hg_ hnew_;clear hg_ hnew_;(first | rw [← Ny105.out] at ho13 | (simp only [Int.reduceToNat] at ho13; rw [← Ny105.out] at ho13));replace HO104 := ak (Kd.R_below (rw_ HO104.out) hb);have HO107 := ak (Kd.R_lower ho13 (below_size bs));replace BK101 := b1 BK101 hb;replace HB := b2s bs hb;clear hb ho13;obtain ⟨Ao14, co14, eo14⟩ := Kd.R_slice HO107.out;subst eo14))
     go_loopg [4, 52] kj5 (fun kq v4 v52 w' => ∃ (x4_3 : List Int) (x52_3 : Int), v52 = .int .i64 x52_3 ∧ Aside0 (impl_Msg_wire.l0 kq x4_3 y105 (y105.length : Int) x52_3 a0_0 a0_1 a0_2 a0_3 a0_4 l0_5 l0_6 l0_7 l0_8 l0_9 l0_10 = some r) ∧ Aside0 (kq ≤ kj5) ∧ Aside0 (Kd.R (Kd.int .u8) 5 w' w.heap.size (fun _ => True) v4 x4_3) ∧ Aside0 (Kd.R (Kd.int .i64) 3 w' w.heap.size (fun _ => True) (.slice Ao14 y105.length co14) y105) ∧ Aside0 (w'.heap[gb101]? = some (.cells #[.int .i64 a0_0, .bool a0_1, .int .i64 a0_2, .bool a0_3, .int .i64 a0_4, (.slice A0_5 l0_5.length c0_5), (.slice A0_6 l0_6.length c0_6), (.slice A0_7 l0_7.length c0_7), (.slice A0_8 l0_8.length c0_8), (.slice A0_9 l0_9.length c0_9), (.slice A0_10 l0_10.length c0_10)] 92 (0, 0))) ∧ Aside0 (Below w.heap.size w w'))
     case atStart => exact ⟨(y102), (0), o2, H', ⟨Nat.le_refl _⟩, ⟨rw_ HO104.out⟩, ⟨rw_ HO107.out⟩, ⟨bk BK101.out⟩, ⟨bs⟩⟩
     case round =>
      clear H'
      (try clear hcz11_0)
      (try clear hcz11_1)
      (try clear hcz11_10)
      (try clear hcz11_2)
      (try clear hcz11_3)
      (try clear hcz11_4)
      (try clear hcz11_5)
      (try clear hcz11_6)
      (try clear hcz11_7)
      (try clear hcz11_8)
      (try clear hcz11_9)
      (try clear hcz4_0)
      (try clear hcz4_1)
      (try clear hcz4_10)
      (try clear hcz4_2)
      (try clear hcz4_3)
      (try clear hcz4_4)
      (try clear hcz4_5)
      (try clear hcz4_6)
      (try clear hcz4_7)
      (try clear hcz4_8)
      (try clear hcz4_9)
      (try clear hcz7_0)
      (try clear hcz7_1)
      (try clear hcz7_10)
      (try clear hcz7_2)
      (try clear hcz7_3)
      (try clear hcz7_4)
      (try clear hcz7_5)
      (try clear hcz7_6)
      (try clear hcz7_7)
      (try clear hcz7_8)
      (try clear hcz7_9)
      (try clear hfz11_0)
      (try clear hfz11_1)
      (try clear hfz11_10)
      (try clear hfz11_2)
      (try clear hfz11_3)
      (try clear hfz11_4)
      (try clear hfz11_5)
      (try clear hfz11_6)
      (try clear hfz11_7)
      (try clear hfz11_8)
      (try clear hfz11_9)
      (try clear hfz4_0)
      (try clear hfz4_1)
      (try clear hfz4_10)
      (try clear hfz4_2)
      (try clear hfz4_3)
      (try clear hfz4_4)
      (try clear hfz4_5)
      (try clear hfz4_6)
      (try clear hfz4_7)
      (try clear hfz4_8)
      (try clear hfz4_9)
      (try clear hfz7_0)
      (try clear hfz7_1)
      (try clear hfz7_10)
      (try clear hfz7_2)
      (try clear hfz7_3)
      (try clear hfz7_4)
      (try clear hfz7_5)
      (try clear hfz7_6)
      (try clear hfz7_7)
      (try clear hfz7_8)
      (try clear hfz7_9)
      obtain ⟨x4_3, x52_3, rfl, HA, HK3, HO_4, HO_50, BK101, HB⟩ := hrel
      cases gk with
      | zero => exact absurd HA.out (by simp [impl_Msg_wire.l0])
      | succ k3 =>
       have H := HA.out
       clear HA
       simp only [impl_Msg_wire.l0] at H
       replace H := ip H
       obtain ⟨c15b0, H⟩ | ⟨c15b0, H⟩ := H
       ·replace H := ipN H
        obtain ⟨c16b0, H⟩ := H
        replace H := ipN H
        obtain ⟨c17b0, H⟩ := H
        replace H := bnd H
        obtain ⟨t109, A18, H⟩ := H
        by_cases c19 : x4_3.length + t109.length < 140737488355328
        ·rw [if_pos c19] at H
         have LMc19 := ak c19
         clear c19
         obtain ⟨y112, hy112⟩ : ∃ y_ : List Int, y_ = (x4_3 ++ t109) := ⟨_, rfl⟩
         (try with_reducible replace H := bnS H)
         (try rw [← hy112] at H)
         have Ny112 := ak hy112
         clear hy112
         have H' := ak H
         clear H
         have p108 : 0 ≤ (x52_3 : Int) := of_decide_eq_true (by first | (with_reducible assumption) | assumption)
         have q108 : x52_3 < (y105.length : Int) := of_decide_eq_true (by first | (with_reducible assumption) | assumption)
         obtain ⟨ad108, e108, hx108_0⟩ := Kd.at_int (Kd.R_reads' HO_50.out).2.2 x52_3 p108 q108
         cases e108
         replace p108 := eq_true p108
         replace q108 := eq_true q108
         go_wp2_with (first | ((with_reducible refine gate_callee (f := 200) rfl ?_);refine glG 58 rfl rfl Try.func200 (impl_two.calls (rd y105 x52_3) t109 _ A18.out) ?_;rintro e w20 ⟨v110, rfl, ho0, hb⟩;refine ⟨_, rfl, ?_⟩;replace HO_50 := ak (Kd.R_below (rw_ HO_50.out) hb);have HO111 := ak (Kd.R_lower (Kd.R_new' ho0 (Kd.R_lt (rw_ HO_4.out))) (below_size bs));replace HO_4 := ak (Kd.R_elder' (rw_ HO_4.out) (Kd.R_base ho0) hb);replace BK101 := b1 BK101 hb;replace HB := b2s bs hb;(try clear hb);(try clear hb2);(try clear hk);(try clear hi);(try clear ho0);obtain ⟨Ao22, co22, eo22⟩ := Kd.R_slice HO111.out;subst eo22) | ((with_reducible refine gate_builtin (b := .append) (xs := #[.tmp 56, .tmp 58]) rfl ?_);at_builtin;refine Kd.R_append_rows (Kd.int .u8) (w0 := w) w.heap.size rfl (.tmp 56) (.tmp 58) 25 5 (.int .u8 0) 1 rfl Try.underlying25 info5 rfl (by decide) (by omega) u4 x4_3 t109 _ _ _ (fun k_ => some k_ ≠ (.slice Ao22 t109.length co22 : Value).ownBlock) (fun _ => False) rfl rfl ?aO ?aR (fun _ _ h => h) (fun _ h => h.elim) ?aF ?aB ?aS ?aL ?_;(case aR => repeat (first | exact (Kd.R_reads' HO111.out).2.2 | (with_reducible refine Kd.C_alloc ?_ _) | (with_reducible refine Kd.C_drewN ?_ _) | (with_reducible refine Kd.C_drew ?_)));(case aB => exact bs);(case aF => exact (fun k_ hk => Kd.fresh' (Kd.R_lt (rw_ HO111.out)) k_ hk));(case aO => exact (rw_ (Kd.R_mono HO_4.out (fun _ hk => hk.2))));(case aS => exact (below_size bs));(case aL => have := LMc19.out; omega);intro v113 w21 ho hb hg hat;rw [← Ny112.out] at ho;replace HO_50 := ak (Kd.R_over' (rw_ HO_50.out) (Kd.R_typed (rw_ HO_4.out)) (by decide) hg);replace BK101 := ak (blk_grown (bk BK101.out) hg (Kd.R_ne HO_4.out BK101.out (by decide)));replace HO111 := ak (Kd.R_after (ok := (fun _ => True)) (rw_ HO111.out) hg hat);replace HB := ak (hb);have HO114 := ak (ho);clear HO_4;clear ho hb hg hat))
         go_roundg k3
         case measure => have := HJ1.out; have := HJ5.out; have := HK3.out; omega
         case rel => exact ⟨(y112), (wrap64 (x52_3 + 1)), o2, H', ⟨by have := HJ1.out; have := HJ5.out; have := HK3.out; omega⟩, ⟨by (with_reducible repeat (first | apply Kd.R_alloc | apply Kd.R_drewN | apply Kd.R_drew)); exact Kd.R_mono HO114.out (fun _ hk => trivial)⟩, ⟨rw_ HO_50.out⟩, ⟨bk BK101.out⟩, ⟨bs⟩⟩
        ·rw [if_neg c19] at H
         exact absurd H (by simp)
       ·replace H := ipN H
        obtain ⟨c23b0, H⟩ := H
        have c23b1 : decide (0 < l0_5.length) = true := decide_eq_true (by have := of_decide_eq_true c23b0; omega)
        replace H := bnd H
        obtain ⟨t116, A24, H⟩ := H
        replace H := bnd H
        obtain ⟨t120, A25, H⟩ := H
        replace H := bnd H
        obtain ⟨t123, A26, H⟩ := H
        obtain ⟨y126, hy126⟩ : ∃ y_ : List (List Int), y_ = (([x4_3, t116, t120, t123] : List (List Int))) := ⟨_, rfl⟩
        (try with_reducible replace H := bnS H)
        (try rw [← hy126] at H)
        have Ny126 := ak hy126
        clear hy126
        replace H := bnd H
        obtain ⟨t129, A27, H⟩ := H
        have H' := ak H
        clear H
        try go_wp2
        replace HO_4 := ak (Kd.R_drew HO_4.out)
        replace HO_50 := ak (Kd.R_drew HO_50.out)
        replace BK101 := ak (blk_drew BK101.out)
        replace HB := ak (below_drew1 HB.out)
        have p115 : 0 ≤ (0 : Int) := (by omega)
        have q115 : 0 < (l0_5.length : Int) := of_decide_eq_true (by first | (with_reducible assumption) | assumption)
        obtain ⟨ad115, A115_0, c115_0, e115, hx115_0, hx115_1, hl115_0, hi115_0⟩ := at_T200 HR0_5.out 0 p115 q115
        have hw115_1 := hx115_1
        (try rw [show ((0 : Int)).toNat = 0 from rfl] at hw115_1)
        (try rw [show 0 * 2 = 0 from rfl] at hw115_1)
        (try rw [Addr.add_zero'] at hw115_1)
        have hw115_0 := hx115_0
        (try rw [show ((0 : Int)).toNat = 0 from rfl] at hw115_0)
        (try rw [show 0 * 2 = 0 from rfl] at hw115_0)
        (try rw [Addr.add_zero'] at hw115_0)
        cases e115
        have qi115 : (0 < l0_5.length) = True := eq_true (by omega)
        (try rw [show ((0 : Int)).toNat = 0 from rfl] at hx115_0)
        (try rw [show 0 * 2 = 0 from rfl] at hx115_0)
        (try rw [Addr.add_zero'] at hx115_0)
        (try rw [show ((0 : Int)).toNat = 0 from rfl] at hx115_1)
        (try rw [show 0 * 2 = 0 from rfl] at hx115_1)
        (try rw [Addr.add_zero'] at hx115_1)
        replace hx115_0 := pw_cell_below HB.out hx115_0
        replace hx115_1 := pw_cell_below HB.out hx115_1
        have HR115_0 := ak hi115_0
        have HC115_0 := ak hl115_0
        clear hi115_0 hl115_0
        replace p115 := eq_true p115
        replace q115 := eq_true q115
        have p119 : 0 ≤ (0 : Int) := (by omega)
        have q119 : 0 < (l0_5.length : Int) := of_decide_eq_true (by first | (with_reducible assumption) | assumption)
        obtain ⟨ad119, A119_0, c119_0, e119, hx119_0, hx119_1, hl119_0, hi119_0⟩ := at_T200 HR0_5.out 0 p119 q119
        have hw119_1 := hx119_1
        (try rw [show ((0 : Int)).toNat = 0 from rfl] at hw119_1)
        (try rw [show 0 * 2 = 0 from rfl] at hw119_1)
        (try rw [Addr.add_zero'] at hw119_1)
        have hw119_0 := hx119_0
        (try rw [show ((0 : Int)).toNat = 0 from rfl] at hw119_0)
        (try rw [show 0 * 2 = 0 from rfl] at hw119_0)
        (try rw [Addr.add_zero'] at hw119_0)
        obtain rfl : ad115 = ad119 := (by injection e119)
        have qi119 : (0 < l0_5.length) = True := eq_true (by omega)
        (try rw [show ((0 : Int)).toNat = 0 from rfl] at hx119_0)
        (try rw [show 0 * 2 = 0 from rfl] at hx119_0)
        (try rw [Addr.add_zero'] at hx119_0)
        (try rw [show ((0 : Int)).toNat = 0 from rfl] at hx119_1)
        (try rw [show 0 * 2 = 0 from rfl] at hx119_1)
        (try rw [Addr.add_zero'] at hx119_1)
        replace hx119_0 := pw_cell_below HB.out hx119_0
        replace hx119_1 := pw_cell_below HB.out hx119_1
        have HR119_0 := ak hi119_0
        have HC119_0 := ak hl119_0
        clear hi119_0 hl119_0
        replace p119 := eq_true p119
        replace q119 := eq_true q119
        have ea_ := Option.some.inj (hx115_0.symm.trans hx119_0)
        injection ea_ with ea_ en_ ec_
        subst ea_
        subst ec_
        clear en_
        refine start_ (n := 17) (S := fun w' => w'.cell? ⟨gb101, 0, none⟩ = some (.int .i64 a0_0) ∧ w'.cell? ⟨gb101, 1, none⟩ = some (.bool a0_1) ∧ w'.cell? ⟨gb101, 2, none⟩ = some (.int .i64 a0_2) ∧ w'.cell? ⟨gb101, 3, none⟩ = some (.bool a0_3) ∧ w'.cell? ⟨gb101, 4, none⟩ = some (.int .i64 a0_4) ∧ w'.cell? ⟨gb101, 5, none⟩ = some (.slice (some ad115) l0_5.length c0_5) ∧ w'.cell? ⟨gb101, 6, none⟩ = some (.slice A0_6 l0_6.length c0_6) ∧ w'.cell? ⟨gb101, 7, none⟩ = some (.slice A0_7 l0_7.length c0_7) ∧ w'.cell? ⟨gb101, 8, none⟩ = some (.slice A0_8 l0_8.length c0_8) ∧ w'.cell? ⟨gb101, 9, none⟩ = some (.slice A0_9 l0_9.length c0_9) ∧ w'.cell? ⟨gb101, 10, none⟩ = some (.slice A0_10 l0_10.length c0_10) ∧ w'.cell? ad115 = some (.slice A115_0 ((rd_T200 l0_5 0).f0.f0).length c115_0) ∧ w'.cell? ⟨ad115.block, ad115.off + 1, none⟩ = some (.int .i64 ((rd_T200 l0_5 0).f1)) ∧ w'.cell? ad115 = some (.slice A115_0 ((rd_T200 l0_5 0).f0.f0).length c115_0) ∧ w'.cell? ⟨ad115.block, ad115.off + 1, none⟩ = some (.int .i64 ((rd_T200 l0_5 0).f1))) (ds := []) (bA 17 0) (by kernel_rfl) rfl rfl kq (fun hHeld => ?_); refine with_tabW impl_Msg_wire.tab12 impl_Msg_wire.bits12 (fun HT_ HW_ => ?_)
        generalize wr.drew = w28 at HO_4 HO_50 BK101 HB HR115_0 HR119_0 hx115_0 hx115_1 hx119_0 hx119_1 hHeld ⊢
        refine pu HT_ 0 ?_
        refine pu HT_ 1 ?_
        refine pu HT_ 7 ?_
        refine ta HT_ HW_ hHeld 2 ?_
        refine pu HT_ 3 ?_
        refine pu HT_ 4 ?_
        refine ta HT_ HW_ hHeld 5 ?_
        refine ta HT_ HW_ hHeld 8 ?_
        refine pu HT_ 9 ?_
        refine pu HT_ 10 ?_
        refine ta HT_ HW_ hHeld 11 ?_
        refine on HT_ 6 (fun K hK => ?_)
        refine gsG Try.func156 (impl_Name_wire.calls k3 _ _ ((rd_T200 l0_5 0).f0.f0) t116 _ (cv HR115_0 HB) HC115_0.out A24.out) ?_
        rintro e w29 ⟨v117, rfl, ho0, hb⟩
        refine ⟨_, rfl, ?_⟩
        replace HO_50 := ak (Kd.R_below (rw_ HO_50.out) hb)
        have HO118 := ak (Kd.R_lower (Kd.R_new' ho0 (Kd.R_lt (rw_ HO_4.out))) (below_size bs))
        replace HO_4 := ak (Kd.R_elder' (rw_ HO_4.out) (Kd.R_base ho0) hb)
        replace BK101 := b1 BK101 hb
        replace HB := b2s bs hb
        refine hK.out _ _ kp (fun hHeld => ?_)
        (try clear hb)
        (try clear hk)
        (try clear ho0)
        clear hK K
        refine norm_ (a' := ?_) ?_ ?_; rotate_left; go_simp; rfl
        refine on HT_ 12 (fun K hK => ?_)
        refine gsG Try.func200 (impl_two.calls ((rd_T200 l0_5 0).f1) t120 _ A25.out) ?_
        rintro e w30 ⟨v121, rfl, ho0, hb⟩
        refine ⟨_, rfl, ?_⟩
        replace HO_50 := ak (Kd.R_below (rw_ HO_50.out) hb)
        have HO122 := ak (Kd.R_lower (Kd.R_new' (Kd.R_new' ho0 (Kd.R_lt (rw_ HO_4.out))) (Kd.R_lt (rw_ HO118.out))) (below_size bs))
        replace HO_4 := ak (Kd.R_elder' (rw_ HO_4.out) (Kd.R_base ho0) hb)
        replace HO118 := ak (Kd.R_elder' (rw_ HO118.out) (Kd.R_base ho0) hb)
        replace BK101 := b1 BK101 hb
        replace HB := b2s bs hb
        refine hK.out _ _ kp (fun hHeld => ?_)
        (try clear hb)
        (try clear hk)
        (try clear ho0)
        clear hK K
        refine norm_ (a' := ?_) ?_ ?_; rotate_left; go_simp; rfl
        refine on HT_ 13 (fun K hK => ?_)
        refine gsG Try.func200 (impl_two.calls 1 t123 _ A26.out) ?_
        rintro e w31 ⟨v124, rfl, ho0, hb⟩
        refine ⟨_, rfl, ?_⟩
        replace HO_50 := ak (Kd.R_below (rw_ HO_50.out) hb)
        have HO125 := ak (Kd.R_lower (Kd.R_new' (Kd.R_new' (Kd.R_new' ho0 (Kd.R_lt (rw_ HO_4.out))) (Kd.R_lt (rw_ HO118.out))) (Kd.R_lt (rw_ HO122.out))) (below_size bs))
        replace HO_4 := ak (Kd.R_elder' (rw_ HO_4.out) (Kd.R_base ho0) hb)
        replace HO118 := ak (Kd.R_elder' (rw_ HO118.out) (Kd.R_base ho0) hb)
        replace HO122 := ak (Kd.R_elder' (rw_ HO122.out) (Kd.R_base ho0) hb)
        replace BK101 := b1 BK101 hb
        replace HB := b2s bs hb
        (try clear hb)
        (try clear hk)
        (try clear ho0)
        obtain ⟨Ao32, co32, eo32⟩ := Kd.R_slice HO_4.out
        (first | subst eo32 | (injection eo32 with f1_ f2_ f3_; have f4_ := f1_.symm; have f5_ := f3_.symm; clear f1_ f2_ f3_; subst f4_; subst f5_))
        obtain ⟨Ao33, co33, eo33⟩ := Kd.R_slice HO118.out
        (first | subst eo33 | (injection eo33 with f1_ f2_ f3_; have f4_ := f1_.symm; have f5_ := f3_.symm; clear f1_ f2_ f3_; subst f4_; subst f5_))
        obtain ⟨Ao34, co34, eo34⟩ := Kd.R_slice HO122.out
        (first | subst eo34 | (injection eo34 with f1_ f2_ f3_; have f4_ := f1_.symm; have f5_ := f3_.symm; clear f1_ f2_ f3_; subst f4_; subst f5_))
        obtain ⟨Ao35, co35, eo35⟩ := Kd.R_slice HO125.out
        (first | subst eo35 | (injection eo35 with f1_ f2_ f3_; have f4_ := f1_.symm; have f5_ := f3_.symm; clear f1_ f2_ f3_; subst f4_; subst f5_))
        refine hK.out _ _ ⟨(blk_cell BK101.out 0).trans rfl, (blk_cell BK101.out 1).trans rfl, (blk_cell BK101.out 2).trans rfl, (blk_cell BK101.out 3).trans rfl, (blk_cell BK101.out 4).trans rfl, (blk_cell BK101.out 5).trans rfl, (blk_cell BK101.out 6).trans rfl, (blk_cell BK101.out 7).trans rfl, (blk_cell BK101.out 8).trans rfl, (blk_cell BK101.out 9).trans rfl, (blk_cell BK101.out 10).trans rfl, (pw_cell_below HB.out hw115_0), (pw_cell_below HB.out hw115_1), (pw_cell_below HB.out hw119_0), (pw_cell_below HB.out hw119_1)⟩ (fun hHeld => ?_)
        clear hK K
        refine norm_ (a' := ?_) ?_ ?_; rotate_left; go_simp; rfl
        refine on HT_ 14 (fun K hK => ?_)
        refine Kd.N_lit_step (Kd.slice 5 (Kd.int .u8)) _ 25 ?hg (N' := 75) ?hd (xs := ([x4_3, t116, t120, t123] : List (List Int))) (inner := [.slice Ao32 x4_3.length co32, .slice Ao33 t116.length co33, .slice Ao34 t120.length co34, .slice Ao35 t123.length co35]) (ok := (fun k_ => some k_ ≠ (.slice Ao14 y105.length co14 : Value).ownBlock ∧ k_ ≠ gb101)) (okp := (fun k_ => some k_ ≠ (.slice Ao14 y105.length co14 : Value).ownBlock ∧ k_ ≠ gb101)) ?hr ?hp (fun _ hk => hk) ((show ∀ k_, w31.heap.size ≤ k_ → (fun k_ => some k_ ≠ (.slice Ao14 y105.length co14 : Value).ownBlock ∧ k_ ≠ gb101) k_ from fun k_ hk => ⟨Kd.fresh' (Kd.R_lt (rw_ HO_50.out)) k_ hk, Kd.freshB (g := gb101) (o := .cells #[.int .i64 a0_0, .bool a0_1, .int .i64 a0_2, .bool a0_3, .int .i64 a0_4, .slice (some ad115) l0_5.length c0_5, .slice A0_6 l0_6.length c0_6, .slice A0_7 l0_7.length c0_7, .slice A0_8 l0_8.length c0_8, .slice A0_9 l0_9.length c0_9, .slice A0_10 l0_10.length c0_10] 92 (0, 0)) (bk BK101.out) k_ hk⟩) _ (Nat.le_refl _)) (Below.refl _ _) (Nat.le_refl _) (by simp) ?_; (case hd => rfl); (case hg => rfl); (case hr => first | (go_simp; done) | (go_simp; rfl)); (case hp => exact (Reps.one (show Kd.FK (Kd.slice 5 (Kd.int .u8)) _ _ x4_3 [.slice Ao32 x4_3.length co32] from (Kd.FK_slice_mk (Kd.R_reads' (Kd.R_mono (ok' := (fun k_ => some k_ ≠ (.slice Ao14 y105.length co14 : Value).ownBlock ∧ k_ ≠ gb101)) (Kd.R_types (Kd.R_apart' (HO_4.out) (Kd.R_typed HO_50.out) (by decide)) BK101.out (by decide)) (fun k_ hk => ⟨hk.1.2, hk.2⟩))).2.1 (Kd.R_F (Kd.R_mono (ok' := (fun k_ => some k_ ≠ (.slice Ao14 y105.length co14 : Value).ownBlock ∧ k_ ≠ gb101)) (Kd.R_types (Kd.R_apart' (HO_4.out) (Kd.R_typed HO_50.out) (by decide)) BK101.out (by decide)) (fun k_ hk => ⟨hk.1.2, hk.2⟩))))) (Reps.one (show Kd.FK (Kd.slice 5 (Kd.int .u8)) _ _ t116 [.slice Ao33 t116.length co33] from (Kd.FK_slice_mk (Kd.R_reads' (Kd.R_mono (ok' := (fun k_ => some k_ ≠ (.slice Ao14 y105.length co14 : Value).ownBlock ∧ k_ ≠ gb101)) (Kd.R_types (Kd.R_apart' (HO118.out) (Kd.R_typed HO_50.out) (by decide)) BK101.out (by decide)) (fun k_ hk => ⟨hk.1.2, hk.2⟩))).2.1 (Kd.R_F (Kd.R_mono (ok' := (fun k_ => some k_ ≠ (.slice Ao14 y105.length co14 : Value).ownBlock ∧ k_ ≠ gb101)) (Kd.R_types (Kd.R_apart' (HO118.out) (Kd.R_typed HO_50.out) (by decide)) BK101.out (by decide)) (fun k_ hk => ⟨hk.1.2, hk.2⟩))))) (Reps.one (show Kd.FK (Kd.slice 5 (Kd.int .u8)) _ _ t120 [.slice Ao34 t120.length co34] from (Kd.FK_slice_mk (Kd.R_reads' (Kd.R_mono (ok' := (fun k_ => some k_ ≠ (.slice Ao14 y105.length co14 : Value).ownBlock ∧ k_ ≠ gb101)) (Kd.R_types (Kd.R_apart' (HO122.out) (Kd.R_typed HO_50.out) (by decide)) BK101.out (by decide)) (fun k_ hk => ⟨hk.1.2, hk.2⟩))).2.1 (Kd.R_F (Kd.R_mono (ok' := (fun k_ => some k_ ≠ (.slice Ao14 y105.length co14 : Value).ownBlock ∧ k_ ≠ gb101)) (Kd.R_types (Kd.R_apart' (HO122.out) (Kd.R_typed HO_50.out) (by decide)) BK101.out (by decide)) (fun k_ hk => ⟨hk.1.2, hk.2⟩))))) (Reps.one (show Kd.FK (Kd.slice 5 (Kd.int .u8)) _ _ t123 [.slice Ao35 t123.length co35] from (Kd.FK_slice_mk (Kd.R_reads' (Kd.R_mono (ok' := (fun k_ => some k_ ≠ (.slice Ao14 y105.length co14 : Value).ownBlock ∧ k_ ≠ gb101)) (Kd.R_types (Kd.R_apart' (HO125.out) (Kd.R_typed HO_50.out) (by decide)) BK101.out (by decide)) (fun k_ hk => ⟨hk.1.2, hk.2⟩))).2.1 (Kd.R_F (Kd.R_mono (ok' := (fun k_ => some k_ ≠ (.slice Ao14 y105.length co14 : Value).ownBlock ∧ k_ ≠ gb101)) (Kd.R_types (Kd.R_apart' (HO125.out) (Kd.R_typed HO_50.out) (by decide)) BK101.out (by decide)) (fun k_ hk => ⟨hk.1.2, hk.2⟩))))) (Reps.none _ _))))))
        intro v127 w36 ho37 hb hg_ hnew_
        clear hg_ hnew_
        (first | rw [← Ny126.out] at ho37 | (simp only [Int.reduceToNat] at ho37; rw [← Ny126.out] at ho37))
        replace HO_50 := ak (Kd.R_below (rw_ HO_50.out) hb)
        have HO128 := ak (Kd.N_lower ho37 (below_size bs))
        replace BK101 := b1 BK101 hb
        replace HB := b2s bs hb
        clear HO118 HO122 HO125 HO_4 hb ho37
        obtain ⟨Ao38, co38, eo38⟩ := Kd.N_slice HO128.out
        (first | subst eo38 | (injection eo38 with f1_ f2_ f3_; have f4_ := f1_.symm; have f5_ := f3_.symm; clear f1_ f2_ f3_; subst f4_; subst f5_))
        refine hK.out _ _ ⟨(blk_cell BK101.out 0).trans rfl, (blk_cell BK101.out 1).trans rfl, (blk_cell BK101.out 2).trans rfl, (blk_cell BK101.out 3).trans rfl, (blk_cell BK101.out 4).trans rfl, (blk_cell BK101.out 5).trans rfl, (blk_cell BK101.out 6).trans rfl, (blk_cell BK101.out 7).trans rfl, (blk_cell BK101.out 8).trans rfl, (blk_cell BK101.out 9).trans rfl, (blk_cell BK101.out 10).trans rfl, (pw_cell_below HB.out hw115_0), (pw_cell_below HB.out hw115_1), (pw_cell_below HB.out hw119_0), (pw_cell_below HB.out hw119_1)⟩ (fun hHeld => ?_)
        clear hK K
        refine norm_ (a' := ?_) ?_ ?_; rotate_left; go_simp; rfl
        refine on HT_ 15 (fun K hK => ?_)
        refine gsG Try.func148 (slices_Concat_byte_byte.calls _ _ y126 t129 _ ?side1 ?side2 A27.out) ?_
        (case side1 => repeat (first | exact (Kd.N_reads' HO128.out).2.2 | (with_reducible refine Kd.C_alloc ?_ _) | (with_reducible refine Kd.C_drewN ?_ _) | (with_reducible refine Kd.C_drew ?_)))
        (case side2 => exact (Kd.N_reads' HO128.out).2.1)
        rintro e w39 ⟨v130, rfl, ho0, hb⟩
        refine ⟨_, rfl, ?_⟩
        replace HO_50 := ak (Kd.R_below (rw_ HO_50.out) hb)
        replace HO128 := ak (Kd.N_elder' (nw HO128.out) (Kd.R_base ho0) hb)
        have HO131 := ak (Kd.R_lower ho0 (below_size bs))
        replace BK101 := b1 BK101 hb
        replace HB := b2s bs hb
        refine hK.out _ _ kp (fun hHeld => ?_)
        (try clear hb)
        (try clear hk)
        (try clear ho0)
        clear hK K
        refine norm_ (a' := ?_) ?_ ?_; rotate_left; go_simp; rfl
        refine pu HT_ 16 ?_
        refine done_ (done_of HT_.out (by kernel_rfl)) ?_
        have hcz40_0 : w39.cell? ⟨gb101, 0, none⟩ = some (.int .i64 a0_0) := (blk_cell BK101.out 0).trans rfl
        have hcz40_1 : w39.cell? ⟨gb101, 1, none⟩ = some (.bool a0_1) := (blk_cell BK101.out 1).trans rfl
        have hcz40_2 : w39.cell? ⟨gb101, 2, none⟩ = some (.int .i64 a0_2) := (blk_cell BK101.out 2).trans rfl
        have hcz40_3 : w39.cell? ⟨gb101, 3, none⟩ = some (.bool a0_3) := (blk_cell BK101.out 3).trans rfl
        have hcz40_4 : w39.cell? ⟨gb101, 4, none⟩ = some (.int .i64 a0_4) := (blk_cell BK101.out 4).trans rfl
        have hcz40_5 : w39.cell? ⟨gb101, 5, none⟩ = some (.slice (some ad115) l0_5.length c0_5) := (blk_cell BK101.out 5).trans rfl
        have hcz40_6 : w39.cell? ⟨gb101, 6, none⟩ = some (.slice A0_6 l0_6.length c0_6) := (blk_cell BK101.out 6).trans rfl
        have hcz40_7 : w39.cell? ⟨gb101, 7, none⟩ = some (.slice A0_7 l0_7.length c0_7) := (blk_cell BK101.out 7).trans rfl
        have hcz40_8 : w39.cell? ⟨gb101, 8, none⟩ = some (.slice A0_8 l0_8.length c0_8) := (blk_cell BK101.out 8).trans rfl
        have hcz40_9 : w39.cell? ⟨gb101, 9, none⟩ = some (.slice A0_9 l0_9.length c0_9) := (blk_cell BK101.out 9).trans rfl
        have hcz40_10 : w39.cell? ⟨gb101, 10, none⟩ = some (.slice A0_10 l0_10.length c0_10) := (blk_cell BK101.out 10).trans rfl
        have hfz40_0 := blk_frozen BK101.out 0
        have hfz40_1 := blk_frozen BK101.out 1
        have hfz40_2 := blk_frozen BK101.out 2
        have hfz40_3 := blk_frozen BK101.out 3
        have hfz40_4 := blk_frozen BK101.out 4
        have hfz40_5 := blk_frozen BK101.out 5
        have hfz40_6 := blk_frozen BK101.out 6
        have hfz40_7 := blk_frozen BK101.out 7
        have hfz40_8 := blk_frozen BK101.out 8
        have hfz40_9 := blk_frozen BK101.out 9
        have hfz40_10 := blk_frozen BK101.out 10
        go_wp2
        obtain ⟨g81, hg81⟩ : ∃ g_, g_ = w39.heap.size := ⟨_, rfl⟩
        rw [← hg81]
        have Bg81 := ak (show (w39.alloc (.cells #[.slice A0_9 l0_9.length c0_9, .slice A0_10 l0_10.length c0_10] 90)).heap[g81]? = some (.cells #[.slice A0_9 l0_9.length c0_9, .slice A0_10 l0_10.length c0_10] 90 (0, 0)) by rw [hg81]; exact blk_new _ _)
        clear hg81
        go_loopg [4, 83] k3 (fun kq v4 v83 w' => ∃ (x4_4 : List Int) (x83_o : Int), v83 = .int .i64 x83_o ∧ Aside0 (impl_Msg_wire.l1 kq x4_4 [l0_9, l0_10] 2 x83_o a0_0 a0_1 a0_2 a0_3 a0_4 l0_5 l0_6 l0_7 l0_8 l0_9 l0_10 = some r) ∧ Aside0 (kq ≤ k3) ∧ Aside0 (Kd.R (Kd.int .u8) 5 w' w.heap.size (fun _ => True) v4 x4_4) ∧ Aside0 (w'.heap[gb101]? = some (.cells #[.int .i64 a0_0, .bool a0_1, .int .i64 a0_2, .bool a0_3, .int .i64 a0_4, (.slice (some ad115) l0_5.length c0_5), (.slice A0_6 l0_6.length c0_6), (.slice A0_7 l0_7.length c0_7), (.slice A0_8 l0_8.length c0_8), (.slice A0_9 l0_9.length c0_9), (.slice A0_10 l0_10.length c0_10)] 92 (0, 0))) ∧ Aside0 (w'.heap[g81]? = some (.cells #[(.slice A0_9 l0_9.length c0_9), (.slice A0_10 l0_10.length c0_10)] 90 (0, 0))) ∧ Aside0 (Below w.heap.size w w'))
        case atStart => exact ⟨_, (0), o2, ⟨bnS H'.out⟩, ⟨Nat.le_refl _⟩, ⟨rw_ HO131.out⟩, ⟨bk BK101.out⟩, ⟨bk Bg81.out⟩, ⟨bs⟩⟩
        case round =>
         clear H'
         obtain ⟨x4_4, x83_o, rfl, HA, HOk4, HO_4, BK101, Bg81, HB⟩ := hrel
         cases gk with
         | zero => exact absurd HA.out (by simp [impl_Msg_wire.l1])
         | succ k4 =>
          have H := HA.out
          clear HA
          simp only [impl_Msg_wire.l1] at H
          replace H := ip H
          obtain ⟨cOk4, H⟩ | ⟨cOk4, H⟩ := H
          ·replace H := ipN H
           obtain ⟨cP, H⟩ := H
           replace H := (ipN H).2
           have H' := ak H
           clear H
           obtain ⟨A87, c87, hx87, hy87, HR87, HC87, p87, q87⟩ := impl_Msg_wire.sel2 Bg81 HR0_9 HC0_9 HR0_10 HC0_10 ([] : List (S205)) cP cOk4
           change Aside0 (impl_Msg_wire.l2 k4 x4_4 [l0_9, l0_10] 2 x83_o (impl_Msg_wire.sel [l0_9, l0_10] x83_o) ((impl_Msg_wire.sel [l0_9, l0_10] x83_o).length : Int) 0 a0_0 a0_1 a0_2 a0_3 a0_4 l0_5 l0_6 l0_7 l0_8 l0_9 l0_10 = some r) at H'
           generalize impl_Msg_wire.sel [l0_9, l0_10] x83_o = l87 at H' hx87 hy87 HR87 HC87
           go_wp2
           (try clear hx87 hy87)
           go_loopg [4, 89] k4 (fun kq v4 v89 w' => ∃ (x4_4 : List Int) (x89_i : Int), v89 = .int .i64 x89_i ∧ Aside0 (impl_Msg_wire.l2 kq x4_4 [l0_9, l0_10] 2 x83_o l87 (l87.length : Int) x89_i a0_0 a0_1 a0_2 a0_3 a0_4 l0_5 l0_6 l0_7 l0_8 l0_9 l0_10 = some r) ∧ Aside0 (kq ≤ k4) ∧ Aside0 (Kd.R (Kd.int .u8) 5 w' w.heap.size (fun _ => True) v4 x4_4) ∧ Aside0 (w'.heap[gb101]? = some (.cells #[.int .i64 a0_0, .bool a0_1, .int .i64 a0_2, .bool a0_3, .int .i64 a0_4, (.slice (some ad115) l0_5.length c0_5), (.slice A0_6 l0_6.length c0_6), (.slice A0_7 l0_7.length c0_7), (.slice A0_8 l0_8.length c0_8), (.slice A0_9 l0_9.length c0_9), (.slice A0_10 l0_10.length c0_10)] 92 (0, 0))) ∧ Aside0 (w'.heap[g81]? = some (.cells #[(.slice A0_9 l0_9.length c0_9), (.slice A0_10 l0_10.length c0_10)] 90 (0, 0))) ∧ Aside0 (Below w.heap.size w w'))
           case atStart => exact ⟨_, (0), o2, H', ⟨Nat.le_refl _⟩, ⟨rw_ HO_4.out⟩, ⟨bk BK101.out⟩, ⟨bk Bg81.out⟩, ⟨bs⟩⟩
           case round =>
            clear H'
            obtain ⟨x4_4, x89_i, rfl, HA, HOk5, HO_4, BK101, Bg81, HB⟩ := hrel
            cases gk with
            | zero => exact absurd HA.out (by simp [impl_Msg_wire.l2])
            | succ k5 =>
             have H := HA.out
             clear HA
             simp only [impl_Msg_wire.l2] at H
             replace H := ip H
             obtain ⟨cI, H⟩ | ⟨cI, H⟩ := H
             ·replace H := ipN H
              obtain ⟨cQ, H⟩ := H
              replace H := (ipN H).2
              replace H := bnd H
              obtain ⟨t134, A44, H⟩ := H
              replace H := iqN H
              obtain ⟨c45, H⟩ := H
              have LMc45 := ak c45
              clear c45
              obtain ⟨y137, hy137⟩ : ∃ y_ : List Int, y_ = (x4_4 ++ t134) := ⟨_, rfl⟩
              rw [← hy137] at H
              have Ny137 := ak hy137
              clear hy137
              have H' := ak H
              clear H
              obtain ⟨ad132, A132_0, c132_0, A132_4, c132_4, A132_5, c132_5, A132_6, c132_6, rfl, hx132_0, hx132_1, hx132_2, hx132_3, hx132_4, hx132_5, hx132_6, hx132_7, hx132_8, HC132_0, HR132_0, HC132_4, HR132_4, HC132_5, HR132_5, HC132_6, HR132_6, p132, q132⟩ := el_T205 HR87 HB x89_i
              go_wp2_with (first | ((with_reducible refine gate_dst (N := 10) rfl ?_);refine bxe (N := 10) rfl ?_;intro gb133 hg w46 hbox hb;replace HO_4 := ak (Kd.R_below (rw_ HO_4.out) hb);have BK133 := ak (hbox);have GW133 := b3s hg bs;have GE133 := GW133;replace HB := b2s bs hb;have NB101_133 := b4 hg BK101;have NBBg81_133 := b4 hg Bg81;have NB133_101 := b5 hg BK101;replace BK101 := b1 BK101 hb;replace Bg81 := b1 Bg81 hb;clear hb hbox hg;have hnb47 := NB133_101.out;have hnc47 := NB101_133.out;obtain ⟨hcz48_0, hcz48_1, hcz48_2, hcz48_3, hcz48_4, hcz48_5, hcz48_6, hcz48_7, hcz48_8, hfz48_0, hfz48_1, hfz48_2, hfz48_3, hfz48_4, hfz48_5, hfz48_6, hfz48_7, hfz48_8⟩ := cells9 BK133.out) | ((with_reducible refine gate_callee (f := 201) rfl ?_);refine glG 95 rfl rfl Try.func201 (impl_Want_wire.calls k5 _ _ ((rd_T205 l87 x89_i).f0.f0.f0) ((rd_T205 l87 x89_i).f0.f1) ((rd_T205 l87 x89_i).f0.f2) ((rd_T205 l87 x89_i).f0.f3) _ _ ((rd_T205 l87 x89_i).f0.f4.f0) _ _ ((rd_T205 l87 x89_i).f0.f5) _ _ ((rd_T205 l87 x89_i).f0.f6) ((rd_T205 l87 x89_i).f1) ((rd_T205 l87 x89_i).f2) t134 _ (Kd.C_below HR132_0.out bs) HC132_0.out (Kd.C_below HR132_4.out bs) HC132_4.out (Kd.C_below HR132_5.out bs) HC132_5.out (Kd.C_below HR132_6.out bs) HC132_6.out A44.out) ?_;rintro e w49 ⟨v135, rfl, ho0, hb⟩;refine ⟨_, rfl, ?_⟩;have HO136 := ak (Kd.R_lower (Kd.R_new' ho0 (Kd.R_lt (far9R HO_4.out BK133.out (by decide)))) (below_size bs));replace HO_4 := ak (Kd.R_elder' (far9R HO_4.out BK133.out (by decide)) (Kd.R_base ho0) hb);replace BK101 := ak (blk_below (bfar9 NB101_133.out BK101.out) hb);replace Bg81 := ak (blk_below (bfar9 NBBg81_133.out Bg81.out) hb);replace BK133 := ak (blk_below (bput9 BK133.out) hb);replace HB := b2s bs hb;(try clear hb);(try clear hb2);(try clear hk);(try clear hi);(try clear ho0);obtain ⟨Ao51, co51, eo51⟩ := Kd.R_slice HO136.out;subst eo51) | ((with_reducible refine gate_builtin (b := .append) (xs := #[.tmp 93, .tmp 95]) rfl ?_);at_builtin;refine Kd.R_append_rows (Kd.int .u8) (w0 := w) w.heap.size rfl (.tmp 93) (.tmp 95) 25 5 (.int .u8 0) 1 rfl Try.underlying25 info5 rfl (by decide) (by omega) u4 x4_4 t134 _ _ _ (fun k_ => some k_ ≠ (.slice Ao51 t134.length co51 : Value).ownBlock) (fun _ => False) rfl rfl ?aO ?aR (fun _ _ h => h) (fun _ h => h.elim) ?aF ?aB ?aS ?aL ?_;(case aR => repeat (first | exact (Kd.R_reads' HO136.out).2.2 | (with_reducible refine Kd.C_alloc ?_ _) | (with_reducible refine Kd.C_drewN ?_ _) | (with_reducible refine Kd.C_drew ?_)));(case aB => exact bs);(case aF => exact (fun k_ hk => Kd.fresh' (Kd.R_lt (rw_ HO136.out)) k_ hk));(case aO => exact (rw_ (Kd.R_mono HO_4.out (fun _ hk => hk.2))));(case aS => exact (below_size bs));(case aL => have := LMc45.out; omega);intro v138 w50 ho hb hg hat;rw [← Ny137.out] at ho;replace BK101 := ak (blk_grown (bk BK101.out) hg (Kd.R_ne HO_4.out BK101.out (by decide)));replace Bg81 := ak (blk_grown (bk Bg81.out) hg (Kd.R_ne HO_4.out Bg81.out (by decide)));replace BK133 := ak (blk_grown (bk BK133.out) hg (Kd.R_ne HO_4.out BK133.out (by decide)));replace HO136 := ak (Kd.R_after (ok := (fun _ => True)) (rw_ HO136.out) hg hat);replace HB := ak (hb);have HO139 := ak (ho);clear HO_4;clear ho hb hg hat))
              go_roundg k5
              case measure => have := HJ1.out; have := HJ5.out; have := HK3.out; have := HOk4.out; have := HOk5.out; omega
              case rel => exact ⟨_, _, o2, H', ⟨by have := HJ1.out; have := HJ5.out; have := HK3.out; have := HOk4.out; have := HOk5.out; omega⟩, ⟨by (with_reducible repeat (first | apply Kd.R_alloc | apply Kd.R_drewN | apply Kd.R_drew)); exact Kd.R_mono HO139.out (fun _ hk => trivial)⟩, ⟨bk BK101.out⟩, ⟨bk Bg81.out⟩, ⟨bs⟩⟩
             ·have H' := ak H
              clear H
              go_wp2
              go_roundg k5
              case measure => have := HJ1.out; have := HJ5.out; have := HK3.out; have := HOk4.out; have := HOk5.out; omega
              case rel => exact ⟨_, _, o2, H', ⟨by have := HJ1.out; have := HJ5.out; have := HK3.out; have := HOk4.out; have := HOk5.out; omega⟩, ⟨rw_ HO_4.out⟩, ⟨bk BK101.out⟩, ⟨bk Bg81.out⟩, ⟨bs⟩⟩
          ·replace H := bnS H
           have H' := ak H
           clear H
           have hcz_6 : wr.cell? ⟨gb101, 6, none⟩ = some (.slice A0_6 l0_6.length c0_6) := (blk_cell BK101.out 6).trans rfl
           have hfz_6 := blk_frozen BK101.out 6
           have hcz_7 : wr.cell? ⟨gb101, 7, none⟩ = some (.slice A0_7 l0_7.length c0_7) := (blk_cell BK101.out 7).trans rfl
           have hfz_7 := blk_frozen BK101.out 7
           have hcz_8 : wr.cell? ⟨gb101, 8, none⟩ = some (.slice A0_8 l0_8.length c0_8) := (blk_cell BK101.out 8).trans rfl
           have hfz_8 := blk_frozen BK101.out 8
           go_wp2
           obtain ⟨g105, hg105⟩ : ∃ g_, g_ = wr.heap.size := ⟨_, rfl⟩
           rw [← hg105]
           have Bg105 := ak (show (wr.alloc (.cells #[.slice A0_6 l0_6.length c0_6, .slice A0_7 l0_7.length c0_7, .slice A0_8 l0_8.length c0_8] 57)).heap[g105]? = some (.cells #[.slice A0_6 l0_6.length c0_6, .slice A0_7 l0_7.length c0_7, .slice A0_8 l0_8.length c0_8] 57 (0, 0)) by rw [hg105]; exact blk_new _ _)
           clear hg105
           clear hcz_6 hcz_7 hcz_8 hfz_6 hfz_7 hfz_8
           go_loopg [4, 107] k4 (fun kq v4 v107 w' => ∃ (x4_4 : List Int) (x107_o : Int), v107 = .int .i64 x107_o ∧ Aside0 (impl_Msg_wire.l3 kq x4_4 [l0_6, l0_7, l0_8] 3 x107_o = some r) ∧ Aside0 (kq ≤ k4) ∧ Aside0 (Kd.R (Kd.int .u8) 5 w' w.heap.size (fun _ => True) v4 x4_4) ∧ Aside0 (w'.heap[gb101]? = some (.cells #[.int .i64 a0_0, .bool a0_1, .int .i64 a0_2, .bool a0_3, .int .i64 a0_4, (.slice (some ad115) l0_5.length c0_5), (.slice A0_6 l0_6.length c0_6), (.slice A0_7 l0_7.length c0_7), (.slice A0_8 l0_8.length c0_8), (.slice A0_9 l0_9.length c0_9), (.slice A0_10 l0_10.length c0_10)] 92 (0, 0))) ∧ Aside0 (w'.heap[g105]? = some (.cells #[(.slice A0_6 l0_6.length c0_6), (.slice A0_7 l0_7.length c0_7), (.slice A0_8 l0_8.length c0_8)] 57 (0, 0))) ∧ Aside0 (Below w.heap.size w w'))
           case atStart => exact ⟨_, (0), o2, H', ⟨Nat.le_refl _⟩, ⟨rw_ HO_4.out⟩, ⟨bk BK101.out⟩, ⟨bk Bg105.out⟩, ⟨bs⟩⟩
           case round =>
            clear H'
            obtain ⟨x4_4, x107_o, rfl, HA, HOk6, HO_4, BK101, Bg105, HB⟩ := hrel
            cases gk with
            | zero => exact absurd HA.out (by simp [impl_Msg_wire.l3])
            | succ k6 =>
             have H := HA.out
             clear HA
             simp only [impl_Msg_wire.l3] at H
             replace H := ip H
             obtain ⟨cOk6, H⟩ | ⟨cOk6, H⟩ := H
             ·replace H := ipN H
              obtain ⟨cP, H⟩ := H
              replace H := (ipN H).2
              have H' := ak H
              clear H
              obtain ⟨A87, c87, hx87, hy87, HR87, HC87, p87, q87⟩ := impl_Msg_wire.sel3 Bg105 HR0_6 HC0_6 HR0_7 HC0_7 HR0_8 HC0_8 ([] : List (S33)) cP cOk6
              change Aside0 (impl_Msg_wire.l4 k6 x4_4 [l0_6, l0_7, l0_8] 3 x107_o (impl_Msg_wire.sel [l0_6, l0_7, l0_8] x107_o) ((impl_Msg_wire.sel [l0_6, l0_7, l0_8] x107_o).length : Int) 0 = some r) at H'
              generalize impl_Msg_wire.sel [l0_6, l0_7, l0_8] x107_o = l87 at H' hx87 hy87 HR87 HC87
              go_wp2
              (try clear hx87 hy87)
              go_loopg [4, 113] k6 (fun kq v4 v113 w' => ∃ (x4_4 : List Int) (x113_i : Int), v113 = .int .i64 x113_i ∧ Aside0 (impl_Msg_wire.l4 kq x4_4 [l0_6, l0_7, l0_8] 3 x107_o l87 (l87.length : Int) x113_i = some r) ∧ Aside0 (kq ≤ k6) ∧ Aside0 (Kd.R (Kd.int .u8) 5 w' w.heap.size (fun _ => True) v4 x4_4) ∧ Aside0 (w'.heap[gb101]? = some (.cells #[.int .i64 a0_0, .bool a0_1, .int .i64 a0_2, .bool a0_3, .int .i64 a0_4, (.slice (some ad115) l0_5.length c0_5), (.slice A0_6 l0_6.length c0_6), (.slice A0_7 l0_7.length c0_7), (.slice A0_8 l0_8.length c0_8), (.slice A0_9 l0_9.length c0_9), (.slice A0_10 l0_10.length c0_10)] 92 (0, 0))) ∧ Aside0 (w'.heap[g105]? = some (.cells #[(.slice A0_6 l0_6.length c0_6), (.slice A0_7 l0_7.length c0_7), (.slice A0_8 l0_8.length c0_8)] 57 (0, 0))) ∧ Aside0 (Below w.heap.size w w'))
              case atStart => exact ⟨_, (0), o2, H', ⟨Nat.le_refl _⟩, ⟨rw_ HO_4.out⟩, ⟨bk BK101.out⟩, ⟨bk Bg105.out⟩, ⟨bs⟩⟩
              case round =>
               clear H'
               obtain ⟨x4_4, x113_i, rfl, HA, HOk7, HO_4, BK101, Bg105, HB⟩ := hrel
               cases gk with
               | zero => exact absurd HA.out (by simp [impl_Msg_wire.l4])
               | succ k7 =>
                have H := HA.out
                clear HA
                simp only [impl_Msg_wire.l4] at H
                replace H := ip H
                obtain ⟨cI, H⟩ | ⟨cI, H⟩ := H
                ·replace H := ipN H
                 obtain ⟨cQ, H⟩ := H
                 replace H := (ipN H).2
                 replace H := bnd H
                 obtain ⟨t142, A56, H⟩ := H
                 replace H := iqN H
                 obtain ⟨c57, H⟩ := H
                 have LMc57 := ak c57
                 clear c57
                 obtain ⟨y145, hy145⟩ : ∃ y_ : List Int, y_ = (x4_4 ++ t142) := ⟨_, rfl⟩
                 rw [← hy145] at H
                 have Ny145 := ak hy145
                 clear hy145
                 have H' := ak H
                 clear H
                 obtain ⟨ad140, A140_0, c140_0, A140_4, c140_4, A140_5, c140_5, A140_6, c140_6, rfl, hx140_0, hx140_1, hx140_2, hx140_3, hx140_4, hx140_5, hx140_6, HC140_0, HR140_0, HC140_4, HR140_4, HC140_5, HR140_5, HC140_6, HR140_6, p140, q140⟩ := el_T33 HR87 HB x113_i
                 go_wp2_with (first | ((with_reducible refine gate_dst (N := 14) rfl ?_);refine bxe (N := 14) rfl ?_;intro gb141 hg w58 hbox hb;replace HO_4 := ak (Kd.R_below (rw_ HO_4.out) hb);have BK141 := ak (hbox);have GW141 := b3s hg bs;have GE141 := GW141;replace HB := b2s bs hb;have NB101_141 := b4 hg BK101;have NBBg105_141 := b4 hg Bg105;have NB141_101 := b5 hg BK101;replace BK101 := b1 BK101 hb;replace Bg105 := b1 Bg105 hb;clear hb hbox hg;have hnb59 := NB141_101.out;have hnc59 := NB101_141.out;obtain ⟨hcz60_0, hcz60_1, hcz60_2, hcz60_3, hcz60_4, hcz60_5, hcz60_6, hfz60_0, hfz60_1, hfz60_2, hfz60_3, hfz60_4, hfz60_5, hfz60_6⟩ := cells7 BK141.out) | ((with_reducible refine gate_callee (f := 202) rfl ?_);refine glG 119 rfl rfl Try.func202 (impl_Rr_wire.calls k7 _ _ ((rd_T33 l87 x113_i).f0.f0) ((rd_T33 l87 x113_i).f1) ((rd_T33 l87 x113_i).f2) ((rd_T33 l87 x113_i).f3) _ _ ((rd_T33 l87 x113_i).f4.f0) _ _ ((rd_T33 l87 x113_i).f5) _ _ ((rd_T33 l87 x113_i).f6) t142 _ (Kd.C_below HR140_0.out bs) HC140_0.out (Kd.C_below HR140_4.out bs) HC140_4.out (Kd.C_below HR140_5.out bs) HC140_5.out (Kd.C_below HR140_6.out bs) HC140_6.out A56.out) ?_;rintro e w61 ⟨v143, rfl, ho0, hb⟩;refine ⟨_, rfl, ?_⟩;have HO144 := ak (Kd.R_lower (Kd.R_new' ho0 (Kd.R_lt (far7R HO_4.out BK141.out (by decide)))) (below_size bs));replace HO_4 := ak (Kd.R_elder' (far7R HO_4.out BK141.out (by decide)) (Kd.R_base ho0) hb);replace BK101 := ak (blk_below (bfar7 NB101_141.out BK101.out) hb);replace Bg105 := ak (blk_below (bfar7 NBBg105_141.out Bg105.out) hb);replace BK141 := ak (blk_below (bput7 BK141.out) hb);replace HB := b2s bs hb;(try clear hb);(try clear hb2);(try clear hk);(try clear hi);(try clear ho0);obtain ⟨Ao63, co63, eo63⟩ := Kd.R_slice HO144.out;subst eo63) | ((with_reducible refine gate_builtin (b := .append) (xs := #[.tmp 117, .tmp 119]) rfl ?_);at_builtin;refine Kd.R_append_rows (Kd.int .u8) (w0 := w) w.heap.size rfl (.tmp 117) (.tmp 119) 25 5 (.int .u8 0) 1 rfl Try.underlying25 info5 rfl (by decide) (by omega) u4 x4_4 t142 _ _ _ (fun k_ => some k_ ≠ (.slice Ao63 t142.length co63 : Value).ownBlock) (fun _ => False) rfl rfl ?aO ?aR (fun _ _ h => h) (fun _ h => h.elim) ?aF ?aB ?aS ?aL ?_;(case aR => repeat (first | exact (Kd.R_reads' HO144.out).2.2 | (with_reducible refine Kd.C_alloc ?_ _) | (with_reducible refine Kd.C_drewN ?_ _) | (with_reducible refine Kd.C_drew ?_)));(case aB => exact bs);(case aF => exact (fun k_ hk => Kd.fresh' (Kd.R_lt (rw_ HO144.out)) k_ hk));(case aO => exact (rw_ (Kd.R_mono HO_4.out (fun _ hk => hk.2))));(case aS => exact (below_size bs));(case aL => have := LMc57.out; omega);intro v146 w62 ho hb hg hat;rw [← Ny145.out] at ho;replace BK101 := ak (blk_grown (bk BK101.out) hg (Kd.R_ne HO_4.out BK101.out (by decide)));replace Bg105 := ak (blk_grown (bk Bg105.out) hg (Kd.R_ne HO_4.out Bg105.out (by decide)));replace BK141 := ak (blk_grown (bk BK141.out) hg (Kd.R_ne HO_4.out BK141.out (by decide)));replace HO144 := ak (Kd.R_after (ok := (fun _ => True)) (rw_ HO144.out) hg hat);replace HB := ak (hb);have HO147 := ak (ho);clear HO_4;clear ho hb hg hat))
                 go_roundg k7
                 case measure => have := HJ1.out; have := HJ5.out; have := HK3.out; have := HOk4.out; have := HOk6.out; have := HOk7.out; omega
                 case rel => exact ⟨_, _, o2, H', ⟨by have := HJ1.out; have := HJ5.out; have := HK3.out; have := HOk4.out; have := HOk6.out; have := HOk7.out; omega⟩, ⟨by (with_reducible repeat (first | apply Kd.R_alloc | apply Kd.R_drewN | apply Kd.R_drew)); exact Kd.R_mono HO147.out (fun _ hk => trivial)⟩, ⟨bk BK101.out⟩, ⟨bk Bg105.out⟩, ⟨bs⟩⟩
                ·have H' := ak H
                 clear H
                 go_wp2
                 go_roundg k7
                 case measure => have := HJ1.out; have := HJ5.out; have := HK3.out; have := HOk4.out; have := HOk6.out; have := HOk7.out; omega
                 case rel => exact ⟨_, _, o2, H', ⟨by have := HJ1.out; have := HJ5.out; have := HK3.out; have := HOk4.out; have := HOk6.out; have := HOk7.out; omega⟩, ⟨rw_ HO_4.out⟩, ⟨bk BK101.out⟩, ⟨bk Bg105.out⟩, ⟨bs⟩⟩
             ·obtain rfl := Option.some.inj H
              go_wp2
              go_ret
              exact ⟨_, o1, rw_ HO_4.out, bs⟩


/-! ### impl_MsgOk: function 56 -/
def impl_MsgOk.f (k : Nat) (a0_0 : Int) (a0_1 : Bool) (a0_2 : Int) (a0_3 : Bool) (a0_4 : Int) (l0_5 : List (S200)) (l0_6 : List (S33)) (l0_7 : List (S33)) (l0_8 : List (S33)) (l0_9 : List (S205)) (l0_10 : List (S205)) : Option (Bool) := (impl_Msg_shaped.f k a0_0 a0_1 a0_2 a0_3 a0_4 l0_5 l0_6 l0_7 l0_8 l0_9 l0_10).bind fun t102 => (if t102 = true then ((impl_Msg_wire.f k a0_0 a0_1 a0_2 a0_3 a0_4 l0_5 l0_6 l0_7 l0_8 l0_9 l0_10).bind fun t103 => (some (decide ((t103.length : Int) ≤ 512)))) else (some false))
set_option maxHeartbeats 8000000 in
set_option maxRecDepth 100000 in
theorem impl_MsgOk.calls (k : Nat) (a0_0 : Int) (a0_1 : Bool) (a0_2 : Int) (a0_3 : Bool) (a0_4 : Int) (A0_5 : Option Addr) (c0_5 : Nat) (l0_5 : List (S200)) (A0_6 : Option Addr) (c0_6 : Nat) (l0_6 : List (S33)) (A0_7 : Option Addr) (c0_7 : Nat) (l0_7 : List (S33)) (A0_8 : Option Addr) (c0_8 : Nat) (l0_8 : List (S33)) (A0_9 : Option Addr) (c0_9 : Nat) (l0_9 : List (S205)) (A0_10 : Option Addr) (c0_10 : Nat) (l0_10 : List (S205)) (r : Bool) (w : World) (hr0_5 : Kd.C k200 w A0_5 l0_5.length l0_5) (hc0_5 : l0_5.length ≤ c0_5) (hr0_6 : Kd.C k33 w A0_6 l0_6.length l0_6) (hc0_6 : l0_6.length ≤ c0_6) (hr0_7 : Kd.C k33 w A0_7 l0_7.length l0_7) (hc0_7 : l0_7.length ≤ c0_7) (hr0_8 : Kd.C k33 w A0_8 l0_8.length l0_8) (hc0_8 : l0_8.length ≤ c0_8) (hr0_9 : Kd.C k205 w A0_9 l0_9.length l0_9) (hc0_9 : l0_9.length ≤ c0_9) (hr0_10 : Kd.C k205 w A0_10 l0_10.length l0_10) (hc0_10 : l0_10.length ≤ c0_10) (h : impl_MsgOk.f k a0_0 a0_1 a0_2 a0_3 a0_4 l0_5 l0_6 l0_7 l0_8 l0_9 l0_10 = some r) :
  Calls Try.prog 56 #[.agg #[.int .i64 a0_0, .bool a0_1, .int .i64 a0_2, .bool a0_3, .int .i64 a0_4, .slice A0_5 l0_5.length c0_5, .slice A0_6 l0_6.length c0_6, .slice A0_7 l0_7.length c0_7, .slice A0_8 l0_8.length c0_8, .slice A0_9 l0_9.length c0_9, .slice A0_10 l0_10.length c0_10]] w fun e w' => e = .returned (.bool r) ∧ Below w.heap.size w w' := by
 have hu92 := Try.underlying92
 have HR0_5 := ak hr0_5
 have HC0_5 := ak hc0_5
 clear hr0_5 hc0_5
 have HR0_6 := ak hr0_6
 have HC0_6 := ak hc0_6
 clear hr0_6 hc0_6
 have HR0_7 := ak hr0_7
 have HC0_7 := ak hc0_7
 clear hr0_7 hc0_7
 have HR0_8 := ak hr0_8
 have HC0_8 := ak hc0_8
 clear hr0_8 hc0_8
 have HR0_9 := ak hr0_9
 have HC0_9 := ak hc0_9
 clear hr0_9 hc0_9
 have HR0_10 := ak hr0_10
 have HC0_10 := ak hc0_10
 clear hr0_10 hc0_10
 have HB := ak (Below.refl w.heap.size w)
 have H : ((impl_Msg_shaped.f k a0_0 a0_1 a0_2 a0_3 a0_4 l0_5 l0_6 l0_7 l0_8 l0_9 l0_10).bind fun t102 => (if t102 = true then ((impl_Msg_wire.f k a0_0 a0_1 a0_2 a0_3 a0_4 l0_5 l0_6 l0_7 l0_8 l0_9 l0_10).bind fun t103 => (some (decide ((t103.length : Int) ≤ 512)))) else (some false))) = some r := h
 clear h
 replace H := bnd H
 obtain ⟨t102, A2, H⟩ := H
 replace H := ib H
 obtain ⟨rfl, H⟩ | ⟨rfl, H⟩ := H
 ·replace H := bnd H
  obtain ⟨t103, A4, H⟩ := H
  obtain rfl := Option.some.inj H
  go_enter Try.func56, Try.ntmps56
  go_wp2_with (first | ((with_reducible refine gate_dst (N := 1) rfl ?_);(try (refine gate_guard (by rfl) ?_; dsimp only));refine bxd (N := 1) rfl HB ?_;clear HB;intro gb101 w5 hg HB BK101 GE101 hb;have GW101 := GE101;clear hb hg;obtain ⟨hcz6_0, hcz6_1, hcz6_2, hcz6_3, hcz6_4, hcz6_5, hcz6_6, hcz6_7, hcz6_8, hcz6_9, hcz6_10, hfz6_0, hfz6_1, hfz6_2, hfz6_3, hfz6_4, hfz6_5, hfz6_6, hfz6_7, hfz6_8, hfz6_9, hfz6_10⟩ := cells11 BK101.out) | ((with_reducible refine gate_callee (f := 130) rfl ?_);refine glB 4 rfl rfl Try.func130 (impl_Msg_shaped.calls k a0_0 a0_1 a0_2 a0_3 a0_4 _ _ l0_5 _ _ l0_6 _ _ l0_7 _ _ l0_8 _ _ l0_9 _ _ l0_10 true _ (cv HR0_5 HB) HC0_5.out (cv HR0_6 HB) HC0_6.out (cv HR0_7 HB) HC0_7.out (cv HR0_8 HB) HC0_8.out (cv HR0_9 HB) HC0_9.out (cv HR0_10 HB) HC0_10.out A2.out) (fun w7 hb => ?_);replace BK101 := b1 BK101 hb;replace HB := b2s bs hb;(try clear hb);obtain ⟨hcz8_0, hcz8_1, hcz8_2, hcz8_3, hcz8_4, hcz8_5, hcz8_6, hcz8_7, hcz8_8, hcz8_9, hcz8_10, hfz8_0, hfz8_1, hfz8_2, hfz8_3, hfz8_4, hfz8_5, hfz8_6, hfz8_7, hfz8_8, hfz8_9, hfz8_10⟩ := cells11 BK101.out) | (go_at_call 131;(with_reducible refine (impl_Msg_wire.calls k a0_0 a0_1 a0_2 a0_3 a0_4 _ _ l0_5 _ _ l0_6 _ _ l0_7 _ _ l0_8 _ _ l0_9 _ _ l0_10 t103 _ (cv HR0_5 HB) HC0_5.out (cv HR0_6 HB) HC0_6.out (cv HR0_7 HB) HC0_7.out (cv HR0_8 HB) HC0_8.out (cv HR0_9 HB) HC0_9.out (cv HR0_10 HB) HC0_10.out A4.out).mono ?_);rintro e w9 ⟨v104, rfl, ho0, hb⟩;have HO105 := ak (Kd.R_lower ho0 (below_size bs));replace BK101 := b1 BK101 hb;replace HB := b2s bs hb;(try clear hb);(try clear ho0);obtain ⟨Ao10, co10, eo10⟩ := Kd.R_slice HO105.out;subst eo10))
  go_ret
  exact ⟨o1, bs⟩
 ·obtain rfl := Option.some.inj H
  go_enter Try.func56, Try.ntmps56
  go_wp2_with (first | ((with_reducible refine gate_dst (N := 1) rfl ?_);(try (refine gate_guard (by rfl) ?_; dsimp only));refine bxd (N := 1) rfl HB ?_;clear HB;intro gb101 w11 hg HB BK101 GE101 hb;have GW101 := GE101;clear hb hg;obtain ⟨hcz12_0, hcz12_1, hcz12_2, hcz12_3, hcz12_4, hcz12_5, hcz12_6, hcz12_7, hcz12_8, hcz12_9, hcz12_10, hfz12_0, hfz12_1, hfz12_2, hfz12_3, hfz12_4, hfz12_5, hfz12_6, hfz12_7, hfz12_8, hfz12_9, hfz12_10⟩ := cells11 BK101.out) | ((with_reducible refine gate_callee (f := 130) rfl ?_);refine glB 4 rfl rfl Try.func130 (impl_Msg_shaped.calls k a0_0 a0_1 a0_2 a0_3 a0_4 _ _ l0_5 _ _ l0_6 _ _ l0_7 _ _ l0_8 _ _ l0_9 _ _ l0_10 false _ (cv HR0_5 HB) HC0_5.out (cv HR0_6 HB) HC0_6.out (cv HR0_7 HB) HC0_7.out (cv HR0_8 HB) HC0_8.out (cv HR0_9 HB) HC0_9.out (cv HR0_10 HB) HC0_10.out A2.out) (fun w13 hb => ?_);replace BK101 := b1 BK101 hb;replace HB := b2s bs hb;(try clear hb)))
  go_ret
  exact ⟨o1, bs⟩

/-! ### laws_eqByteS: function 28 -/
def laws_eqByteS.l0 : Nat → List Int → List Int → Int → Option (Bool)
 | 0, _, _, _ => none
 | k + 1, x0, x1, x5 => if x5 < (x0.length : Int) then (if 0 ≤ x5 then (if x5 < (x1.length : Int) then (if (rd x0 x5) = (rd x1 x5) then (laws_eqByteS.l0 k x0 x1 (wrap64 (x5 + 1))) else (some false)) else (none)) else (none)) else (some true)
def laws_eqByteS.f (k : Nat) (l0 : List Int) (l1 : List Int) : Option (Bool) := if (l0.length : Int) = (l1.length : Int) then (laws_eqByteS.l0 k l0 l1 0) else (some false)
set_option maxHeartbeats 8000000 in
set_option maxRecDepth 100000 in
theorem laws_eqByteS.calls (k : Nat) (A0 : Option Addr) (c0 : Nat) (l0 : List Int) (A1 : Option Addr) (c1 : Nat) (l1 : List Int) (r : Bool) (w : World) (hr0 : Kd.C (Kd.int .u8) w A0 l0.length l0) (hc0 : l0.length ≤ c0) (hr1 : Kd.C (Kd.int .u8) w A1 l1.length l1) (hc1 : l1.length ≤ c1) (h : laws_eqByteS.f k l0 l1 = some r) :
  Calls Try.prog 28 #[.slice A0 l0.length c0, .slice A1 l1.length c1] w fun e w' => e = .returned (.bool r) ∧ Drawn0 w w' := by
 have HR0 := ak hr0
 have HC0 := ak hc0
 clear hr0 hc0
 have HR1 := ak hr1
 have HC1 := ak hc1
 clear hr1 hc1
 have H : (if (l0.length : Int) = (l1.length : Int) then (laws_eqByteS.l0 k l0 l1 0) else (some false)) = some r := h
 clear h
 replace H := ie H
 obtain ⟨c3b0, c3b1, H⟩ | ⟨c3b0, c3b1, H⟩ := H
 ·have c3b2 : (l0.length == l1.length) = true := lnT c3b0
  have H' := ak H
  clear H
  go_enter Try.func28, Try.ntmps28
  go_wp2
  repeat (go_quiet (fail); try go_wp2)
  go_loopg [5] k (fun kq v5 w' => ∃ (x5_1 : Int), v5 = .int .i64 x5_1 ∧ Aside0 (laws_eqByteS.l0 kq l0 l1 x5_1 = some r) ∧ Aside0 (kq ≤ k) ∧ Drawn0 w w')
  case atStart => exact ⟨(0), o2, H', ⟨Nat.le_refl _⟩, od⟩
  case round =>
   clear H'
   (try clear c1)
   (try clear c3b0)
   (try clear c3b1)
   (try clear c3b2)
   obtain ⟨x5_1, rfl, HA, HK1, ⟨m1, rfl⟩⟩ := hrel
   cases gk with
   | zero => exact absurd HA.out (by simp [laws_eqByteS.l0])
   | succ k1 =>
    have H := HA.out
    clear HA
    simp only [laws_eqByteS.l0] at H
    replace H := ip H
    obtain ⟨c4b0, H⟩ | ⟨c4b0, H⟩ := H
    ·replace H := ipN H
     obtain ⟨c5b0, H⟩ := H
     replace H := ipN H
     obtain ⟨c6b0, H⟩ := H
     replace H := ie H
     obtain ⟨c7b0, c7b1, H⟩ | ⟨c7b0, c7b1, H⟩ := H
     ·have H' := ak H
      clear H
      obtain ⟨ad101, rfl, hx101_0, p101, q101⟩ := el0_int HR0 x5_1
      obtain ⟨ad102, rfl, hx102_0, p102, q102⟩ := el0_int HR1 x5_1
      go_wp2
      repeat (go_quiet (fail); try go_wp2)
      go_roundg k1
      case measure => have := HK1.out; omega
      case rel => exact ⟨(wrap64 (x5_1 + 1)), o2, H', ⟨by have := HK1.out; omega⟩, od⟩
     ·obtain rfl := Option.some.inj H
      obtain ⟨ad101, rfl, hx101_0, p101, q101⟩ := el0_int HR0 x5_1
      obtain ⟨ad102, rfl, hx102_0, p102, q102⟩ := el0_int HR1 x5_1
      go_wp2
      repeat (go_quiet (fail); try go_wp2)
      go_ret
      exact ⟨o2, od⟩
    ·obtain rfl := Option.some.inj H
     go_wp2
     repeat (go_quiet (fail); try go_wp2)
     go_ret
     exact ⟨o2, od⟩
 ·have c3b2 : (l0.length == l1.length) = false := lnF c3b0
  obtain rfl := Option.some.inj H
  go_enter Try.func28, Try.ntmps28
  go_wp2
  repeat (go_quiet (fail); try go_wp2)
  go_ret
  exact ⟨o2, od⟩

/-! ### laws_eqByteSS: function 109 -/
def laws_eqByteSS.l0 : Nat → List (List Int) → List (List Int) → Int → Option (Bool)
 | 0, _, _, _ => none
 | k + 1, x0, x1, x5 => if x5 < (x0.length : Int) then (if 0 ≤ x5 then (if x5 < (x1.length : Int) then ((laws_eqByteS.f k (rd_L10 x0 x5) (rd_L10 x1 x5)).bind fun t103 => (if t103 = true then (laws_eqByteSS.l0 k x0 x1 (wrap64 (x5 + 1))) else (some false))) else (none)) else (none)) else (some true)
def laws_eqByteSS.f (k : Nat) (l0 : List (List Int)) (l1 : List (List Int)) : Option (Bool) := if (l0.length : Int) = (l1.length : Int) then (laws_eqByteSS.l0 k l0 l1 0) else (some false)
set_option maxHeartbeats 8000000 in
set_option maxRecDepth 100000 in
theorem laws_eqByteSS.calls (k : Nat) (A0 : Option Addr) (c0 : Nat) (l0 : List (List Int)) (A1 : Option Addr) (c1 : Nat) (l1 : List (List Int)) (r : Bool) (w : World) (hr0 : Kd.C (Kd.slice 5 (Kd.int .u8)) w A0 l0.length l0) (hc0 : l0.length ≤ c0) (hr1 : Kd.C (Kd.slice 5 (Kd.int .u8)) w A1 l1.length l1) (hc1 : l1.length ≤ c1) (h : laws_eqByteSS.f k l0 l1 = some r) :
  Calls Try.prog 109 #[.slice A0 l0.length c0, .slice A1 l1.length c1] w fun e w' => e = .returned (.bool r) ∧ Drawn0 w w' := by
 have HR0 := ak hr0
 have HC0 := ak hc0
 clear hr0 hc0
 have HR1 := ak hr1
 have HC1 := ak hc1
 clear hr1 hc1
 have H : (if (l0.length : Int) = (l1.length : Int) then (laws_eqByteSS.l0 k l0 l1 0) else (some false)) = some r := h
 clear h
 replace H := ie H
 obtain ⟨c3b0, c3b1, H⟩ | ⟨c3b0, c3b1, H⟩ := H
 ·have c3b2 : (l0.length == l1.length) = true := lnT c3b0
  have H' := ak H
  clear H
  go_enter Try.func109, Try.ntmps109
  go_wp2
  repeat (go_quiet (fail); try go_wp2)
  go_loopg [5] k (fun kq v5 w' => ∃ (x5_1 : Int), v5 = .int .i64 x5_1 ∧ Aside0 (laws_eqByteSS.l0 kq l0 l1 x5_1 = some r) ∧ Aside0 (kq ≤ k) ∧ Drawn0 w w')
  case atStart => exact ⟨(0), o2, H', ⟨Nat.le_refl _⟩, od⟩
  case round =>
   clear H'
   (try clear c1)
   (try clear c3b0)
   (try clear c3b1)
   (try clear c3b2)
   obtain ⟨x5_1, rfl, HA, HK1, ⟨m1, rfl⟩⟩ := hrel
   cases gk with
   | zero => exact absurd HA.out (by simp [laws_eqByteSS.l0])
   | succ k1 =>
    have H := HA.out
    clear HA
    simp only [laws_eqByteSS.l0] at H
    replace H := ip H
    obtain ⟨c4b0, H⟩ | ⟨c4b0, H⟩ := H
    ·replace H := ipN H
     obtain ⟨c5b0, H⟩ := H
     replace H := ipN H
     obtain ⟨c6b0, H⟩ := H
     replace H := bnd H
     obtain ⟨t103, A7, H⟩ := H
     replace H := ib H
     obtain ⟨rfl, H⟩ | ⟨rfl, H⟩ := H
     ·have H' := ak H
      clear H
      obtain ⟨ad101, A101_0, c101_0, rfl, hx101_0, HC101_0, HR101_0, p101, q101⟩ := el0_L10 HR0 x5_1
      obtain ⟨ad102, A102_0, c102_0, rfl, hx102_0, HC102_0, HR102_0, p102, q102⟩ := el0_L10 HR1 x5_1
      go_wp2_with ((go_at_call 28;(with_reducible refine (laws_eqByteS.calls k1 _ _ (rd_L10 l0 x5_1) _ _ (rd_L10 l1 x5_1) true _ (cd HR101_0) HC101_0.out (cd HR102_0) HC102_0.out A7.out).mono ?_);rintro e w' ⟨rfl, ⟨nd, rfl⟩⟩;(try first | exact ⟨rfl, _, World.drewN_drewN _ _ _⟩ | exact ⟨rfl, _, Eq.trans (World.drewN_drewN _ _ _) (congrArg (World.drewN _) (Nat.add_assoc _ _ _))⟩)))
      repeat (go_quiet ((go_at_call 28;(with_reducible refine (laws_eqByteS.calls k1 _ _ (rd_L10 l0 x5_1) _ _ (rd_L10 l1 x5_1) true _ (cd HR101_0) HC101_0.out (cd HR102_0) HC102_0.out A7.out).mono ?_);rintro e w' ⟨rfl, ⟨nd, rfl⟩⟩;(try first | exact ⟨rfl, _, World.drewN_drewN _ _ _⟩ | exact ⟨rfl, _, Eq.trans (World.drewN_drewN _ _ _) (congrArg (World.drewN _) (Nat.add_assoc _ _ _))⟩))); try go_wp2_with ((go_at_call 28;(with_reducible refine (laws_eqByteS.calls k1 _ _ (rd_L10 l0 x5_1) _ _ (rd_L10 l1 x5_1) true _ (cd HR101_0) HC101_0.out (cd HR102_0) HC102_0.out A7.out).mono ?_);rintro e w' ⟨rfl, ⟨nd, rfl⟩⟩;(try first | exact ⟨rfl, _, World.drewN_drewN _ _ _⟩ | exact ⟨rfl, _, Eq.trans (World.drewN_drewN _ _ _) (congrArg (World.drewN _) (Nat.add_assoc _ _ _))⟩))))
      go_roundg k1
      case measure => have := HK1.out; omega
      case rel => exact ⟨(wrap64 (x5_1 + 1)), o2, H', ⟨by have := HK1.out; omega⟩, od⟩
     ·obtain rfl := Option.some.inj H
      obtain ⟨ad101, A101_0, c101_0, rfl, hx101_0, HC101_0, HR101_0, p101, q101⟩ := el0_L10 HR0 x5_1
      obtain ⟨ad102, A102_0, c102_0, rfl, hx102_0, HC102_0, HR102_0, p102, q102⟩ := el0_L10 HR1 x5_1
      go_wp2_with ((go_at_call 28;(with_reducible refine (laws_eqByteS.calls k1 _ _ (rd_L10 l0 x5_1) _ _ (rd_L10 l1 x5_1) false _ (cd HR101_0) HC101_0.out (cd HR102_0) HC102_0.out A7.out).mono ?_);rintro e w' ⟨rfl, ⟨nd, rfl⟩⟩;(try first | exact ⟨rfl, _, World.drewN_drewN _ _ _⟩ | exact ⟨rfl, _, Eq.trans (World.drewN_drewN _ _ _) (congrArg (World.drewN _) (Nat.add_assoc _ _ _))⟩)))
      repeat (go_quiet ((go_at_call 28;(with_reducible refine (laws_eqByteS.calls k1 _ _ (rd_L10 l0 x5_1) _ _ (rd_L10 l1 x5_1) false _ (cd HR101_0) HC101_0.out (cd HR102_0) HC102_0.out A7.out).mono ?_);rintro e w' ⟨rfl, ⟨nd, rfl⟩⟩;(try first | exact ⟨rfl, _, World.drewN_drewN _ _ _⟩ | exact ⟨rfl, _, Eq.trans (World.drewN_drewN _ _ _) (congrArg (World.drewN _) (Nat.add_assoc _ _ _))⟩))); try go_wp2_with ((go_at_call 28;(with_reducible refine (laws_eqByteS.calls k1 _ _ (rd_L10 l0 x5_1) _ _ (rd_L10 l1 x5_1) false _ (cd HR101_0) HC101_0.out (cd HR102_0) HC102_0.out A7.out).mono ?_);rintro e w' ⟨rfl, ⟨nd, rfl⟩⟩;(try first | exact ⟨rfl, _, World.drewN_drewN _ _ _⟩ | exact ⟨rfl, _, Eq.trans (World.drewN_drewN _ _ _) (congrArg (World.drewN _) (Nat.add_assoc _ _ _))⟩))))
      go_ret
      exact ⟨o2, od⟩
    ·obtain rfl := Option.some.inj H
     go_wp2
     repeat (go_quiet (fail); try go_wp2)
     go_ret
     exact ⟨o2, od⟩
 ·have c3b2 : (l0.length == l1.length) = false := lnF c3b0
  obtain rfl := Option.some.inj H
  go_enter Try.func109, Try.ntmps109
  go_wp2
  repeat (go_quiet (fail); try go_wp2)
  go_ret
  exact ⟨o2, od⟩

/-! ### laws_eqName: function 43 -/
def laws_eqName.f (k : Nat) (l0_0 : List (List Int)) (l1_0 : List (List Int)) : Option (Bool) := (laws_eqByteSS.f k l0_0 l1_0).bind fun t103 => (if t103 = true then (some true) else (some false))
set_option maxHeartbeats 8000000 in
set_option maxRecDepth 100000 in
theorem laws_eqName.calls (k : Nat) (A0_0 : Option Addr) (c0_0 : Nat) (l0_0 : List (List Int)) (A1_0 : Option Addr) (c1_0 : Nat) (l1_0 : List (List Int)) (r : Bool) (w : World) (hr0_0 : Kd.C (Kd.slice 5 (Kd.int .u8)) w A0_0 l0_0.length l0_0) (hc0_0 : l0_0.length ≤ c0_0) (hr1_0 : Kd.C (Kd.slice 5 (Kd.int .u8)) w A1_0 l1_0.length l1_0) (hc1_0 : l1_0.length ≤ c1_0) (h : laws_eqName.f k l0_0 l1_0 = some r) :
  Calls Try.prog 43 #[.agg #[.slice A0_0 l0_0.length c0_0], .agg #[.slice A1_0 l1_0.length c1_0]] w fun e w' => e = .returned (.bool r) ∧ Below w.heap.size w w' := by
 have hu31 := Try.underlying31
 have HR0_0 := ak hr0_0
 have HC0_0 := ak hc0_0
 clear hr0_0 hc0_0
 have HR1_0 := ak hr1_0
 have HC1_0 := ak hc1_0
 clear hr1_0 hc1_0
 have HB := ak (Below.refl w.heap.size w)
 have H : ((laws_eqByteSS.f k l0_0 l1_0).bind fun t103 => (if t103 = true then (some true) else (some false))) = some r := h
 clear h
 replace H := bnd H
 obtain ⟨t103, A3, H⟩ := H
 replace H := ib H
 obtain ⟨rfl, H⟩ | ⟨rfl, H⟩ := H
 ·obtain rfl := Option.some.inj H
  go_enter Try.func43, Try.ntmps43
  go_wp2_with (first | ((with_reducible refine gate_dst (N := 2) rfl ?_);refine bxd (N := 2) rfl HB ?_;clear HB;intro gb101 w5 hg HB BK101 GE101 hb;have GW101 := GE101;clear hb hg) | ((with_reducible refine gate_dst (N := 3) rfl ?_);refine bxe (N := 3) rfl ?_;intro gb102 hg w6 hbox hb;have BK102 := ak (hbox);have GW102 := b3s hg bs;have GE102 := GW102;replace HB := b2s bs hb;have NB101_102 := b4 hg BK101;have NB102_101 := b5 hg BK101;replace BK101 := b1 BK101 hb;clear hb hbox hg;have hnb7 := NB101_102.out;have hnc7 := NB102_101.out;obtain ⟨hcz8_0, hfz8_0⟩ := cells1 BK101.out;obtain ⟨hcz9_0, hfz9_0⟩ := cells1 BK102.out) | ((with_reducible refine gate_callee (f := 109) rfl ?_);refine glD 9 rfl rfl Try.func109 (laws_eqByteSS.calls k _ _ l0_0 _ _ l1_0 true _ (cv HR0_0 HB) HC0_0.out (cv HR1_0 HB) HC1_0.out A3.out) (fun nd => ?_)))
  go_ret
  exact ⟨o1, bs⟩
 ·obtain rfl := Option.some.inj H
  go_enter Try.func43, Try.ntmps43
  go_wp2_with (first | ((with_reducible refine gate_dst (N := 2) rfl ?_);refine bxd (N := 2) rfl HB ?_;clear HB;intro gb101 w10 hg HB BK101 GE101 hb;have GW101 := GE101;clear hb hg) | ((with_reducible refine gate_dst (N := 3) rfl ?_);refine bxe (N := 3) rfl ?_;intro gb102 hg w11 hbox hb;have BK102 := ak (hbox);have GW102 := b3s hg bs;have GE102 := GW102;replace HB := b2s bs hb;have NB101_102 := b4 hg BK101;have NB102_101 := b5 hg BK101;replace BK101 := b1 BK101 hb;clear hb hbox hg;have hnb12 := NB101_102.out;have hnc12 := NB102_101.out;obtain ⟨hcz13_0, hfz13_0⟩ := cells1 BK101.out;obtain ⟨hcz14_0, hfz14_0⟩ := cells1 BK102.out) | ((with_reducible refine gate_callee (f := 109) rfl ?_);refine glD 9 rfl rfl Try.func109 (laws_eqByteSS.calls k _ _ l0_0 _ _ l1_0 false _ (cv HR0_0 HB) HC0_0.out (cv HR1_0 HB) HC1_0.out A3.out) (fun nd => ?_)))
  go_ret
  exact ⟨o1, bs⟩

/-! ### laws_eqIntS: function 65 -/
def laws_eqIntS.l0 : Nat → List Int → List Int → Int → Option (Bool)
 | 0, _, _, _ => none
 | k + 1, x0, x1, x5 => if x5 < (x0.length : Int) then (if 0 ≤ x5 then (if x5 < (x1.length : Int) then (if (rd x0 x5) = (rd x1 x5) then (laws_eqIntS.l0 k x0 x1 (wrap64 (x5 + 1))) else (some false)) else (none)) else (none)) else (some true)
def laws_eqIntS.f (k : Nat) (l0 : List Int) (l1 : List Int) : Option (Bool) := if (l0.length : Int) = (l1.length : Int) then (laws_eqIntS.l0 k l0 l1 0) else (some false)
set_option maxHeartbeats 8000000 in
set_option maxRecDepth 100000 in
theorem laws_eqIntS.calls (k : Nat) (A0 : Option Addr) (c0 : Nat) (l0 : List Int) (A1 : Option Addr) (c1 : Nat) (l1 : List Int) (r : Bool) (w : World) (hr0 : Kd.C (Kd.int .i64) w A0 l0.length l0) (hc0 : l0.length ≤ c0) (hr1 : Kd.C (Kd.int .i64) w A1 l1.length l1) (hc1 : l1.length ≤ c1) (h : laws_eqIntS.f k l0 l1 = some r) :
  Calls Try.prog 65 #[.slice A0 l0.length c0, .slice A1 l1.length c1] w fun e w' => e = .returned (.bool r) ∧ Drawn0 w w' := by
 have HR0 := ak hr0
 have HC0 := ak hc0
 clear hr0 hc0
 have HR1 := ak hr1
 have HC1 := ak hc1
 clear hr1 hc1
 have H : (if (l0.length : Int) = (l1.length : Int) then (laws_eqIntS.l0 k l0 l1 0) else (some false)) = some r := h
 clear h
 replace H := ie H
 obtain ⟨c3b0, c3b1, H⟩ | ⟨c3b0, c3b1, H⟩ := H
 ·have c3b2 : (l0.length == l1.length) = true := lnT c3b0
  have H' := ak H
  clear H
  go_enter Try.func65, Try.ntmps65
  go_wp2
  repeat (go_quiet (fail); try go_wp2)
  go_loopg [5] k (fun kq v5 w' => ∃ (x5_1 : Int), v5 = .int .i64 x5_1 ∧ Aside0 (laws_eqIntS.l0 kq l0 l1 x5_1 = some r) ∧ Aside0 (kq ≤ k) ∧ Drawn0 w w')
  case atStart => exact ⟨(0), o2, H', ⟨Nat.le_refl _⟩, od⟩
  case round =>
   clear H'
   (try clear c1)
   (try clear c3b0)
   (try clear c3b1)
   (try clear c3b2)
   obtain ⟨x5_1, rfl, HA, HK1, ⟨m1, rfl⟩⟩ := hrel
   cases gk with
   | zero => exact absurd HA.out (by simp [laws_eqIntS.l0])
   | succ k1 =>
    have H := HA.out
    clear HA
    simp only [laws_eqIntS.l0] at H
    replace H := ip H
    obtain ⟨c4b0, H⟩ | ⟨c4b0, H⟩ := H
    ·replace H := ipN H
     obtain ⟨c5b0, H⟩ := H
     replace H := ipN H
     obtain ⟨c6b0, H⟩ := H
     replace H := ie H
     obtain ⟨c7b0, c7b1, H⟩ | ⟨c7b0, c7b1, H⟩ := H
     ·have H' := ak H
      clear H
      obtain ⟨ad101, rfl, hx101_0, p101, q101⟩ := el0_int HR0 x5_1
      obtain ⟨ad102, rfl, hx102_0, p102, q102⟩ := el0_int HR1 x5_1
      go_wp2
      repeat (go_quiet (fail); try go_wp2)
      go_roundg k1
      case measure => have := HK1.out; omega
      case rel => exact ⟨(wrap64 (x5_1 + 1)), o2, H', ⟨by have := HK1.out; omega⟩, od⟩
     ·obtain rfl := Option.some.inj H
      obtain ⟨ad101, rfl, hx101_0, p101, q101⟩ := el0_int HR0 x5_1
      obtain ⟨ad102, rfl, hx102_0, p102, q102⟩ := el0_int HR1 x5_1
      go_wp2
      repeat (go_quiet (fail); try go_wp2)
      go_ret
      exact ⟨o2, od⟩
    ·obtain rfl := Option.some.inj H
     go_wp2
     repeat (go_quiet (fail); try go_wp2)
     go_ret
     exact ⟨o2, od⟩
 ·have c3b2 : (l0.length == l1.length) = false := lnF c3b0
  obtain rfl := Option.some.inj H
  go_enter Try.func65, Try.ntmps65
  go_wp2
  repeat (go_quiet (fail); try go_wp2)
  go_ret
  exact ⟨o2, od⟩

/-! ### laws_eqRr: function 17 -/
def laws_eqRr.f (k : Nat) (l0_0 : List (List Int)) (a0_1 : Int) (a0_2 : Int) (a0_3 : Int) (l0_4 : List (List Int)) (l0_5 : List Int) (l0_6 : List Int) (l1_0 : List (List Int)) (a1_1 : Int) (a1_2 : Int) (a1_3 : Int) (l1_4 : List (List Int)) (l1_5 : List Int) (l1_6 : List Int) : Option (Bool) := (laws_eqName.f k l0_0 l1_0).bind fun t103 => (if t103 = true then (if a0_1 = a1_1 then (if a0_2 = a1_2 then (if a0_3 = a1_3 then ((laws_eqName.f k l0_4 l1_4).bind fun t104 => (if t104 = true then ((laws_eqByteS.f k l0_5 l1_5).bind fun t105 => (if t105 = true then ((laws_eqIntS.f k l0_6 l1_6).bind fun t106 => (if t106 = true then (some true) else (some false))) else (some false))) else (some false))) else (some false)) else (some false)) else (some false)) else (some false))
set_option maxHeartbeats 8000000 in
set_option maxRecDepth 100000 in
theorem laws_eqRr.calls (k : Nat) (A0_0 : Option Addr) (c0_0 : Nat) (l0_0 : List (List Int)) (a0_1 : Int) (a0_2 : Int) (a0_3 : Int) (A0_4 : Option Addr) (c0_4 : Nat) (l0_4 : List (List Int)) (A0_5 : Option Addr) (c0_5 : Nat) (l0_5 : List Int) (A0_6 : Option Addr) (c0_6 : Nat) (l0_6 : List Int) (A1_0 : Option Addr) (c1_0 : Nat) (l1_0 : List (List Int)) (a1_1 : Int) (a1_2 : Int) (a1_3 : Int) (A1_4 : Option Addr) (c1_4 : Nat) (l1_4 : List (List Int)) (A1_5 : Option Addr) (c1_5 : Nat) (l1_5 : List Int) (A1_6 : Option Addr) (c1_6 : Nat) (l1_6 : List Int) (r : Bool) (w : World) (hr0_0 : Kd.C (Kd.slice 5 (Kd.int .u8)) w A0_0 l0_0.length l0_0) (hc0_0 : l0_0.length ≤ c0_0) (hr0_4 : Kd.C (Kd.slice 5 (Kd.int .u8)) w A0_4 l0_4.length l0_4) (hc0_4 : l0_4.length ≤ c0_4) (hr0_5 : Kd.C (Kd.int .u8) w A0_5 l0_5.length l0_5) (hc0_5 : l0_5.length ≤ c0_5) (hr0_6 : Kd.C (Kd.int .i64) w A0_6 l0_6.length l0_6) (hc0_6 : l0_6.length ≤ c0_6) (hr1_0 : Kd.C (Kd.slice 5 (Kd.int .u8)) w A1_0 l1_0.length l1_0) (hc1_0 : l1_0.length ≤ c1_0) (hr1_4 : Kd.C (Kd.slice 5 (Kd.int .u8)) w A1_4 l1_4.length l1_4) (hc1_4 : l1_4.length ≤ c1_4) (hr1_5 : Kd.C (Kd.int .u8) w A1_5 l1_5.length l1_5) (hc1_5 : l1_5.length ≤ c1_5) (hr1_6 : Kd.C (Kd.int .i64) w A1_6 l1_6.length l1_6) (hc1_6 : l1_6.length ≤ c1_6) (h : laws_eqRr.f k l0_0 a0_1 a0_2 a0_3 l0_4 l0_5 l0_6 l1_0 a1_1 a1_2 a1_3 l1_4 l1_5 l1_6 = some r) :
  Calls Try.prog 17 #[.agg #[.slice A0_0 l0_0.length c0_0, .int .i64 a0_1, .int .i64 a0_2, .int .i64 a0_3, .slice A0_4 l0_4.length c0_4, .slice A0_5 l0_5.length c0_5, .slice A0_6 l0_6.length c0_6], .agg #[.slice A1_0 l1_0.length c1_0, .int .i64 a1_1, .int .i64 a1_2, .int .i64 a1_3, .slice A1_4 l1_4.length c1_4, .slice A1_5 l1_5.length c1_5, .slice A1_6 l1_6.length c1_6]] w fun e w' => e = .returned (.bool r) ∧ Below w.heap.size w w' := by
 have hu33 := Try.underlying33
 have hu31 := Try.underlying31
 have HR0_0 := ak hr0_0
 have HC0_0 := ak hc0_0
 clear hr0_0 hc0_0
 have HR0_4 := ak hr0_4
 have HC0_4 := ak hc0_4
 clear hr0_4 hc0_4
 have HR0_5 := ak hr0_5
 have HC0_5 := ak hc0_5
 clear hr0_5 hc0_5
 have HR0_6 := ak hr0_6
 have HC0_6 := ak hc0_6
 clear hr0_6 hc0_6
 have HR1_0 := ak hr1_0
 have HC1_0 := ak hc1_0
 clear hr1_0 hc1_0
 have HR1_4 := ak hr1_4
 have HC1_4 := ak hc1_4
 clear hr1_4 hc1_4
 have HR1_5 := ak hr1_5
 have HC1_5 := ak hc1_5
 clear hr1_5 hc1_5
 have HR1_6 := ak hr1_6
 have HC1_6 := ak hc1_6
 clear hr1_6 hc1_6
 have HB := ak (Below.refl w.heap.size w)
 have H : ((laws_eqName.f k l0_0 l1_0).bind fun t103 => (if t103 = true then (if a0_1 = a1_1 then (if a0_2 = a1_2 then (if a0_3 = a1_3 then ((laws_eqName.f k l0_4 l1_4).bind fun t104 => (if t104 = true then ((laws_eqByteS.f k l0_5 l1_5).bind fun t105 => (if t105 = true then ((laws_eqIntS.f k l0_6 l1_6).bind fun t106 => (if t106 = true then (some true) else (some false))) else (some false))) else (some false))) else (some false)) else (some false)) else (some false)) else (some false))) = some r := h
 clear h
 replace H := bnd H
 obtain ⟨t103, A3, H⟩ := H
 replace H := ib H
 obtain ⟨rfl, H⟩ | ⟨rfl, H⟩ := H
 ·replace H := ie H
  obtain ⟨c5b0, c5b1, H⟩ | ⟨c5b0, c5b1, H⟩ := H
  ·replace H := ie H
   obtain ⟨c6b0, c6b1, H⟩ | ⟨c6b0, c6b1, H⟩ := H
   ·replace H := ie H
    obtain ⟨c7b0, c7b1, H⟩ | ⟨c7b0, c7b1, H⟩ := H
    ·replace H := bnd H
     obtain ⟨t104, A8, H⟩ := H
     replace H := ib H
     obtain ⟨rfl, H⟩ | ⟨rfl, H⟩ := H
     ·replace H := bnd H
      obtain ⟨t105, A10, H⟩ := H
      replace H := ib H
      obtain ⟨rfl, H⟩ | ⟨rfl, H⟩ := H
      ·replace H := bnd H
       obtain ⟨t106, A12, H⟩ := H
       replace H := ib H
       obtain ⟨rfl, H⟩ | ⟨rfl, H⟩ := H
       ·obtain rfl := Option.some.inj H
        go_enter Try.func17, Try.ntmps17
        go_wp2_with (first | ((with_reducible refine gate_dst (N := 2) rfl ?_);refine bxd (N := 2) rfl HB ?_;clear HB;intro gb101 w14 hg HB BK101 GE101 hb;have GW101 := GE101;clear hb hg) | ((with_reducible refine gate_dst (N := 3) rfl ?_);refine bxe (N := 3) rfl ?_;intro gb102 hg w15 hbox hb;have BK102 := ak (hbox);have GW102 := b3s hg bs;have GE102 := GW102;replace HB := b2s bs hb;have NB101_102 := b4 hg BK101;have NB102_101 := b5 hg BK101;replace BK101 := b1 BK101 hb;clear hb hbox hg;have hnb16 := NB101_102.out;have hnc16 := NB102_101.out;obtain ⟨hcz17_0, hcz17_1, hcz17_2, hcz17_3, hcz17_4, hcz17_5, hcz17_6, hfz17_0, hfz17_1, hfz17_2, hfz17_3, hfz17_4, hfz17_5, hfz17_6⟩ := cells7 BK101.out;obtain ⟨hcz18_0, hcz18_1, hcz18_2, hcz18_3, hcz18_4, hcz18_5, hcz18_6, hfz18_0, hfz18_1, hfz18_2, hfz18_3, hfz18_4, hfz18_5, hfz18_6⟩ := cells7 BK102.out) | ((with_reducible refine gate_callee (f := 43) rfl ?_);refine glB 9 rfl rfl Try.func43 (laws_eqName.calls k _ _ l0_0 _ _ l1_0 true _ (cv HR0_0 HB) HC0_0.out (cv HR1_0 HB) HC1_0.out A3.out) (fun w19 hb => ?_);replace BK101 := b1 BK101 hb;replace BK102 := b1 BK102 hb;replace HB := b2s bs hb;(try clear hb);obtain ⟨hcz20_0, hcz20_1, hcz20_2, hcz20_3, hcz20_4, hcz20_5, hcz20_6, hfz20_0, hfz20_1, hfz20_2, hfz20_3, hfz20_4, hfz20_5, hfz20_6⟩ := cells7 BK101.out;obtain ⟨hcz21_0, hcz21_1, hcz21_2, hcz21_3, hcz21_4, hcz21_5, hcz21_6, hfz21_0, hfz21_1, hfz21_2, hfz21_3, hfz21_4, hfz21_5, hfz21_6⟩ := cells7 BK102.out) | ((with_reducible refine gate_callee (f := 43) rfl ?_);refine glB 30 rfl rfl Try.func43 (laws_eqName.calls k _ _ l0_4 _ _ l1_4 true _ (cv HR0_4 HB) HC0_4.out (cv HR1_4 HB) HC1_4.out A8.out) (fun w22 hb => ?_);replace BK101 := b1 BK101 hb;replace BK102 := b1 BK102 hb;replace HB := b2s bs hb;(try clear hb);obtain ⟨hcz23_0, hcz23_1, hcz23_2, hcz23_3, hcz23_4, hcz23_5, hcz23_6, hfz23_0, hfz23_1, hfz23_2, hfz23_3, hfz23_4, hfz23_5, hfz23_6⟩ := cells7 BK101.out;obtain ⟨hcz24_0, hcz24_1, hcz24_2, hcz24_3, hcz24_4, hcz24_5, hcz24_6, hfz24_0, hfz24_1, hfz24_2, hfz24_3, hfz24_4, hfz24_5, hfz24_6⟩ := cells7 BK102.out) | ((with_reducible refine gate_callee (f := 28) rfl ?_);refine glD 36 rfl rfl Try.func28 (laws_eqByteS.calls k _ _ l0_5 _ _ l1_5 true _ (cv HR0_5 HB) HC0_5.out (cv HR1_5 HB) HC1_5.out A10.out) (fun nd => ?_)) | ((with_reducible refine gate_callee (f := 65) rfl ?_);refine glD 42 rfl rfl Try.func65 (laws_eqIntS.calls k _ _ l0_6 _ _ l1_6 true _ ?side1 HC0_6.out ?side3 HC1_6.out A12.out) (fun nd => ?_);(case side1 => repeat (first | exact (Kd.C_below HR0_6.out bs) | (with_reducible refine Kd.C_alloc ?_ _) | (with_reducible refine Kd.C_drewN ?_ _) | (with_reducible refine Kd.C_drew ?_)));(case side3 => repeat (first | exact (Kd.C_below HR1_6.out bs) | (with_reducible refine Kd.C_alloc ?_ _) | (with_reducible refine Kd.C_drewN ?_ _) | (with_reducible refine Kd.C_drew ?_)))))
        go_ret
        exact ⟨o1, bs⟩
       ·obtain rfl := Option.some.inj H
        go_enter Try.func17, Try.ntmps17
        go_wp2_with (first | ((with_reducible refine gate_dst (N := 2) rfl ?_);refine bxd (N := 2) rfl HB ?_;clear HB;intro gb101 w25 hg HB BK101 GE101 hb;have GW101 := GE101;clear hb hg) | ((with_reducible refine gate_dst (N := 3) rfl ?_);refine bxe (N := 3) rfl ?_;intro gb102 hg w26 hbox hb;have BK102 := ak (hbox);have GW102 := b3s hg bs;have GE102 := GW102;replace HB := b2s bs hb;have NB101_102 := b4 hg BK101;have NB102_101 := b5 hg BK101;replace BK101 := b1 BK101 hb;clear hb hbox hg;have hnb27 := NB101_102.out;have hnc27 := NB102_101.out;obtain ⟨hcz28_0, hcz28_1, hcz28_2, hcz28_3, hcz28_4, hcz28_5, hcz28_6, hfz28_0, hfz28_1, hfz28_2, hfz28_3, hfz28_4, hfz28_5, hfz28_6⟩ := cells7 BK101.out;obtain ⟨hcz29_0, hcz29_1, hcz29_2, hcz29_3, hcz29_4, hcz29_5, hcz29_6, hfz29_0, hfz29_1, hfz29_2, hfz29_3, hfz29_4, hfz29_5, hfz29_6⟩ := cells7 BK102.out) | ((with_reducible refine gate_callee (f := 43) rfl ?_);refine glB 9 rfl rfl Try.func43 (laws_eqName.calls k _ _ l0_0 _ _ l1_0 true _ (cv HR0_0 HB) HC0_0.out (cv HR1_0 HB) HC1_0.out A3.out) (fun w30 hb => ?_);replace BK101 := b1 BK101 hb;replace BK102 := b1 BK102 hb;replace HB := b2s bs hb;(try clear hb);obtain ⟨hcz31_0, hcz31_1, hcz31_2, hcz31_3, hcz31_4, hcz31_5, hcz31_6, hfz31_0, hfz31_1, hfz31_2, hfz31_3, hfz31_4, hfz31_5, hfz31_6⟩ := cells7 BK101.out;obtain ⟨hcz32_0, hcz32_1, hcz32_2, hcz32_3, hcz32_4, hcz32_5, hcz32_6, hfz32_0, hfz32_1, hfz32_2, hfz32_3, hfz32_4, hfz32_5, hfz32_6⟩ := cells7 BK102.out) | ((with_reducible refine gate_callee (f := 43) rfl ?_);refine glB 30 rfl rfl Try.func43 (laws_eqName.calls k _ _ l0_4 _ _ l1_4 true _ (cv HR0_4 HB) HC0_4.out (cv HR1_4 HB) HC1_4.out A8.out) (fun w33 hb => ?_);replace BK101 := b1 BK101 hb;replace BK102 := b1 BK102 hb;replace HB := b2s bs hb;(try clear hb);obtain ⟨hcz34_0, hcz34_1, hcz34_2, hcz34_3, hcz34_4, hcz34_5, hcz34_6, hfz34_0, hfz34_1, hfz34_2, hfz34_3, hfz34_4, hfz34_5, hfz34_6⟩ := cells7 BK101.out;obtain ⟨hcz35_0, hcz35_1, hcz35_2, hcz35_3, hcz35_4, hcz35_5, hcz35_6, hfz35_0, hfz35_1, hfz35_2, hfz35_3, hfz35_4, hfz35_5, hfz35_6⟩ := cells7 BK102.out) | ((with_reducible refine gate_callee (f := 28) rfl ?_);refine glD 36 rfl rfl Try.func28 (laws_eqByteS.calls k _ _ l0_5 _ _ l1_5 true _ (cv HR0_5 HB) HC0_5.out (cv HR1_5 HB) HC1_5.out A10.out) (fun nd => ?_)) | ((with_reducible refine gate_callee (f := 65) rfl ?_);refine glD 42 rfl rfl Try.func65 (laws_eqIntS.calls k _ _ l0_6 _ _ l1_6 false _ ?side1 HC0_6.out ?side3 HC1_6.out A12.out) (fun nd => ?_);(case side1 => repeat (first | exact (Kd.C_below HR0_6.out bs) | (with_reducible refine Kd.C_alloc ?_ _) | (with_reducible refine Kd.C_drewN ?_ _) | (with_reducible refine Kd.C_drew ?_)));(case side3 => repeat (first | exact (Kd.C_below HR1_6.out bs) | (with_reducible refine Kd.C_alloc ?_ _) | (with_reducible refine Kd.C_drewN ?_ _) | (with_reducible refine Kd.C_drew ?_)))))
        go_ret
        exact ⟨o1, bs⟩
      ·obtain rfl := Option.some.inj H
       go_enter Try.func17, Try.ntmps17
       go_wp2_with (first | ((with_reducible refine gate_dst (N := 2) rfl ?_);refine bxd (N := 2) rfl HB ?_;clear HB;intro gb101 w36 hg HB BK101 GE101 hb;have GW101 := GE101;clear hb hg) | ((with_reducible refine gate_dst (N := 3) rfl ?_);refine bxe (N := 3) rfl ?_;intro gb102 hg w37 hbox hb;have BK102 := ak (hbox);have GW102 := b3s hg bs;have GE102 := GW102;replace HB := b2s bs hb;have NB101_102 := b4 hg BK101;have NB102_101 := b5 hg BK101;replace BK101 := b1 BK101 hb;clear hb hbox hg;have hnb38 := NB101_102.out;have hnc38 := NB102_101.out;obtain ⟨hcz39_0, hcz39_1, hcz39_2, hcz39_3, hcz39_4, hcz39_5, hcz39_6, hfz39_0, hfz39_1, hfz39_2, hfz39_3, hfz39_4, hfz39_5, hfz39_6⟩ := cells7 BK101.out;obtain ⟨hcz40_0, hcz40_1, hcz40_2, hcz40_3, hcz40_4, hcz40_5, hcz40_6, hfz40_0, hfz40_1, hfz40_2, hfz40_3, hfz40_4, hfz40_5, hfz40_6⟩ := cells7 BK102.out) | ((with_reducible refine gate_callee (f := 43) rfl ?_);refine glB 9 rfl rfl Try.func43 (laws_eqName.calls k _ _ l0_0 _ _ l1_0 true _ (cv HR0_0 HB) HC0_0.out (cv HR1_0 HB) HC1_0.out A3.out) (fun w41 hb => ?_);replace BK101 := b1 BK101 hb;replace BK102 := b1 BK102 hb;replace HB := b2s bs hb;(try clear hb);obtain ⟨hcz42_0, hcz42_1, hcz42_2, hcz42_3, hcz42_4, hcz42_5, hcz42_6, hfz42_0, hfz42_1, hfz42_2, hfz42_3, hfz42_4, hfz42_5, hfz42_6⟩ := cells7 BK101.out;obtain ⟨hcz43_0, hcz43_1, hcz43_2, hcz43_3, hcz43_4, hcz43_5, hcz43_6, hfz43_0, hfz43_1, hfz43_2, hfz43_3, hfz43_4, hfz43_5, hfz43_6⟩ := cells7 BK102.out) | ((with_reducible refine gate_callee (f := 43) rfl ?_);refine glB 30 rfl rfl Try.func43 (laws_eqName.calls k _ _ l0_4 _ _ l1_4 true _ (cv HR0_4 HB) HC0_4.out (cv HR1_4 HB) HC1_4.out A8.out) (fun w44 hb => ?_);replace BK101 := b1 BK101 hb;replace BK102 := b1 BK102 hb;replace HB := b2s bs hb;(try clear hb);obtain ⟨hcz45_0, hcz45_1, hcz45_2, hcz45_3, hcz45_4, hcz45_5, hcz45_6, hfz45_0, hfz45_1, hfz45_2, hfz45_3, hfz45_4, hfz45_5, hfz45_6⟩ := cells7 BK101.out;obtain ⟨hcz46_0, hcz46_1, hcz46_2, hcz46_3, hcz46_4, hcz46_5, hcz46_6, hfz46_0, hfz46_1, hfz46_2, hfz46_3, hfz46_4, hfz46_5, hfz46_6⟩ := cells7 BK102.out) | ((with_reducible refine gate_callee (f := 28) rfl ?_);refine glD 36 rfl rfl Try.func28 (laws_eqByteS.calls k _ _ l0_5 _ _ l1_5 false _ (cv HR0_5 HB) HC0_5.out (cv HR1_5 HB) HC1_5.out A10.out) (fun nd => ?_)))
       go_ret
       exact ⟨o1, bs⟩
     ·obtain rfl := Option.some.inj H
      go_enter Try.func17, Try.ntmps17
      go_wp2_with (first | ((with_reducible refine gate_dst (N := 2) rfl ?_);refine bxd (N := 2) rfl HB ?_;clear HB;intro gb101 w47 hg HB BK101 GE101 hb;have GW101 := GE101;clear hb hg) | ((with_reducible refine gate_dst (N := 3) rfl ?_);refine bxe (N := 3) rfl ?_;intro gb102 hg w48 hbox hb;have BK102 := ak (hbox);have GW102 := b3s hg bs;have GE102 := GW102;replace HB := b2s bs hb;have NB101_102 := b4 hg BK101;have NB102_101 := b5 hg BK101;replace BK101 := b1 BK101 hb;clear hb hbox hg;have hnb49 := NB101_102.out;have hnc49 := NB102_101.out;obtain ⟨hcz50_0, hcz50_1, hcz50_2, hcz50_3, hcz50_4, hcz50_5, hcz50_6, hfz50_0, hfz50_1, hfz50_2, hfz50_3, hfz50_4, hfz50_5, hfz50_6⟩ := cells7 BK101.out;obtain ⟨hcz51_0, hcz51_1, hcz51_2, hcz51_3, hcz51_4, hcz51_5, hcz51_6, hfz51_0, hfz51_1, hfz51_2, hfz51_3, hfz51_4, hfz51_5, hfz51_6⟩ := cells7 BK102.out) | ((with_reducible refine gate_callee (f := 43) rfl ?_);refine glB 9 rfl rfl Try.func43 (laws_eqName.calls k _ _ l0_0 _ _ l1_0 true _ (cv HR0_0 HB) HC0_0.out (cv HR1_0 HB) HC1_0.out A3.out) (fun w52 hb => ?_);replace BK101 := b1 BK101 hb;replace BK102 := b1 BK102 hb;replace HB := b2s bs hb;(try clear hb);obtain ⟨hcz53_0, hcz53_1, hcz53_2, hcz53_3, hcz53_4, hcz53_5, hcz53_6, hfz53_0, hfz53_1, hfz53_2, hfz53_3, hfz53_4, hfz53_5, hfz53_6⟩ := cells7 BK101.out;obtain ⟨hcz54_0, hcz54_1, hcz54_2, hcz54_3, hcz54_4, hcz54_5, hcz54_6, hfz54_0, hfz54_1, hfz54_2, hfz54_3, hfz54_4, hfz54_5, hfz54_6⟩ := cells7 BK102.out) | ((with_reducible refine gate_callee (f := 43) rfl ?_);refine glB 30 rfl rfl Try.func43 (laws_eqName.calls k _ _ l0_4 _ _ l1_4 false _ (cv HR0_4 HB) HC0_4.out (cv HR1_4 HB) HC1_4.out A8.out) (fun w55 hb => ?_);replace BK101 := b1 BK101 hb;replace BK102 := b1 BK102 hb;replace HB := b2s bs hb;(try clear hb)))
      go_ret
      exact ⟨o1, bs⟩
    ·obtain rfl := Option.some.inj H
     go_enter Try.func17, Try.ntmps17
     go_wp2_with (first | ((with_reducible refine gate_dst (N := 2) rfl ?_);refine bxd (N := 2) rfl HB ?_;clear HB;intro gb101 w56 hg HB BK101 GE101 hb;have GW101 := GE101;clear hb hg) | ((with_reducible refine gate_dst (N := 3) rfl ?_);refine bxe (N := 3) rfl ?_;intro gb102 hg w57 hbox hb;have BK102 := ak (hbox);have GW102 := b3s hg bs;have GE102 := GW102;replace HB := b2s bs hb;have NB101_102 := b4 hg BK101;have NB102_101 := b5 hg BK101;replace BK101 := b1 BK101 hb;clear hb hbox hg;have hnb58 := NB101_102.out;have hnc58 := NB102_101.out;obtain ⟨hcz59_0, hcz59_1, hcz59_2, hcz59_3, hcz59_4, hcz59_5, hcz59_6, hfz59_0, hfz59_1, hfz59_2, hfz59_3, hfz59_4, hfz59_5, hfz59_6⟩ := cells7 BK101.out;obtain ⟨hcz60_0, hcz60_1, hcz60_2, hcz60_3, hcz60_4, hcz60_5, hcz60_6, hfz60_0, hfz60_1, hfz60_2, hfz60_3, hfz60_4, hfz60_5, hfz60_6⟩ := cells7 BK102.out) | ((with_reducible refine gate_callee (f := 43) rfl ?_);refine glB 9 rfl rfl Try.func43 (laws_eqName.calls k _ _ l0_0 _ _ l1_0 true _ (cv HR0_0 HB) HC0_0.out (cv HR1_0 HB) HC1_0.out A3.out) (fun w61 hb => ?_);replace BK101 := b1 BK101 hb;replace BK102 := b1 BK102 hb;replace HB := b2s bs hb;(try clear hb);obtain ⟨hcz62_0, hcz62_1, hcz62_2, hcz62_3, hcz62_4, hcz62_5, hcz62_6, hfz62_0, hfz62_1, hfz62_2, hfz62_3, hfz62_4, hfz62_5, hfz62_6⟩ := cells7 BK101.out;obtain ⟨hcz63_0, hcz63_1, hcz63_2, hcz63_3, hcz63_4, hcz63_5, hcz63_6, hfz63_0, hfz63_1, hfz63_2, hfz63_3, hfz63_4, hfz63_5, hfz63_6⟩ := cells7 BK102.out))
     go_ret
     exact ⟨o1, bs⟩
   ·obtain rfl := Option.some.inj H
    go_enter Try.func17, Try.ntmps17
    go_wp2_with (first | ((with_reducible refine gate_dst (N := 2) rfl ?_);refine bxd (N := 2) rfl HB ?_;clear HB;intro gb101 w64 hg HB BK101 GE101 hb;have GW101 := GE101;clear hb hg) | ((with_reducible refine gate_dst (N := 3) rfl ?_);refine bxe (N := 3) rfl ?_;intro gb102 hg w65 hbox hb;have BK102 := ak (hbox);have GW102 := b3s hg bs;have GE102 := GW102;replace HB := b2s bs hb;have NB101_102 := b4 hg BK101;have NB102_101 := b5 hg BK101;replace BK101 := b1 BK101 hb;clear hb hbox hg;have hnb66 := NB101_102.out;have hnc66 := NB102_101.out;obtain ⟨hcz67_0, hcz67_1, hcz67_2, hcz67_3, hcz67_4, hcz67_5, hcz67_6, hfz67_0, hfz67_1, hfz67_2, hfz67_3, hfz67_4, hfz67_5, hfz67_6⟩ := cells7 BK101.out;obtain ⟨hcz68_0, hcz68_1, hcz68_2, hcz68_3, hcz68_4, hcz68_5, hcz68_6, hfz68_0, hfz68_1, hfz68_2, hfz68_3, hfz68_4, hfz68_5, hfz68_6⟩ := cells7 BK102.out) | ((with_reducible refine gate_callee (f := 43) rfl ?_);refine glB 9 rfl rfl Try.func43 (laws_eqName.calls k _ _ l0_0 _ _ l1_0 true _ (cv HR0_0 HB) HC0_0.out (cv HR1_0 HB) HC1_0.out A3.out) (fun w69 hb => ?_);replace BK101 := b1 BK101 hb;replace BK102 := b1 BK102 hb;replace HB := b2s bs hb;(try clear hb);obtain ⟨hcz70_0, hcz70_1, hcz70_2, hcz70_3, hcz70_4, hcz70_5, hcz70_6, hfz70_0, hfz70_1, hfz70_2, hfz70_3, hfz70_4, hfz70_5, hfz70_6⟩ := cells7 BK101.out;obtain ⟨hcz71_0, hcz71_1, hcz71_2, hcz71_3, hcz71_4, hcz71_5, hcz71_6, hfz71_0, hfz71_1, hfz71_2, hfz71_3, hfz71_4, hfz71_5, hfz71_6⟩ := cells7 BK102.out))
    go_ret
    exact ⟨o1, bs⟩
  ·obtain rfl := Option.some.inj H
   go_enter Try.func17, Try.ntmps17
   go_wp2_with (first | ((with_reducible refine gate_dst (N := 2) rfl ?_);refine bxd (N := 2) rfl HB ?_;clear HB;intro gb101 w72 hg HB BK101 GE101 hb;have GW101 := GE101;clear hb hg) | ((with_reducible refine gate_dst (N := 3) rfl ?_);refine bxe (N := 3) rfl ?_;intro gb102 hg w73 hbox hb;have BK102 := ak (hbox);have GW102 := b3s hg bs;have GE102 := GW102;replace HB := b2s bs hb;have NB101_102 := b4 hg BK101;have NB102_101 := b5 hg BK101;replace BK101 := b1 BK101 hb;clear hb hbox hg;have hnb74 := NB101_102.out;have hnc74 := NB102_101.out;obtain ⟨hcz75_0, hcz75_1, hcz75_2, hcz75_3, hcz75_4, hcz75_5, hcz75_6, hfz75_0, hfz75_1, hfz75_2, hfz75_3, hfz75_4, hfz75_5, hfz75_6⟩ := cells7 BK101.out;obtain ⟨hcz76_0, hcz76_1, hcz76_2, hcz76_3, hcz76_4, hcz76_5, hcz76_6, hfz76_0, hfz76_1, hfz76_2, hfz76_3, hfz76_4, hfz76_5, hfz76_6⟩ := cells7 BK102.out) | ((with_reducible refine gate_callee (f := 43) rfl ?_);refine glB 9 rfl rfl Try.func43 (laws_eqName.calls k _ _ l0_0 _ _ l1_0 true _ (cv HR0_0 HB) HC0_0.out (cv HR1_0 HB) HC1_0.out A3.out) (fun w77 hb => ?_);replace BK101 := b1 BK101 hb;replace BK102 := b1 BK102 hb;replace HB := b2s bs hb;(try clear hb);obtain ⟨hcz78_0, hcz78_1, hcz78_2, hcz78_3, hcz78_4, hcz78_5, hcz78_6, hfz78_0, hfz78_1, hfz78_2, hfz78_3, hfz78_4, hfz78_5, hfz78_6⟩ := cells7 BK101.out;obtain ⟨hcz79_0, hcz79_1, hcz79_2, hcz79_3, hcz79_4, hcz79_5, hcz79_6, hfz79_0, hfz79_1, hfz79_2, hfz79_3, hfz79_4, hfz79_5, hfz79_6⟩ := cells7 BK102.out))
   go_ret
   exact ⟨o1, bs⟩
 ·obtain rfl := Option.some.inj H
  go_enter Try.func17, Try.ntmps17
  go_wp2_with (first | ((with_reducible refine gate_dst (N := 2) rfl ?_);refine bxd (N := 2) rfl HB ?_;clear HB;intro gb101 w80 hg HB BK101 GE101 hb;have GW101 := GE101;clear hb hg) | ((with_reducible refine gate_dst (N := 3) rfl ?_);refine bxe (N := 3) rfl ?_;intro gb102 hg w81 hbox hb;have BK102 := ak (hbox);have GW102 := b3s hg bs;have GE102 := GW102;replace HB := b2s bs hb;have NB101_102 := b4 hg BK101;have NB102_101 := b5 hg BK101;replace BK101 := b1 BK101 hb;clear hb hbox hg;have hnb82 := NB101_102.out;have hnc82 := NB102_101.out;obtain ⟨hcz83_0, hcz83_1, hcz83_2, hcz83_3, hcz83_4, hcz83_5, hcz83_6, hfz83_0, hfz83_1, hfz83_2, hfz83_3, hfz83_4, hfz83_5, hfz83_6⟩ := cells7 BK101.out;obtain ⟨hcz84_0, hcz84_1, hcz84_2, hcz84_3, hcz84_4, hcz84_5, hcz84_6, hfz84_0, hfz84_1, hfz84_2, hfz84_3, hfz84_4, hfz84_5, hfz84_6⟩ := cells7 BK102.out) | ((with_reducible refine gate_callee (f := 43) rfl ?_);refine glB 9 rfl rfl Try.func43 (laws_eqName.calls k _ _ l0_0 _ _ l1_0 false _ (cv HR0_0 HB) HC0_0.out (cv HR1_0 HB) HC1_0.out A3.out) (fun w85 hb => ?_);replace BK101 := b1 BK101 hb;replace BK102 := b1 BK102 hb;replace HB := b2s bs hb;(try clear hb)))
  go_ret
  exact ⟨o1, bs⟩

/-! ### laws_eqRrS: function 104 -/
def laws_eqRrS.l0 : Nat → List (S33) → List (S33) → Int → Option (Bool)
 | 0, _, _, _ => none
 | k + 1, x0, x1, x5 => if x5 < (x0.length : Int) then (if 0 ≤ x5 then (if x5 < (x1.length : Int) then ((laws_eqRr.f k ((rd_T33 x0 x5).f0.f0) ((rd_T33 x0 x5).f1) ((rd_T33 x0 x5).f2) ((rd_T33 x0 x5).f3) ((rd_T33 x0 x5).f4.f0) ((rd_T33 x0 x5).f5) ((rd_T33 x0 x5).f6) ((rd_T33 x1 x5).f0.f0) ((rd_T33 x1 x5).f1) ((rd_T33 x1 x5).f2) ((rd_T33 x1 x5).f3) ((rd_T33 x1 x5).f4.f0) ((rd_T33 x1 x5).f5) ((rd_T33 x1 x5).f6)).bind fun t103 => (if t103 = true then (laws_eqRrS.l0 k x0 x1 (wrap64 (x5 + 1))) else (some false))) else (none)) else (none)) else (some true)
def laws_eqRrS.f (k : Nat) (l0 : List (S33)) (l1 : List (S33)) : Option (Bool) := if (l0.length : Int) = (l1.length : Int) then (laws_eqRrS.l0 k l0 l1 0) else (some false)
def laws_eqRrS.T6 : Bool × List (List Nat × List Nat) := (true, [([], []), ([], []), ([0, 1], [0, 1]), ([2], [2]), ([], []), ([], []), ([4, 5], [4, 5]), ([6], [6]), ([3, 7], [3, 7]), ([8], [8])])
def laws_eqRrS.B6 : List Nat := [0, 0, 3, 7, 0, 0, 48, 112, 255, 511]
theorem laws_eqRrS.tab6 : rtab .any (opsOf Try.f104 6) = laws_eqRrS.T6 := by kernel_rfl
theorem laws_eqRrS.bits6 : waitsOk laws_eqRrS.T6.2 laws_eqRrS.B6 = true := by kernel_rfl
set_option maxHeartbeats 8000000 in
set_option maxRecDepth 100000 in
theorem laws_eqRrS.calls (k : Nat) (A0 : Option Addr) (c0 : Nat) (l0 : List (S33)) (A1 : Option Addr) (c1 : Nat) (l1 : List (S33)) (r : Bool) (w : World) (hr0 : Kd.C k33 w A0 l0.length l0) (hc0 : l0.length ≤ c0) (hr1 : Kd.C k33 w A1 l1.length l1) (hc1 : l1.length ≤ c1) (h : laws_eqRrS.f k l0 l1 = some r) :
  Calls Try.prog 104 #[.slice A0 l0.length c0, .slice A1 l1.length c1] w fun e w' => e = .returned (.bool r) ∧ Below w.heap.size w w' := by
 have hu33 := Try.underlying33
 have HR0 := ak hr0
 have HC0 := ak hc0
 clear hr0 hc0
 have HR1 := ak hr1
 have HC1 := ak hc1
 clear hr1 hc1
 have HB := ak (Below.refl w.heap.size w)
 have H : (if (l0.length : Int) = (l1.length : Int) then (laws_eqRrS.l0 k l0 l1 0) else (some false)) = some r := h
 clear h
 replace H := ie H
 obtain ⟨c3b0, c3b1, H⟩ | ⟨c3b0, c3b1, H⟩ := H
 ·have c3b2 : (l0.length == l1.length) = true := lnT c3b0
  have H' := ak H
  clear H
  go_enter Try.func104, Try.ntmps104
  go_wp2
  go_loopg [5] k (fun kq v5 w' => ∃ (x5_1 : Int), v5 = .int .i64 x5_1 ∧ Aside0 (laws_eqRrS.l0 kq l0 l1 x5_1 = some r) ∧ Aside0 (kq ≤ k) ∧ Aside0 (Below w.heap.size w w'))
  case atStart => exact ⟨(0), o2, H', ⟨Nat.le_refl _⟩, ⟨bw HB.out⟩⟩
  case round =>
   clear H'
   (try clear c1)
   (try clear c3b0)
   (try clear c3b1)
   (try clear c3b2)
   obtain ⟨x5_1, rfl, HA, HK1, HB⟩ := hrel
   cases gk with
   | zero => exact absurd HA.out (by simp [laws_eqRrS.l0])
   | succ k1 =>
    have H := HA.out
    clear HA
    simp only [laws_eqRrS.l0] at H
    replace H := ip H
    obtain ⟨c4b0, H⟩ | ⟨c4b0, H⟩ := H
    ·replace H := ipN H
     obtain ⟨c5b0, H⟩ := H
     replace H := ipN H
     obtain ⟨c6b0, H⟩ := H
     replace H := bnd H
     obtain ⟨t103, A7, H⟩ := H
     replace H := ib H
     obtain ⟨rfl, H⟩ | ⟨rfl, H⟩ := H
     ·have H' := ak H
      clear H
      try go_wp2
      replace HB := ak (below_drew1 HB.out)
      obtain ⟨ad101, A101_0, c101_0, A101_4, c101_4, A101_5, c101_5, A101_6, c101_6, rfl, hw101_0, hw101_1, hw101_2, hw101_3, hw101_4, hw101_5, hw101_6, hx101_0, hx101_1, hx101_2, hx101_3, hx101_4, hx101_5, hx101_6, HC101_0, HR101_0, HC101_4, HR101_4, HC101_5, HR101_5, HC101_6, HR101_6, p101, q101⟩ := elw_T33 HR0 HB x5_1
      obtain ⟨ad102, A102_0, c102_0, A102_4, c102_4, A102_5, c102_5, A102_6, c102_6, rfl, hw102_0, hw102_1, hw102_2, hw102_3, hw102_4, hw102_5, hw102_6, hx102_0, hx102_1, hx102_2, hx102_3, hx102_4, hx102_5, hx102_6, HC102_0, HR102_0, HC102_4, HR102_4, HC102_5, HR102_5, HC102_6, HR102_6, p102, q102⟩ := elw_T33 HR1 HB x5_1
      refine start_ (n := 10) (S := fun w' => w'.cell? (ad101.add ((x5_1).toNat * 7)) = some (.slice A101_0 ((rd_T33 l0 x5_1).f0.f0).length c101_0) ∧ w'.cell? ⟨(ad101.add ((x5_1).toNat * 7)).block, (ad101.add ((x5_1).toNat * 7)).off + 1, none⟩ = some (.int .i64 ((rd_T33 l0 x5_1).f1)) ∧ w'.cell? ⟨(ad101.add ((x5_1).toNat * 7)).block, (ad101.add ((x5_1).toNat * 7)).off + 2, none⟩ = some (.int .i64 ((rd_T33 l0 x5_1).f2)) ∧ w'.cell? ⟨(ad101.add ((x5_1).toNat * 7)).block, (ad101.add ((x5_1).toNat * 7)).off + 3, none⟩ = some (.int .i64 ((rd_T33 l0 x5_1).f3)) ∧ w'.cell? ⟨(ad101.add ((x5_1).toNat * 7)).block, (ad101.add ((x5_1).toNat * 7)).off + 4, none⟩ = some (.slice A101_4 ((rd_T33 l0 x5_1).f4.f0).length c101_4) ∧ w'.cell? ⟨(ad101.add ((x5_1).toNat * 7)).block, (ad101.add ((x5_1).toNat * 7)).off + 5, none⟩ = some (.slice A101_5 ((rd_T33 l0 x5_1).f5).length c101_5) ∧ w'.cell? ⟨(ad101.add ((x5_1).toNat * 7)).block, (ad101.add ((x5_1).toNat * 7)).off + 6, none⟩ = some (.slice A101_6 ((rd_T33 l0 x5_1).f6).length c101_6) ∧ w'.cell? (ad102.add ((x5_1).toNat * 7)) = some (.slice A102_0 ((rd_T33 l1 x5_1).f0.f0).length c102_0) ∧ w'.cell? ⟨(ad102.add ((x5_1).toNat * 7)).block, (ad102.add ((x5_1).toNat * 7)).off + 1, none⟩ = some (.int .i64 ((rd_T33 l1 x5_1).f1)) ∧ w'.cell? ⟨(ad102.add ((x5_1).toNat * 7)).block, (ad102.add ((x5_1).toNat * 7)).off + 2, none⟩ = some (.int .i64 ((rd_T33 l1 x5_1).f2)) ∧ w'.cell? ⟨(ad102.add ((x5_1).toNat * 7)).block, (ad102.add ((x5_1).toNat * 7)).off + 3, none⟩ = some (.int .i64 ((rd_T33 l1 x5_1).f3)) ∧ w'.cell? ⟨(ad102.add ((x5_1).toNat * 7)).block, (ad102.add ((x5_1).toNat * 7)).off + 4, none⟩ = some (.slice A102_4 ((rd_T33 l1 x5_1).f4.f0).length c102_4) ∧ w'.cell? ⟨(ad102.add ((x5_1).toNat * 7)).block, (ad102.add ((x5_1).toNat * 7)).off + 5, none⟩ = some (.slice A102_5 ((rd_T33 l1 x5_1).f5).length c102_5) ∧ w'.cell? ⟨(ad102.add ((x5_1).toNat * 7)).block, (ad102.add ((x5_1).toNat * 7)).off + 6, none⟩ = some (.slice A102_6 ((rd_T33 l1 x5_1).f6).length c102_6)) (ds := []) (bA 10 0) (by kernel_rfl) rfl rfl kq (fun hHeld => ?_); refine with_tabW laws_eqRrS.tab6 laws_eqRrS.bits6 (fun HT_ HW_ => ?_)
      generalize wr.drew = w9 at HB HR101_0 HR101_4 HR101_5 HR101_6 HR102_0 HR102_4 HR102_5 HR102_6 hx101_0 hx101_1 hx101_2 hx101_3 hx101_4 hx101_5 hx101_6 hx102_0 hx102_1 hx102_2 hx102_3 hx102_4 hx102_5 hx102_6 hHeld ⊢
      refine pu HT_ 0 ?_
      refine pu HT_ 1 ?_
      refine pu HT_ 2 ?_
      refine pu HT_ 4 ?_
      refine pu HT_ 5 ?_
      refine pu HT_ 6 ?_
      refine ta HT_ HW_ hHeld 3 ?_
      refine ta HT_ HW_ hHeld 7 ?_
      refine on HT_ 8 (fun K hK => ?_)
      refine gsB Try.func17 (laws_eqRr.calls k1 _ _ ((rd_T33 l0 x5_1).f0.f0) ((rd_T33 l0 x5_1).f1) ((rd_T33 l0 x5_1).f2) ((rd_T33 l0 x5_1).f3) _ _ ((rd_T33 l0 x5_1).f4.f0) _ _ ((rd_T33 l0 x5_1).f5) _ _ ((rd_T33 l0 x5_1).f6) _ _ ((rd_T33 l1 x5_1).f0.f0) ((rd_T33 l1 x5_1).f1) ((rd_T33 l1 x5_1).f2) ((rd_T33 l1 x5_1).f3) _ _ ((rd_T33 l1 x5_1).f4.f0) _ _ ((rd_T33 l1 x5_1).f5) _ _ ((rd_T33 l1 x5_1).f6) true _ (cv HR101_0 HB) HC101_0.out (cv HR101_4 HB) HC101_4.out (cv HR101_5 HB) HC101_5.out (cv HR101_6 HB) HC101_6.out (cv HR102_0 HB) HC102_0.out (cv HR102_4 HB) HC102_4.out (cv HR102_5 HB) HC102_5.out (cv HR102_6 HB) HC102_6.out A7.out) (fun w10 hb => ?_)
      replace HB := b2 HB hb
      refine hK.out _ _ kp (fun hHeld => ?_)
      (try clear hb)
      clear hK K
      refine norm_ (a' := ?_) ?_ ?_; rotate_left; go_simp; rfl
      refine pu HT_ 9 ?_
      refine done_ (done_of HT_.out (by kernel_rfl)) ?_
      try go_wp2
      go_roundg k1
      case measure => have := HK1.out; omega
      case rel => exact ⟨(wrap64 (x5_1 + 1)), o2, H', ⟨by have := HK1.out; omega⟩, ⟨bw HB.out⟩⟩
     ·obtain rfl := Option.some.inj H
      try go_wp2
      replace HB := ak (below_drew1 HB.out)
      obtain ⟨ad101, A101_0, c101_0, A101_4, c101_4, A101_5, c101_5, A101_6, c101_6, rfl, hw101_0, hw101_1, hw101_2, hw101_3, hw101_4, hw101_5, hw101_6, hx101_0, hx101_1, hx101_2, hx101_3, hx101_4, hx101_5, hx101_6, HC101_0, HR101_0, HC101_4, HR101_4, HC101_5, HR101_5, HC101_6, HR101_6, p101, q101⟩ := elw_T33 HR0 HB x5_1
      obtain ⟨ad102, A102_0, c102_0, A102_4, c102_4, A102_5, c102_5, A102_6, c102_6, rfl, hw102_0, hw102_1, hw102_2, hw102_3, hw102_4, hw102_5, hw102_6, hx102_0, hx102_1, hx102_2, hx102_3, hx102_4, hx102_5, hx102_6, HC102_0, HR102_0, HC102_4, HR102_4, HC102_5, HR102_5, HC102_6, HR102_6, p102, q102⟩ := elw_T33 HR1 HB x5_1
      refine start_ (n := 10) (S := fun w' => w'.cell? (ad101.add ((x5_1).toNat * 7)) = some (.slice A101_0 ((rd_T33 l0 x5_1).f0.f0).length c101_0) ∧ w'.cell? ⟨(ad101.add ((x5_1).toNat * 7)).block, (ad101.add ((x5_1).toNat * 7)).off + 1, none⟩ = some (.int .i64 ((rd_T33 l0 x5_1).f1)) ∧ w'.cell? ⟨(ad101.add ((x5_1).toNat * 7)).block, (ad101.add ((x5_1).toNat * 7)).off + 2, none⟩ = some (.int .i64 ((rd_T33 l0 x5_1).f2)) ∧ w'.cell? ⟨(ad101.add ((x5_1).toNat * 7)).block, (ad101.add ((x5_1).toNat * 7)).off + 3, none⟩ = some (.int .i64 ((rd_T33 l0 x5_1).f3)) ∧ w'.cell? ⟨(ad101.add ((x5_1).toNat * 7)).block, (ad101.add ((x5_1).toNat * 7)).off + 4, none⟩ = some (.slice A101_4 ((rd_T33 l0 x5_1).f4.f0).length c101_4) ∧ w'.cell? ⟨(ad101.add ((x5_1).toNat * 7)).block, (ad101.add ((x5_1).toNat * 7)).off + 5, none⟩ = some (.slice A101_5 ((rd_T33 l0 x5_1).f5).length c101_5) ∧ w'.cell? ⟨(ad101.add ((x5_1).toNat * 7)).block, (ad101.add ((x5_1).toNat * 7)).off + 6, none⟩ = some (.slice A101_6 ((rd_T33 l0 x5_1).f6).length c101_6) ∧ w'.cell? (ad102.add ((x5_1).toNat * 7)) = some (.slice A102_0 ((rd_T33 l1 x5_1).f0.f0).length c102_0) ∧ w'.cell? ⟨(ad102.add ((x5_1).toNat * 7)).block, (ad102.add ((x5_1).toNat * 7)).off + 1, none⟩ = some (.int .i64 ((rd_T33 l1 x5_1).f1)) ∧ w'.cell? ⟨(ad102.add ((x5_1).toNat * 7)).block, (ad102.add ((x5_1).toNat * 7)).off + 2, none⟩ = some (.int .i64 ((rd_T33 l1 x5_1).f2)) ∧ w'.cell? ⟨(ad102.add ((x5_1).toNat * 7)).block, (ad102.add ((x5_1).toNat * 7)).off + 3, none⟩ = some (.int .i64 ((rd_T33 l1 x5_1).f3)) ∧ w'.cell? ⟨(ad102.add ((x5_1).toNat * 7)).block, (ad102.add ((x5_1).toNat * 7)).off + 4, none⟩ = some (.slice A102_4 ((rd_T33 l1 x5_1).f4.f0).length c102_4) ∧ w'.cell? ⟨(ad102.add ((x5_1).toNat * 7)).block, (ad102.add ((x5_1).toNat * 7)).off + 5, none⟩ = some (.slice A102_5 ((rd_T33 l1 x5_1).f5).length c102_5) ∧ w'.cell? ⟨(ad102.add ((x5_1).toNat * 7)).block, (ad102.add ((x5_1).toNat * 7)).off + 6, none⟩ = some (.slice A102_6 ((rd_T33 l1 x5_1).f6).length c102_6)) (ds := []) (bA 10 0) (by kernel_rfl) rfl rfl kq (fun hHeld => ?_); refine with_tabW laws_eqRrS.tab6 laws_eqRrS.bits6 (fun HT_ HW_ => ?_)
      generalize wr.drew = w11 at HB HR101_0 HR101_4 HR101_5 HR101_6 HR102_0 HR102_4 HR102_5 HR102_6 hx101_0 hx101_1 hx101_2 hx101_3 hx101_4 hx101_5 hx101_6 hx102_0 hx102_1 hx102_2 hx102_3 hx102_4 hx102_5 hx102_6 hHeld ⊢
      refine pu HT_ 0 ?_
      refine pu HT_ 1 ?_
      refine pu HT_ 2 ?_
      refine pu HT_ 4 ?_
      refine pu HT_ 5 ?_
      refine pu HT_ 6 ?_
      refine ta HT_ HW_ hHeld 3 ?_
      refine ta HT_ HW_ hHeld 7 ?_
      refine on HT_ 8 (fun K hK => ?_)
      refine gsB Try.func17 (laws_eqRr.calls k1 _ _ ((rd_T33 l0 x5_1).f0.f0) ((rd_T33 l0 x5_1).f1) ((rd_T33 l0 x5_1).f2) ((rd_T33 l0 x5_1).f3) _ _ ((rd_T33 l0 x5_1).f4.f0) _ _ ((rd_T33 l0 x5_1).f5) _ _ ((rd_T33 l0 x5_1).f6) _ _ ((rd_T33 l1 x5_1).f0.f0) ((rd_T33 l1 x5_1).f1) ((rd_T33 l1 x5_1).f2) ((rd_T33 l1 x5_1).f3) _ _ ((rd_T33 l1 x5_1).f4.f0) _ _ ((rd_T33 l1 x5_1).f5) _ _ ((rd_T33 l1 x5_1).f6) false _ (cv HR101_0 HB) HC101_0.out (cv HR101_4 HB) HC101_4.out (cv HR101_5 HB) HC101_5.out (cv HR101_6 HB) HC101_6.out (cv HR102_0 HB) HC102_0.out (cv HR102_4 HB) HC102_4.out (cv HR102_5 HB) HC102_5.out (cv HR102_6 HB) HC102_6.out A7.out) (fun w12 hb => ?_)
      replace HB := b2 HB hb
      refine hK.out _ _ kp (fun hHeld => ?_)
      (try clear hb)
      clear hK K
      refine norm_ (a' := ?_) ?_ ?_; rotate_left; go_simp; rfl
      refine pu HT_ 9 ?_
      refine done_ (done_of HT_.out (by kernel_rfl)) ?_
      try go_wp2
      go_ret
      exact ⟨o1, bw HB.out⟩
    ·obtain rfl := Option.some.inj H
     go_wp2
     go_ret
     exact ⟨o1, bw HB.out⟩
 ·have c3b2 : (l0.length == l1.length) = false := lnF c3b0
  obtain rfl := Option.some.inj H
  go_enter Try.func104, Try.ntmps104
  go_wp2
  go_ret
  exact ⟨o1, bw HB.out⟩

/-! ### laws_eqQuestion: function 203 -/
def laws_eqQuestion.f (k : Nat) (l0_0 : List (List Int)) (a0_1 : Int) (l1_0 : List (List Int)) (a1_1 : Int) : Option (Bool) := (laws_eqName.f k l0_0 l1_0).bind fun t103 => (if t103 = true then (if a0_1 = a1_1 then (some true) else (some false)) else (some false))
set_option maxHeartbeats 8000000 in
set_option maxRecDepth 100000 in
theorem laws_eqQuestion.calls (k : Nat) (A0_0 : Option Addr) (c0_0 : Nat) (l0_0 : List (List Int)) (a0_1 : Int) (A1_0 : Option Addr) (c1_0 : Nat) (l1_0 : List (List Int)) (a1_1 : Int) (r : Bool) (w : World) (hr0_0 : Kd.C (Kd.slice 5 (Kd.int .u8)) w A0_0 l0_0.length l0_0) (hc0_0 : l0_0.length ≤ c0_0) (hr1_0 : Kd.C (Kd.slice 5 (Kd.int .u8)) w A1_0 l1_0.length l1_0) (hc1_0 : l1_0.length ≤ c1_0) (h : laws_eqQuestion.f k l0_0 a0_1 l1_0 a1_1 = some r) :
  Calls Try.prog 203 #[.agg #[.slice A0_0 l0_0.length c0_0, .int .i64 a0_1], .agg #[.slice A1_0 l1_0.length c1_0, .int .i64 a1_1]] w fun e w' => e = .returned (.bool r) ∧ Below w.heap.size w w' := by
 have hu200 := Try.underlying200
 have hu31 := Try.underlying31
 have HR0_0 := ak hr0_0
 have HC0_0 := ak hc0_0
 clear hr0_0 hc0_0
 have HR1_0 := ak hr1_0
 have HC1_0 := ak hc1_0
 clear hr1_0 hc1_0
 have HB := ak (Below.refl w.heap.size w)
 have H : ((laws_eqName.f k l0_0 l1_0).bind fun t103 => (if t103 = true then (if a0_1 = a1_1 then (some true) else (some false)) else (some false))) = some r := h
 clear h
 replace H := bnd H
 obtain ⟨t103, A3, H⟩ := H
 replace H := ib H
 obtain ⟨rfl, H⟩ | ⟨rfl, H⟩ := H
 ·replace H := ie H
  obtain ⟨c5b0, c5b1, H⟩ | ⟨c5b0, c5b1, H⟩ := H
  ·obtain rfl := Option.some.inj H
   go_enter Try.func203, Try.ntmps203
   go_wp2_with (first | ((with_reducible refine gate_dst (N := 2) rfl ?_);refine bxd (N := 2) rfl HB ?_;clear HB;intro gb101 w6 hg HB BK101 GE101 hb;have GW101 := GE101;clear hb hg) | ((with_reducible refine gate_dst (N := 3) rfl ?_);refine bxe (N := 3) rfl ?_;intro gb102 hg w7 hbox hb;have BK102 := ak (hbox);have GW102 := b3s hg bs;have GE102 := GW102;replace HB := b2s bs hb;have NB101_102 := b4 hg BK101;have NB102_101 := b5 hg BK101;replace BK101 := b1 BK101 hb;clear hb hbox hg;have hnb8 := NB101_102.out;have hnc8 := NB102_101.out;obtain ⟨hcz9_0, hcz9_1, hfz9_0, hfz9_1⟩ := cells2 BK101.out;obtain ⟨hcz10_0, hcz10_1, hfz10_0, hfz10_1⟩ := cells2 BK102.out) | ((with_reducible refine gate_callee (f := 43) rfl ?_);refine glB 9 rfl rfl Try.func43 (laws_eqName.calls k _ _ l0_0 _ _ l1_0 true _ (cv HR0_0 HB) HC0_0.out (cv HR1_0 HB) HC1_0.out A3.out) (fun w11 hb => ?_);replace BK101 := b1 BK101 hb;replace BK102 := b1 BK102 hb;replace HB := b2s bs hb;(try clear hb);obtain ⟨hcz12_0, hcz12_1, hfz12_0, hfz12_1⟩ := cells2 BK101.out;obtain ⟨hcz13_0, hcz13_1, hfz13_0, hfz13_1⟩ := cells2 BK102.out))
   go_ret
   exact ⟨o1, bs⟩
  ·obtain rfl := Option.some.inj H
   go_enter Try.func203, Try.ntmps203
   go_wp2_with (first | ((with_reducible refine gate_dst (N := 2) rfl ?_);refine bxd (N := 2) rfl HB ?_;clear HB;intro gb101 w14 hg HB BK101 GE101 hb;have GW101 := GE101;clear hb hg) | ((with_reducible refine gate_dst (N := 3) rfl ?_);refine bxe (N := 3) rfl ?_;intro gb102 hg w15 hbox hb;have BK102 := ak (hbox);have GW102 := b3s hg bs;have GE102 := GW102;replace HB := b2s bs hb;have NB101_102 := b4 hg BK101;have NB102_101 := b5 hg BK101;replace BK101 := b1 BK101 hb;clear hb hbox hg;have hnb16 := NB101_102.out;have hnc16 := NB102_101.out;obtain ⟨hcz17_0, hcz17_1, hfz17_0, hfz17_1⟩ := cells2 BK101.out;obtain ⟨hcz18_0, hcz18_1, hfz18_0, hfz18_1⟩ := cells2 BK102.out) | ((with_reducible refine gate_callee (f := 43) rfl ?_);refine glB 9 rfl rfl Try.func43 (laws_eqName.calls k _ _ l0_0 _ _ l1_0 true _ (cv HR0_0 HB) HC0_0.out (cv HR1_0 HB) HC1_0.out A3.out) (fun w19 hb => ?_);replace BK101 := b1 BK101 hb;replace BK102 := b1 BK102 hb;replace HB := b2s bs hb;(try clear hb);obtain ⟨hcz20_0, hcz20_1, hfz20_0, hfz20_1⟩ := cells2 BK101.out;obtain ⟨hcz21_0, hcz21_1, hfz21_0, hfz21_1⟩ := cells2 BK102.out))
   go_ret
   exact ⟨o1, bs⟩
 ·obtain rfl := Option.some.inj H
  go_enter Try.func203, Try.ntmps203
  go_wp2_with (first | ((with_reducible refine gate_dst (N := 2) rfl ?_);refine bxd (N := 2) rfl HB ?_;clear HB;intro gb101 w22 hg HB BK101 GE101 hb;have GW101 := GE101;clear hb hg) | ((with_reducible refine gate_dst (N := 3) rfl ?_);refine bxe (N := 3) rfl ?_;intro gb102 hg w23 hbox hb;have BK102 := ak (hbox);have GW102 := b3s hg bs;have GE102 := GW102;replace HB := b2s bs hb;have NB101_102 := b4 hg BK101;have NB102_101 := b5 hg BK101;replace BK101 := b1 BK101 hb;clear hb hbox hg;have hnb24 := NB101_102.out;have hnc24 := NB102_101.out;obtain ⟨hcz25_0, hcz25_1, hfz25_0, hfz25_1⟩ := cells2 BK101.out;obtain ⟨hcz26_0, hcz26_1, hfz26_0, hfz26_1⟩ := cells2 BK102.out) | ((with_reducible refine gate_callee (f := 43) rfl ?_);refine glB 9 rfl rfl Try.func43 (laws_eqName.calls k _ _ l0_0 _ _ l1_0 false _ (cv HR0_0 HB) HC0_0.out (cv HR1_0 HB) HC1_0.out A3.out) (fun w27 hb => ?_);replace BK101 := b1 BK101 hb;replace BK102 := b1 BK102 hb;replace HB := b2s bs hb;(try clear hb)))
  go_ret
  exact ⟨o1, bs⟩

/-! ### laws_eqQuestionS: function 132 -/
def laws_eqQuestionS.l0 : Nat → List (S200) → List (S200) → Int → Option (Bool)
 | 0, _, _, _ => none
 | k + 1, x0, x1, x5 => if x5 < (x0.length : Int) then (if 0 ≤ x5 then (if x5 < (x1.length : Int) then ((laws_eqQuestion.f k ((rd_T200 x0 x5).f0.f0) ((rd_T200 x0 x5).f1) ((rd_T200 x1 x5).f0.f0) ((rd_T200 x1 x5).f1)).bind fun t103 => (if t103 = true then (laws_eqQuestionS.l0 k x0 x1 (wrap64 (x5 + 1))) else (some false))) else (none)) else (none)) else (some true)
def laws_eqQuestionS.f (k : Nat) (l0 : List (S200)) (l1 : List (S200)) : Option (Bool) := if (l0.length : Int) = (l1.length : Int) then (laws_eqQuestionS.l0 k l0 l1 0) else (some false)
def laws_eqQuestionS.T6 : Bool × List (List Nat × List Nat) := (true, [([], []), ([], []), ([0, 1], [0, 1]), ([2], [2]), ([], []), ([], []), ([4, 5], [4, 5]), ([6], [6]), ([3, 7], [3, 7]), ([8], [8])])
def laws_eqQuestionS.B6 : List Nat := [0, 0, 3, 7, 0, 0, 48, 112, 255, 511]
theorem laws_eqQuestionS.tab6 : rtab .any (opsOf Try.f132 6) = laws_eqQuestionS.T6 := by kernel_rfl
theorem laws_eqQuestionS.bits6 : waitsOk laws_eqQuestionS.T6.2 laws_eqQuestionS.B6 = true := by kernel_rfl
set_option maxHeartbeats 8000000 in
set_option maxRecDepth 100000 in
theorem laws_eqQuestionS.calls (k : Nat) (A0 : Option Addr) (c0 : Nat) (l0 : List (S200)) (A1 : Option Addr) (c1 : Nat) (l1 : List (S200)) (r : Bool) (w : World) (hr0 : Kd.C k200 w A0 l0.length l0) (hc0 : l0.length ≤ c0) (hr1 : Kd.C k200 w A1 l1.length l1) (hc1 : l1.length ≤ c1) (h : laws_eqQuestionS.f k l0 l1 = some r) :
  Calls Try.prog 132 #[.slice A0 l0.length c0, .slice A1 l1.length c1] w fun e w' => e = .returned (.bool r) ∧ Below w.heap.size w w' := by
 have hu200 := Try.underlying200
 have HR0 := ak hr0
 have HC0 := ak hc0
 clear hr0 hc0
 have HR1 := ak hr1
 have HC1 := ak hc1
 clear hr1 hc1
 have HB := ak (Below.refl w.heap.size w)
 have H : (if (l0.length : Int) = (l1.length : Int) then (laws_eqQuestionS.l0 k l0 l1 0) else (some false)) = some r := h
 clear h
 replace H := ie H
 obtain ⟨c3b0, c3b1, H⟩ | ⟨c3b0, c3b1, H⟩ := H
 ·have c3b2 : (l0.length == l1.length) = true := lnT c3b0
  have H' := ak H
  clear H
  go_enter Try.func132, Try.ntmps132
  go_wp2
  go_loopg [5] k (fun kq v5 w' => ∃ (x5_1 : Int), v5 = .int .i64 x5_1 ∧ Aside0 (laws_eqQuestionS.l0 kq l0 l1 x5_1 = some r) ∧ Aside0 (kq ≤ k) ∧ Aside0 (Below w.heap.size w w'))
  case atStart => exact ⟨(0), o2, H', ⟨Nat.le_refl _⟩, ⟨bw HB.out⟩⟩
  case round =>
   clear H'
   (try clear c1)
   (try clear c3b0)
   (try clear c3b1)
   (try clear c3b2)
   obtain ⟨x5_1, rfl, HA, HK1, HB⟩ := hrel
   cases gk with
   | zero => exact absurd HA.out (by simp [laws_eqQuestionS.l0])
   | succ k1 =>
    have H := HA.out
    clear HA
    simp only [laws_eqQuestionS.l0] at H
    replace H := ip H
    obtain ⟨c4b0, H⟩ | ⟨c4b0, H⟩ := H
    ·replace H := ipN H
     obtain ⟨c5b0, H⟩ := H
     replace H := ipN H
     obtain ⟨c6b0, H⟩ := H
     replace H := bnd H
     obtain ⟨t103, A7, H⟩ := H
     replace H := ib H
     obtain ⟨rfl, H⟩ | ⟨rfl, H⟩ := H
     ·have H' := ak H
      clear H
      try go_wp2
      replace HB := ak (below_drew1 HB.out)
      obtain ⟨ad101, A101_0, c101_0, rfl, hw101_0, hw101_1, hx101_0, hx101_1, HC101_0, HR101_0, p101, q101⟩ := elw_T200 HR0 HB x5_1
      obtain ⟨ad102, A102_0, c102_0, rfl, hw102_0, hw102_1, hx102_0, hx102_1, HC102_0, HR102_0, p102, q102⟩ := elw_T200 HR1 HB x5_1
      refine start_ (n := 10) (S := fun w' => w'.cell? (ad101.add ((x5_1).toNat * 2)) = some (.slice A101_0 ((rd_T200 l0 x5_1).f0.f0).length c101_0) ∧ w'.cell? ⟨(ad101.add ((x5_1).toNat * 2)).block, (ad101.add ((x5_1).toNat * 2)).off + 1, none⟩ = some (.int .i64 ((rd_T200 l0 x5_1).f1)) ∧ w'.cell? (ad102.add ((x5_1).toNat * 2)) = some (.slice A102_0 ((rd_T200 l1 x5_1).f0.f0).length c102_0) ∧ w'.cell? ⟨(ad102.add ((x5_1).toNat * 2)).block, (ad102.add ((x5_1).toNat * 2)).off + 1, none⟩ = some (.int .i64 ((rd_T200 l1 x5_1).f1))) (ds := []) (bA 10 0) (by kernel_rfl) rfl rfl kq (fun hHeld => ?_); refine with_tabW laws_eqQuestionS.tab6 laws_eqQuestionS.bits6 (fun HT_ HW_ => ?_)
      generalize wr.drew = w9 at HB HR101_0 HR102_0 hx101_0 hx101_1 hx102_0 hx102_1 hHeld ⊢
      refine pu HT_ 0 ?_
      refine pu HT_ 1 ?_
      refine pu HT_ 2 ?_
      refine pu HT_ 4 ?_
      refine pu HT_ 5 ?_
      refine pu HT_ 6 ?_
      refine ta HT_ HW_ hHeld 3 ?_
      refine ta HT_ HW_ hHeld 7 ?_
      refine on HT_ 8 (fun K hK => ?_)
      refine gsB Try.func203 (laws_eqQuestion.calls k1 _ _ ((rd_T200 l0 x5_1).f0.f0) ((rd_T200 l0 x5_1).f1) _ _ ((rd_T200 l1 x5_1).f0.f0) ((rd_T200 l1 x5_1).f1) true _ (cv HR101_0 HB) HC101_0.out (cv HR102_0 HB) HC102_0.out A7.out) (fun w10 hb => ?_)
      replace HB := b2 HB hb
      refine hK.out _ _ kp (fun hHeld => ?_)
      (try clear hb)
      clear hK K
      refine norm_ (a' := ?_) ?_ ?_; rotate_left; go_simp; rfl
      refine pu HT_ 9 ?_
      refine done_ (done_of HT_.out (by kernel_rfl)) ?_
      try go_wp2
      go_roundg k1
      case measure => have := HK1.out; omega
      case rel => exact ⟨(wrap64 (x5_1 + 1)), o2, H', ⟨by have := HK1.out; omega⟩, ⟨bw HB.out⟩⟩
     ·obtain rfl := Option.some.inj H
      try go_wp2
      replace HB := ak (below_drew1 HB.out)
      obtain ⟨ad101, A101_0, c101_0, rfl, hw101_0, hw101_1, hx101_0, hx101_1, HC101_0, HR101_0, p101, q101⟩ := elw_T200 HR0 HB x5_1
      obtain ⟨ad102, A102_0, c102_0, rfl, hw102_0, hw102_1, hx102_0, hx102_1, HC102_0, HR102_0, p102, q102⟩ := elw_T200 HR1 HB x5_1
      refine start_ (n := 10) (S := fun w' => w'.cell? (ad101.add ((x5_1).toNat * 2)) = some (.slice A101_0 ((rd_T200 l0 x5_1).f0.f0).length c101_0) ∧ w'.cell? ⟨(ad101.add ((x5_1).toNat * 2)).block, (ad101.add ((x5_1).toNat * 2)).off + 1, none⟩ = some (.int .i64 ((rd_T200 l0 x5_1).f1)) ∧ w'.cell? (ad102.add ((x5_1).toNat * 2)) = some (.slice A102_0 ((rd_T200 l1 x5_1).f0.f0).length c102_0) ∧ w'.cell? ⟨(ad102.add ((x5_1).toNat * 2)).block, (ad102.add ((x5_1).toNat * 2)).off + 1, none⟩ = some (.int .i64 ((rd_T200 l1 x5_1).f1))) (ds := []) (bA 10 0) (by kernel_rfl) rfl rfl kq (fun hHeld => ?_); refine with_tabW laws_eqQuestionS.tab6 laws_eqQuestionS.bits6 (fun HT_ HW_ => ?_)
      generalize wr.drew = w11 at HB HR101_0 HR102_0 hx101_0 hx101_1 hx102_0 hx102_1 hHeld ⊢
      refine pu HT_ 0 ?_
      refine pu HT_ 1 ?_
      refine pu HT_ 2 ?_
      refine pu HT_ 4 ?_
      refine pu HT_ 5 ?_
      refine pu HT_ 6 ?_
      refine ta HT_ HW_ hHeld 3 ?_
      refine ta HT_ HW_ hHeld 7 ?_
      refine on HT_ 8 (fun K hK => ?_)
      refine gsB Try.func203 (laws_eqQuestion.calls k1 _ _ ((rd_T200 l0 x5_1).f0.f0) ((rd_T200 l0 x5_1).f1) _ _ ((rd_T200 l1 x5_1).f0.f0) ((rd_T200 l1 x5_1).f1) false _ (cv HR101_0 HB) HC101_0.out (cv HR102_0 HB) HC102_0.out A7.out) (fun w12 hb => ?_)
      replace HB := b2 HB hb
      refine hK.out _ _ kp (fun hHeld => ?_)
      (try clear hb)
      clear hK K
      refine norm_ (a' := ?_) ?_ ?_; rotate_left; go_simp; rfl
      refine pu HT_ 9 ?_
      refine done_ (done_of HT_.out (by kernel_rfl)) ?_
      try go_wp2
      go_ret
      exact ⟨o1, bw HB.out⟩
    ·obtain rfl := Option.some.inj H
     go_wp2
     go_ret
     exact ⟨o1, bw HB.out⟩
 ·have c3b2 : (l0.length == l1.length) = false := lnF c3b0
  obtain rfl := Option.some.inj H
  go_enter Try.func132, Try.ntmps132
  go_wp2
  go_ret
  exact ⟨o1, bw HB.out⟩

/-! ### laws_eqWant: function 204 -/
def laws_eqWant.f (k : Nat) (l0_0 : List (List Int)) (a0_1 : Int) (a0_2 : Int) (a0_3 : Int) (l0_4 : List (List Int)) (l0_5 : List Int) (l0_6 : List Int) (a0_7 : Int) (a0_8 : Bool) (l1_0 : List (List Int)) (a1_1 : Int) (a1_2 : Int) (a1_3 : Int) (l1_4 : List (List Int)) (l1_5 : List Int) (l1_6 : List Int) (a1_7 : Int) (a1_8 : Bool) : Option (Bool) := (laws_eqRr.f k l0_0 a0_1 a0_2 a0_3 l0_4 l0_5 l0_6 l1_0 a1_1 a1_2 a1_3 l1_4 l1_5 l1_6).bind fun t103 => (if t103 = true then (if a0_7 = a1_7 then (if (a0_8 != a1_8) = true then (some false) else (some true)) else (some false)) else (some false))
set_option maxHeartbeats 8000000 in
set_option maxRecDepth 100000 in
theorem laws_eqWant.calls (k : Nat) (A0_0 : Option Addr) (c0_0 : Nat) (l0_0 : List (List Int)) (a0_1 : Int) (a0_2 : Int) (a0_3 : Int) (A0_4 : Option Addr) (c0_4 : Nat) (l0_4 : List (List Int)) (A0_5 : Option Addr) (c0_5 : Nat) (l0_5 : List Int) (A0_6 : Option Addr) (c0_6 : Nat) (l0_6 : List Int) (a0_7 : Int) (a0_8 : Bool) (A1_0 : Option Addr) (c1_0 : Nat) (l1_0 : List (List Int)) (a1_1 : Int) (a1_2 : Int) (a1_3 : Int) (A1_4 : Option Addr) (c1_4 : Nat) (l1_4 : List (List Int)) (A1_5 : Option Addr) (c1_5 : Nat) (l1_5 : List Int) (A1_6 : Option Addr) (c1_6 : Nat) (l1_6 : List Int) (a1_7 : Int) (a1_8 : Bool) (r : Bool) (w : World) (hr0_0 : Kd.C (Kd.slice 5 (Kd.int .u8)) w A0_0 l0_0.length l0_0) (hc0_0 : l0_0.length ≤ c0_0) (hr0_4 : Kd.C (Kd.slice 5 (Kd.int .u8)) w A0_4 l0_4.length l0_4) (hc0_4 : l0_4.length ≤ c0_4) (hr0_5 : Kd.C (Kd.int .u8) w A0_5 l0_5.length l0_5) (hc0_5 : l0_5.length ≤ c0_5) (hr0_6 : Kd.C (Kd.int .i64) w A0_6 l0_6.length l0_6) (hc0_6 : l0_6.length ≤ c0_6) (hr1_0 : Kd.C (Kd.slice 5 (Kd.int .u8)) w A1_0 l1_0.length l1_0) (hc1_0 : l1_0.length ≤ c1_0) (hr1_4 : Kd.C (Kd.slice 5 (Kd.int .u8)) w A1_4 l1_4.length l1_4) (hc1_4 : l1_4.length ≤ c1_4) (hr1_5 : Kd.C (Kd.int .u8) w A1_5 l1_5.length l1_5) (hc1_5 : l1_5.length ≤ c1_5) (hr1_6 : Kd.C (Kd.int .i64) w A1_6 l1_6.length l1_6) (hc1_6 : l1_6.length ≤ c1_6) (h : laws_eqWant.f k l0_0 a0_1 a0_2 a0_3 l0_4 l0_5 l0_6 a0_7 a0_8 l1_0 a1_1 a1_2 a1_3 l1_4 l1_5 l1_6 a1_7 a1_8 = some r) :
  Calls Try.prog 204 #[.agg #[.slice A0_0 l0_0.length c0_0, .int .i64 a0_1, .int .i64 a0_2, .int .i64 a0_3, .slice A0_4 l0_4.length c0_4, .slice A0_5 l0_5.length c0_5, .slice A0_6 l0_6.length c0_6, .int .i64 a0_7, .bool a0_8], .agg #[.slice A1_0 l1_0.length c1_0, .int .i64 a1_1, .int .i64 a1_2, .int .i64 a1_3, .slice A1_4 l1_4.length c1_4, .slice A1_5 l1_5.length c1_5, .slice A1_6 l1_6.length c1_6, .int .i64 a1_7, .bool a1_8]] w fun e w' => e = .returned (.bool r) ∧ Below w.heap.size w w' := by
 have hu205 := Try.underlying205
 have hu33 := Try.underlying33
 have HR0_0 := ak hr0_0
 have HC0_0 := ak hc0_0
 clear hr0_0 hc0_0
 have HR0_4 := ak hr0_4
 have HC0_4 := ak hc0_4
 clear hr0_4 hc0_4
 have HR0_5 := ak hr0_5
 have HC0_5 := ak hc0_5
 clear hr0_5 hc0_5
 have HR0_6 := ak hr0_6
 have HC0_6 := ak hc0_6
 clear hr0_6 hc0_6
 have HR1_0 := ak hr1_0
 have HC1_0 := ak hc1_0
 clear hr1_0 hc1_0
 have HR1_4 := ak hr1_4
 have HC1_4 := ak hc1_4
 clear hr1_4 hc1_4
 have HR1_5 := ak hr1_5
 have HC1_5 := ak hc1_5
 clear hr1_5 hc1_5
 have HR1_6 := ak hr1_6
 have HC1_6 := ak hc1_6
 clear hr1_6 hc1_6
 have HB := ak (Below.refl w.heap.size w)
 have H : ((laws_eqRr.f k l0_0 a0_1 a0_2 a0_3 l0_4 l0_5 l0_6 l1_0 a1_1 a1_2 a1_3 l1_4 l1_5 l1_6).bind fun t103 => (if t103 = true then (if a0_7 = a1_7 then (if (a0_8 != a1_8) = true then (some false) else (some true)) else (some false)) else (some false))) = some r := h
 clear h
 replace H := bnd H
 obtain ⟨t103, A3, H⟩ := H
 replace H := ib H
 obtain ⟨rfl, H⟩ | ⟨rfl, H⟩ := H
 ·replace H := ie H
  obtain ⟨c5b0, c5b1, H⟩ | ⟨c5b0, c5b1, H⟩ := H
  ·by_cases c6 : (a0_8 != a1_8) = true
   ·rw [if_pos c6] at H
    have c6b0 : (a0_8 != a1_8) = true := c6
    (try (have c6b1 : decide (a0_8 = a1_8) = false := by simpa using c6))
    (try (have c6b2 : (a0_8 == a1_8) = false := by simpa using c6))
    (try (have c6b3 : ¬ (a0_8 = a1_8) := by simpa using c6))
    clear c6
    obtain rfl := Option.some.inj H
    go_enter Try.func204, Try.ntmps204
    go_wp2_with (first | ((with_reducible refine gate_dst (N := 2) rfl ?_);refine bxd (N := 2) rfl HB ?_;clear HB;intro gb101 w7 hg HB BK101 GE101 hb;have GW101 := GE101;clear hb hg) | ((with_reducible refine gate_dst (N := 3) rfl ?_);refine bxe (N := 3) rfl ?_;intro gb102 hg w8 hbox hb;have BK102 := ak (hbox);have GW102 := b3s hg bs;have GE102 := GW102;replace HB := b2s bs hb;have NB101_102 := b4 hg BK101;have NB102_101 := b5 hg BK101;replace BK101 := b1 BK101 hb;clear hb hbox hg;have hnb9 := NB101_102.out;have hnc9 := NB102_101.out;obtain ⟨hcz10_0, hcz10_1, hcz10_2, hcz10_3, hcz10_4, hcz10_5, hcz10_6, hcz10_7, hcz10_8, hfz10_0, hfz10_1, hfz10_2, hfz10_3, hfz10_4, hfz10_5, hfz10_6, hfz10_7, hfz10_8⟩ := cells9 BK101.out;obtain ⟨hcz11_0, hcz11_1, hcz11_2, hcz11_3, hcz11_4, hcz11_5, hcz11_6, hcz11_7, hcz11_8, hfz11_0, hfz11_1, hfz11_2, hfz11_3, hfz11_4, hfz11_5, hfz11_6, hfz11_7, hfz11_8⟩ := cells9 BK102.out) | ((with_reducible refine gate_callee (f := 17) rfl ?_);refine glB 9 rfl rfl Try.func17 (laws_eqRr.calls k _ _ l0_0 a0_1 a0_2 a0_3 _ _ l0_4 _ _ l0_5 _ _ l0_6 _ _ l1_0 a1_1 a1_2 a1_3 _ _ l1_4 _ _ l1_5 _ _ l1_6 true _ (cv HR0_0 HB) HC0_0.out (cv HR0_4 HB) HC0_4.out (cv HR0_5 HB) HC0_5.out (cv HR0_6 HB) HC0_6.out (cv HR1_0 HB) HC1_0.out (cv HR1_4 HB) HC1_4.out (cv HR1_5 HB) HC1_5.out (cv HR1_6 HB) HC1_6.out A3.out) (fun w12 hb => ?_);replace BK101 := b1 BK101 hb;replace BK102 := b1 BK102 hb;replace HB := b2s bs hb;(try clear hb);obtain ⟨hcz13_0, hcz13_1, hcz13_2, hcz13_3, hcz13_4, hcz13_5, hcz13_6, hcz13_7, hcz13_8, hfz13_0, hfz13_1, hfz13_2, hfz13_3, hfz13_4, hfz13_5, hfz13_6, hfz13_7, hfz13_8⟩ := cells9 BK101.out;obtain ⟨hcz14_0, hcz14_1, hcz14_2, hcz14_3, hcz14_4, hcz14_5, hcz14_6, hcz14_7, hcz14_8, hfz14_0, hfz14_1, hfz14_2, hfz14_3, hfz14_4, hfz14_5, hfz14_6, hfz14_7, hfz14_8⟩ := cells9 BK102.out))
    go_ret
    exact ⟨o1, bs⟩
   ·rw [if_neg c6] at H
    have c6b0 : (a0_8 != a1_8) = false := by simpa using c6
    (try (have c6b1 : decide (a0_8 = a1_8) = true := by simpa using c6))
    (try (have c6b2 : (a0_8 == a1_8) = true := by simpa using c6))
    clear c6
    obtain rfl := Option.some.inj H
    go_enter Try.func204, Try.ntmps204
    go_wp2_with (first | ((with_reducible refine gate_dst (N := 2) rfl ?_);refine bxd (N := 2) rfl HB ?_;clear HB;intro gb101 w15 hg HB BK101 GE101 hb;have GW101 := GE101;clear hb hg) | ((with_reducible refine gate_dst (N := 3) rfl ?_);refine bxe (N := 3) rfl ?_;intro gb102 hg w16 hbox hb;have BK102 := ak (hbox);have GW102 := b3s hg bs;have GE102 := GW102;replace HB := b2s bs hb;have NB101_102 := b4 hg BK101;have NB102_101 := b5 hg BK101;replace BK101 := b1 BK101 hb;clear hb hbox hg;have hnb17 := NB101_102.out;have hnc17 := NB102_101.out;obtain ⟨hcz18_0, hcz18_1, hcz18_2, hcz18_3, hcz18_4, hcz18_5, hcz18_6, hcz18_7, hcz18_8, hfz18_0, hfz18_1, hfz18_2, hfz18_3, hfz18_4, hfz18_5, hfz18_6, hfz18_7, hfz18_8⟩ := cells9 BK101.out;obtain ⟨hcz19_0, hcz19_1, hcz19_2, hcz19_3, hcz19_4, hcz19_5, hcz19_6, hcz19_7, hcz19_8, hfz19_0, hfz19_1, hfz19_2, hfz19_3, hfz19_4, hfz19_5, hfz19_6, hfz19_7, hfz19_8⟩ := cells9 BK102.out) | ((with_reducible refine gate_callee (f := 17) rfl ?_);refine glB 9 rfl rfl Try.func17 (laws_eqRr.calls k _ _ l0_0 a0_1 a0_2 a0_3 _ _ l0_4 _ _ l0_5 _ _ l0_6 _ _ l1_0 a1_1 a1_2 a1_3 _ _ l1_4 _ _ l1_5 _ _ l1_6 true _ (cv HR0_0 HB) HC0_0.out (cv HR0_4 HB) HC0_4.out (cv HR0_5 HB) HC0_5.out (cv HR0_6 HB) HC0_6.out (cv HR1_0 HB) HC1_0.out (cv HR1_4 HB) HC1_4.out (cv HR1_5 HB) HC1_5.out (cv HR1_6 HB) HC1_6.out A3.out) (fun w20 hb => ?_);replace BK101 := b1 BK101 hb;replace BK102 := b1 BK102 hb;replace HB := b2s bs hb;(try clear hb);obtain ⟨hcz21_0, hcz21_1, hcz21_2, hcz21_3, hcz21_4, hcz21_5, hcz21_6, hcz21_7, hcz21_8, hfz21_0, hfz21_1, hfz21_2, hfz21_3, hfz21_4, hfz21_5, hfz21_6, hfz21_7, hfz21_8⟩ := cells9 BK101.out;obtain ⟨hcz22_0, hcz22_1, hcz22_2, hcz22_3, hcz22_4, hcz22_5, hcz22_6, hcz22_7, hcz22_8, hfz22_0, hfz22_1, hfz22_2, hfz22_3, hfz22_4, hfz22_5, hfz22_6, hfz22_7, hfz22_8⟩ := cells9 BK102.out))
    go_ret
    exact ⟨o1, bs⟩
  ·obtain rfl := Option.some.inj H
   go_enter Try.func204, Try.ntmps204
   go_wp2_with (first | ((with_reducible refine gate_dst (N := 2) rfl ?_);refine bxd (N := 2) rfl HB ?_;clear HB;intro gb101 w23 hg HB BK101 GE101 hb;have GW101 := GE101;clear hb hg) | ((with_reducible refine gate_dst (N := 3) rfl ?_);refine bxe (N := 3) rfl ?_;intro gb102 hg w24 hbox hb;have BK102 := ak (hbox);have GW102 := b3s hg bs;have GE102 := GW102;replace HB := b2s bs hb;have NB101_102 := b4 hg BK101;have NB102_101 := b5 hg BK101;replace BK101 := b1 BK101 hb;clear hb hbox hg;have hnb25 := NB101_102.out;have hnc25 := NB102_101.out;obtain ⟨hcz26_0, hcz26_1, hcz26_2, hcz26_3, hcz26_4, hcz26_5, hcz26_6, hcz26_7, hcz26_8, hfz26_0, hfz26_1, hfz26_2, hfz26_3, hfz26_4, hfz26_5, hfz26_6, hfz26_7, hfz26_8⟩ := cells9 BK101.out;obtain ⟨hcz27_0, hcz27_1, hcz27_2, hcz27_3, hcz27_4, hcz27_5, hcz27_6, hcz27_7, hcz27_8, hfz27_0, hfz27_1, hfz27_2, hfz27_3, hfz27_4, hfz27_5, hfz27_6, hfz27_7, hfz27_8⟩ := cells9 BK102.out) | ((with_reducible refine gate_callee (f := 17) rfl ?_);refine glB 9 rfl rfl Try.func17 (laws_eqRr.calls k _ _ l0_0 a0_1 a0_2 a0_3 _ _ l0_4 _ _ l0_5 _ _ l0_6 _ _ l1_0 a1_1 a1_2 a1_3 _ _ l1_4 _ _ l1_5 _ _ l1_6 true _ (cv HR0_0 HB) HC0_0.out (cv HR0_4 HB) HC0_4.out (cv HR0_5 HB) HC0_5.out (cv HR0_6 HB) HC0_6.out (cv HR1_0 HB) HC1_0.out (cv HR1_4 HB) HC1_4.out (cv HR1_5 HB) HC1_5.out (cv HR1_6 HB) HC1_6.out A3.out) (fun w28 hb => ?_);replace BK101 := b1 BK101 hb;replace BK102 := b1 BK102 hb;replace HB := b2s bs hb;(try clear hb);obtain ⟨hcz29_0, hcz29_1, hcz29_2, hcz29_3, hcz29_4, hcz29_5, hcz29_6, hcz29_7, hcz29_8, hfz29_0, hfz29_1, hfz29_2, hfz29_3, hfz29_4, hfz29_5, hfz29_6, hfz29_7, hfz29_8⟩ := cells9 BK101.out;obtain ⟨hcz30_0, hcz30_1, hcz30_2, hcz30_3, hcz30_4, hcz30_5, hcz30_6, hcz30_7, hcz30_8, hfz30_0, hfz30_1, hfz30_2, hfz30_3, hfz30_4, hfz30_5, hfz30_6, hfz30_7, hfz30_8⟩ := cells9 BK102.out))
   go_ret
   exact ⟨o1, bs⟩
 ·obtain rfl := Option.some.inj H
  go_enter Try.func204, Try.ntmps204
  go_wp2_with (first | ((with_reducible refine gate_dst (N := 2) rfl ?_);refine bxd (N := 2) rfl HB ?_;clear HB;intro gb101 w31 hg HB BK101 GE101 hb;have GW101 := GE101;clear hb hg) | ((with_reducible refine gate_dst (N := 3) rfl ?_);refine bxe (N := 3) rfl ?_;intro gb102 hg w32 hbox hb;have BK102 := ak (hbox);have GW102 := b3s hg bs;have GE102 := GW102;replace HB := b2s bs hb;have NB101_102 := b4 hg BK101;have NB102_101 := b5 hg BK101;replace BK101 := b1 BK101 hb;clear hb hbox hg;have hnb33 := NB101_102.out;have hnc33 := NB102_101.out;obtain ⟨hcz34_0, hcz34_1, hcz34_2, hcz34_3, hcz34_4, hcz34_5, hcz34_6, hcz34_7, hcz34_8, hfz34_0, hfz34_1, hfz34_2, hfz34_3, hfz34_4, hfz34_5, hfz34_6, hfz34_7, hfz34_8⟩ := cells9 BK101.out;obtain ⟨hcz35_0, hcz35_1, hcz35_2, hcz35_3, hcz35_4, hcz35_5, hcz35_6, hcz35_7, hcz35_8, hfz35_0, hfz35_1, hfz35_2, hfz35_3, hfz35_4, hfz35_5, hfz35_6, hfz35_7, hfz35_8⟩ := cells9 BK102.out) | ((with_reducible refine gate_callee (f := 17) rfl ?_);refine glB 9 rfl rfl Try.func17 (laws_eqRr.calls k _ _ l0_0 a0_1 a0_2 a0_3 _ _ l0_4 _ _ l0_5 _ _ l0_6 _ _ l1_0 a1_1 a1_2 a1_3 _ _ l1_4 _ _ l1_5 _ _ l1_6 false _ (cv HR0_0 HB) HC0_0.out (cv HR0_4 HB) HC0_4.out (cv HR0_5 HB) HC0_5.out (cv HR0_6 HB) HC0_6.out (cv HR1_0 HB) HC1_0.out (cv HR1_4 HB) HC1_4.out (cv HR1_5 HB) HC1_5.out (cv HR1_6 HB) HC1_6.out A3.out) (fun w36 hb => ?_);replace BK101 := b1 BK101 hb;replace BK102 := b1 BK102 hb;replace HB := b2s bs hb;(try clear hb)))
  go_ret
  exact ⟨o1, bs⟩

/-! ### laws_eqWantS: function 133 -/
def laws_eqWantS.l0 : Nat → List (S205) → List (S205) → Int → Option (Bool)
 | 0, _, _, _ => none
 | k + 1, x0, x1, x5 => if x5 < (x0.length : Int) then (if 0 ≤ x5 then (if x5 < (x1.length : Int) then ((laws_eqWant.f k ((rd_T205 x0 x5).f0.f0.f0) ((rd_T205 x0 x5).f0.f1) ((rd_T205 x0 x5).f0.f2) ((rd_T205 x0 x5).f0.f3) ((rd_T205 x0 x5).f0.f4.f0) ((rd_T205 x0 x5).f0.f5) ((rd_T205 x0 x5).f0.f6) ((rd_T205 x0 x5).f1) ((rd_T205 x0 x5).f2) ((rd_T205 x1 x5).f0.f0.f0) ((rd_T205 x1 x5).f0.f1) ((rd_T205 x1 x5).f0.f2) ((rd_T205 x1 x5).f0.f3) ((rd_T205 x1 x5).f0.f4.f0) ((rd_T205 x1 x5).f0.f5) ((rd_T205 x1 x5).f0.f6) ((rd_T205 x1 x5).f1) ((rd_T205 x1 x5).f2)).bind fun t103 => (if t103 = true then (laws_eqWantS.l0 k x0 x1 (wrap64 (x5 + 1))) else (some false))) else (none)) else (none)) else (some true)
def laws_eqWantS.f (k : Nat) (l0 : List (S205)) (l1 : List (S205)) : Option (Bool) := if (l0.length : Int) = (l1.length : Int) then (laws_eqWantS.l0 k l0 l1 0) else (some false)
def laws_eqWantS.T6 : Bool × List (List Nat × List Nat) := (true, [([], []), ([], []), ([0, 1], [0, 1]), ([2], [2]), ([], []), ([], []), ([4, 5], [4, 5]), ([6], [6]), ([3, 7], [3, 7]), ([8], [8])])
def laws_eqWantS.B6 : List Nat := [0, 0, 3, 7, 0, 0, 48, 112, 255, 511]
theorem laws_eqWantS.tab6 : rtab .any (opsOf Try.f133 6) = laws_eqWantS.T6 := by kernel_rfl
theorem laws_eqWantS.bits6 : waitsOk laws_eqWantS.T6.2 laws_eqWantS.B6 = true := by kernel_rfl
set_option maxHeartbeats 8000000 in
set_option maxRecDepth 100000 in
theorem laws_eqWantS.calls (k : Nat) (A0 : Option Addr) (c0 : Nat) (l0 : List (S205)) (A1 : Option Addr) (c1 : Nat) (l1 : List (S205)) (r : Bool) (w : World) (hr0 : Kd.C k205 w A0 l0.length l0) (hc0 : l0.length ≤ c0) (hr1 : Kd.C k205 w A1 l1.length l1) (hc1 : l1.length ≤ c1) (h : laws_eqWantS.f k l0 l1 = some r) :
  Calls Try.prog 133 #[.slice A0 l0.length c0, .slice A1 l1.length c1] w fun e w' => e = .returned (.bool r) ∧ Below w.heap.size w w' := by
 have hu205 := Try.underlying205
 have HR0 := ak hr0
 have HC0 := ak hc0
 clear hr0 hc0
 have HR1 := ak hr1
 have HC1 := ak hc1
 clear hr1 hc1
 have HB := ak (Below.refl w.heap.size w)
 have H : (if (l0.length : Int) = (l1.length : Int) then (laws_eqWantS.l0 k l0 l1 0) else (some false)) = some r := h
 clear h
 replace H := ie H
 obtain ⟨c3b0, c3b1, H⟩ | ⟨c3b0, c3b1, H⟩ := H
 ·have c3b2 : (l0.length == l1.length) = true := lnT c3b0
  have H' := ak H
  clear H
  go_enter Try.func133, Try.ntmps133
  go_wp2
  go_loopg [5] k (fun kq v5 w' => ∃ (x5_1 : Int), v5 = .int .i64 x5_1 ∧ Aside0 (laws_eqWantS.l0 kq l0 l1 x5_1 = some r) ∧ Aside0 (kq ≤ k) ∧ Aside0 (Below w.heap.size w w'))
  case atStart => exact ⟨(0), o2, H', ⟨Nat.le_refl _⟩, ⟨bw HB.out⟩⟩
  case round =>
   clear H'
   (try clear c1)
   (try clear c3b0)
   (try clear c3b1)
   (try clear c3b2)
   obtain ⟨x5_1, rfl, HA, HK1, HB⟩ := hrel
   cases gk with
   | zero => exact absurd HA.out (by simp [laws_eqWantS.l0])
   | succ k1 =>
    have H := HA.out
    clear HA
    simp only [laws_eqWantS.l0] at H
    replace H := ip H
    obtain ⟨c4b0, H⟩ | ⟨c4b0, H⟩ := H
    ·replace H := ipN H
     obtain ⟨c5b0, H⟩ := H
     replace H := ipN H
     obtain ⟨c6b0, H⟩ := H
     replace H := bnd H
     obtain ⟨t103, A7, H⟩ := H
     replace H := ib H
     obtain ⟨rfl, H⟩ | ⟨rfl, H⟩ := H
     ·have H' := ak H
      clear H
      try go_wp2
      replace HB := ak (below_drew1 HB.out)
      obtain ⟨ad101, A101_0, c101_0, A101_4, c101_4, A101_5, c101_5, A101_6, c101_6, rfl, hw101_0, hw101_1, hw101_2, hw101_3, hw101_4, hw101_5, hw101_6, hw101_7, hw101_8, hx101_0, hx101_1, hx101_2, hx101_3, hx101_4, hx101_5, hx101_6, hx101_7, hx101_8, HC101_0, HR101_0, HC101_4, HR101_4, HC101_5, HR101_5, HC101_6, HR101_6, p101, q101⟩ := elw_T205 HR0 HB x5_1
      obtain ⟨ad102, A102_0, c102_0, A102_4, c102_4, A102_5, c102_5, A102_6, c102_6, rfl, hw102_0, hw102_1, hw102_2, hw102_3, hw102_4, hw102_5, hw102_6, hw102_7, hw102_8, hx102_0, hx102_1, hx102_2, hx102_3, hx102_4, hx102_5, hx102_6, hx102_7, hx102_8, HC102_0, HR102_0, HC102_4, HR102_4, HC102_5, HR102_5, HC102_6, HR102_6, p102, q102⟩ := elw_T205 HR1 HB x5_1
      refine start_ (n := 10) (S := fun w' => w'.cell? (ad101.add ((x5_1).toNat * 9)) = some (.slice A101_0 ((rd_T205 l0 x5_1).f0.f0.f0).length c101_0) ∧ w'.cell? ⟨(ad101.add ((x5_1).toNat * 9)).block, (ad101.add ((x5_1).toNat * 9)).off + 1, none⟩ = some (.int .i64 ((rd_T205 l0 x5_1).f0.f1)) ∧ w'.cell? ⟨(ad101.add ((x5_1).toNat * 9)).block, (ad101.add ((x5_1).toNat * 9)).off + 2, none⟩ = some (.int .i64 ((rd_T205 l0 x5_1).f0.f2)) ∧ w'.cell? ⟨(ad101.add ((x5_1).toNat * 9)).block, (ad101.add ((x5_1).toNat * 9)).off + 3, none⟩ = some (.int .i64 ((rd_T205 l0 x5_1).f0.f3)) ∧ w'.cell? ⟨(ad101.add ((x5_1).toNat * 9)).block, (ad101.add ((x5_1).toNat * 9)).off + 4, none⟩ = some (.slice A101_4 ((rd_T205 l0 x5_1).f0.f4.f0).length c101_4) ∧ w'.cell? ⟨(ad101.add ((x5_1).toNat * 9)).block, (ad101.add ((x5_1).toNat * 9)).off + 5, none⟩ = some (.slice A101_5 ((rd_T205 l0 x5_1).f0.f5).length c101_5) ∧ w'.cell? ⟨(ad101.add ((x5_1).toNat * 9)).block, (ad101.add ((x5_1).toNat * 9)).off + 6, none⟩ = some (.slice A101_6 ((rd_T205 l0 x5_1).f0.f6).length c101_6) ∧ w'.cell? ⟨(ad101.add ((x5_1).toNat * 9)).block, (ad101.add ((x5_1).toNat * 9)).off + 7, none⟩ = some (.int .i64 ((rd_T205 l0 x5_1).f1)) ∧ w'.cell? ⟨(ad101.add ((x5_1).toNat * 9)).block, (ad101.add ((x5_1).toNat * 9)).off + 8, none⟩ = some (.bool ((rd_T205 l0 x5_1).f2)) ∧ w'.cell? (ad102.add ((x5_1).toNat * 9)) = some (.slice A102_0 ((rd_T205 l1 x5_1).f0.f0.f0).length c102_0) ∧ w'.cell? ⟨(ad102.add ((x5_1).toNat * 9)).block, (ad102.add ((x5_1).toNat * 9)).off + 1, none⟩ = some (.int .i64 ((rd_T205 l1 x5_1).f0.f1)) ∧ w'.cell? ⟨(ad102.add ((x5_1).toNat * 9)).block, (ad102.add ((x5_1).toNat * 9)).off + 2, none⟩ = some (.int .i64 ((rd_T205 l1 x5_1).f0.f2)) ∧ w'.cell? ⟨(ad102.add ((x5_1).toNat * 9)).block, (ad102.add ((x5_1).toNat * 9)).off + 3, none⟩ = some (.int .i64 ((rd_T205 l1 x5_1).f0.f3)) ∧ w'.cell? ⟨(ad102.add ((x5_1).toNat * 9)).block, (ad102.add ((x5_1).toNat * 9)).off + 4, none⟩ = some (.slice A102_4 ((rd_T205 l1 x5_1).f0.f4.f0).length c102_4) ∧ w'.cell? ⟨(ad102.add ((x5_1).toNat * 9)).block, (ad102.add ((x5_1).toNat * 9)).off + 5, none⟩ = some (.slice A102_5 ((rd_T205 l1 x5_1).f0.f5).length c102_5) ∧ w'.cell? ⟨(ad102.add ((x5_1).toNat * 9)).block, (ad102.add ((x5_1).toNat * 9)).off + 6, none⟩ = some (.slice A102_6 ((rd_T205 l1 x5_1).f0.f6).length c102_6) ∧ w'.cell? ⟨(ad102.add ((x5_1).toNat * 9)).block, (ad102.add ((x5_1).toNat * 9)).off + 7, none⟩ = some (.int .i64 ((rd_T205 l1 x5_1).f1)) ∧ w'.cell? ⟨(ad102.add ((x5_1).toNat * 9)).block, (ad102.add ((x5_1).toNat * 9)).off + 8, none⟩ = some (.bool ((rd_T205 l1 x5_1).f2))) (ds := []) (bA 10 0) (by kernel_rfl) rfl rfl kq (fun hHeld => ?_); refine with_tabW laws_eqWantS.tab6 laws_eqWantS.bits6 (fun HT_ HW_ => ?_)
      generalize wr.drew = w9 at HB HR101_0 HR101_4 HR101_5 HR101_6 HR102_0 HR102_4 HR102_5 HR102_6 hx101_0 hx101_1 hx101_2 hx101_3 hx101_4 hx101_5 hx101_6 hx101_7 hx101_8 hx102_0 hx102_1 hx102_2 hx102_3 hx102_4 hx102_5 hx102_6 hx102_7 hx102_8 hHeld ⊢
      refine pu HT_ 0 ?_
      refine pu HT_ 1 ?_
      refine pu HT_ 2 ?_
      refine pu HT_ 4 ?_
      refine pu HT_ 5 ?_
      refine pu HT_ 6 ?_
      refine ta HT_ HW_ hHeld 3 ?_
      refine ta HT_ HW_ hHeld 7 ?_
      refine on HT_ 8 (fun K hK => ?_)
      refine gsB Try.func204 (laws_eqWant.calls k1 _ _ ((rd_T205 l0 x5_1).f0.f0.f0) ((rd_T205 l0 x5_1).f0.f1) ((rd_T205 l0 x5_1).f0.f2) ((rd_T205 l0 x5_1).f0.f3) _ _ ((rd_T205 l0 x5_1).f0.f4.f0) _ _ ((rd_T205 l0 x5_1).f0.f5) _ _ ((rd_T205 l0 x5_1).f0.f6) ((rd_T205 l0 x5_1).f1) ((rd_T205 l0 x5_1).f2) _ _ ((rd_T205 l1 x5_1).f0.f0.f0) ((rd_T205 l1 x5_1).f0.f1) ((rd_T205 l1 x5_1).f0.f2) ((rd_T205 l1 x5_1).f0.f3) _ _ ((rd_T205 l1 x5_1).f0.f4.f0) _ _ ((rd_T205 l1 x5_1).f0.f5) _ _ ((rd_T205 l1 x5_1).f0.f6) ((rd_T205 l1 x5_1).f1) ((rd_T205 l1 x5_1).f2) true _ (cv HR101_0 HB) HC101_0.out (cv HR101_4 HB) HC101_4.out (cv HR101_5 HB) HC101_5.out (cv HR101_6 HB) HC101_6.out (cv HR102_0 HB) HC102_0.out (cv HR102_4 HB) HC102_4.out (cv HR102_5 HB) HC102_5.out (cv HR102_6 HB) HC102_6.out A7.out) (fun w10 hb => ?_)
      replace HB := b2 HB hb
      refine hK.out _ _ kp (fun hHeld => ?_)
      (try clear hb)
      clear hK K
      refine norm_ (a' := ?_) ?_ ?_; rotate_left; go_simp; rfl
      refine pu HT_ 9 ?_
      refine done_ (done_of HT_.out (by kernel_rfl)) ?_
      try go_wp2
      go_roundg k1
      case measure => have := HK1.out; omega
      case rel => exact ⟨(wrap64 (x5_1 + 1)), o2, H', ⟨by have := HK1.out; omega⟩, ⟨bw HB.out⟩⟩
     ·obtain rfl := Option.some.inj H
      try go_wp2
      replace HB := ak (below_drew1 HB.out)
      obtain ⟨ad101, A101_0, c101_0, A101_4, c101_4, A101_5, c101_5, A101_6, c101_6, rfl, hw101_0, hw101_1, hw101_2, hw101_3, hw101_4, hw101_5, hw101_6, hw101_7, hw101_8, hx101_0, hx101_1, hx101_2, hx101_3, hx101_4, hx101_5, hx101_6, hx101_7, hx101_8, HC101_0, HR101_0, HC101_4, HR101_4, HC101_5, HR101_5, HC101_6, HR101_6, p101, q101⟩ := elw_T205 HR0 HB x5_1
      obtain ⟨ad102, A102_0, c102_0, A102_4, c102_4, A102_5, c102_5, A102_6, c102_6, rfl, hw102_0, hw102_1, hw102_2, hw102_3, hw102_4, hw102_5, hw102_6, hw102_7, hw102_8, hx102_0, hx102_1, hx102_2, hx102_3, hx102_4, hx102_5, hx102_6, hx102_7, hx102_8, HC102_0, HR102_0, HC102_4, HR102_4, HC102_5, HR102_5, HC102_6, HR102_6, p102, q102⟩ := elw_T205 HR1 HB x5_1
      refine start_ (n := 10) (S := fun w' => w'.cell? (ad101.add ((x5_1).toNat * 9)) = some (.slice A101_0 ((rd_T205 l0 x5_1).f0.f0.f0).length c101_0) ∧ w'.cell? ⟨(ad101.add ((x5_1).toNat * 9)).block, (ad101.add ((x5_1).toNat * 9)).off + 1, none⟩ = some (.int .i64 ((rd_T205 l0 x5_1).f0.f1)) ∧ w'.cell? ⟨(ad101.add ((x5_1).toNat * 9)).block, (ad101.add ((x5_1).toNat * 9)).off + 2, none⟩ = some (.int .i64 ((rd_T205 l0 x5_1).f0.f2)) ∧ w'.cell? ⟨(ad101.add ((x5_1).toNat * 9)).block, (ad101.add ((x5_1).toNat * 9)).off + 3, none⟩ = some (.int .i64 ((rd_T205 l0 x5_1).f0.f3)) ∧ w'.cell? ⟨(ad101.add ((x5_1).toNat * 9)).block, (ad101.add ((x5_1).toNat * 9)).off + 4, none⟩ = some (.slice A101_4 ((rd_T205 l0 x5_1).f0.f4.f0).length c101_4) ∧ w'.cell? ⟨(ad101.add ((x5_1).toNat * 9)).block, (ad101.add ((x5_1).toNat * 9)).off + 5, none⟩ = some (.slice A101_5 ((rd_T205 l0 x5_1).f0.f5).length c101_5) ∧ w'.cell? ⟨(ad101.add ((x5_1).toNat * 9)).block, (ad101.add ((x5_1).toNat * 9)).off + 6, none⟩ = some (.slice A101_6 ((rd_T205 l0 x5_1).f0.f6).length c101_6) ∧ w'.cell? ⟨(ad101.add ((x5_1).toNat * 9)).block, (ad101.add ((x5_1).toNat * 9)).off + 7, none⟩ = some (.int .i64 ((rd_T205 l0 x5_1).f1)) ∧ w'.cell? ⟨(ad101.add ((x5_1).toNat * 9)).block, (ad101.add ((x5_1).toNat * 9)).off + 8, none⟩ = some (.bool ((rd_T205 l0 x5_1).f2)) ∧ w'.cell? (ad102.add ((x5_1).toNat * 9)) = some (.slice A102_0 ((rd_T205 l1 x5_1).f0.f0.f0).length c102_0) ∧ w'.cell? ⟨(ad102.add ((x5_1).toNat * 9)).block, (ad102.add ((x5_1).toNat * 9)).off + 1, none⟩ = some (.int .i64 ((rd_T205 l1 x5_1).f0.f1)) ∧ w'.cell? ⟨(ad102.add ((x5_1).toNat * 9)).block, (ad102.add ((x5_1).toNat * 9)).off + 2, none⟩ = some (.int .i64 ((rd_T205 l1 x5_1).f0.f2)) ∧ w'.cell? ⟨(ad102.add ((x5_1).toNat * 9)).block, (ad102.add ((x5_1).toNat * 9)).off + 3, none⟩ = some (.int .i64 ((rd_T205 l1 x5_1).f0.f3)) ∧ w'.cell? ⟨(ad102.add ((x5_1).toNat * 9)).block, (ad102.add ((x5_1).toNat * 9)).off + 4, none⟩ = some (.slice A102_4 ((rd_T205 l1 x5_1).f0.f4.f0).length c102_4) ∧ w'.cell? ⟨(ad102.add ((x5_1).toNat * 9)).block, (ad102.add ((x5_1).toNat * 9)).off + 5, none⟩ = some (.slice A102_5 ((rd_T205 l1 x5_1).f0.f5).length c102_5) ∧ w'.cell? ⟨(ad102.add ((x5_1).toNat * 9)).block, (ad102.add ((x5_1).toNat * 9)).off + 6, none⟩ = some (.slice A102_6 ((rd_T205 l1 x5_1).f0.f6).length c102_6) ∧ w'.cell? ⟨(ad102.add ((x5_1).toNat * 9)).block, (ad102.add ((x5_1).toNat * 9)).off + 7, none⟩ = some (.int .i64 ((rd_T205 l1 x5_1).f1)) ∧ w'.cell? ⟨(ad102.add ((x5_1).toNat * 9)).block, (ad102.add ((x5_1).toNat * 9)).off + 8, none⟩ = some (.bool ((rd_T205 l1 x5_1).f2))) (ds := []) (bA 10 0) (by kernel_rfl) rfl rfl kq (fun hHeld => ?_); refine with_tabW laws_eqWantS.tab6 laws_eqWantS.bits6 (fun HT_ HW_ => ?_)
      generalize wr.drew = w11 at HB HR101_0 HR101_4 HR101_5 HR101_6 HR102_0 HR102_4 HR102_5 HR102_6 hx101_0 hx101_1 hx101_2 hx101_3 hx101_4 hx101_5 hx101_6 hx101_7 hx101_8 hx102_0 hx102_1 hx102_2 hx102_3 hx102_4 hx102_5 hx102_6 hx102_7 hx102_8 hHeld ⊢
      refine pu HT_ 0 ?_
      refine pu HT_ 1 ?_
      refine pu HT_ 2 ?_
      refine pu HT_ 4 ?_
      refine pu HT_ 5 ?_
      refine pu HT_ 6 ?_
      refine ta HT_ HW_ hHeld 3 ?_
      refine ta HT_ HW_ hHeld 7 ?_
      refine on HT_ 8 (fun K hK => ?_)
      refine gsB Try.func204 (laws_eqWant.calls k1 _ _ ((rd_T205 l0 x5_1).f0.f0.f0) ((rd_T205 l0 x5_1).f0.f1) ((rd_T205 l0 x5_1).f0.f2) ((rd_T205 l0 x5_1).f0.f3) _ _ ((rd_T205 l0 x5_1).f0.f4.f0) _ _ ((rd_T205 l0 x5_1).f0.f5) _ _ ((rd_T205 l0 x5_1).f0.f6) ((rd_T205 l0 x5_1).f1) ((rd_T205 l0 x5_1).f2) _ _ ((rd_T205 l1 x5_1).f0.f0.f0) ((rd_T205 l1 x5_1).f0.f1) ((rd_T205 l1 x5_1).f0.f2) ((rd_T205 l1 x5_1).f0.f3) _ _ ((rd_T205 l1 x5_1).f0.f4.f0) _ _ ((rd_T205 l1 x5_1).f0.f5) _ _ ((rd_T205 l1 x5_1).f0.f6) ((rd_T205 l1 x5_1).f1) ((rd_T205 l1 x5_1).f2) false _ (cv HR101_0 HB) HC101_0.out (cv HR101_4 HB) HC101_4.out (cv HR101_5 HB) HC101_5.out (cv HR101_6 HB) HC101_6.out (cv HR102_0 HB) HC102_0.out (cv HR102_4 HB) HC102_4.out (cv HR102_5 HB) HC102_5.out (cv HR102_6 HB) HC102_6.out A7.out) (fun w12 hb => ?_)
      replace HB := b2 HB hb
      refine hK.out _ _ kp (fun hHeld => ?_)
      (try clear hb)
      clear hK K
      refine norm_ (a' := ?_) ?_ ?_; rotate_left; go_simp; rfl
      refine pu HT_ 9 ?_
      refine done_ (done_of HT_.out (by kernel_rfl)) ?_
      try go_wp2
      go_ret
      exact ⟨o1, bw HB.out⟩
    ·obtain rfl := Option.some.inj H
     go_wp2
     go_ret
     exact ⟨o1, bw HB.out⟩
 ·have c3b2 : (l0.length == l1.length) = false := lnF c3b0
  obtain rfl := Option.some.inj H
  go_enter Try.func133, Try.ntmps133
  go_wp2
  go_ret
  exact ⟨o1, bw HB.out⟩

/-! ### laws_eqMsg: function 57 -/
def laws_eqMsg.f (k : Nat) (a0_0 : Int) (a0_1 : Bool) (a0_2 : Int) (a0_3 : Bool) (a0_4 : Int) (l0_5 : List (S200)) (l0_6 : List (S33)) (l0_7 : List (S33)) (l0_8 : List (S33)) (l0_9 : List (S205)) (l0_10 : List (S205)) (a1_0 : Int) (a1_1 : Bool) (a1_2 : Int) (a1_3 : Bool) (a1_4 : Int) (l1_5 : List (S200)) (l1_6 : List (S33)) (l1_7 : List (S33)) (l1_8 : List (S33)) (l1_9 : List (S205)) (l1_10 : List (S205)) : Option (Bool) := if a0_0 = a1_0 then (if (a0_1 != a1_1) = true then (some false) else (if a0_2 = a1_2 then (if (a0_3 != a1_3) = true then (some false) else (if a0_4 = a1_4 then ((laws_eqQuestionS.f k l0_5 l1_5).bind fun t103 => (if t103 = true then ((laws_eqRrS.f k l0_6 l1_6).bind fun t104 => (if t104 = true then ((laws_eqRrS.f k l0_7 l1_7).bind fun t105 => (if t105 = true then ((laws_eqRrS.f k l0_8 l1_8).bind fun t106 => (if t106 = true then ((laws_eqWantS.f k l0_9 l1_9).bind fun t107 => (if t107 = true then ((laws_eqWantS.f k l0_10 l1_10).bind fun t108 => (if t108 = true then (some true) else (some false))) else (some false))) else (some false))) else (some false))) else (some false))) else (some false))) else (some false))) else (some false))) else (some false)
set_option maxHeartbeats 8000000 in
set_option maxRecDepth 100000 in
theorem laws_eqMsg.calls (k : Nat) (a0_0 : Int) (a0_1 : Bool) (a0_2 : Int) (a0_3 : Bool) (a0_4 : Int) (A0_5 : Option Addr) (c0_5 : Nat) (l0_5 : List (S200)) (A0_6 : Option Addr) (c0_6 : Nat) (l0_6 : List (S33)) (A0_7 : Option Addr) (c0_7 : Nat) (l0_7 : List (S33)) (A0_8 : Option Addr) (c0_8 : Nat) (l0_8 : List (S33)) (A0_9 : Option Addr) (c0_9 : Nat) (l0_9 : List (S205)) (A0_10 : Option Addr) (c0_10 : Nat) (l0_10 : List (S205)) (a1_0 : Int) (a1_1 : Bool) (a1_2 : Int) (a1_3 : Bool) (a1_4 : Int) (A1_5 : Option Addr) (c1_5 : Nat) (l1_5 : List (S200)) (A1_6 : Option Addr) (c1_6 : Nat) (l1_6 : List (S33)) (A1_7 : Option Addr) (c1_7 : Nat) (l1_7 : List (S33)) (A1_8 : Option Addr) (c1_8 : Nat) (l1_8 : List (S33)) (A1_9 : Option Addr) (c1_9 : Nat) (l1_9 : List (S205)) (A1_10 : Option Addr) (c1_10 : Nat) (l1_10 : List (S205)) (r : Bool) (w : World) (hr0_5 : Kd.C k200 w A0_5 l0_5.length l0_5) (hc0_5 : l0_5.length ≤ c0_5) (hr0_6 : Kd.C k33 w A0_6 l0_6.length l0_6) (hc0_6 : l0_6.length ≤ c0_6) (hr0_7 : Kd.C k33 w A0_7 l0_7.length l0_7) (hc0_7 : l0_7.length ≤ c0_7) (hr0_8 : Kd.C k33 w A0_8 l0_8.length l0_8) (hc0_8 : l0_8.length ≤ c0_8) (hr0_9 : Kd.C k205 w A0_9 l0_9.length l0_9) (hc0_9 : l0_9.length ≤ c0_9) (hr0_10 : Kd.C k205 w A0_10 l0_10.length l0_10) (hc0_10 : l0_10.length ≤ c0_10) (hr1_5 : Kd.C k200 w A1_5 l1_5.length l1_5) (hc1_5 : l1_5.length ≤ c1_5) (hr1_6 : Kd.C k33 w A1_6 l1_6.length l1_6) (hc1_6 : l1_6.length ≤ c1_6) (hr1_7 : Kd.C k33 w A1_7 l1_7.length l1_7) (hc1_7 : l1_7.length ≤ c1_7) (hr1_8 : Kd.C k33 w A1_8 l1_8.length l1_8) (hc1_8 : l1_8.length ≤ c1_8) (hr1_9 : Kd.C k205 w A1_9 l1_9.length l1_9) (hc1_9 : l1_9.length ≤ c1_9) (hr1_10 : Kd.C k205 w A1_10 l1_10.length l1_10) (hc1_10 : l1_10.length ≤ c1_10) (h : laws_eqMsg.f k a0_0 a0_1 a0_2 a0_3 a0_4 l0_5 l0_6 l0_7 l0_8 l0_9 l0_10 a1_0 a1_1 a1_2 a1_3 a1_4 l1_5 l1_6 l1_7 l1_8 l1_9 l1_10 = some r) :
  Calls Try.prog 57 #[.agg #[.int .i64 a0_0, .bool a0_1, .int .i64 a0_2, .bool a0_3, .int .i64 a0_4, .slice A0_5 l0_5.length c0_5, .slice A0_6 l0_6.length c0_6, .slice A0_7 l0_7.length c0_7, .slice A0_8 l0_8.length c0_8, .slice A0_9 l0_9.length c0_9, .slice A0_10 l0_10.length c0_10], .agg #[.int .i64 a1_0, .bool a1_1, .int .i64 a1_2, .bool a1_3, .int .i64 a1_4, .slice A1_5 l1_5.length c1_5, .slice A1_6 l1_6.length c1_6, .slice A1_7 l1_7.length c1_7, .slice A1_8 l1_8.length c1_8, .slice A1_9 l1_9.length c1_9, .slice A1_10 l1_10.length c1_10]] w fun e w' => e = .returned (.bool r) ∧ Below w.heap.size w w' := by
 have hu92 := Try.underlying92
 have HR0_5 := ak hr0_5
 have HC0_5 := ak hc0_5
 clear hr0_5 hc0_5
 have HR0_6 := ak hr0_6
 have HC0_6 := ak hc0_6
 clear hr0_6 hc0_6
 have HR0_7 := ak hr0_7
 have HC0_7 := ak hc0_7
 clear hr0_7 hc0_7
 have HR0_8 := ak hr0_8
 have HC0_8 := ak hc0_8
 clear hr0_8 hc0_8
 have HR0_9 := ak hr0_9
 have HC0_9 := ak hc0_9
 clear hr0_9 hc0_9
 have HR0_10 := ak hr0_10
 have HC0_10 := ak hc0_10
 clear hr0_10 hc0_10
 have HR1_5 := ak hr1_5
 have HC1_5 := ak hc1_5
 clear hr1_5 hc1_5
 have HR1_6 := ak hr1_6
 have HC1_6 := ak hc1_6
 clear hr1_6 hc1_6
 have HR1_7 := ak hr1_7
 have HC1_7 := ak hc1_7
 clear hr1_7 hc1_7
 have HR1_8 := ak hr1_8
 have HC1_8 := ak hc1_8
 clear hr1_8 hc1_8
 have HR1_9 := ak hr1_9
 have HC1_9 := ak hc1_9
 clear hr1_9 hc1_9
 have HR1_10 := ak hr1_10
 have HC1_10 := ak hc1_10
 clear hr1_10 hc1_10
 have HB := ak (Below.refl w.heap.size w)
 have H : (if a0_0 = a1_0 then (if (a0_1 != a1_1) = true then (some false) else (if a0_2 = a1_2 then (if (a0_3 != a1_3) = true then (some false) else (if a0_4 = a1_4 then ((laws_eqQuestionS.f k l0_5 l1_5).bind fun t103 => (if t103 = true then ((laws_eqRrS.f k l0_6 l1_6).bind fun t104 => (if t104 = true then ((laws_eqRrS.f k l0_7 l1_7).bind fun t105 => (if t105 = true then ((laws_eqRrS.f k l0_8 l1_8).bind fun t106 => (if t106 = true then ((laws_eqWantS.f k l0_9 l1_9).bind fun t107 => (if t107 = true then ((laws_eqWantS.f k l0_10 l1_10).bind fun t108 => (if t108 = true then (some true) else (some false))) else (some false))) else (some false))) else (some false))) else (some false))) else (some false))) else (some false))) else (some false))) else (some false)) = some r := h
 clear h
 replace H := ie H
 obtain ⟨c3b0, c3b1, H⟩ | ⟨c3b0, c3b1, H⟩ := H
 ·by_cases c4 : (a0_1 != a1_1) = true
  ·rw [if_pos c4] at H
   have c4b0 : (a0_1 != a1_1) = true := c4
   (try (have c4b1 : decide (a0_1 = a1_1) = false := by simpa using c4))
   (try (have c4b2 : (a0_1 == a1_1) = false := by simpa using c4))
   (try (have c4b3 : ¬ (a0_1 = a1_1) := by simpa using c4))
   clear c4
   obtain rfl := Option.some.inj H
   go_enter Try.func57, Try.ntmps57
   go_wp2_with (first | ((with_reducible refine gate_dst (N := 2) rfl ?_);refine bxd (N := 2) rfl HB ?_;clear HB;intro gb101 w5 hg HB BK101 GE101 hb;have GW101 := GE101;clear hb hg) | ((with_reducible refine gate_dst (N := 3) rfl ?_);refine bxe (N := 3) rfl ?_;intro gb102 hg w6 hbox hb;have BK102 := ak (hbox);have GW102 := b3s hg bs;have GE102 := GW102;replace HB := b2s bs hb;have NB101_102 := b4 hg BK101;have NB102_101 := b5 hg BK101;replace BK101 := b1 BK101 hb;clear hb hbox hg;have hnb7 := NB101_102.out;have hnc7 := NB102_101.out;obtain ⟨hcz8_0, hcz8_1, hcz8_2, hcz8_3, hcz8_4, hcz8_5, hcz8_6, hcz8_7, hcz8_8, hcz8_9, hcz8_10, hfz8_0, hfz8_1, hfz8_2, hfz8_3, hfz8_4, hfz8_5, hfz8_6, hfz8_7, hfz8_8, hfz8_9, hfz8_10⟩ := cells11 BK101.out;obtain ⟨hcz9_0, hcz9_1, hcz9_2, hcz9_3, hcz9_4, hcz9_5, hcz9_6, hcz9_7, hcz9_8, hcz9_9, hcz9_10, hfz9_0, hfz9_1, hfz9_2, hfz9_3, hfz9_4, hfz9_5, hfz9_6, hfz9_7, hfz9_8, hfz9_9, hfz9_10⟩ := cells11 BK102.out))
   go_ret
   exact ⟨o1, bs⟩
  ·rw [if_neg c4] at H
   have c4b0 : (a0_1 != a1_1) = false := by simpa using c4
   (try (have c4b1 : decide (a0_1 = a1_1) = true := by simpa using c4))
   (try (have c4b2 : (a0_1 == a1_1) = true := by simpa using c4))
   clear c4
   replace H := ie H
   obtain ⟨c10b0, c10b1, H⟩ | ⟨c10b0, c10b1, H⟩ := H
   ·by_cases c11 : (a0_3 != a1_3) = true
    ·rw [if_pos c11] at H
     have c11b0 : (a0_3 != a1_3) = true := c11
     (try (have c11b1 : decide (a0_3 = a1_3) = false := by simpa using c11))
     (try (have c11b2 : (a0_3 == a1_3) = false := by simpa using c11))
     (try (have c11b3 : ¬ (a0_3 = a1_3) := by simpa using c11))
     clear c11
     obtain rfl := Option.some.inj H
     go_enter Try.func57, Try.ntmps57
     go_wp2_with (first | ((with_reducible refine gate_dst (N := 2) rfl ?_);refine bxd (N := 2) rfl HB ?_;clear HB;intro gb101 w12 hg HB BK101 GE101 hb;have GW101 := GE101;clear hb hg) | ((with_reducible refine gate_dst (N := 3) rfl ?_);refine bxe (N := 3) rfl ?_;intro gb102 hg w13 hbox hb;have BK102 := ak (hbox);have GW102 := b3s hg bs;have GE102 := GW102;replace HB := b2s bs hb;have NB101_102 := b4 hg BK101;have NB102_101 := b5 hg BK101;replace BK101 := b1 BK101 hb;clear hb hbox hg;have hnb14 := NB101_102.out;have hnc14 := NB102_101.out;obtain ⟨hcz15_0, hcz15_1, hcz15_2, hcz15_3, hcz15_4, hcz15_5, hcz15_6, hcz15_7, hcz15_8, hcz15_9, hcz15_10, hfz15_0, hfz15_1, hfz15_2, hfz15_3, hfz15_4, hfz15_5, hfz15_6, hfz15_7, hfz15_8, hfz15_9, hfz15_10⟩ := cells11 BK101.out;obtain ⟨hcz16_0, hcz16_1, hcz16_2, hcz16_3, hcz16_4, hcz16_5, hcz16_6, hcz16_7, hcz16_8, hcz16_9, hcz16_10, hfz16_0, hfz16_1, hfz16_2, hfz16_3, hfz16_4, hfz16_5, hfz16_6, hfz16_7, hfz16_8, hfz16_9, hfz16_10⟩ := cells11 BK102.out))
     go_ret
     exact ⟨o1, bs⟩
    ·rw [if_neg c11] at H
     have c11b0 : (a0_3 != a1_3) = false := by simpa using c11
     (try (have c11b1 : decide (a0_3 = a1_3) = true := by simpa using c11))
     (try (have c11b2 : (a0_3 == a1_3) = true := by simpa using c11))
     clear c11
     replace H := ie H
     obtain ⟨c17b0, c17b1, H⟩ | ⟨c17b0, c17b1, H⟩ := H
     ·replace H := bnd H
      obtain ⟨t103, A18, H⟩ := H
      replace H := ib H
      obtain ⟨rfl, H⟩ | ⟨rfl, H⟩ := H
      ·replace H := bnd H
       obtain ⟨t104, A20, H⟩ := H
       replace H := ib H
       obtain ⟨rfl, H⟩ | ⟨rfl, H⟩ := H
       ·replace H := bnd H
        obtain ⟨t105, A22, H⟩ := H
        replace H := ib H
        obtain ⟨rfl, H⟩ | ⟨rfl, H⟩ := H
        ·replace H := bnd H
         obtain ⟨t106, A24, H⟩ := H
         replace H := ib H
         obtain ⟨rfl, H⟩ | ⟨rfl, H⟩ := H
         ·replace H := bnd H
          obtain ⟨t107, A26, H⟩ := H
          replace H := ib H
          obtain ⟨rfl, H⟩ | ⟨rfl, H⟩ := H
          ·replace H := bnd H
           obtain ⟨t108, A28, H⟩ := H
           replace H := ib H
           obtain ⟨rfl, H⟩ | ⟨rfl, H⟩ := H
           ·obtain rfl := Option.some.inj H
            go_enter Try.func57, Try.ntmps57
            go_wp2_with (first | ((with_reducible refine gate_dst (N := 2) rfl ?_);refine bxd (N := 2) rfl HB ?_;clear HB;intro gb101 w30 hg HB BK101 GE101 hb;have GW101 := GE101;clear hb hg) | ((with_reducible refine gate_dst (N := 3) rfl ?_);refine bxe (N := 3) rfl ?_;intro gb102 hg w31 hbox hb;have BK102 := ak (hbox);have GW102 := b3s hg bs;have GE102 := GW102;replace HB := b2s bs hb;have NB101_102 := b4 hg BK101;have NB102_101 := b5 hg BK101;replace BK101 := b1 BK101 hb;clear hb hbox hg;have hnb32 := NB101_102.out;have hnc32 := NB102_101.out;obtain ⟨hcz33_0, hcz33_1, hcz33_2, hcz33_3, hcz33_4, hcz33_5, hcz33_6, hcz33_7, hcz33_8, hcz33_9, hcz33_10, hfz33_0, hfz33_1, hfz33_2, hfz33_3, hfz33_4, hfz33_5, hfz33_6, hfz33_7, hfz33_8, hfz33_9, hfz33_10⟩ := cells11 BK101.out;obtain ⟨hcz34_0, hcz34_1, hcz34_2, hcz34_3, hcz34_4, hcz34_5, hcz34_6, hcz34_7, hcz34_8, hcz34_9, hcz34_10, hfz34_0, hfz34_1, hfz34_2, hfz34_3, hfz34_4, hfz34_5, hfz34_6, hfz34_7, hfz34_8, hfz34_9, hfz34_10⟩ := cells11 BK102.out) | ((with_reducible refine gate_callee (f := 132) rfl ?_);refine glB 34 rfl rfl Try.func132 (laws_eqQuestionS.calls k _ _ l0_5 _ _ l1_5 true _ (cv HR0_5 HB) HC0_5.out (cv HR1_5 HB) HC1_5.out A18.out) (fun w35 hb => ?_);replace BK101 := b1 BK101 hb;replace BK102 := b1 BK102 hb;replace HB := b2s bs hb;(try clear hb);obtain ⟨hcz36_0, hcz36_1, hcz36_2, hcz36_3, hcz36_4, hcz36_5, hcz36_6, hcz36_7, hcz36_8, hcz36_9, hcz36_10, hfz36_0, hfz36_1, hfz36_2, hfz36_3, hfz36_4, hfz36_5, hfz36_6, hfz36_7, hfz36_8, hfz36_9, hfz36_10⟩ := cells11 BK101.out;obtain ⟨hcz37_0, hcz37_1, hcz37_2, hcz37_3, hcz37_4, hcz37_5, hcz37_6, hcz37_7, hcz37_8, hcz37_9, hcz37_10, hfz37_0, hfz37_1, hfz37_2, hfz37_3, hfz37_4, hfz37_5, hfz37_6, hfz37_7, hfz37_8, hfz37_9, hfz37_10⟩ := cells11 BK102.out) | ((with_reducible refine gate_callee (f := 104) rfl ?_);refine glB 40 rfl rfl Try.func104 (laws_eqRrS.calls k _ _ l0_6 _ _ l1_6 true _ (cv HR0_6 HB) HC0_6.out (cv HR1_6 HB) HC1_6.out A20.out) (fun w38 hb => ?_);replace BK101 := b1 BK101 hb;replace BK102 := b1 BK102 hb;replace HB := b2s bs hb;(try clear hb);obtain ⟨hcz39_0, hcz39_1, hcz39_2, hcz39_3, hcz39_4, hcz39_5, hcz39_6, hcz39_7, hcz39_8, hcz39_9, hcz39_10, hfz39_0, hfz39_1, hfz39_2, hfz39_3, hfz39_4, hfz39_5, hfz39_6, hfz39_7, hfz39_8, hfz39_9, hfz39_10⟩ := cells11 BK101.out;obtain ⟨hcz40_0, hcz40_1, hcz40_2, hcz40_3, hcz40_4, hcz40_5, hcz40_6, hcz40_7, hcz40_8, hcz40_9, hcz40_10, hfz40_0, hfz40_1, hfz40_2, hfz40_3, hfz40_4, hfz40_5, hfz40_6, hfz40_7, hfz40_8, hfz40_9, hfz40_10⟩ := cells11 BK102.out) | ((with_reducible refine gate_callee (f := 104) rfl ?_);refine glB 46 rfl rfl Try.func104 (laws_eqRrS.calls k _ _ l0_7 _ _ l1_7 true _ (cv HR0_7 HB) HC0_7.out (cv HR1_7 HB) HC1_7.out A22.out) (fun w41 hb => ?_);replace BK101 := b1 BK101 hb;replace BK102 := b1 BK102 hb;replace HB := b2s bs hb;(try clear hb);obtain ⟨hcz42_0, hcz42_1, hcz42_2, hcz42_3, hcz42_4, hcz42_5, hcz42_6, hcz42_7, hcz42_8, hcz42_9, hcz42_10, hfz42_0, hfz42_1, hfz42_2, hfz42_3, hfz42_4, hfz42_5, hfz42_6, hfz42_7, hfz42_8, hfz42_9, hfz42_10⟩ := cells11 BK101.out;obtain ⟨hcz43_0, hcz43_1, hcz43_2, hcz43_3, hcz43_4, hcz43_5, hcz43_6, hcz43_7, hcz43_8, hcz43_9, hcz43_10, hfz43_0, hfz43_1, hfz43_2, hfz43_3, hfz43_4, hfz43_5, hfz43_6, hfz43_7, hfz43_8, hfz43_9, hfz43_10⟩ := cells11 BK102.out) | ((with_reducible refine gate_callee (f := 104) rfl ?_);refine glB 52 rfl rfl Try.func104 (laws_eqRrS.calls k _ _ l0_8 _ _ l1_8 true _ (cv HR0_8 HB) HC0_8.out (cv HR1_8 HB) HC1_8.out A24.out) (fun w44 hb => ?_);replace BK101 := b1 BK101 hb;replace BK102 := b1 BK102 hb;replace HB := b2s bs hb;(try clear hb);obtain ⟨hcz45_0, hcz45_1, hcz45_2, hcz45_3, hcz45_4, hcz45_5, hcz45_6, hcz45_7, hcz45_8, hcz45_9, hcz45_10, hfz45_0, hfz45_1, hfz45_2, hfz45_3, hfz45_4, hfz45_5, hfz45_6, hfz45_7, hfz45_8, hfz45_9, hfz45_10⟩ := cells11 BK101.out;obtain ⟨hcz46_0, hcz46_1, hcz46_2, hcz46_3, hcz46_4, hcz46_5, hcz46_6, hcz46_7, hcz46_8, hcz46_9, hcz46_10, hfz46_0, hfz46_1, hfz46_2, hfz46_3, hfz46_4, hfz46_5, hfz46_6, hfz46_7, hfz46_8, hfz46_9, hfz46_10⟩ := cells11 BK102.out) | ((with_reducible refine gate_callee (f := 133) rfl ?_);refine glB 58 rfl rfl Try.func133 (laws_eqWantS.calls k _ _ l0_9 _ _ l1_9 true _ (cv HR0_9 HB) HC0_9.out (cv HR1_9 HB) HC1_9.out A26.out) (fun w47 hb => ?_);replace BK101 := b1 BK101 hb;replace BK102 := b1 BK102 hb;replace HB := b2s bs hb;(try clear hb);obtain ⟨hcz48_0, hcz48_1, hcz48_2, hcz48_3, hcz48_4, hcz48_5, hcz48_6, hcz48_7, hcz48_8, hcz48_9, hcz48_10, hfz48_0, hfz48_1, hfz48_2, hfz48_3, hfz48_4, hfz48_5, hfz48_6, hfz48_7, hfz48_8, hfz48_9, hfz48_10⟩ := cells11 BK101.out;obtain ⟨hcz49_0, hcz49_1, hcz49_2, hcz49_3, hcz49_4, hcz49_5, hcz49_6, hcz49_7, hcz49_8, hcz49_9, hcz49_10, hfz49_0, hfz49_1, hfz49_2, hfz49_3, hfz49_4, hfz49_5, hfz49_6, hfz49_7, hfz49_8, hfz49_9, hfz49_10⟩ := cells11 BK102.out) | ((with_reducible refine gate_callee (f := 133) rfl ?_);refine glB 64 rfl rfl Try.func133 (laws_eqWantS.calls k _ _ l0_10 _ _ l1_10 true _ (cv HR0_10 HB) HC0_10.out (cv HR1_10 HB) HC1_10.out A28.out) (fun w50 hb => ?_);replace BK101 := b1 BK101 hb;replace BK102 := b1 BK102 hb;replace HB := b2s bs hb;(try clear hb)))
            go_ret
            exact ⟨o1, bs⟩
           ·obtain rfl := Option.some.inj H
            go_enter Try.func57, Try.ntmps57
            go_wp2_with (first | ((with_reducible refine gate_dst (N := 2) rfl ?_);refine bxd (N := 2) rfl HB ?_;clear HB;intro gb101 w51 hg HB BK101 GE101 hb;have GW101 := GE101;clear hb hg) | ((with_reducible refine gate_dst (N := 3) rfl ?_);refine bxe (N := 3) rfl ?_;intro gb102 hg w52 hbox hb;have BK102 := ak (hbox);have GW102 := b3s hg bs;have GE102 := GW102;replace HB := b2s bs hb;have NB101_102 := b4 hg BK101;have NB102_101 := b5 hg BK101;replace BK101 := b1 BK101 hb;clear hb hbox hg;have hnb53 := NB101_102.out;have hnc53 := NB102_101.out;obtain ⟨hcz54_0, hcz54_1, hcz54_2, hcz54_3, hcz54_4, hcz54_5, hcz54_6, hcz54_7, hcz54_8, hcz54_9, hcz54_10, hfz54_0, hfz54_1, hfz54_2, hfz54_3, hfz54_4, hfz54_5, hfz54_6, hfz54_7, hfz54_8, hfz54_9, hfz54_10⟩ := cells11 BK101.out;obtain ⟨hcz55_0, hcz55_1, hcz55_2, hcz55_3, hcz55_4, hcz55_5, hcz55_6, hcz55_7, hcz55_8, hcz55_9, hcz55_10, hfz55_0, hfz55_1, hfz55_2, hfz55_3, hfz55_4, hfz55_5, hfz55_6, hfz55_7, hfz55_8, hfz55_9, hfz55_10⟩ := cells11 BK102.out) | ((with_reducible refine gate_callee (f := 132) rfl ?_);refine glB 34 rfl rfl Try.func132 (laws_eqQuestionS.calls k _ _ l0_5 _ _ l1_5 true _ (cv HR0_5 HB) HC0_5.out (cv HR1_5 HB) HC1_5.out A18.out) (fun w56 hb => ?_);replace BK101 := b1 BK101 hb;replace BK102 := b1 BK102 hb;replace HB := b2s bs hb;(try clear hb);obtain ⟨hcz57_0, hcz57_1, hcz57_2, hcz57_3, hcz57_4, hcz57_5, hcz57_6, hcz57_7, hcz57_8, hcz57_9, hcz57_10, hfz57_0, hfz57_1, hfz57_2, hfz57_3, hfz57_4, hfz57_5, hfz57_6, hfz57_7, hfz57_8, hfz57_9, hfz57_10⟩ := cells11 BK101.out;obtain ⟨hcz58_0, hcz58_1, hcz58_2, hcz58_3, hcz58_4, hcz58_5, hcz58_6, hcz58_7, hcz58_8, hcz58_9, hcz58_10, hfz58_0, hfz58_1, hfz58_2, hfz58_3, hfz58_4, hfz58_5, hfz58_6, hfz58_7, hfz58_8, hfz58_9, hfz58_10⟩ := cells11 BK102.out) | ((with_reducible refine gate_callee (f := 104) rfl ?_);refine glB 40 rfl rfl Try.func104 (laws_eqRrS.calls k _ _ l0_6 _ _ l1_6 true _ (cv HR0_6 HB) HC0_6.out (cv HR1_6 HB) HC1_6.out A20.out) (fun w59 hb => ?_);replace BK101 := b1 BK101 hb;replace BK102 := b1 BK102 hb;replace HB := b2s bs hb;(try clear hb);obtain ⟨hcz60_0, hcz60_1, hcz60_2, hcz60_3, hcz60_4, hcz60_5, hcz60_6, hcz60_7, hcz60_8, hcz60_9, hcz60_10, hfz60_0, hfz60_1, hfz60_2, hfz60_3, hfz60_4, hfz60_5, hfz60_6, hfz60_7, hfz60_8, hfz60_9, hfz60_10⟩ := cells11 BK101.out;obtain ⟨hcz61_0, hcz61_1, hcz61_2, hcz61_3, hcz61_4, hcz61_5, hcz61_6, hcz61_7, hcz61_8, hcz61_9, hcz61_10, hfz61_0, hfz61_1, hfz61_2, hfz61_3, hfz61_4, hfz61_5, hfz61_6, hfz61_7, hfz61_8, hfz61_9, hfz61_10⟩ := cells11 BK102.out) | ((with_reducible refine gate_callee (f := 104) rfl ?_);refine glB 46 rfl rfl Try.func104 (laws_eqRrS.calls k _ _ l0_7 _ _ l1_7 true _ (cv HR0_7 HB) HC0_7.out (cv HR1_7 HB) HC1_7.out A22.out) (fun w62 hb => ?_);replace BK101 := b1 BK101 hb;replace BK102 := b1 BK102 hb;replace HB := b2s bs hb;(try clear hb);obtain ⟨hcz63_0, hcz63_1, hcz63_2, hcz63_3, hcz63_4, hcz63_5, hcz63_6, hcz63_7, hcz63_8, hcz63_9, hcz63_10, hfz63_0, hfz63_1, hfz63_2, hfz63_3, hfz63_4, hfz63_5, hfz63_6, hfz63_7, hfz63_8, hfz63_9, hfz63_10⟩ := cells11 BK101.out;obtain ⟨hcz64_0, hcz64_1, hcz64_2, hcz64_3, hcz64_4, hcz64_5, hcz64_6, hcz64_7, hcz64_8, hcz64_9, hcz64_10, hfz64_0, hfz64_1, hfz64_2, hfz64_3, hfz64_4, hfz64_5, hfz64_6, hfz64_7, hfz64_8, hfz64_9, hfz64_10⟩ := cells11 BK102.out) | ((with_reducible refine gate_callee (f := 104) rfl ?_);refine glB 52 rfl rfl Try.func104 (laws_eqRrS.calls k _ _ l0_8 _ _ l1_8 true _ (cv HR0_8 HB) HC0_8.out (cv HR1_8 HB) HC1_8.out A24.out) (fun w65 hb => ?_);replace BK101 := b1 BK101 hb;replace BK102 := b1 BK102 hb;replace HB := b2s bs hb;(try clear hb);obtain ⟨hcz66_0, hcz66_1, hcz66_2, hcz66_3, hcz66_4, hcz66_5, hcz66_6, hcz66_7, hcz66_8, hcz66_9, hcz66_10, hfz66_0, hfz66_1, hfz66_2, hfz66_3, hfz66_4, hfz66_5, hfz66_6, hfz66_7, hfz66_8, hfz66_9, hfz66_10⟩ := cells11 BK101.out;obtain ⟨hcz67_0, hcz67_1, hcz67_2, hcz67_3, hcz67_4, hcz67_5, hcz67_6, hcz67_7, hcz67_8, hcz67_9, hcz67_10, hfz67_0, hfz67_1, hfz67_2, hfz67_3, hfz67_4, hfz67_5, hfz67_6, hfz67_7, hfz67_8, hfz67_9, hfz67_10⟩ := cells11 BK102.out) | ((with_reducible refine gate_callee (f := 133) rfl ?_);refine glB 58 rfl rfl Try.func133 (laws_eqWantS.calls k _ _ l0_9 _ _ l1_9 true _ (cv HR0_9 HB) HC0_9.out (cv HR1_9 HB) HC1_9.out A26.out) (fun w68 hb => ?_);replace BK101 := b1 BK101 hb;replace BK102 := b1 BK102 hb;replace HB := b2s bs hb;(try clear hb);obtain ⟨hcz69_0, hcz69_1, hcz69_2, hcz69_3, hcz69_4, hcz69_5, hcz69_6, hcz69_7, hcz69_8, hcz69_9, hcz69_10, hfz69_0, hfz69_1, hfz69_2, hfz69_3, hfz69_4, hfz69_5, hfz69_6, hfz69_7, hfz69_8, hfz69_9, hfz69_10⟩ := cells11 BK101.out;obtain ⟨hcz70_0, hcz70_1, hcz70_2, hcz70_3, hcz70_4, hcz70_5, hcz70_6, hcz70_7, hcz70_8, hcz70_9, hcz70_10, hfz70_0, hfz70_1, hfz70_2, hfz70_3, hfz70_4, hfz70_5, hfz70_6, hfz70_7, hfz70_8, hfz70_9, hfz70_10⟩ := cells11 BK102.out) | ((with_reducible refine gate_callee (f := 133) rfl ?_);refine glB 64 rfl rfl Try.func133 (laws_eqWantS.calls k _ _ l0_10 _ _ l1_10 false _ (cv HR0_10 HB) HC0_10.out (cv HR1_10 HB) HC1_10.out A28.out) (fun w71 hb => ?_);replace BK101 := b1 BK101 hb;replace BK102 := b1 BK102 hb;replace HB := b2s bs hb;(try clear hb)))
            go_ret
            exact ⟨o1, bs⟩
          ·obtain rfl := Option.some.inj H
           go_enter Try.func57, Try.ntmps57
           go_wp2_with (first | ((with_reducible refine gate_dst (N := 2) rfl ?_);refine bxd (N := 2) rfl HB ?_;clear HB;intro gb101 w72 hg HB BK101 GE101 hb;have GW101 := GE101;clear hb hg) | ((with_reducible refine gate_dst (N := 3) rfl ?_);refine bxe (N := 3) rfl ?_;intro gb102 hg w73 hbox hb;have BK102 := ak (hbox);have GW102 := b3s hg bs;have GE102 := GW102;replace HB := b2s bs hb;have NB101_102 := b4 hg BK101;have NB102_101 := b5 hg BK101;replace BK101 := b1 BK101 hb;clear hb hbox hg;have hnb74 := NB101_102.out;have hnc74 := NB102_101.out;obtain ⟨hcz75_0, hcz75_1, hcz75_2, hcz75_3, hcz75_4, hcz75_5, hcz75_6, hcz75_7, hcz75_8, hcz75_9, hcz75_10, hfz75_0, hfz75_1, hfz75_2, hfz75_3, hfz75_4, hfz75_5, hfz75_6, hfz75_7, hfz75_8, hfz75_9, hfz75_10⟩ := cells11 BK101.out;obtain ⟨hcz76_0, hcz76_1, hcz76_2, hcz76_3, hcz76_4, hcz76_5, hcz76_6, hcz76_7, hcz76_8, hcz76_9, hcz76_10, hfz76_0, hfz76_1, hfz76_2, hfz76_3, hfz76_4, hfz76_5, hfz76_6, hfz76_7, hfz76_8, hfz76_9, hfz76_10⟩ := cells11 BK102.out) | ((with_reducible refine gate_callee (f := 132) rfl ?_);refine glB 34 rfl rfl Try.func132 (laws_eqQuestionS.calls k _ _ l0_5 _ _ l1_5 true _ (cv HR0_5 HB) HC0_5.out (cv HR1_5 HB) HC1_5.out A18.out) (fun w77 hb => ?_);replace BK101 := b1 BK101 hb;replace BK102 := b1 BK102 hb;replace HB := b2s bs hb;(try clear hb);obtain ⟨hcz78_0, hcz78_1, hcz78_2, hcz78_3, hcz78_4, hcz78_5, hcz78_6, hcz78_7, hcz78_8, hcz78_9, hcz78_10, hfz78_0, hfz78_1, hfz78_2, hfz78_3, hfz78_4, hfz78_5, hfz78_6, hfz78_7, hfz78_8, hfz78_9, hfz78_10⟩ := cells11 BK101.out;obtain ⟨hcz79_0, hcz79_1, hcz79_2, hcz79_3, hcz79_4, hcz79_5, hcz79_6, hcz79_7, hcz79_8, hcz79_9, hcz79_10, hfz79_0, hfz79_1, hfz79_2, hfz79_3, hfz79_4, hfz79_5, hfz79_6, hfz79_7, hfz79_8, hfz79_9, hfz79_10⟩ := cells11 BK102.out) | ((with_reducible refine gate_callee (f := 104) rfl ?_);refine glB 40 rfl rfl Try.func104 (laws_eqRrS.calls k _ _ l0_6 _ _ l1_6 true _ (cv HR0_6 HB) HC0_6.out (cv HR1_6 HB) HC1_6.out A20.out) (fun w80 hb => ?_);replace BK101 := b1 BK101 hb;replace BK102 := b1 BK102 hb;replace HB := b2s bs hb;(try clear hb);obtain ⟨hcz81_0, hcz81_1, hcz81_2, hcz81_3, hcz81_4, hcz81_5, hcz81_6, hcz81_7, hcz81_8, hcz81_9, hcz81_10, hfz81_0, hfz81_1, hfz81_2, hfz81_3, hfz81_4, hfz81_5, hfz81_6, hfz81_7, hfz81_8, hfz81_9, hfz81_10⟩ := cells11 BK101.out;obtain ⟨hcz82_0, hcz82_1, hcz82_2, hcz82_3, hcz82_4, hcz82_5, hcz82_6, hcz82_7, hcz82_8, hcz82_9, hcz82_10, hfz82_0, hfz82_1, hfz82_2, hfz82_3, hfz82_4, hfz82_5, hfz82_6, hfz82_7, hfz82_8, hfz82_9, hfz82_10⟩ := cells11 BK102.out) | ((with_reducible refine gate_callee (f := 104) rfl ?_);refine glB 46 rfl rfl Try.func104 (laws_eqRrS.calls k _ _ l0_7 _ _ l1_7 true _ (cv HR0_7 HB) HC0_7.out (cv HR1_7 HB) HC1_7.out A22.out) (fun w83 hb => ?_);replace BK101 := b1 BK101 hb;replace BK102 := b1 BK102 hb;replace HB := b2s bs hb;(try clear hb);obtain ⟨hcz84_0, hcz84_1, hcz84_2, hcz84_3, hcz84_4, hcz84_5, hcz84_6, hcz84_7, hcz84_8, hcz84_9, hcz84_10, hfz84_0, hfz84_1, hfz84_2, hfz84_3, hfz84_4, hfz84_5, hfz84_6, hfz84_7, hfz84_8, hfz84_9, hfz84_10⟩ := cells11 BK101.out;obtain ⟨hcz85_0, hcz85_1, hcz85_2, hcz85_3, hcz85_4, hcz85_5, hcz85_6, hcz85_7, hcz85_8, hcz85_9, hcz85_10, hfz85_0, hfz85_1, hfz85_2, hfz85_3, hfz85_4, hfz85_5, hfz85_6, hfz85_7, hfz85_8, hfz85_9, hfz85_10⟩ := cells11 BK102.out) | ((with_reducible refine gate_callee (f := 104) rfl ?_);refine glB 52 rfl rfl Try.func104 (laws_eqRrS.calls k _ _ l0_8 _ _ l1_8 true _ (cv HR0_8 HB) HC0_8.out (cv HR1_8 HB) HC1_8.out A24.out) (fun w86 hb => ?_);replace BK101 := b1 BK101 hb;replace BK102 := b1 BK102 hb;replace HB := b2s bs hb;(try clear hb);obtain ⟨hcz87_0, hcz87_1, hcz87_2, hcz87_3, hcz87_4, hcz87_5, hcz87_6, hcz87_7, hcz87_8, hcz87_9, hcz87_10, hfz87_0, hfz87_1, hfz87_2, hfz87_3, hfz87_4, hfz87_5, hfz87_6, hfz87_7, hfz87_8, hfz87_9, hfz87_10⟩ := cells11 BK101.out;obtain ⟨hcz88_0, hcz88_1, hcz88_2, hcz88_3, hcz88_4, hcz88_5, hcz88_6, hcz88_7, hcz88_8, hcz88_9, hcz88_10, hfz88_0, hfz88_1, hfz88_2, hfz88_3, hfz88_4, hfz88_5, hfz88_6, hfz88_7, hfz88_8, hfz88_9, hfz88_10⟩ := cells11 BK102.out) | ((with_reducible refine gate_callee (f := 133) rfl ?_);refine glB 58 rfl rfl Try.func133 (laws_eqWantS.calls k _ _ l0_9 _ _ l1_9 false _ (cv HR0_9 HB) HC0_9.out (cv HR1_9 HB) HC1_9.out A26.out) (fun w89 hb => ?_);replace BK101 := b1 BK101 hb;replace BK102 := b1 BK102 hb;replace HB := b2s bs hb;(try clear hb)))
           go_ret
           exact ⟨o1, bs⟩
         ·obtain rfl := Option.some.inj H
          go_enter Try.func57, Try.ntmps57
          go_wp2_with (first | ((with_reducible refine gate_dst (N := 2) rfl ?_);refine bxd (N := 2) rfl HB ?_;clear HB;intro gb101 w90 hg HB BK101 GE101 hb;have GW101 := GE101;clear hb hg) | ((with_reducible refine gate_dst (N := 3) rfl ?_);refine bxe (N := 3) rfl ?_;intro gb102 hg w91 hbox hb;have BK102 := ak (hbox);have GW102 := b3s hg bs;have GE102 := GW102;replace HB := b2s bs hb;have NB101_102 := b4 hg BK101;have NB102_101 := b5 hg BK101;replace BK101 := b1 BK101 hb;clear hb hbox hg;have hnb92 := NB101_102.out;have hnc92 := NB102_101.out;obtain ⟨hcz93_0, hcz93_1, hcz93_2, hcz93_3, hcz93_4, hcz93_5, hcz93_6, hcz93_7, hcz93_8, hcz93_9, hcz93_10, hfz93_0, hfz93_1, hfz93_2, hfz93_3, hfz93_4, hfz93_5, hfz93_6, hfz93_7, hfz93_8, hfz93_9, hfz93_10⟩ := cells11 BK101.out;obtain ⟨hcz94_0, hcz94_1, hcz94_2, hcz94_3, hcz94_4, hcz94_5, hcz94_6, hcz94_7, hcz94_8, hcz94_9, hcz94_10, hfz94_0, hfz94_1, hfz94_2, hfz94_3, hfz94_4, hfz94_5, hfz94_6, hfz94_7, hfz94_8, hfz94_9, hfz94_10⟩ := cells11 BK102.out) | ((with_reducible refine gate_callee (f := 132) rfl ?_);refine glB 34 rfl rfl Try.func132 (laws_eqQuestionS.calls k _ _ l0_5 _ _ l1_5 true _ (cv HR0_5 HB) HC0_5.out (cv HR1_5 HB) HC1_5.out A18.out) (fun w95 hb => ?_);replace BK101 := b1 BK101 hb;replace BK102 := b1 BK102 hb;replace HB := b2s bs hb;(try clear hb);obtain ⟨hcz96_0, hcz96_1, hcz96_2, hcz96_3, hcz96_4, hcz96_5, hcz96_6, hcz96_7, hcz96_8, hcz96_9, hcz96_10, hfz96_0, hfz96_1, hfz96_2, hfz96_3, hfz96_4, hfz96_5, hfz96_6, hfz96_7, hfz96_8, hfz96_9, hfz96_10⟩ := cells11 BK101.out;obtain ⟨hcz97_0, hcz97_1, hcz97_2, hcz97_3, hcz97_4, hcz97_5, hcz97_6, hcz97_7, hcz97_8, hcz97_9, hcz97_10, hfz97_0, hfz97_1, hfz97_2, hfz97_3, hfz97_4, hfz97_5, hfz97_6, hfz97_7, hfz97_8, hfz97_9, hfz97_10⟩ := cells11 BK102.out) | ((with_reducible refine gate_callee (f := 104) rfl ?_);refine glB 40 rfl rfl Try.func104 (laws_eqRrS.calls k _ _ l0_6 _ _ l1_6 true _ (cv HR0_6 HB) HC0_6.out (cv HR1_6 HB) HC1_6.out A20.out) (fun w98 hb => ?_);replace BK101 := b1 BK101 hb;replace BK102 := b1 BK102 hb;replace HB := b2s bs hb;(try clear hb);obtain ⟨hcz99_0, hcz99_1, hcz99_2, hcz99_3, hcz99_4, hcz99_5, hcz99_6, hcz99_7, hcz99_8, hcz99_9, hcz99_10, hfz99_0, hfz99_1, hfz99_2, hfz99_3, hfz99_4, hfz99_5, hfz99_6, hfz99_7, hfz99_8, hfz99_9, hfz99_10⟩ := cells11 BK101.out;obtain ⟨hcz100_0, hcz100_1, hcz100_2, hcz100_3, hcz100_4, hcz100_5, hcz100_6, hcz100_7, hcz100_8, hcz100_9, hcz100_10, hfz100_0, hfz100_1, hfz100_2, hfz100_3, hfz100_4, hfz100_5, hfz100_6, hfz100_7, hfz100_8, hfz100_9, hfz100_10⟩ := cells11 BK102.out) | ((with_reducible refine gate_callee (f := 104) rfl ?_);refine glB 46 rfl rfl Try.func104 (laws_eqRrS.calls k _ _ l0_7 _ _ l1_7 true _ (cv HR0_7 HB) HC0_7.out (cv HR1_7 HB) HC1_7.out A22.out) (fun w101 hb => ?_);replace BK101 := b1 BK101 hb;replace BK102 := b1 BK102 hb;replace HB := b2s bs hb;(try clear hb);obtain ⟨hcz102_0, hcz102_1, hcz102_2, hcz102_3, hcz102_4, hcz102_5, hcz102_6, hcz102_7, hcz102_8, hcz102_9, hcz102_10, hfz102_0, hfz102_1, hfz102_2, hfz102_3, hfz102_4, hfz102_5, hfz102_6, hfz102_7, hfz102_8, hfz102_9, hfz102_10⟩ := cells11 BK101.out;obtain ⟨hcz103_0, hcz103_1, hcz103_2, hcz103_3, hcz103_4, hcz103_5, hcz103_6, hcz103_7, hcz103_8, hcz103_9, hcz103_10, hfz103_0, hfz103_1, hfz103_2, hfz103_3, hfz103_4, hfz103_5, hfz103_6, hfz103_7, hfz103_8, hfz103_9, hfz103_10⟩ := cells11 BK102.out) | ((with_reducible refine gate_callee (f := 104) rfl ?_);refine glB 52 rfl rfl Try.func104 (laws_eqRrS.calls k _ _ l0_8 _ _ l1_8 false _ (cv HR0_8 HB) HC0_8.out (cv HR1_8 HB) HC1_8.out A24.out) (fun w104 hb => ?_);replace BK101 := b1 BK101 hb;replace BK102 := b1 BK102 hb;replace HB := b2s bs hb;(try clear hb)))
          go_ret
          exact ⟨o1, bs⟩
        ·obtain rfl := Option.some.inj H
         go_enter Try.func57, Try.ntmps57
         go_wp2_with (first | ((with_reducible refine gate_dst (N := 2) rfl ?_);refine bxd (N := 2) rfl HB ?_;clear HB;intro gb101 w105 hg HB BK101 GE101 hb;have GW101 := GE101;clear hb hg) | ((with_reducible refine gate_dst (N := 3) rfl ?_);refine bxe (N := 3) rfl ?_;intro gb102 hg w106 hbox hb;have BK102 := ak (hbox);have GW102 := b3s hg bs;have GE102 := GW102;replace HB := b2s bs hb;have NB101_102 := b4 hg BK101;have NB102_101 := b5 hg BK101;replace BK101 := b1 BK101 hb;clear hb hbox hg;have hnb107 := NB101_102.out;have hnc107 := NB102_101.out;obtain ⟨hcz108_0, hcz108_1, hcz108_2, hcz108_3, hcz108_4, hcz108_5, hcz108_6, hcz108_7, hcz108_8, hcz108_9, hcz108_10, hfz108_0, hfz108_1, hfz108_2, hfz108_3, hfz108_4, hfz108_5, hfz108_6, hfz108_7, hfz108_8, hfz108_9, hfz108_10⟩ := cells11 BK101.out;obtain ⟨hcz109_0, hcz109_1, hcz109_2, hcz109_3, hcz109_4, hcz109_5, hcz109_6, hcz109_7, hcz109_8, hcz109_9, hcz109_10, hfz109_0, hfz109_1, hfz109_2, hfz109_3, hfz109_4, hfz109_5, hfz109_6, hfz109_7, hfz109_8, hfz109_9, hfz109_10⟩ := cells11 BK102.out) | ((with_reducible refine gate_callee (f := 132) rfl ?_);refine glB 34 rfl rfl Try.func132 (laws_eqQuestionS.calls k _ _ l0_5 _ _ l1_5 true _ (cv HR0_5 HB) HC0_5.out (cv HR1_5 HB) HC1_5.out A18.out) (fun w110 hb => ?_);replace BK101 := b1 BK101 hb;replace BK102 := b1 BK102 hb;replace HB := b2s bs hb;(try clear hb);obtain ⟨hcz111_0, hcz111_1, hcz111_2, hcz111_3, hcz111_4, hcz111_5, hcz111_6, hcz111_7, hcz111_8, hcz111_9, hcz111_10, hfz111_0, hfz111_1, hfz111_2, hfz111_3, hfz111_4, hfz111_5, hfz111_6, hfz111_7, hfz111_8, hfz111_9, hfz111_10⟩ := cells11 BK101.out;obtain ⟨hcz112_0, hcz112_1, hcz112_2, hcz112_3, hcz112_4, hcz112_5, hcz112_6, hcz112_7, hcz112_8, hcz112_9, hcz112_10, hfz112_0, hfz112_1, hfz112_2, hfz112_3, hfz112_4, hfz112_5, hfz112_6, hfz112_7, hfz112_8, hfz112_9, hfz112_10⟩ := cells11 BK102.out) | ((with_reducible refine gate_callee (f := 104) rfl ?_);refine glB 40 rfl rfl Try.func104 (laws_eqRrS.calls k _ _ l0_6 _ _ l1_6 true _ (cv HR0_6 HB) HC0_6.out (cv HR1_6 HB) HC1_6.out A20.out) (fun w113 hb => ?_);replace BK101 := b1 BK101 hb;replace BK102 := b1 BK102 hb;replace HB := b2s bs hb;(try clear hb);obtain ⟨hcz114_0, hcz114_1, hcz114_2, hcz114_3, hcz114_4, hcz114_5, hcz114_6, hcz114_7, hcz114_8, hcz114_9, hcz114_10, hfz114_0, hfz114_1, hfz114_2, hfz114_3, hfz114_4, hfz114_5, hfz114_6, hfz114_7, hfz114_8, hfz114_9, hfz114_10⟩ := cells11 BK101.out;obtain ⟨hcz115_0, hcz115_1, hcz115_2, hcz115_3, hcz115_4, hcz115_5, hcz115_6, hcz115_7, hcz115_8, hcz115_9, hcz115_10, hfz115_0, hfz115_1, hfz115_2, hfz115_3, hfz115_4, hfz115_5, hfz115_6, hfz115_7, hfz115_8, hfz115_9, hfz115_10⟩ := cells11 BK102.out) | ((with_reducible refine gate_callee (f := 104) rfl ?_);refine glB 46 rfl rfl Try.func104 (laws_eqRrS.calls k _ _ l0_7 _ _ l1_7 false _ (cv HR0_7 HB) HC0_7.out (cv HR1_7 HB) HC1_7.out A22.out) (fun w116 hb => ?_);replace BK101 := b1 BK101 hb;replace BK102 := b1 BK102 hb;replace HB := b2s bs hb;(try clear hb)))
         go_ret
         exact ⟨o1, bs⟩
       ·obtain rfl := Option.some.inj H
        go_enter Try.func57, Try.ntmps57
        go_wp2_with (first | ((with_reducible refine gate_dst (N := 2) rfl ?_);refine bxd (N := 2) rfl HB ?_;clear HB;intro gb101 w117 hg HB BK101 GE101 hb;have GW101 := GE101;clear hb hg) | ((with_reducible refine gate_dst (N := 3) rfl ?_);refine bxe (N := 3) rfl ?_;intro gb102 hg w118 hbox hb;have BK102 := ak (hbox);have GW102 := b3s hg bs;have GE102 := GW102;replace HB := b2s bs hb;have NB101_102 := b4 hg BK101;have NB102_101 := b5 hg BK101;replace BK101 := b1 BK101 hb;clear hb hbox hg;have hnb119 := NB101_102.out;have hnc119 := NB102_101.out;obtain ⟨hcz120_0, hcz120_1, hcz120_2, hcz120_3, hcz120_4, hcz120_5, hcz120_6, hcz120_7, hcz120_8, hcz120_9, hcz120_10, hfz120_0, hfz120_1, hfz120_2, hfz120_3, hfz120_4, hfz120_5, hfz120_6, hfz120_7, hfz120_8, hfz120_9, hfz120_10⟩ := cells11 BK101.out;obtain ⟨hcz121_0, hcz121_1, hcz121_2, hcz121_3, hcz121_4, hcz121_5, hcz121_6, hcz121_7, hcz121_8, hcz121_9, hcz121_10, hfz121_0, hfz121_1, hfz121_2, hfz121_3, hfz121_4, hfz121_5, hfz121_6, hfz121_7, hfz121_8, hfz121_9, hfz121_10⟩ := cells11 BK102.out) | ((with_reducible refine gate_callee (f := 132) rfl ?_);refine glB 34 rfl rfl Try.func132 (laws_eqQuestionS.calls k _ _ l0_5 _ _ l1_5 true _ (cv HR0_5 HB) HC0_5.out (cv HR1_5 HB) HC1_5.out A18.out) (fun w122 hb => ?_);replace BK101 := b1 BK101 hb;replace BK102 := b1 BK102 hb;replace HB := b2s bs hb;(try clear hb);obtain ⟨hcz123_0, hcz123_1, hcz123_2, hcz123_3, hcz123_4, hcz123_5, hcz123_6, hcz123_7, hcz123_8, hcz123_9, hcz123_10, hfz123_0, hfz123_1, hfz123_2, hfz123_3, hfz123_4, hfz123_5, hfz123_6, hfz123_7, hfz123_8, hfz123_9, hfz123_10⟩ := cells11 BK101.out;obtain ⟨hcz124_0, hcz124_1, hcz124_2, hcz124_3, hcz124_4, hcz124_5, hcz124_6, hcz124_7, hcz124_8, hcz124_9, hcz124_10, hfz124_0, hfz124_1, hfz124_2, hfz124_3, hfz124_4, hfz124_5, hfz124_6, hfz124_7, hfz124_8, hfz124_9, hfz124_10⟩ := cells11 BK102.out) | ((with_reducible refine gate_callee (f := 104) rfl ?_);refine glB 40 rfl rfl Try.func104 (laws_eqRrS.calls k _ _ l0_6 _ _ l1_6 false _ (cv HR0_6 HB) HC0_6.out (cv HR1_6 HB) HC1_6.out A20.out) (fun w125 hb => ?_);replace BK101 := b1 BK101 hb;replace BK102 := b1 BK102 hb;replace HB := b2s bs hb;(try clear hb)))
        go_ret
        exact ⟨o1, bs⟩
      ·obtain rfl := Option.some.inj H
       go_enter Try.func57, Try.ntmps57
       go_wp2_with (first | ((with_reducible refine gate_dst (N := 2) rfl ?_);refine bxd (N := 2) rfl HB ?_;clear HB;intro gb101 w126 hg HB BK101 GE101 hb;have GW101 := GE101;clear hb hg) | ((with_reducible refine gate_dst (N := 3) rfl ?_);refine bxe (N := 3) rfl ?_;intro gb102 hg w127 hbox hb;have BK102 := ak (hbox);have GW102 := b3s hg bs;have GE102 := GW102;replace HB := b2s bs hb;have NB101_102 := b4 hg BK101;have NB102_101 := b5 hg BK101;replace BK101 := b1 BK101 hb;clear hb hbox hg;have hnb128 := NB101_102.out;have hnc128 := NB102_101.out;obtain ⟨hcz129_0, hcz129_1, hcz129_2, hcz129_3, hcz129_4, hcz129_5, hcz129_6, hcz129_7, hcz129_8, hcz129_9, hcz129_10, hfz129_0, hfz129_1, hfz129_2, hfz129_3, hfz129_4, hfz129_5, hfz129_6, hfz129_7, hfz129_8, hfz129_9, hfz129_10⟩ := cells11 BK101.out;obtain ⟨hcz130_0, hcz130_1, hcz130_2, hcz130_3, hcz130_4, hcz130_5, hcz130_6, hcz130_7, hcz130_8, hcz130_9, hcz130_10, hfz130_0, hfz130_1, hfz130_2, hfz130_3, hfz130_4, hfz130_5, hfz130_6, hfz130_7, hfz130_8, hfz130_9, hfz130_10⟩ := cells11 BK102.out) | ((with_reducible refine gate_callee (f := 132) rfl ?_);refine glB 34 rfl rfl Try.func132 (laws_eqQuestionS.calls k _ _ l0_5 _ _ l1_5 false _ (cv HR0_5 HB) HC0_5.out (cv HR1_5 HB) HC1_5.out A18.out) (fun w131 hb => ?_);replace BK101 := b1 BK101 hb;replace BK102 := b1 BK102 hb;replace HB := b2s bs hb;(try clear hb)))
       go_ret
       exact ⟨o1, bs⟩
     ·obtain rfl := Option.some.inj H
      go_enter Try.func57, Try.ntmps57
      go_wp2_with (first | ((with_reducible refine gate_dst (N := 2) rfl ?_);refine bxd (N := 2) rfl HB ?_;clear HB;intro gb101 w132 hg HB BK101 GE101 hb;have GW101 := GE101;clear hb hg) | ((with_reducible refine gate_dst (N := 3) rfl ?_);refine bxe (N := 3) rfl ?_;intro gb102 hg w133 hbox hb;have BK102 := ak (hbox);have GW102 := b3s hg bs;have GE102 := GW102;replace HB := b2s bs hb;have NB101_102 := b4 hg BK101;have NB102_101 := b5 hg BK101;replace BK101 := b1 BK101 hb;clear hb hbox hg;have hnb134 := NB101_102.out;have hnc134 := NB102_101.out;obtain ⟨hcz135_0, hcz135_1, hcz135_2, hcz135_3, hcz135_4, hcz135_5, hcz135_6, hcz135_7, hcz135_8, hcz135_9, hcz135_10, hfz135_0, hfz135_1, hfz135_2, hfz135_3, hfz135_4, hfz135_5, hfz135_6, hfz135_7, hfz135_8, hfz135_9, hfz135_10⟩ := cells11 BK101.out;obtain ⟨hcz136_0, hcz136_1, hcz136_2, hcz136_3, hcz136_4, hcz136_5, hcz136_6, hcz136_7, hcz136_8, hcz136_9, hcz136_10, hfz136_0, hfz136_1, hfz136_2, hfz136_3, hfz136_4, hfz136_5, hfz136_6, hfz136_7, hfz136_8, hfz136_9, hfz136_10⟩ := cells11 BK102.out))
      go_ret
      exact ⟨o1, bs⟩
   ·obtain rfl := Option.some.inj H
    go_enter Try.func57, Try.ntmps57
    go_wp2_with (first | ((with_reducible refine gate_dst (N := 2) rfl ?_);refine bxd (N := 2) rfl HB ?_;clear HB;intro gb101 w137 hg HB BK101 GE101 hb;have GW101 := GE101;clear hb hg) | ((with_reducible refine gate_dst (N := 3) rfl ?_);refine bxe (N := 3) rfl ?_;intro gb102 hg w138 hbox hb;have BK102 := ak (hbox);have GW102 := b3s hg bs;have GE102 := GW102;replace HB := b2s bs hb;have NB101_102 := b4 hg BK101;have NB102_101 := b5 hg BK101;replace BK101 := b1 BK101 hb;clear hb hbox hg;have hnb139 := NB101_102.out;have hnc139 := NB102_101.out;obtain ⟨hcz140_0, hcz140_1, hcz140_2, hcz140_3, hcz140_4, hcz140_5, hcz140_6, hcz140_7, hcz140_8, hcz140_9, hcz140_10, hfz140_0, hfz140_1, hfz140_2, hfz140_3, hfz140_4, hfz140_5, hfz140_6, hfz140_7, hfz140_8, hfz140_9, hfz140_10⟩ := cells11 BK101.out;obtain ⟨hcz141_0, hcz141_1, hcz141_2, hcz141_3, hcz141_4, hcz141_5, hcz141_6, hcz141_7, hcz141_8, hcz141_9, hcz141_10, hfz141_0, hfz141_1, hfz141_2, hfz141_3, hfz141_4, hfz141_5, hfz141_6, hfz141_7, hfz141_8, hfz141_9, hfz141_10⟩ := cells11 BK102.out))
    go_ret
    exact ⟨o1, bs⟩
 ·obtain rfl := Option.some.inj H
  go_enter Try.func57, Try.ntmps57
  go_wp2_with (first | ((with_reducible refine gate_dst (N := 2) rfl ?_);refine bxd (N := 2) rfl HB ?_;clear HB;intro gb101 w142 hg HB BK101 GE101 hb;have GW101 := GE101;clear hb hg) | ((with_reducible refine gate_dst (N := 3) rfl ?_);refine bxe (N := 3) rfl ?_;intro gb102 hg w143 hbox hb;have BK102 := ak (hbox);have GW102 := b3s hg bs;have GE102 := GW102;replace HB := b2s bs hb;have NB101_102 := b4 hg BK101;have NB102_101 := b5 hg BK101;replace BK101 := b1 BK101 hb;clear hb hbox hg;have hnb144 := NB101_102.out;have hnc144 := NB102_101.out;obtain ⟨hcz145_0, hcz145_1, hcz145_2, hcz145_3, hcz145_4, hcz145_5, hcz145_6, hcz145_7, hcz145_8, hcz145_9, hcz145_10, hfz145_0, hfz145_1, hfz145_2, hfz145_3, hfz145_4, hfz145_5, hfz145_6, hfz145_7, hfz145_8, hfz145_9, hfz145_10⟩ := cells11 BK101.out;obtain ⟨hcz146_0, hcz146_1, hcz146_2, hcz146_3, hcz146_4, hcz146_5, hcz146_6, hcz146_7, hcz146_8, hcz146_9, hcz146_10, hfz146_0, hfz146_1, hfz146_2, hfz146_3, hfz146_4, hfz146_5, hfz146_6, hfz146_7, hfz146_8, hfz146_9, hfz146_10⟩ := cells11 BK102.out))
  go_ret
  exact ⟨o1, bs⟩

/-! ### laws_FnExactMsgOk: function 12 -/
def laws_FnExactMsgOk.f (k : Nat) (a0_0 : Int) (a0_1 : Bool) (a0_2 : Int) (a0_3 : Bool) (a0_4 : Int) (l0_5 : List (S195)) (l0_6 : List (S28)) (l0_7 : List (S28)) (l0_8 : List (S28)) (l0_9 : List (S198)) (l0_10 : List (S198)) : Option (Bool) := (laws_szMsg.f k a0_0 a0_1 a0_2 a0_3 a0_4 l0_5 l0_6 l0_7 l0_8 l0_9 l0_10 1048576).bind fun t102 => (if t102 < 0 then (some true) else ((laws_toMsg.f k a0_0 a0_1 a0_2 a0_3 a0_4 l0_5 l0_6 l0_7 l0_8 l0_9 l0_10).bind fun bt103 => ((spec_MsgOk.f k bt103.1 bt103.2.1 bt103.2.2.1 bt103.2.2.2.1 bt103.2.2.2.2.1 bt103.2.2.2.2.2.1 bt103.2.2.2.2.2.2.1 bt103.2.2.2.2.2.2.2.1 bt103.2.2.2.2.2.2.2.2.1 bt103.2.2.2.2.2.2.2.2.2.1 bt103.2.2.2.2.2.2.2.2.2.2).bind fun t126 => ((laws_toMsg.f k a0_0 a0_1 a0_2 a0_3 a0_4 l0_5 l0_6 l0_7 l0_8 l0_9 l0_10).bind fun bt127 => ((impl_MsgOk.f k bt127.1 bt127.2.1 bt127.2.2.1 bt127.2.2.2.1 bt127.2.2.2.2.1 bt127.2.2.2.2.2.1 bt127.2.2.2.2.2.2.1 bt127.2.2.2.2.2.2.2.1 bt127.2.2.2.2.2.2.2.2.1 bt127.2.2.2.2.2.2.2.2.2.1 bt127.2.2.2.2.2.2.2.2.2.2).bind fun t151 => (if (t151 != t126) = true then (none) else ((laws_toMsg.f k a0_0 a0_1 a0_2 a0_3 a0_4 l0_5 l0_6 l0_7 l0_8 l0_9 l0_10).bind fun bt152 => ((laws_eqMsg.f k bt127.1 bt127.2.1 bt127.2.2.1 bt127.2.2.2.1 bt127.2.2.2.2.1 bt127.2.2.2.2.2.1 bt127.2.2.2.2.2.2.1 bt127.2.2.2.2.2.2.2.1 bt127.2.2.2.2.2.2.2.2.1 bt127.2.2.2.2.2.2.2.2.2.1 bt127.2.2.2.2.2.2.2.2.2.2 bt152.1 bt152.2.1 bt152.2.2.1 bt152.2.2.2.1 bt152.2.2.2.2.1 bt152.2.2.2.2.2.1 bt152.2.2.2.2.2.2.1 bt152.2.2.2.2.2.2.2.1 bt152.2.2.2.2.2.2.2.2.1 bt152.2.2.2.2.2.2.2.2.2.1 bt152.2.2.2.2.2.2.2.2.2.2).bind fun t175 => (if t175 = true then (some true) else (none))))))))))
set_option maxHeartbeats 8000000 in
set_option maxRecDepth 100000 in
theorem laws_FnExactMsgOk.calls (k : Nat) (a0_0 : Int) (a0_1 : Bool) (a0_2 : Int) (a0_3 : Bool) (a0_4 : Int) (A0_5 : Option Addr) (c0_5 : Nat) (l0_5 : List (S195)) (A0_6 : Option Addr) (c0_6 : Nat) (l0_6 : List (S28)) (A0_7 : Option Addr) (c0_7 : Nat) (l0_7 : List (S28)) (A0_8 : Option Addr) (c0_8 : Nat) (l0_8 : List (S28)) (A0_9 : Option Addr) (c0_9 : Nat) (l0_9 : List (S198)) (A0_10 : Option Addr) (c0_10 : Nat) (l0_10 : List (S198)) (r : Bool) (w : World) (hr0_5 : Kd.C k195 w A0_5 l0_5.length l0_5) (hc0_5 : l0_5.length ≤ c0_5) (hr0_6 : Kd.C k28 w A0_6 l0_6.length l0_6) (hc0_6 : l0_6.length ≤ c0_6) (hr0_7 : Kd.C k28 w A0_7 l0_7.length l0_7) (hc0_7 : l0_7.length ≤ c0_7) (hr0_8 : Kd.C k28 w A0_8 l0_8.length l0_8) (hc0_8 : l0_8.length ≤ c0_8) (hr0_9 : Kd.C k198 w A0_9 l0_9.length l0_9) (hc0_9 : l0_9.length ≤ c0_9) (hr0_10 : Kd.C k198 w A0_10 l0_10.length l0_10) (hc0_10 : l0_10.length ≤ c0_10) (h : laws_FnExactMsgOk.f k a0_0 a0_1 a0_2 a0_3 a0_4 l0_5 l0_6 l0_7 l0_8 l0_9 l0_10 = some r) :
  Calls Try.prog 12 #[.agg #[.int .i64 a0_0, .bool a0_1, .int .i64 a0_2, .bool a0_3, .int .i64 a0_4, .slice A0_5 l0_5.length c0_5, .slice A0_6 l0_6.length c0_6, .slice A0_7 l0_7.length c0_7, .slice A0_8 l0_8.length c0_8, .slice A0_9 l0_9.length c0_9, .slice A0_10 l0_10.length c0_10]] w fun e w' => e = .returned (.bool r) ∧ Below w.heap.size w w' := by
 have hu86 := Try.underlying86
 have hu92 := Try.underlying92
 have HR0_5 := ak hr0_5
 have HC0_5 := ak hc0_5
 clear hr0_5 hc0_5
 have HR0_6 := ak hr0_6
 have HC0_6 := ak hc0_6
 clear hr0_6 hc0_6
 have HR0_7 := ak hr0_7
 have HC0_7 := ak hc0_7
 clear hr0_7 hc0_7
 have HR0_8 := ak hr0_8
 have HC0_8 := ak hc0_8
 clear hr0_8 hc0_8
 have HR0_9 := ak hr0_9
 have HC0_9 := ak hc0_9
 clear hr0_9 hc0_9
 have HR0_10 := ak hr0_10
 have HC0_10 := ak hc0_10
 clear hr0_10 hc0_10
 have HB := ak (Below.refl w.heap.size w)
 have H : ((laws_szMsg.f k a0_0 a0_1 a0_2 a0_3 a0_4 l0_5 l0_6 l0_7 l0_8 l0_9 l0_10 1048576).bind fun t102 => (if t102 < 0 then (some true) else ((laws_toMsg.f k a0_0 a0_1 a0_2 a0_3 a0_4 l0_5 l0_6 l0_7 l0_8 l0_9 l0_10).bind fun bt103 => ((spec_MsgOk.f k bt103.1 bt103.2.1 bt103.2.2.1 bt103.2.2.2.1 bt103.2.2.2.2.1 bt103.2.2.2.2.2.1 bt103.2.2.2.2.2.2.1 bt103.2.2.2.2.2.2.2.1 bt103.2.2.2.2.2.2.2.2.1 bt103.2.2.2.2.2.2.2.2.2.1 bt103.2.2.2.2.2.2.2.2.2.2).bind fun t126 => ((laws_toMsg.f k a0_0 a0_1 a0_2 a0_3 a0_4 l0_5 l0_6 l0_7 l0_8 l0_9 l0_10).bind fun bt127 => ((impl_MsgOk.f k bt127.1 bt127.2.1 bt127.2.2.1 bt127.2.2.2.1 bt127.2.2.2.2.1 bt127.2.2.2.2.2.1 bt127.2.2.2.2.2.2.1 bt127.2.2.2.2.2.2.2.1 bt127.2.2.2.2.2.2.2.2.1 bt127.2.2.2.2.2.2.2.2.2.1 bt127.2.2.2.2.2.2.2.2.2.2).bind fun t151 => (if (t151 != t126) = true then (none) else ((laws_toMsg.f k a0_0 a0_1 a0_2 a0_3 a0_4 l0_5 l0_6 l0_7 l0_8 l0_9 l0_10).bind fun bt152 => ((laws_eqMsg.f k bt127.1 bt127.2.1 bt127.2.2.1 bt127.2.2.2.1 bt127.2.2.2.2.1 bt127.2.2.2.2.2.1 bt127.2.2.2.2.2.2.1 bt127.2.2.2.2.2.2.2.1 bt127.2.2.2.2.2.2.2.2.1 bt127.2.2.2.2.2.2.2.2.2.1 bt127.2.2.2.2.2.2.2.2.2.2 bt152.1 bt152.2.1 bt152.2.2.1 bt152.2.2.2.1 bt152.2.2.2.2.1 bt152.2.2.2.2.2.1 bt152.2.2.2.2.2.2.1 bt152.2.2.2.2.2.2.2.1 bt152.2.2.2.2.2.2.2.2.1 bt152.2.2.2.2.2.2.2.2.2.1 bt152.2.2.2.2.2.2.2.2.2.2).bind fun t175 => (if t175 = true then (some true) else (none))))))))))) = some r := h
 clear h
 replace H := bnd H
 obtain ⟨t102, A2, H⟩ := H
 replace H := ip H
 obtain ⟨c3b0, H⟩ | ⟨c3b0, H⟩ := H
 ·obtain rfl := Option.some.inj H
  go_enter Try.func12, Try.ntmps12
  go_wp2_with (first | ((with_reducible refine gate_dst (N := 1) rfl ?_);refine bxd (N := 1) rfl HB ?_;clear HB;intro gb101 w4 hg HB BK101 GE101 hb;have GW101 := GE101;clear hb hg;obtain ⟨hcz5_0, hcz5_1, hcz5_2, hcz5_3, hcz5_4, hcz5_5, hcz5_6, hcz5_7, hcz5_8, hcz5_9, hcz5_10, hfz5_0, hfz5_1, hfz5_2, hfz5_3, hfz5_4, hfz5_5, hfz5_6, hfz5_7, hfz5_8, hfz5_9, hfz5_10⟩ := cells11 BK101.out) | ((with_reducible refine gate_callee (f := 53) rfl ?_);refine glB 9 rfl rfl Try.func53 (laws_szMsg.calls k a0_0 a0_1 a0_2 a0_3 a0_4 _ _ l0_5 _ _ l0_6 _ _ l0_7 _ _ l0_8 _ _ l0_9 _ _ l0_10 1048576 t102 _ (cv HR0_5 HB) HC0_5.out (cv HR0_6 HB) HC0_6.out (cv HR0_7 HB) HC0_7.out (cv HR0_8 HB) HC0_8.out (cv HR0_9 HB) HC0_9.out (cv HR0_10 HB) HC0_10.out A2.out) (fun w6 hb => ?_);replace BK101 := b1 BK101 hb;replace HB := b2s bs hb;(try clear hb)))
  go_ret
  exact ⟨o1, bs⟩
 ·replace H := Option.bind_eq_some_iff.mp H
  obtain ⟨⟨t103, t104, t105, t106, t107, t108, t111, t114, t117, t120, t123⟩, A70, H⟩ := H
  replace H : ((spec_MsgOk.f k t103 t104 t105 t106 t107 t108 t111 t114 t117 t120 t123).bind fun t126 => ((laws_toMsg.f k a0_0 a0_1 a0_2 a0_3 a0_4 l0_5 l0_6 l0_7 l0_8 l0_9 l0_10).bind fun bt127 => ((impl_MsgOk.f k bt127.1 bt127.2.1 bt127.2.2.1 bt127.2.2.2.1 bt127.2.2.2.2.1 bt127.2.2.2.2.2.1 bt127.2.2.2.2.2.2.1 bt127.2.2.2.2.2.2.2.1 bt127.2.2.2.2.2.2.2.2.1 bt127.2.2.2.2.2.2.2.2.2.1 bt127.2.2.2.2.2.2.2.2.2.2).bind fun t151 => (if (t151 != t126) = true then (none) else ((laws_toMsg.f k a0_0 a0_1 a0_2 a0_3 a0_4 l0_5 l0_6 l0_7 l0_8 l0_9 l0_10).bind fun bt152 => ((laws_eqMsg.f k bt127.1 bt127.2.1 bt127.2.2.1 bt127.2.2.2.1 bt127.2.2.2.2.1 bt127.2.2.2.2.2.1 bt127.2.2.2.2.2.2.1 bt127.2.2.2.2.2.2.2.1 bt127.2.2.2.2.2.2.2.2.1 bt127.2.2.2.2.2.2.2.2.2.1 bt127.2.2.2.2.2.2.2.2.2.2 bt152.1 bt152.2.1 bt152.2.2.1 bt152.2.2.2.1 bt152.2.2.2.2.1 bt152.2.2.2.2.2.1 bt152.2.2.2.2.2.2.1 bt152.2.2.2.2.2.2.2.1 bt152.2.2.2.2.2.2.2.2.1 bt152.2.2.2.2.2.2.2.2.2.1 bt152.2.2.2.2.2.2.2.2.2.2).bind fun t175 => (if t175 = true then (some true) else (none)))))))) = some r := H
  have A7 := ak A70
  clear A70
  replace H := bnd H
  obtain ⟨t126, A8, H⟩ := H
  replace H := Option.bind_eq_some_iff.mp H
  obtain ⟨⟨t127, t128, t129, t130, t131, t132, t135, t138, t141, t144, t147⟩, A90, H⟩ := H
  replace H : ((impl_MsgOk.f k t127 t128 t129 t130 t131 t132 t135 t138 t141 t144 t147).bind fun t151 => (if (t151 != t126) = true then (none) else ((laws_toMsg.f k a0_0 a0_1 a0_2 a0_3 a0_4 l0_5 l0_6 l0_7 l0_8 l0_9 l0_10).bind fun bt152 => ((laws_eqMsg.f k t127 t128 t129 t130 t131 t132 t135 t138 t141 t144 t147 bt152.1 bt152.2.1 bt152.2.2.1 bt152.2.2.2.1 bt152.2.2.2.2.1 bt152.2.2.2.2.2.1 bt152.2.2.2.2.2.2.1 bt152.2.2.2.2.2.2.2.1 bt152.2.2.2.2.2.2.2.2.1 bt152.2.2.2.2.2.2.2.2.2.1 bt152.2.2.2.2.2.2.2.2.2.2).bind fun t175 => (if t175 = true then (some true) else (none)))))) = some r := H
  have A9 := ak A90
  clear A90
  replace H := bnd H
  obtain ⟨t151, A10, H⟩ := H
  by_cases c11 : (t151 != t126) = true
  ·rw [if_pos c11] at H
   exact absurd H (by simp)
  ·rw [if_neg c11] at H
   have c11b0 : (t151 != t126) = false := by simpa using c11
   (try (have c11b1 : decide (t151 = t126) = true := by simpa using c11))
   (try (have c11b2 : (t151 == t126) = true := by simpa using c11))
   clear c11
   replace H := Option.bind_eq_some_iff.mp H
   obtain ⟨⟨t152, t153, t154, t155, t156, t157, t160, t163, t166, t169, t172⟩, A120, H⟩ := H
   replace H : ((laws_eqMsg.f k t127 t128 t129 t130 t131 t132 t135 t138 t141 t144 t147 t152 t153 t154 t155 t156 t157 t160 t163 t166 t169 t172).bind fun t175 => (if t175 = true then (some true) else (none))) = some r := H
   have A12 := ak A120
   clear A120
   replace H := bnd H
   obtain ⟨t175, A13, H⟩ := H
   replace H := ibN H
   obtain ⟨rfl, H⟩ := H
   obtain rfl := Option.some.inj H
   go_enter Try.func12, Try.ntmps12
   try go_wp2_with (first | ((with_reducible refine gate_dst (N := 1) rfl ?_);refine bxd (N := 1) rfl HB ?_;clear HB;intro gb101 w15 hg HB BK101 GE101 hb;have GW101 := GE101;clear hb hg;obtain ⟨hcz16_0, hcz16_1, hcz16_2, hcz16_3, hcz16_4, hcz16_5, hcz16_6, hcz16_7, hcz16_8, hcz16_9, hcz16_10, hfz16_0, hfz16_1, hfz16_2, hfz16_3, hfz16_4, hfz16_5, hfz16_6, hfz16_7, hfz16_8, hfz16_9, hfz16_10⟩ := cells11 BK101.out) | ((with_reducible refine gate_callee (f := 53) rfl ?_);refine glB 9 rfl rfl Try.func53 (laws_szMsg.calls k a0_0 a0_1 a0_2 a0_3 a0_4 _ _ l0_5 _ _ l0_6 _ _ l0_7 _ _ l0_8 _ _ l0_9 _ _ l0_10 1048576 t102 _ (cv HR0_5 HB) HC0_5.out (cv HR0_6 HB) HC0_6.out (cv HR0_7 HB) HC0_7.out (cv HR0_8 HB) HC0_8.out (cv HR0_9 HB) HC0_9.out (cv HR0_10 HB) HC0_10.out A2.out) (fun w17 hb => ?_);replace BK101 := b1 BK101 hb;replace HB := b2s bs hb;(try clear hb);obtain ⟨hcz18_0, hcz18_1, hcz18_2, hcz18_3, hcz18_4, hcz18_5, hcz18_6, hcz18_7, hcz18_8, hcz18_9, hcz18_10, hfz18_0, hfz18_1, hfz18_2, hfz18_3, hfz18_4, hfz18_5, hfz18_6, hfz18_7, hfz18_8, hfz18_9, hfz18_10⟩ := cells11 BK101.out) | ((with_reducible refine gate_callee (f := 55) rfl ?_);refine glG 13 rfl rfl Try.func55 (laws_toMsg.calls k a0_0 a0_1 a0_2 a0_3 a0_4 _ _ l0_5 _ _ l0_6 _ _ l0_7 _ _ l0_8 _ _ l0_9 _ _ l0_10 t103 t104 t105 t106 t107 t108 t111 t114 t117 t120 t123 _ (cv HR0_5 HB) HC0_5.out (cv HR0_6 HB) HC0_6.out (cv HR0_7 HB) HC0_7.out (cv HR0_8 HB) HC0_8.out (cv HR0_9 HB) HC0_9.out (cv HR0_10 HB) HC0_10.out A7.out) ?_;rintro e w19 ⟨v109, v112, v115, v118, v121, v124, rfl, ho0, ho1, ho2, ho3, ho4, ho5, hb⟩;refine ⟨_, rfl, ?_⟩;have HO110 := ak (Kd.R_lower ho0 (below_size bs));have HO113 := ak (Kd.R_lower ho1 (below_size bs));have HO116 := ak (Kd.R_lower ho2 (below_size bs));have HO119 := ak (Kd.R_lower ho3 (below_size bs));have HO122 := ak (Kd.R_lower ho4 (below_size bs));have HO125 := ak (Kd.R_lower ho5 (below_size bs));replace BK101 := b1 BK101 hb;replace HB := b2s bs hb;(try clear hb);(try clear ho0);(try clear ho1);(try clear ho2);(try clear ho3);(try clear ho4);(try clear ho5);obtain ⟨Ao20, co20, eo20⟩ := Kd.R_slice HO110.out;subst eo20;obtain ⟨Ao21, co21, eo21⟩ := Kd.R_slice HO113.out;subst eo21;obtain ⟨Ao22, co22, eo22⟩ := Kd.R_slice HO116.out;subst eo22;obtain ⟨Ao23, co23, eo23⟩ := Kd.R_slice HO119.out;subst eo23;obtain ⟨Ao24, co24, eo24⟩ := Kd.R_slice HO122.out;subst eo24;obtain ⟨Ao25, co25, eo25⟩ := Kd.R_slice HO125.out;subst eo25) | ((with_reducible refine gate_callee (f := 54) rfl ?_);refine glB 14 rfl rfl Try.func54 (spec_MsgOk.calls k t103 t104 t105 t106 t107 _ _ t108 _ _ t111 _ _ t114 _ _ t117 _ _ t120 _ _ t123 t126 _ ?side1 ?side2 ?side3 ?side4 ?side5 ?side6 ?side7 ?side8 ?side9 ?side10 ?side11 ?side12 A8.out) (fun w26 hb => ?_);(case side1 => repeat (first | exact (Kd.R_reads' HO110.out).2.2 | (with_reducible refine Kd.C_alloc ?_ _) | (with_reducible refine Kd.C_drewN ?_ _) | (with_reducible refine Kd.C_drew ?_)));(case side2 => exact (Kd.R_reads' HO110.out).2.1);(case side3 => repeat (first | exact (Kd.R_reads' HO113.out).2.2 | (with_reducible refine Kd.C_alloc ?_ _) | (with_reducible refine Kd.C_drewN ?_ _) | (with_reducible refine Kd.C_drew ?_)));(case side4 => exact (Kd.R_reads' HO113.out).2.1);(case side5 => repeat (first | exact (Kd.R_reads' HO116.out).2.2 | (with_reducible refine Kd.C_alloc ?_ _) | (with_reducible refine Kd.C_drewN ?_ _) | (with_reducible refine Kd.C_drew ?_)));(case side6 => exact (Kd.R_reads' HO116.out).2.1);(case side7 => repeat (first | exact (Kd.R_reads' HO119.out).2.2 | (with_reducible refine Kd.C_alloc ?_ _) | (with_reducible refine Kd.C_drewN ?_ _) | (with_reducible refine Kd.C_drew ?_)));(case side8 => exact (Kd.R_reads' HO119.out).2.1);(case side9 => repeat (first | exact (Kd.R_reads' HO122.out).2.2 | (with_reducible refine Kd.C_alloc ?_ _) | (with_reducible refine Kd.C_drewN ?_ _) | (with_reducible refine Kd.C_drew ?_)));(case side10 => exact (Kd.R_reads' HO122.out).2.1);(case side11 => repeat (first | exact (Kd.R_reads' HO125.out).2.2 | (with_reducible refine Kd.C_alloc ?_ _) | (with_reducible refine Kd.C_drewN ?_ _) | (with_reducible refine Kd.C_drew ?_)));(case side12 => exact (Kd.R_reads' HO125.out).2.1);replace HO110 := ak (Kd.R_below (rw_ HO110.out) hb);replace HO113 := ak (Kd.R_below (rw_ HO113.out) hb);replace HO116 := ak (Kd.R_below (rw_ HO116.out) hb);replace HO119 := ak (Kd.R_below (rw_ HO119.out) hb);replace HO122 := ak (Kd.R_below (rw_ HO122.out) hb);replace HO125 := ak (Kd.R_below (rw_ HO125.out) hb);replace BK101 := b1 BK101 hb;replace HB := b2s bs hb;(try clear hb);obtain ⟨hcz27_0, hcz27_1, hcz27_2, hcz27_3, hcz27_4, hcz27_5, hcz27_6, hcz27_7, hcz27_8, hcz27_9, hcz27_10, hfz27_0, hfz27_1, hfz27_2, hfz27_3, hfz27_4, hfz27_5, hfz27_6, hfz27_7, hfz27_8, hfz27_9, hfz27_10⟩ := cells11 BK101.out) | ((with_reducible refine gate_callee (f := 55) rfl ?_);refine glG 16 rfl rfl Try.func55 (laws_toMsg.calls k a0_0 a0_1 a0_2 a0_3 a0_4 _ _ l0_5 _ _ l0_6 _ _ l0_7 _ _ l0_8 _ _ l0_9 _ _ l0_10 t127 t128 t129 t130 t131 t132 t135 t138 t141 t144 t147 _ (cv HR0_5 HB) HC0_5.out (cv HR0_6 HB) HC0_6.out (cv HR0_7 HB) HC0_7.out (cv HR0_8 HB) HC0_8.out (cv HR0_9 HB) HC0_9.out (cv HR0_10 HB) HC0_10.out A9.out) ?_;rintro e w28 ⟨v133, v136, v139, v142, v145, v148, rfl, ho0, ho1, ho2, ho3, ho4, ho5, hb⟩;refine ⟨_, rfl, ?_⟩;have HO134 := ak (Kd.R_lower (Kd.R_new' ho0 (Kd.R_lt (rw_ HO110.out))) (below_size bs));replace HO110 := ak (Kd.R_elder' (rw_ HO110.out) (Kd.R_base ho0) hb);have HO137 := ak (Kd.R_lower (Kd.R_new' (Kd.R_new' (Kd.R_new' ho1 (Kd.R_lt (rw_ HO113.out))) (Kd.R_lt (rw_ HO116.out))) (Kd.R_lt (rw_ HO119.out))) (below_size bs));have HO140 := ak (Kd.R_lower (Kd.R_new' (Kd.R_new' (Kd.R_new' ho2 (Kd.R_lt (rw_ HO113.out))) (Kd.R_lt (rw_ HO116.out))) (Kd.R_lt (rw_ HO119.out))) (below_size bs));have HO143 := ak (Kd.R_lower (Kd.R_new' (Kd.R_new' (Kd.R_new' ho3 (Kd.R_lt (rw_ HO113.out))) (Kd.R_lt (rw_ HO116.out))) (Kd.R_lt (rw_ HO119.out))) (below_size bs));replace HO113 := ak (Kd.R_mono (Kd.R_told (Kd.R_told (Kd.R_told (Kd.R_old (rw_ HO113.out) hb) (Kd.R_base ho1)) (Kd.R_base ho2)) (Kd.R_base ho3)) (fun _ h_ => h_.1));replace HO116 := ak (Kd.R_mono (Kd.R_told (Kd.R_told (Kd.R_told (Kd.R_old (rw_ HO116.out) hb) (Kd.R_base ho1)) (Kd.R_base ho2)) (Kd.R_base ho3)) (fun _ h_ => h_.1));replace HO119 := ak (Kd.R_mono (Kd.R_told (Kd.R_told (Kd.R_told (Kd.R_old (rw_ HO119.out) hb) (Kd.R_base ho1)) (Kd.R_base ho2)) (Kd.R_base ho3)) (fun _ h_ => h_.1));have HO146 := ak (Kd.R_lower (Kd.R_new' (Kd.R_new' ho4 (Kd.R_lt (rw_ HO122.out))) (Kd.R_lt (rw_ HO125.out))) (below_size bs));have HO149 := ak (Kd.R_lower (Kd.R_new' (Kd.R_new' ho5 (Kd.R_lt (rw_ HO122.out))) (Kd.R_lt (rw_ HO125.out))) (below_size bs));replace HO122 := ak (Kd.R_mono (Kd.R_told (Kd.R_told (Kd.R_old (rw_ HO122.out) hb) (Kd.R_base ho4)) (Kd.R_base ho5)) (fun _ h_ => h_.1));replace HO125 := ak (Kd.R_mono (Kd.R_told (Kd.R_told (Kd.R_old (rw_ HO125.out) hb) (Kd.R_base ho4)) (Kd.R_base ho5)) (fun _ h_ => h_.1));replace BK101 := b1 BK101 hb;replace HB := b2s bs hb;(try clear hb);(try clear ho0);(try clear ho1);(try clear ho2);(try clear ho3);(try clear ho4);(try clear ho5)) | ((with_reducible refine gate_dst (N := 5) rfl ?_);refine bxe (N := 5) rfl ?_;intro gb150 hg w29 hbox hb;replace HO110 := ak (Kd.R_below (rw_ HO110.out) hb);replace HO113 := ak (Kd.R_below (rw_ HO113.out) hb);replace HO116 := ak (Kd.R_below (rw_ HO116.out) hb);replace HO119 := ak (Kd.R_below (rw_ HO119.out) hb);replace HO122 := ak (Kd.R_below (rw_ HO122.out) hb);replace HO125 := ak (Kd.R_below (rw_ HO125.out) hb);replace HO134 := ak (Kd.R_below (rw_ HO134.out) hb);replace HO137 := ak (Kd.R_below (rw_ HO137.out) hb);replace HO140 := ak (Kd.R_below (rw_ HO140.out) hb);replace HO143 := ak (Kd.R_below (rw_ HO143.out) hb);replace HO146 := ak (Kd.R_below (rw_ HO146.out) hb);replace HO149 := ak (Kd.R_below (rw_ HO149.out) hb);have BK150 := ak (hbox);have GW150 := b3s hg bs;have GE150 := GW150;replace HB := b2s bs hb;have NB101_150 := b4 hg BK101;have NB150_101 := b5 hg BK101;replace BK101 := b1 BK101 hb;clear hb hbox hg;have hnb30 := NB150_101.out;have hnc30 := NB101_150.out;obtain ⟨hcz31_0, hcz31_1, hcz31_2, hcz31_3, hcz31_4, hcz31_5, hcz31_6, hcz31_7, hcz31_8, hcz31_9, hcz31_10, hfz31_0, hfz31_1, hfz31_2, hfz31_3, hfz31_4, hfz31_5, hfz31_6, hfz31_7, hfz31_8, hfz31_9, hfz31_10⟩ := cells11 BK150.out;obtain ⟨Ao32, co32, eo32⟩ := Kd.R_slice HO134.out;subst eo32;obtain ⟨Ao33, co33, eo33⟩ := Kd.R_slice HO137.out;subst eo33;obtain ⟨Ao34, co34, eo34⟩ := Kd.R_slice HO140.out;subst eo34;obtain ⟨Ao35, co35, eo35⟩ := Kd.R_slice HO143.out;subst eo35;obtain ⟨Ao36, co36, eo36⟩ := Kd.R_slice HO146.out;subst eo36;obtain ⟨Ao37, co37, eo37⟩ := Kd.R_slice HO149.out;subst eo37) | ((with_reducible refine gate_callee (f := 56) rfl ?_);refine glB 18 rfl rfl Try.func56 (impl_MsgOk.calls k t127 t128 t129 t130 t131 _ _ t132 _ _ t135 _ _ t138 _ _ t141 _ _ t144 _ _ t147 t151 _ ?side1 ?side2 ?side3 ?side4 ?side5 ?side6 ?side7 ?side8 ?side9 ?side10 ?side11 ?side12 A10.out) (fun w38 hb => ?_);(case side1 => exact (Kd.R_reads' (far11R HO134.out BK150.out (by decide))).2.2);(case side2 => exact (Kd.R_reads' HO134.out).2.1);(case side3 => exact (Kd.R_reads' (far11R HO137.out BK150.out (by decide))).2.2);(case side4 => exact (Kd.R_reads' HO137.out).2.1);(case side5 => exact (Kd.R_reads' (far11R HO140.out BK150.out (by decide))).2.2);(case side6 => exact (Kd.R_reads' HO140.out).2.1);(case side7 => exact (Kd.R_reads' (far11R HO143.out BK150.out (by decide))).2.2);(case side8 => exact (Kd.R_reads' HO143.out).2.1);(case side9 => exact (Kd.R_reads' (far11R HO146.out BK150.out (by decide))).2.2);(case side10 => exact (Kd.R_reads' HO146.out).2.1);(case side11 => exact (Kd.R_reads' (far11R HO149.out BK150.out (by decide))).2.2);(case side12 => exact (Kd.R_reads' HO149.out).2.1);replace HO110 := ak (Kd.R_below (far11R HO110.out BK150.out (by decide)) hb);replace HO113 := ak (Kd.R_below (far11R HO113.out BK150.out (by decide)) hb);replace HO116 := ak (Kd.R_below (far11R HO116.out BK150.out (by decide)) hb);replace HO119 := ak (Kd.R_below (far11R HO119.out BK150.out (by decide)) hb);replace HO122 := ak (Kd.R_below (far11R HO122.out BK150.out (by decide)) hb);replace HO125 := ak (Kd.R_below (far11R HO125.out BK150.out (by decide)) hb);replace HO134 := ak (Kd.R_below (far11R HO134.out BK150.out (by decide)) hb);replace HO137 := ak (Kd.R_below (far11R HO137.out BK150.out (by decide)) hb);replace HO140 := ak (Kd.R_below (far11R HO140.out BK150.out (by decide)) hb);replace HO143 := ak (Kd.R_below (far11R HO143.out BK150.out (by decide)) hb);replace HO146 := ak (Kd.R_below (far11R HO146.out BK150.out (by decide)) hb);replace HO149 := ak (Kd.R_below (far11R HO149.out BK150.out (by decide)) hb);replace BK101 := ak (blk_below (bfar11 NB101_150.out BK101.out) hb);replace BK150 := ak (blk_below (bput11 BK150.out) hb);replace HB := b2s bs hb;(try clear hb)))
   replace HO110 := ak (Kd.R_drew HO110.out)
   replace HO113 := ak (Kd.R_drew HO113.out)
   replace HO116 := ak (Kd.R_drew HO116.out)
   replace HO119 := ak (Kd.R_drew HO119.out)
   replace HO122 := ak (Kd.R_drew HO122.out)
   replace HO125 := ak (Kd.R_drew HO125.out)
   replace HO134 := ak (Kd.R_drew HO134.out)
   replace HO137 := ak (Kd.R_drew HO137.out)
   replace HO140 := ak (Kd.R_drew HO140.out)
   replace HO143 := ak (Kd.R_drew HO143.out)
   replace HO146 := ak (Kd.R_drew HO146.out)
   replace HO149 := ak (Kd.R_drew HO149.out)
   replace BK101 := ak (blk_drew BK101.out)
   replace BK150 := ak (blk_drew BK150.out)
   replace HB := ak (below_drew1 HB.out)
   refine start_ (n := 5) (S := fun w' => w'.cell? ⟨gb150, 0, none⟩ = some (.int .i64 t127) ∧ w'.cell? ⟨gb150, 1, none⟩ = some (.bool t128) ∧ w'.cell? ⟨gb150, 2, none⟩ = some (.int .i64 t129) ∧ w'.cell? ⟨gb150, 3, none⟩ = some (.bool t130) ∧ w'.cell? ⟨gb150, 4, none⟩ = some (.int .i64 t131) ∧ w'.cell? ⟨gb150, 5, none⟩ = some (.slice Ao32 t132.length co32) ∧ w'.cell? ⟨gb150, 6, none⟩ = some (.slice Ao33 t135.length co33) ∧ w'.cell? ⟨gb150, 7, none⟩ = some (.slice Ao34 t138.length co34) ∧ w'.cell? ⟨gb150, 8, none⟩ = some (.slice Ao35 t141.length co35) ∧ w'.cell? ⟨gb150, 9, none⟩ = some (.slice Ao36 t144.length co36) ∧ w'.cell? ⟨gb150, 10, none⟩ = some (.slice Ao37 t147.length co37) ∧ w'.cell? ⟨gb101, 0, none⟩ = some (.int .i64 a0_0) ∧ w'.cell? ⟨gb101, 1, none⟩ = some (.bool a0_1) ∧ w'.cell? ⟨gb101, 2, none⟩ = some (.int .i64 a0_2) ∧ w'.cell? ⟨gb101, 3, none⟩ = some (.bool a0_3) ∧ w'.cell? ⟨gb101, 4, none⟩ = some (.int .i64 a0_4) ∧ w'.cell? ⟨gb101, 5, none⟩ = some (.slice A0_5 l0_5.length c0_5) ∧ w'.cell? ⟨gb101, 6, none⟩ = some (.slice A0_6 l0_6.length c0_6) ∧ w'.cell? ⟨gb101, 7, none⟩ = some (.slice A0_7 l0_7.length c0_7) ∧ w'.cell? ⟨gb101, 8, none⟩ = some (.slice A0_8 l0_8.length c0_8) ∧ w'.cell? ⟨gb101, 9, none⟩ = some (.slice A0_9 l0_9.length c0_9) ∧ w'.cell? ⟨gb101, 10, none⟩ = some (.slice A0_10 l0_10.length c0_10)) (ds := []) #[false, false, false, false, false] (by kernel_rfl) rfl rfl ⟨(blk_cell BK150.out 0).trans rfl, (blk_cell BK150.out 1).trans rfl, (blk_cell BK150.out 2).trans rfl, (blk_cell BK150.out 3).trans rfl, (blk_cell BK150.out 4).trans rfl, (blk_cell BK150.out 5).trans rfl, (blk_cell BK150.out 6).trans rfl, (blk_cell BK150.out 7).trans rfl, (blk_cell BK150.out 8).trans rfl, (blk_cell BK150.out 9).trans rfl, (blk_cell BK150.out 10).trans rfl, (blk_cell BK101.out 0).trans rfl, (blk_cell BK101.out 1).trans rfl, (blk_cell BK101.out 2).trans rfl, (blk_cell BK101.out 3).trans rfl, (blk_cell BK101.out 4).trans rfl, (blk_cell BK101.out 5).trans rfl, (blk_cell BK101.out 6).trans rfl, (blk_cell BK101.out 7).trans rfl, (blk_cell BK101.out 8).trans rfl, (blk_cell BK101.out 9).trans rfl, (blk_cell BK101.out 10).trans rfl⟩ (fun hHeld => ?_)
   generalize w38.drew = w39 at HO110 HO113 HO116 HO119 HO122 HO125 HO134 HO137 HO140 HO143 HO146 HO149 BK101 BK150 HB hHeld ⊢
   refine take_ (i := 0) (N := some 22) (v := ?_) (a' := ?_) #[true, false, false, false, false] rfl rfl (by kernel_rfl) (fun _ _ _ h => h) (Or.inl ⟨by rfl, ?_⟩) hHeld ?_ ?_
   rotate_left; rintro w' ⟨s0, s1, s2, s3, s4, s5, s6, s7, s8, s9, s10, s11, s12, s13, s14, s15, s16, s17, s18, s19, s20, s21⟩; go_simp; with_reducible rfl; rotate_left; go_simp; rfl
   refine take_ (i := 1) (N := some 23) (v := ?_) (a' := ?_) #[true, true, false, false, false] rfl rfl (by kernel_rfl) (fun _ _ _ h => h) (Or.inl ⟨by rfl, ?_⟩) hHeld ?_ ?_
   rotate_left; rintro w' ⟨s0, s1, s2, s3, s4, s5, s6, s7, s8, s9, s10, s11, s12, s13, s14, s15, s16, s17, s18, s19, s20, s21⟩; go_simp; with_reducible rfl; rotate_left; go_simp; rfl
   refine one_ (i := 2) (N := some 24) #[true, true, true, false, false] rfl rfl (by kernel_rfl) (by decide) (fun K hK => ?_)
   refine gsG Try.func55 (laws_toMsg.calls k a0_0 a0_1 a0_2 a0_3 a0_4 _ _ l0_5 _ _ l0_6 _ _ l0_7 _ _ l0_8 _ _ l0_9 _ _ l0_10 t152 t153 t154 t155 t156 t157 t160 t163 t166 t169 t172 _ (cv HR0_5 HB) HC0_5.out (cv HR0_6 HB) HC0_6.out (cv HR0_7 HB) HC0_7.out (cv HR0_8 HB) HC0_8.out (cv HR0_9 HB) HC0_9.out (cv HR0_10 HB) HC0_10.out A12.out) ?_
   rintro e w40 ⟨v158, v161, v164, v167, v170, v173, rfl, ho0, ho1, ho2, ho3, ho4, ho5, hb⟩
   refine ⟨_, rfl, ?_⟩
   have HO159 := ak (Kd.R_lower (Kd.R_new' (Kd.R_new' ho0 (Kd.R_lt (rw_ HO110.out))) (Kd.R_lt (rw_ HO134.out))) (below_size bs))
   replace HO110 := ak (Kd.R_elder' (rw_ HO110.out) (Kd.R_base ho0) hb)
   replace HO134 := ak (Kd.R_elder' (rw_ HO134.out) (Kd.R_base ho0) hb)
   have HO162 := ak (Kd.R_lower (Kd.R_new' (Kd.R_new' (Kd.R_new' (Kd.R_new' (Kd.R_new' (Kd.R_new' ho1 (Kd.R_lt (rw_ HO113.out))) (Kd.R_lt (rw_ HO116.out))) (Kd.R_lt (rw_ HO119.out))) (Kd.R_lt (rw_ HO137.out))) (Kd.R_lt (rw_ HO140.out))) (Kd.R_lt (rw_ HO143.out))) (below_size bs))
   have HO165 := ak (Kd.R_lower (Kd.R_new' (Kd.R_new' (Kd.R_new' (Kd.R_new' (Kd.R_new' (Kd.R_new' ho2 (Kd.R_lt (rw_ HO113.out))) (Kd.R_lt (rw_ HO116.out))) (Kd.R_lt (rw_ HO119.out))) (Kd.R_lt (rw_ HO137.out))) (Kd.R_lt (rw_ HO140.out))) (Kd.R_lt (rw_ HO143.out))) (below_size bs))
   have HO168 := ak (Kd.R_lower (Kd.R_new' (Kd.R_new' (Kd.R_new' (Kd.R_new' (Kd.R_new' (Kd.R_new' ho3 (Kd.R_lt (rw_ HO113.out))) (Kd.R_lt (rw_ HO116.out))) (Kd.R_lt (rw_ HO119.out))) (Kd.R_lt (rw_ HO137.out))) (Kd.R_lt (rw_ HO140.out))) (Kd.R_lt (rw_ HO143.out))) (below_size bs))
   replace HO113 := ak (Kd.R_mono (Kd.R_told (Kd.R_told (Kd.R_told (Kd.R_old (rw_ HO113.out) hb) (Kd.R_base ho1)) (Kd.R_base ho2)) (Kd.R_base ho3)) (fun _ h_ => h_.1))
   replace HO116 := ak (Kd.R_mono (Kd.R_told (Kd.R_told (Kd.R_told (Kd.R_old (rw_ HO116.out) hb) (Kd.R_base ho1)) (Kd.R_base ho2)) (Kd.R_base ho3)) (fun _ h_ => h_.1))
   replace HO119 := ak (Kd.R_mono (Kd.R_told (Kd.R_told (Kd.R_told (Kd.R_old (rw_ HO119.out) hb) (Kd.R_base ho1)) (Kd.R_base ho2)) (Kd.R_base ho3)) (fun _ h_ => h_.1))
   replace HO137 := ak (Kd.R_mono (Kd.R_told (Kd.R_told (Kd.R_told (Kd.R_old (rw_ HO137.out) hb) (Kd.R_base ho1)) (Kd.R_base ho2)) (Kd.R_base ho3)) (fun _ h_ => h_.1))
   replace HO140 := ak (Kd.R_mono (Kd.R_told (Kd.R_told (Kd.R_told (Kd.R_old (rw_ HO140.out) hb) (Kd.R_base ho1)) (Kd.R_base ho2)) (Kd.R_base ho3)) (fun _ h_ => h_.1))
   replace HO143 := ak (Kd.R_mono (Kd.R_told (Kd.R_told (Kd.R_told (Kd.R_old (rw_ HO143.out) hb) (Kd.R_base ho1)) (Kd.R_base ho2)) (Kd.R_base ho3)) (fun _ h_ => h_.1))
   have HO171 := ak (Kd.R_lower (Kd.R_new' (Kd.R_new' (Kd.R_new' (Kd.R_new' ho4 (Kd.R_lt (rw_ HO122.out))) (Kd.R_lt (rw_ HO125.out))) (Kd.R_lt (rw_ HO146.out))) (Kd.R_lt (rw_ HO149.out))) (below_size bs))
   have HO174 := ak (Kd.R_lower (Kd.R_new' (Kd.R_new' (Kd.R_new' (Kd.R_new' ho5 (Kd.R_lt (rw_ HO122.out))) (Kd.R_lt (rw_ HO125.out))) (Kd.R_lt (rw_ HO146.out))) (Kd.R_lt (rw_ HO149.out))) (below_size bs))
   replace HO122 := ak (Kd.R_mono (Kd.R_told (Kd.R_told (Kd.R_old (rw_ HO122.out) hb) (Kd.R_base ho4)) (Kd.R_base ho5)) (fun _ h_ => h_.1))
   replace HO125 := ak (Kd.R_mono (Kd.R_told (Kd.R_told (Kd.R_old (rw_ HO125.out) hb) (Kd.R_base ho4)) (Kd.R_base ho5)) (fun _ h_ => h_.1))
   replace HO146 := ak (Kd.R_mono (Kd.R_told (Kd.R_told (Kd.R_old (rw_ HO146.out) hb) (Kd.R_base ho4)) (Kd.R_base ho5)) (fun _ h_ => h_.1))
   replace HO149 := ak (Kd.R_mono (Kd.R_told (Kd.R_told (Kd.R_old (rw_ HO149.out) hb) (Kd.R_base ho4)) (Kd.R_base ho5)) (fun _ h_ => h_.1))
   replace BK101 := b1 BK101 hb
   replace BK150 := b1 BK150 hb
   replace HB := b2s bs hb
   (try clear hb)
   (try clear ho0)
   (try clear ho1)
   (try clear ho2)
   (try clear ho3)
   (try clear ho4)
   (try clear ho5)
   obtain ⟨Ao41, co41, eo41⟩ := Kd.R_slice HO159.out
   (first | subst eo41 | (injection eo41 with f1_ f2_ f3_; have f4_ := f1_.symm; have f5_ := f3_.symm; clear f1_ f2_ f3_; subst f4_; subst f5_))
   obtain ⟨Ao42, co42, eo42⟩ := Kd.R_slice HO162.out
   (first | subst eo42 | (injection eo42 with f1_ f2_ f3_; have f4_ := f1_.symm; have f5_ := f3_.symm; clear f1_ f2_ f3_; subst f4_; subst f5_))
   obtain ⟨Ao43, co43, eo43⟩ := Kd.R_slice HO165.out
   (first | subst eo43 | (injection eo43 with f1_ f2_ f3_; have f4_ := f1_.symm; have f5_ := f3_.symm; clear f1_ f2_ f3_; subst f4_; subst f5_))
   obtain ⟨Ao44, co44, eo44⟩ := Kd.R_slice HO168.out
   (first | subst eo44 | (injection eo44 with f1_ f2_ f3_; have f4_ := f1_.symm; have f5_ := f3_.symm; clear f1_ f2_ f3_; subst f4_; subst f5_))
   obtain ⟨Ao45, co45, eo45⟩ := Kd.R_slice HO171.out
   (first | subst eo45 | (injection eo45 with f1_ f2_ f3_; have f4_ := f1_.symm; have f5_ := f3_.symm; clear f1_ f2_ f3_; subst f4_; subst f5_))
   obtain ⟨Ao46, co46, eo46⟩ := Kd.R_slice HO174.out
   (first | subst eo46 | (injection eo46 with f1_ f2_ f3_; have f4_ := f1_.symm; have f5_ := f3_.symm; clear f1_ f2_ f3_; subst f4_; subst f5_))
   refine hK.out _ _ ⟨(blk_cell BK150.out 0).trans rfl, (blk_cell BK150.out 1).trans rfl, (blk_cell BK150.out 2).trans rfl, (blk_cell BK150.out 3).trans rfl, (blk_cell BK150.out 4).trans rfl, (blk_cell BK150.out 5).trans rfl, (blk_cell BK150.out 6).trans rfl, (blk_cell BK150.out 7).trans rfl, (blk_cell BK150.out 8).trans rfl, (blk_cell BK150.out 9).trans rfl, (blk_cell BK150.out 10).trans rfl, (blk_cell BK101.out 0).trans rfl, (blk_cell BK101.out 1).trans rfl, (blk_cell BK101.out 2).trans rfl, (blk_cell BK101.out 3).trans rfl, (blk_cell BK101.out 4).trans rfl, (blk_cell BK101.out 5).trans rfl, (blk_cell BK101.out 6).trans rfl, (blk_cell BK101.out 7).trans rfl, (blk_cell BK101.out 8).trans rfl, (blk_cell BK101.out 9).trans rfl, (blk_cell BK101.out 10).trans rfl⟩ (fun hHeld => ?_)
   clear hK K
   refine norm_ (a' := ?_) ?_ ?_; rotate_left; go_simp; rfl
   refine one_ (i := 3) (N := some 25) #[true, true, true, true, false] rfl rfl (by kernel_rfl) (by decide) (fun K hK => ?_)
   refine gsB Try.func57 (laws_eqMsg.calls k t127 t128 t129 t130 t131 _ _ t132 _ _ t135 _ _ t138 _ _ t141 _ _ t144 _ _ t147 t152 t153 t154 t155 t156 _ _ t157 _ _ t160 _ _ t163 _ _ t166 _ _ t169 _ _ t172 true _ ?side1 ?side2 ?side3 ?side4 ?side5 ?side6 ?side7 ?side8 ?side9 ?side10 ?side11 ?side12 ?side13 ?side14 ?side15 ?side16 ?side17 ?side18 ?side19 ?side20 ?side21 ?side22 ?side23 ?side24 A13.out) (fun w47 hb => ?_)
   (case side1 => repeat (first | exact (Kd.R_reads' HO134.out).2.2 | (with_reducible refine Kd.C_alloc ?_ _) | (with_reducible refine Kd.C_drewN ?_ _) | (with_reducible refine Kd.C_drew ?_)))
   (case side2 => exact (Kd.R_reads' HO134.out).2.1)
   (case side3 => repeat (first | exact (Kd.R_reads' HO137.out).2.2 | (with_reducible refine Kd.C_alloc ?_ _) | (with_reducible refine Kd.C_drewN ?_ _) | (with_reducible refine Kd.C_drew ?_)))
   (case side4 => exact (Kd.R_reads' HO137.out).2.1)
   (case side5 => repeat (first | exact (Kd.R_reads' HO140.out).2.2 | (with_reducible refine Kd.C_alloc ?_ _) | (with_reducible refine Kd.C_drewN ?_ _) | (with_reducible refine Kd.C_drew ?_)))
   (case side6 => exact (Kd.R_reads' HO140.out).2.1)
   (case side7 => repeat (first | exact (Kd.R_reads' HO143.out).2.2 | (with_reducible refine Kd.C_alloc ?_ _) | (with_reducible refine Kd.C_drewN ?_ _) | (with_reducible refine Kd.C_drew ?_)))
   (case side8 => exact (Kd.R_reads' HO143.out).2.1)
   (case side9 => repeat (first | exact (Kd.R_reads' HO146.out).2.2 | (with_reducible refine Kd.C_alloc ?_ _) | (with_reducible refine Kd.C_drewN ?_ _) | (with_reducible refine Kd.C_drew ?_)))
   (case side10 => exact (Kd.R_reads' HO146.out).2.1)
   (case side11 => repeat (first | exact (Kd.R_reads' HO149.out).2.2 | (with_reducible refine Kd.C_alloc ?_ _) | (with_reducible refine Kd.C_drewN ?_ _) | (with_reducible refine Kd.C_drew ?_)))
   (case side12 => exact (Kd.R_reads' HO149.out).2.1)
   (case side13 => repeat (first | exact (Kd.R_reads' HO159.out).2.2 | (with_reducible refine Kd.C_alloc ?_ _) | (with_reducible refine Kd.C_drewN ?_ _) | (with_reducible refine Kd.C_drew ?_)))
   (case side14 => exact (Kd.R_reads' HO159.out).2.1)
   (case side15 => repeat (first | exact (Kd.R_reads' HO162.out).2.2 | (with_reducible refine Kd.C_alloc ?_ _) | (with_reducible refine Kd.C_drewN ?_ _) | (with_reducible refine Kd.C_drew ?_)))
   (case side16 => exact (Kd.R_reads' HO162.out).2.1)
   (case side17 => repeat (first | exact (Kd.R_reads' HO165.out).2.2 | (with_reducible refine Kd.C_alloc ?_ _) | (with_reducible refine Kd.C_drewN ?_ _) | (with_reducible refine Kd.C_drew ?_)))
   (case side18 => exact (Kd.R_reads' HO165.out).2.1)
   (case side19 => repeat (first | exact (Kd.R_reads' HO168.out).2.2 | (with_reducible refine Kd.C_alloc ?_ _) | (with_reducible refine Kd.C_drewN ?_ _) | (with_reducible refine Kd.C_drew ?_)))
   (case side20 => exact (Kd.R_reads' HO168.out).2.1)
   (case side21 => repeat (first | exact (Kd.R_reads' HO171.out).2.2 | (with_reducible refine Kd.C_alloc ?_ _) | (with_reducible refine Kd.C_drewN ?_ _) | (with_reducible refine Kd.C_drew ?_)))
   (case side22 => exact (Kd.R_reads' HO171.out).2.1)
   (case side23 => repeat (first | exact (Kd.R_reads' HO174.out).2.2 | (with_reducible refine Kd.C_alloc ?_ _) | (with_reducible refine Kd.C_drewN ?_ _) | (with_reducible refine Kd.C_drew ?_)))
   (case side24 => exact (Kd.R_reads' HO174.out).2.1)
   replace HO110 := ak (Kd.R_below (rw_ HO110.out) hb)
   replace HO113 := ak (Kd.R_below (rw_ HO113.out) hb)
   replace HO116 := ak (Kd.R_below (rw_ HO116.out) hb)
   replace HO119 := ak (Kd.R_below (rw_ HO119.out) hb)
   replace HO122 := ak (Kd.R_below (rw_ HO122.out) hb)
   replace HO125 := ak (Kd.R_below (rw_ HO125.out) hb)
   replace HO134 := ak (Kd.R_below (rw_ HO134.out) hb)
   replace HO137 := ak (Kd.R_below (rw_ HO137.out) hb)
   replace HO140 := ak (Kd.R_below (rw_ HO140.out) hb)
   replace HO143 := ak (Kd.R_below (rw_ HO143.out) hb)
   replace HO146 := ak (Kd.R_below (rw_ HO146.out) hb)
   replace HO149 := ak (Kd.R_below (rw_ HO149.out) hb)
   replace HO159 := ak (Kd.R_below (rw_ HO159.out) hb)
   replace HO162 := ak (Kd.R_below (rw_ HO162.out) hb)
   replace HO165 := ak (Kd.R_below (rw_ HO165.out) hb)
   replace HO168 := ak (Kd.R_below (rw_ HO168.out) hb)
   replace HO171 := ak (Kd.R_below (rw_ HO171.out) hb)
   replace HO174 := ak (Kd.R_below (rw_ HO174.out) hb)
   replace BK101 := b1 BK101 hb
   replace BK150 := b1 BK150 hb
   replace HB := b2s bs hb
   refine hK.out _ _ kp (fun hHeld => ?_)
   (try clear hb)
   clear hK K
   refine norm_ (a' := ?_) ?_ ?_; rotate_left; go_simp; rfl
   refine pure_ (i := 4) (N := some 26) (v := ?_) (a' := ?_) #[true, true, true, true, true] rfl rfl (by kernel_rfl) (fun _ _ _ h => h) (Or.inl ⟨by rfl, ?_⟩) ?_ ?_
   rotate_left; intro w'; go_simp; with_reducible rfl; rotate_left; go_simp; rfl
   refine done_ (by kernel_rfl) ?_
   try go_wp2
   go_ret
   exact ⟨o1, bs⟩

/-! ### slices_EqualFunc_byte_byte_byte_byte: function 174 -/

/-! ### bytes_Equal: function 175 -/
/-! ### impl_Name_under: function 101 -/

/-! ### spec_l2bytes: function 136 -/

/-! ### cmp_isNaN_int: function 207 -/
/-! ### cmp_Compare_int: function 142 -/
/-! ### bytes_Compare: function 143 -/

/-! ### impl_Name_compare: function 141 -/
/-! ### spec_l2cmp: function 98 -/
/-! ### spec_l2under: function 96 -/
/-! ### spec_l3num: function 135 -/
/-! ### cmp_Or_int: function 140 -/
/-! ### spec_l3cmp: function 61 -/
/-! ### impl_Rr_compare: function 64 -/
end Go.Proofs.Ytagedmajlppohaa.Q
