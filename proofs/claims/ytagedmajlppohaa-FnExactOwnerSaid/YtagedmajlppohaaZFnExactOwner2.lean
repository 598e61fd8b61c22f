/- Printed by a program of this session (wip/myprint.py), which drives the kit's printer: functions and what their calls do. -/
import Derived.Test.YtagedmajlppohaaZFnExactOwner0
import Derived.Test.YtagedmajlppohaaZFnExactOwner1
import Derived.Lib.Bytealg
import Derived.Maps.Own
import Derived.Maps.Views
namespace Go.Proofs.Ytagedmajlppohaa.Q
open Go.RowKit Go Go.Proofs.YtagedmajlppohaaW.PrintWords Go.Proofs.YtagedmajlppohaaW.PrintLast Go.Proofs.YtagedmajlppohaaW.PrintMore
attribute [local go_sem] max2_int min2_int max_two min_two max_three min_three max_four min_four   -- for this text's walks alone
set_option linter.unusedVariables false
set_option linter.unusedSimpArgs false

/-! ### spec_l5all: function 177 -/
def spec_l5all.l0 : Nat → Int → List (S33) → Int → List (List Int) → List (S33) → List (List Int) → Option ((List (S33)))
 | 0, _, _, _, _, _, _ => none
 | k + 1, x2, x7, x8, x102000, x102001, x103000 => if x8 < (x102001.length : Int) then (if 0 ≤ x8 then ((spec_l2cmp.f k ((rd_T33 x102001 x8).f0.f0) x103000).bind fun t104 => (if t104 = 0 then (if x2 = 255 then (if x7.length < 1172812402961 then (spec_l5all.l0 k x2 (x7 ++ [(⟨(⟨(rd_T33 x102001 x8).f0.f0⟩ : S31), (rd_T33 x102001 x8).f1, (rd_T33 x102001 x8).f2, (rd_T33 x102001 x8).f3, (⟨(rd_T33 x102001 x8).f4.f0⟩ : S31), (rd_T33 x102001 x8).f5, (rd_T33 x102001 x8).f6⟩ : S33)]) (wrap64 (x8 + 1)) x102000 x102001 x103000) else (none)) else (if ((rd_T33 x102001 x8).f1) = x2 then (if x7.length < 1172812402961 then (spec_l5all.l0 k x2 (x7 ++ [(⟨(⟨(rd_T33 x102001 x8).f0.f0⟩ : S31), (rd_T33 x102001 x8).f1, (rd_T33 x102001 x8).f2, (rd_T33 x102001 x8).f3, (⟨(rd_T33 x102001 x8).f4.f0⟩ : S31), (rd_T33 x102001 x8).f5, (rd_T33 x102001 x8).f6⟩ : S33)]) (wrap64 (x8 + 1)) x102000 x102001 x103000) else (none)) else (spec_l5all.l0 k x2 x7 (wrap64 (x8 + 1)) x102000 x102001 x103000))) else (spec_l5all.l0 k x2 x7 (wrap64 (x8 + 1)) x102000 x102001 x103000))) else (none)) else (some x7)
def spec_l5all.f (k : Nat) (l0_0 : List (List Int)) (l0_1 : List (S33)) (l1_0 : List (List Int)) (a2 : Int) : Option ((List (S33))) := spec_l5all.l0 k a2 ([] : List (S33)) 0 l0_0 l0_1 l1_0
theorem spec_l5all.mono_l : ∀ k, (∀ y0 y1 y2 y3 y4 y5, LeO (spec_l5all.l0 k y0 y1 y2 y3 y4 y5) (spec_l5all.l0 (k + 1) y0 y1 y2 y3 y4 y5))
 | 0 => fun _ _ _ _ _ _ r h => by simp [spec_l5all.l0] at h
 | k + 1 => by
  have ih0 := spec_l5all.mono_l k
  ·intro y0 y1 y2 y3 y4 y5
   unfold spec_l5all.l0
   repeat' first
   | (with_reducible exact ih0 _ _ _ _ _ _)
   | (with_reducible exact spec_l2cmp.mono _ _ _)
   | (with_reducible exact LeO.refl _)
   | (with_reducible exact LeO.none _)
   | (with_reducible refine LeO.ite ?_ ?_)
   | (with_reducible refine LeO.bind ?_ (fun _ => ?_))
   | exact ih0 _ _ _ _ _ _
   | exact spec_l2cmp.mono _ _ _
   | exact LeO.none _
   | refine LeO.ite ?_ ?_
   | refine LeO.bind ?_ (fun _ => ?_)
theorem spec_l5all.mono : ∀ a0 a1 a2 a3 k, LeO (spec_l5all.f k a0 a1 a2 a3) (spec_l5all.f (k + 1) a0 a1 a2 a3) := by
 intro a0 a1 a2 a3 k
 have ih0 := spec_l5all.mono_l k
 unfold spec_l5all.f
 repeat' first
   | (with_reducible exact ih0 _ _ _ _ _ _)
   | (with_reducible exact spec_l2cmp.mono _ _ _)
   | (with_reducible exact LeO.refl _)
   | (with_reducible exact LeO.none _)
   | (with_reducible refine LeO.ite ?_ ?_)
   | (with_reducible refine LeO.bind ?_ (fun _ => ?_))
   | exact ih0 _ _ _ _ _ _
   | exact spec_l2cmp.mono _ _ _
   | exact LeO.none _
   | refine LeO.ite ?_ ?_
   | refine LeO.bind ?_ (fun _ => ?_)
def spec_l5all.T5 : Bool × List (List Nat × List Nat) := (true, [([], []), ([0], [0]), ([], []), ([1, 2], [1, 2]), ([3], [3]), ([4], [4]), ([], []), ([5, 6], [5, 6]), ([7], [7]), ([8, 7], [8]), ([9], [9]), ([10, 9], [9, 10]), ([11, 9, 9], [9, 11]), ([12], [12]), ([13, 12], [12, 13]), ([12], [12]), ([14, 15, 12], [12, 14, 15]), ([16, 12], [12, 16]), ([17, 12], [12, 17]), ([12], [12]), ([18, 19, 12], [12, 18, 19]), ([12, 20, 9], [9, 12, 20]), ([9, 21], [9, 21])])
def spec_l5all.B5 : List Nat := [0, 1, 0, 7, 15, 31, 0, 127, 255, 511, 1023, 2047, 4095, 8191, 16383, 8191, 65535, 131071, 262143, 8191, 1048575, 2097151, 4194303]
theorem spec_l5all.tab5 : rtab .any (opsOf Try.f177 5) = spec_l5all.T5 := by kernel_rfl
theorem spec_l5all.bits5 : waitsOk spec_l5all.T5.2 spec_l5all.B5 = true := by kernel_rfl
set_option maxHeartbeats 8000000 in
set_option maxRecDepth 100000 in
theorem spec_l5all.calls (k : Nat) (A0_0 : Option Addr) (c0_0 : Nat) (l0_0 : List (List Int)) (P0_1_ : Nat → Prop) (A0_1 : Option Addr) (c0_1 : Nat) (l0_1 : List (S33)) (A1_0 : Option Addr) (c1_0 : Nat) (l1_0 : List (List Int)) (a2 : Int) (r : List (S33)) (w : World) (hr0_0 : Kd.C (Kd.slice 5 (Kd.int .u8)) w A0_0 l0_0.length l0_0) (hc0_0 : l0_0.length ≤ c0_0) (hs0_1 : Kd.V k33 33 w w.heap.size (fun k_ => P0_1_ k_) (.slice A0_1 l0_1.length c0_1) l0_1) (hr1_0 : Kd.C (Kd.slice 5 (Kd.int .u8)) w A1_0 l1_0.length l1_0) (hc1_0 : l1_0.length ≤ c1_0) (h : spec_l5all.f k l0_0 l0_1 l1_0 a2 = some r) :
  Calls Try.prog 177 #[.agg #[.slice A0_0 l0_0.length c0_0, .slice A0_1 l0_1.length c0_1], .agg #[.slice A1_0 l1_0.length c1_0], .int .i64 a2] w fun e w' => ∃ v0_ : Value, e = .returned (v0_) ∧ Kd.N k33 33 w' w.heap.size (fun k_ => (P0_1_ k_ ∨ w.heap.size ≤ k_)) v0_ r ∧ Below w.heap.size w w' := by
 have hu59 := Try.underlying59
 have hu31 := Try.underlying31
 have hu33 := Try.underlying33
 have HR0_0 := ak hr0_0
 have HC0_0 := ak hc0_0
 clear hr0_0 hc0_0
 have HO0_1 := ak (show Kd.V k33 33 w w.heap.size (fun k_ => (P0_1_ k_ ∨ w.heap.size ≤ k_)) (.slice A0_1 l0_1.length c0_1) l0_1 from Kd.V_mono hs0_1 (fun k_ hk => .inl hk))
 have HR1_0 := ak hr1_0
 have HC1_0 := ak hc1_0
 clear hr1_0 hc1_0
 have HB := ak (Below.refl w.heap.size w)
 have H : (spec_l5all.l0 k a2 ([] : List (S33)) 0 l0_0 l0_1 l1_0) = some r := h
 clear h
 have H' := ak H
 clear H
 go_enter Try.func177, Try.ntmps177
 go_wp2_with (first | ((with_reducible refine gate_dst (N := 3) rfl ?_);refine bxe (N := 3) rfl ?_;intro gb101 hg w4 hbox hb;replace HO0_1 := ak (Kd.V_below (Kd.V_elderB (vw HO0_1.out) gb101 (Nat.le_of_eq hg.symm)) hb);have BK101 := ak (hbox);have GW101 := b3 hg HB;have GE101 := GW101;replace HB := b2 HB hb;clear hb hbox hg) | ((with_reducible refine gate_dst (N := 4) rfl ?_);refine bxe (N := 4) rfl ?_;intro gb102 hg w5 hbox hb;replace HO0_1 := ak (Kd.V_below (Kd.V_elderB (vw HO0_1.out) gb102 (Nat.le_of_eq hg.symm)) hb);have BK102 := ak (hbox);have GW102 := b3s hg bs;have GE102 := GW102;replace HB := b2s bs hb;have NB101_102 := b4 hg BK101;have NB102_101 := b5 hg BK101;replace BK101 := b1 BK101 hb;clear hb hbox hg))
 go_loopg [7, 8] k (fun kq v7 v8 w' => ∃ (x7_1 : List (S33)) (x8_1 : Int), v8 = .int .i64 x8_1 ∧ Aside0 (spec_l5all.l0 kq a2 x7_1 x8_1 l0_0 l0_1 l1_0 = some r) ∧ Aside0 (kq ≤ k) ∧ Aside0 (Kd.N k33 33 w' w.heap.size (fun k_ => (P0_1_ k_ ∨ w.heap.size ≤ k_) ∧ k_ ≠ gb101 ∧ k_ ≠ gb102) v7 x7_1) ∧ Aside0 (Kd.V k33 33 w' w.heap.size (fun k_ => (P0_1_ k_ ∨ w.heap.size ≤ k_) ∧ some k_ ≠ (v7 : Value).ownBlock ∧ k_ ≠ gb101 ∧ k_ ≠ gb102) (.slice A0_1 l0_1.length c0_1) l0_1) ∧ Aside0 (w'.heap[gb101]? = some (.cells #[(.slice A0_0 l0_0.length c0_0), (.slice A0_1 l0_1.length c0_1)] 59 (0, 0))) ∧ Aside0 (w'.heap[gb102]? = some (.cells #[(.slice A1_0 l1_0.length c1_0)] 31 (0, 0))) ∧ Aside0 (Below w.heap.size w w'))
 case atStart => exact ⟨(([] : List (S33))), (0), o2, H', ⟨Nat.le_refl _⟩, ⟨by first | exact Kd.R_nil _ _ _ _ _ | exact Kd.N_nil _ _ _ _ _ | exact Kd.V_nil _ _ _ _ _ | exact Kd.Q_nil _ _ _ _ _ | exact Kd.S_nil _ _ _ _ _⟩, ⟨by (with_reducible repeat (first | apply Kd.V_alloc | apply Kd.V_drewN | apply Kd.V_drew)); exact Kd.V_mono HO0_1.out (fun _ hk => ⟨hk.1.1, ⟨(by simp [Value.ownBlock]), ⟨hk.1.2, hk.2⟩⟩⟩)⟩, ⟨bk BK101.out⟩, ⟨bk BK102.out⟩, ⟨bs⟩⟩
 case round =>
  clear H'
  obtain ⟨x7_1, x8_1, rfl, HA, HK1, HO_7, HO_102001, BK101, BK102, HB⟩ := hrel
  cases gk with
  | zero => exact absurd HA.out (by simp [spec_l5all.l0])
  | succ k1 =>
   have H := HA.out
   clear HA
   simp only [spec_l5all.l0] at H
   replace H := ip H
   obtain ⟨c6b0, H⟩ | ⟨c6b0, H⟩ := H
   ·replace H := ipN H
    obtain ⟨c7b0, H⟩ := H
    replace H := bnd H
    obtain ⟨t104, A8, H⟩ := H
    replace H := ie H
    obtain ⟨c9b0, c9b1, H⟩ | ⟨c9b0, c9b1, H⟩ := H
    ·replace H := ie H
     obtain ⟨c10b0, c10b1, H⟩ | ⟨c10b0, c10b1, H⟩ := H
     ·by_cases c11 : x7_1.length < 1172812402961
      ·rw [if_pos c11] at H
       have LMc11 := ak c11
       clear c11
       obtain ⟨y106, hy106⟩ : ∃ y_ : List (S33), y_ = (x7_1 ++ [(⟨(⟨(rd_T33 l0_1 x8_1).f0.f0⟩ : S31), (rd_T33 l0_1 x8_1).f1, (rd_T33 l0_1 x8_1).f2, (rd_T33 l0_1 x8_1).f3, (⟨(rd_T33 l0_1 x8_1).f4.f0⟩ : S31), (rd_T33 l0_1 x8_1).f5, (rd_T33 l0_1 x8_1).f6⟩ : S33)]) := ⟨_, rfl⟩
       (try with_reducible replace H := bnS H)
       (try rw [← hy106] at H)
       have Ny106 := ak hy106
       clear hy106
       have H' := ak H
       clear H
       have hnb12 := NB101_102.out
       have hnc12 := NB102_101.out
       obtain ⟨hcz13_0, hcz13_1, hfz13_0, hfz13_1⟩ := cells2 BK101.out
       try go_wp2
       replace HO_7 := ak (Kd.N_drew HO_7.out)
       replace HO_102001 := ak (Kd.V_drew HO_102001.out)
       replace BK101 := ak (blk_drew BK101.out)
       replace BK102 := ak (blk_drew BK102.out)
       replace HB := ak (below_drew1 HB.out)
       have p103 : 0 ≤ (x8_1 : Int) := of_decide_eq_true (by first | (with_reducible assumption) | assumption)
       have q103 : x8_1 < (l0_1.length : Int) := of_decide_eq_true (by first | (with_reducible assumption) | assumption)
       obtain ⟨ad103, A103_0, c103_0, A103_4, c103_4, A103_5, c103_5, A103_6, c103_6, e103, hx103_0, hx103_1, hx103_2, hx103_3, hx103_4, hx103_5, hx103_6, hl103_0, hi103_0, hl103_4, hi103_4, hl103_5, hi103_5, hl103_6, hi103_6⟩ := at_T33 (Kd.V_reads' HO_102001.out).2.2 x8_1 p103 q103
       cases e103
       obtain ⟨ce103, hce103, hMe103, hcc103⟩ := Kd.V_get HO_102001.out z33 x8_1 p103 (by first | exact q103 | exact of_decide_eq_true (by first | (with_reducible assumption) | assumption) | (have e_ := (Kd.V_reads' HO_102001.out).1; omega))
       obtain ⟨ua103_0, uc103_0, ua103_4, uc103_4, ua103_5, uc103_5, ua103_6, uc103_6, rfl, ul103_0, ge103_0, ul103_4, ge103_4, ul103_5, ge103_5, ul103_6, ge103_6⟩ := k33_openF hMe103
       have hv103_0 := hcc103 0 _ rfl
       rw [Nat.add_zero] at hv103_0
       replace hv103_0 := Option.some.inj (hv103_0.symm.trans hx103_0)
       injection hv103_0 with hva_ hvn_ hvc_
       rw [hva_] at ge103_0
       rw [hvc_] at ul103_0
       have HL103_0 := ak (show Kd.V (Kd.slice 5 (Kd.int .u8)) 25 _ w.heap.size _ _ ((rd_T33 l0_1 x8_1).f0.f0) from Kd.V_mk ul103_0 ge103_0)
       clear hva_ hvn_ hvc_ ge103_0 ul103_0
       have hv103_4 := hcc103 4 _ rfl
       rw [add_field _ _ 4 (by omega)] at hv103_4
       replace hv103_4 := Option.some.inj (hv103_4.symm.trans hx103_4)
       injection hv103_4 with hva_ hvn_ hvc_
       rw [hva_] at ge103_4
       rw [hvc_] at ul103_4
       have HL103_4 := ak (show Kd.V (Kd.slice 5 (Kd.int .u8)) 25 _ w.heap.size _ _ ((rd_T33 l0_1 x8_1).f4.f0) from Kd.V_mk ul103_4 ge103_4)
       clear hva_ hvn_ hvc_ ge103_4 ul103_4
       have hv103_5 := hcc103 5 _ rfl
       rw [add_field _ _ 5 (by omega)] at hv103_5
       replace hv103_5 := Option.some.inj (hv103_5.symm.trans hx103_5)
       injection hv103_5 with hva_ hvn_ hvc_
       rw [hva_] at ge103_5
       rw [hvc_] at ul103_5
       have HL103_5 := ak (show Kd.V (Kd.int .u8) 5 _ w.heap.size _ _ ((rd_T33 l0_1 x8_1).f5) from Kd.V_mk ul103_5 ge103_5)
       clear hva_ hvn_ hvc_ ge103_5 ul103_5
       have hv103_6 := hcc103 6 _ rfl
       rw [add_field _ _ 6 (by omega)] at hv103_6
       replace hv103_6 := Option.some.inj (hv103_6.symm.trans hx103_6)
       injection hv103_6 with hva_ hvn_ hvc_
       rw [hva_] at ge103_6
       rw [hvc_] at ul103_6
       have HL103_6 := ak (show Kd.V (Kd.int .i64) 3 _ w.heap.size _ _ ((rd_T33 l0_1 x8_1).f6) from Kd.V_mk ul103_6 ge103_6)
       clear hva_ hvn_ hvc_ ge103_6 ul103_6 hcc103 hce103
       have HR103_0 := ak hi103_0
       have HC103_0 := ak hl103_0
       clear hi103_0 hl103_0
       have HR103_4 := ak hi103_4
       have HC103_4 := ak hl103_4
       clear hi103_4 hl103_4
       have HR103_5 := ak hi103_5
       have HC103_5 := ak hl103_5
       clear hi103_5 hl103_5
       have HR103_6 := ak hi103_6
       have HC103_6 := ak hl103_6
       clear hi103_6 hl103_6
       replace p103 := eq_true p103
       replace q103 := eq_true q103
       refine start_ (n := 23) (S := fun w' => w'.cell? ⟨gb101, 0, none⟩ = some (.slice A0_0 l0_0.length c0_0) ∧ w'.cell? ⟨gb101, 1, none⟩ = some (.slice (some ad103) l0_1.length c0_1) ∧ w'.cell? ⟨gb102, 0, none⟩ = some (.slice A1_0 l1_0.length c1_0) ∧ w'.cell? (ad103.add ((x8_1).toNat * 7)) = some (.slice A103_0 ((rd_T33 l0_1 x8_1).f0.f0).length c103_0) ∧ w'.cell? ⟨(ad103.add ((x8_1).toNat * 7)).block, (ad103.add ((x8_1).toNat * 7)).off + 1, none⟩ = some (.int .i64 ((rd_T33 l0_1 x8_1).f1)) ∧ w'.cell? ⟨(ad103.add ((x8_1).toNat * 7)).block, (ad103.add ((x8_1).toNat * 7)).off + 2, none⟩ = some (.int .i64 ((rd_T33 l0_1 x8_1).f2)) ∧ w'.cell? ⟨(ad103.add ((x8_1).toNat * 7)).block, (ad103.add ((x8_1).toNat * 7)).off + 3, none⟩ = some (.int .i64 ((rd_T33 l0_1 x8_1).f3)) ∧ w'.cell? ⟨(ad103.add ((x8_1).toNat * 7)).block, (ad103.add ((x8_1).toNat * 7)).off + 4, none⟩ = some (.slice A103_4 ((rd_T33 l0_1 x8_1).f4.f0).length c103_4) ∧ w'.cell? ⟨(ad103.add ((x8_1).toNat * 7)).block, (ad103.add ((x8_1).toNat * 7)).off + 5, none⟩ = some (.slice A103_5 ((rd_T33 l0_1 x8_1).f5).length c103_5) ∧ w'.cell? ⟨(ad103.add ((x8_1).toNat * 7)).block, (ad103.add ((x8_1).toNat * 7)).off + 6, none⟩ = some (.slice A103_6 ((rd_T33 l0_1 x8_1).f6).length c103_6)) (ds := []) (bA 23 0) (by kernel_rfl) rfl rfl kq (fun hHeld => ?_); refine with_tabW spec_l5all.tab5 spec_l5all.bits5 (fun HT_ HW_ => ?_)
       generalize wr.drew = w14 at HO_7 HO_102001 BK101 BK102 HB HL103_0 HL103_4 HL103_5 HL103_6 HR103_0 HR103_4 HR103_5 HR103_6 hx103_0 hx103_1 hx103_2 hx103_3 hx103_4 hx103_5 hx103_6 hHeld ⊢
       refine pu HT_ 0 ?_
       refine pu HT_ 2 ?_
       refine ta HT_ HW_ hHeld 1 ?_
       refine pu HT_ 3 ?_
       refine pu HT_ 4 ?_
       refine ta HT_ HW_ hHeld 5 ?_
       refine ta HT_ HW_ hHeld 6 ?_
       refine on HT_ 7 (fun K hK => ?_)
       refine gsG Try.func98 (spec_l2cmp.calls k1 _ _ ((rd_T33 l0_1 x8_1).f0.f0) _ _ l1_0 t104 _ ?side1 HC103_0.out (cv HR1_0 HB) HC1_0.out A8.out) ?_
       (case side1 => repeat (first | exact (by repeat (first | (with_reducible exact HR103_0.out) | (with_reducible refine Kd.C_alloc ?_ _) | (with_reducible refine Kd.C_drewN ?_ _) | (with_reducible refine Kd.C_drew ?_) | exact HR103_0.out)) | (with_reducible refine Kd.C_alloc ?_ _) | (with_reducible refine Kd.C_drewN ?_ _) | (with_reducible refine Kd.C_drew ?_)))
       rintro e w15 ⟨rfl, hb⟩
       have HS3_ := (hb.cell (World.block_lt_of_cell? _ _ (hHeld.2.2.2.1))).trans (hHeld.2.2.2.1)
       have HS4_ := (hb.cell (World.block_lt_of_cell? _ _ (hHeld.2.2.2.2.1))).trans (hHeld.2.2.2.2.1)
       have HS5_ := (hb.cell (World.block_lt_of_cell? _ _ (hHeld.2.2.2.2.2.1))).trans (hHeld.2.2.2.2.2.1)
       have HS6_ := (hb.cell (World.block_lt_of_cell? _ _ (hHeld.2.2.2.2.2.2.1))).trans (hHeld.2.2.2.2.2.2.1)
       have HS7_ := (hb.cell (World.block_lt_of_cell? _ _ (hHeld.2.2.2.2.2.2.2.1))).trans (hHeld.2.2.2.2.2.2.2.1)
       have HS8_ := (hb.cell (World.block_lt_of_cell? _ _ (hHeld.2.2.2.2.2.2.2.2.1))).trans (hHeld.2.2.2.2.2.2.2.2.1)
       have HS9_ := (hb.cell (World.block_lt_of_cell? _ _ (hHeld.2.2.2.2.2.2.2.2.2))).trans (hHeld.2.2.2.2.2.2.2.2.2)
       refine ⟨_, rfl, ?_⟩
       replace HO_7 := ak (Kd.N_below (nw HO_7.out) hb)
       replace HO_102001 := ak (Kd.V_below (vw HO_102001.out) hb)
       replace HL103_0 := ak (Kd.V_below (vw HL103_0.out) hb)
       replace HL103_4 := ak (Kd.V_below (vw HL103_4.out) hb)
       replace HL103_5 := ak (Kd.V_below (vw HL103_5.out) hb)
       replace HL103_6 := ak (Kd.V_below (vw HL103_6.out) hb)
       replace BK101 := b1 BK101 hb
       replace BK102 := b1 BK102 hb
       replace HR103_0 := ak (Kd.C_below (by repeat (first | (with_reducible exact HR103_0.out) | (with_reducible refine Kd.C_alloc ?_ _) | (with_reducible refine Kd.C_drewN ?_ _) | (with_reducible refine Kd.C_drew ?_) | exact HR103_0.out)) hb)
       replace HR103_4 := ak (Kd.C_below (by repeat (first | (with_reducible exact HR103_4.out) | (with_reducible refine Kd.C_alloc ?_ _) | (with_reducible refine Kd.C_drewN ?_ _) | (with_reducible refine Kd.C_drew ?_) | exact HR103_4.out)) hb)
       replace HR103_5 := ak (Kd.C_below (by repeat (first | (with_reducible exact HR103_5.out) | (with_reducible refine Kd.C_alloc ?_ _) | (with_reducible refine Kd.C_drewN ?_ _) | (with_reducible refine Kd.C_drew ?_) | exact HR103_5.out)) hb)
       replace HR103_6 := ak (Kd.C_below (by repeat (first | (with_reducible exact HR103_6.out) | (with_reducible refine Kd.C_alloc ?_ _) | (with_reducible refine Kd.C_drewN ?_ _) | (with_reducible refine Kd.C_drew ?_) | exact HR103_6.out)) hb)
       replace HB := b2s bs hb
       refine hK.out _ _ kp (fun hHeld => ?_)
       (try clear hb)
       (try clear hk)
       clear hK K
       refine norm_ (a' := ?_) ?_ ?_; rotate_left; go_simp; rfl
       refine pu HT_ 8 ?_
       refine pu HT_ 9 ?_
       refine pu HT_ 10 ?_
       refine pu HT_ 11 ?_
       refine pu HT_ 12 ?_
       refine sk HT_ 13 ?_
       refine sk HT_ 14 ?_
       refine sk HT_ 15 ?_
       refine sk HT_ 16 ?_
       refine sk HT_ 17 ?_
       refine sk HT_ 18 ?_
       refine sk HT_ 19 ?_
       refine sk HT_ 20 ?_
       refine pu HT_ 21 ?_
       refine pu HT_ 22 ?_
       refine done_ (done_of HT_.out (by kernel_rfl)) ?_
       (try clear hHeld); (try clear HS3_); (try clear HS4_); (try clear HS5_); (try clear HS6_); (try clear HS7_); (try clear HS8_); (try clear HS9_); (try clear HS10_)
       obtain ⟨hcz16_0, hcz16_1, hfz16_0, hfz16_1⟩ := cells2 BK101.out
       have p105 : 0 ≤ (x8_1 : Int) := of_decide_eq_true (by first | (with_reducible assumption) | assumption)
       have q105 : x8_1 < (l0_1.length : Int) := of_decide_eq_true (by first | (with_reducible assumption) | assumption)
       obtain ⟨ad105, A105_0, c105_0, A105_4, c105_4, A105_5, c105_5, A105_6, c105_6, e105, hx105_0, hx105_1, hx105_2, hx105_3, hx105_4, hx105_5, hx105_6, hl105_0, hi105_0, hl105_4, hi105_4, hl105_5, hi105_5, hl105_6, hi105_6⟩ := at_T33 (Kd.V_reads' HO_102001.out).2.2 x8_1 p105 q105
       obtain rfl : ad103 = ad105 := (by injection e105)
       obtain ⟨ce105, hce105, hMe105, hcc105⟩ := Kd.V_get HO_102001.out z33 x8_1 p105 (by first | exact q105 | exact of_decide_eq_true (by first | (with_reducible assumption) | assumption) | (have e_ := (Kd.V_reads' HO_102001.out).1; omega))
       obtain ⟨ua105_0, uc105_0, ua105_4, uc105_4, ua105_5, uc105_5, ua105_6, uc105_6, rfl, ul105_0, ge105_0, ul105_4, ge105_4, ul105_5, ge105_5, ul105_6, ge105_6⟩ := k33_openF hMe105
       have hv105_0 := hcc105 0 _ rfl
       rw [Nat.add_zero] at hv105_0
       replace hv105_0 := Option.some.inj (hv105_0.symm.trans hx105_0)
       injection hv105_0 with hva_ hvn_ hvc_
       rw [hva_] at ge105_0
       rw [hvc_] at ul105_0
       have HL105_0 := ak (show Kd.V (Kd.slice 5 (Kd.int .u8)) 25 _ w.heap.size _ _ ((rd_T33 l0_1 x8_1).f0.f0) from Kd.V_mk ul105_0 ge105_0)
       clear hva_ hvn_ hvc_ ge105_0 ul105_0
       have hv105_4 := hcc105 4 _ rfl
       rw [add_field _ _ 4 (by omega)] at hv105_4
       replace hv105_4 := Option.some.inj (hv105_4.symm.trans hx105_4)
       injection hv105_4 with hva_ hvn_ hvc_
       rw [hva_] at ge105_4
       rw [hvc_] at ul105_4
       have HL105_4 := ak (show Kd.V (Kd.slice 5 (Kd.int .u8)) 25 _ w.heap.size _ _ ((rd_T33 l0_1 x8_1).f4.f0) from Kd.V_mk ul105_4 ge105_4)
       clear hva_ hvn_ hvc_ ge105_4 ul105_4
       have hv105_5 := hcc105 5 _ rfl
       rw [add_field _ _ 5 (by omega)] at hv105_5
       replace hv105_5 := Option.some.inj (hv105_5.symm.trans hx105_5)
       injection hv105_5 with hva_ hvn_ hvc_
       rw [hva_] at ge105_5
       rw [hvc_] at ul105_5
       have HL105_5 := ak (show Kd.V (Kd.int .u8) 5 _ w.heap.size _ _ ((rd_T33 l0_1 x8_1).f5) from Kd.V_mk ul105_5 ge105_5)
       clear hva_ hvn_ hvc_ ge105_5 ul105_5
       have hv105_6 := hcc105 6 _ rfl
       rw [add_field _ _ 6 (by omega)] at hv105_6
       replace hv105_6 := Option.some.inj (hv105_6.symm.trans hx105_6)
       injection hv105_6 with hva_ hvn_ hvc_
       rw [hva_] at ge105_6
       rw [hvc_] at ul105_6
       have HL105_6 := ak (show Kd.V (Kd.int .i64) 3 _ w.heap.size _ _ ((rd_T33 l0_1 x8_1).f6) from Kd.V_mk ul105_6 ge105_6)
       clear hva_ hvn_ hvc_ ge105_6 ul105_6 hcc105 hce105
       have HR105_0 := ak hi105_0
       have HC105_0 := ak hl105_0
       clear hi105_0 hl105_0
       have HR105_4 := ak hi105_4
       have HC105_4 := ak hl105_4
       clear hi105_4 hl105_4
       have HR105_5 := ak hi105_5
       have HC105_5 := ak hl105_5
       clear hi105_5 hl105_5
       have HR105_6 := ak hi105_6
       have HC105_6 := ak hl105_6
       clear hi105_6 hl105_6
       replace p105 := eq_true p105
       replace q105 := eq_true q105
       try go_wp2_with (((with_reducible refine gate_builtin (b := .append) (xs := #[.tmp 39, .tmp 45]) rfl ?_);at_builtin;refine Kd.N_append k33 (w0 := w) w.heap.size rfl (.tmp 39) (.tmp 45) 57 33 (.agg #[(.slice none 0 0), (.int .i64 0), (.int .i64 0), (.int .i64 0), (.slice none 0 0), (.slice none 0 0), (.slice none 0 0)]) 120 rfl Try.underlying57 info33 rfl (by decide) (by omega) u7 x7_1 (⟨(⟨(rd_T33 l0_1 x8_1).f0.f0⟩ : S31), (rd_T33 l0_1 x8_1).f1, (rd_T33 l0_1 x8_1).f2, (rd_T33 l0_1 x8_1).f3, (⟨(rd_T33 l0_1 x8_1).f4.f0⟩ : S31), (rd_T33 l0_1 x8_1).f5, (rd_T33 l0_1 x8_1).f6⟩ : S33) [.slice A105_0 ((rd_T33 l0_1 x8_1).f0.f0).length c105_0, .int .i64 ((rd_T33 l0_1 x8_1).f1), .int .i64 ((rd_T33 l0_1 x8_1).f2), .int .i64 ((rd_T33 l0_1 x8_1).f3), .slice A105_4 ((rd_T33 l0_1 x8_1).f4.f0).length c105_4, .slice A105_5 ((rd_T33 l0_1 x8_1).f5).length c105_5, .slice A105_6 ((rd_T33 l0_1 x8_1).f6).length c105_6] (fun k_ => (P0_1_ k_ ∨ w.heap.size ≤ k_) ∧ k_ ≠ gb101 ∧ k_ ≠ gb102) (fun k_ => ((fun k_ => (P0_1_ k_ ∨ w.heap.size ≤ k_) ∧ k_ ≠ gb101 ∧ k_ ≠ gb102)) k_ ∧ some k_ ≠ (u7 : Value).ownBlock) rfl rfl ?aP (fun _ hk => hk) ?aF ?aO ?aB ?aS ?aL ?_;(case aP => exact (k33_mkF _ _ (⟨(⟨(rd_T33 l0_1 x8_1).f0.f0⟩ : S31), (rd_T33 l0_1 x8_1).f1, (rd_T33 l0_1 x8_1).f2, (rd_T33 l0_1 x8_1).f3, (⟨(rd_T33 l0_1 x8_1).f4.f0⟩ : S31), (rd_T33 l0_1 x8_1).f5, (rd_T33 l0_1 x8_1).f6⟩ : S33) (Kd.V_reads' (Kd.V_mono (ok' := (fun k_ => ((fun k_ => (P0_1_ k_ ∨ w.heap.size ≤ k_) ∧ k_ ≠ gb101 ∧ k_ ≠ gb102)) k_ ∧ some k_ ≠ (u7 : Value).ownBlock)) (HL105_0.out) (fun k_ hk => ⟨⟨hk.1, ⟨hk.2.2.1, hk.2.2.2⟩⟩, hk.2.1⟩))).2.1 (Kd.V_F (Kd.V_mono (ok' := (fun k_ => ((fun k_ => (P0_1_ k_ ∨ w.heap.size ≤ k_) ∧ k_ ≠ gb101 ∧ k_ ≠ gb102)) k_ ∧ some k_ ≠ (u7 : Value).ownBlock)) (HL105_0.out) (fun k_ hk => ⟨⟨hk.1, ⟨hk.2.2.1, hk.2.2.2⟩⟩, hk.2.1⟩))) (Kd.V_reads' (Kd.V_mono (ok' := (fun k_ => ((fun k_ => (P0_1_ k_ ∨ w.heap.size ≤ k_) ∧ k_ ≠ gb101 ∧ k_ ≠ gb102)) k_ ∧ some k_ ≠ (u7 : Value).ownBlock)) (HL105_4.out) (fun k_ hk => ⟨⟨hk.1, ⟨hk.2.2.1, hk.2.2.2⟩⟩, hk.2.1⟩))).2.1 (Kd.V_F (Kd.V_mono (ok' := (fun k_ => ((fun k_ => (P0_1_ k_ ∨ w.heap.size ≤ k_) ∧ k_ ≠ gb101 ∧ k_ ≠ gb102)) k_ ∧ some k_ ≠ (u7 : Value).ownBlock)) (HL105_4.out) (fun k_ hk => ⟨⟨hk.1, ⟨hk.2.2.1, hk.2.2.2⟩⟩, hk.2.1⟩))) (Kd.V_reads' (Kd.V_mono (ok' := (fun k_ => ((fun k_ => (P0_1_ k_ ∨ w.heap.size ≤ k_) ∧ k_ ≠ gb101 ∧ k_ ≠ gb102)) k_ ∧ some k_ ≠ (u7 : Value).ownBlock)) (HL105_5.out) (fun k_ hk => ⟨⟨hk.1, ⟨hk.2.2.1, hk.2.2.2⟩⟩, hk.2.1⟩))).2.1 (Kd.V_F (Kd.V_mono (ok' := (fun k_ => ((fun k_ => (P0_1_ k_ ∨ w.heap.size ≤ k_) ∧ k_ ≠ gb101 ∧ k_ ≠ gb102)) k_ ∧ some k_ ≠ (u7 : Value).ownBlock)) (HL105_5.out) (fun k_ hk => ⟨⟨hk.1, ⟨hk.2.2.1, hk.2.2.2⟩⟩, hk.2.1⟩))) (Kd.V_reads' (Kd.V_mono (ok' := (fun k_ => ((fun k_ => (P0_1_ k_ ∨ w.heap.size ≤ k_) ∧ k_ ≠ gb101 ∧ k_ ≠ gb102)) k_ ∧ some k_ ≠ (u7 : Value).ownBlock)) (HL105_6.out) (fun k_ hk => ⟨⟨hk.1, ⟨hk.2.2.1, hk.2.2.2⟩⟩, hk.2.1⟩))).2.1 (Kd.V_F (Kd.V_mono (ok' := (fun k_ => ((fun k_ => (P0_1_ k_ ∨ w.heap.size ≤ k_) ∧ k_ ≠ gb101 ∧ k_ ≠ gb102)) k_ ∧ some k_ ≠ (u7 : Value).ownBlock)) (HL105_6.out) (fun k_ hk => ⟨⟨hk.1, ⟨hk.2.2.1, hk.2.2.2⟩⟩, hk.2.1⟩)))));(case aB => exact bs);(case aF => exact (fun k_ hk => ⟨(.inr (Nat.le_trans (below_size bs) hk)), Kd.freshB (g := gb101) (o := .cells #[.slice A0_0 l0_0.length c0_0, .slice (some ad103) l0_1.length c0_1] 59 (0, 0)) (bk BK101.out) k_ hk, Kd.freshB (g := gb102) (o := .cells #[.slice A1_0 l1_0.length c1_0] 31 (0, 0)) (bk BK102.out) k_ hk⟩));(case aO => exact (nw HO_7.out));(case aS => exact (below_size bs));(case aL => have := LMc11.out; omega);intro v107 w17 ho hb hg hat;rw [← Ny106.out] at ho;replace HO_102001 := ak (Kd.V_afterv (ok := (fun k_ => (P0_1_ k_ ∨ w.heap.size ≤ k_) ∧ k_ ≠ gb101 ∧ k_ ≠ gb102)) (vw (Kd.V_mono HO_102001.out (fun _ hk => ⟨⟨hk.1, ⟨hk.2.2.1, hk.2.2.2⟩⟩, hk.2.1⟩))) hg hat);replace BK101 := ak (blk_grown (bk BK101.out) hg (Kd.N_ne HO_7.out BK101.out (by decide)));replace BK102 := ak (blk_grown (bk BK102.out) hg (Kd.N_ne HO_7.out BK102.out (by decide)));replace HL103_0 := ak (Kd.V_afterv (ok := (fun k_ => (P0_1_ k_ ∨ w.heap.size ≤ k_) ∧ k_ ≠ gb101 ∧ k_ ≠ gb102)) (vw (Kd.V_mono HL103_0.out (fun _ hk => ⟨⟨hk.1, ⟨hk.2.2.1, hk.2.2.2⟩⟩, hk.2.1⟩))) hg hat);replace HL103_4 := ak (Kd.V_afterv (ok := (fun k_ => (P0_1_ k_ ∨ w.heap.size ≤ k_) ∧ k_ ≠ gb101 ∧ k_ ≠ gb102)) (vw (Kd.V_mono HL103_4.out (fun _ hk => ⟨⟨hk.1, ⟨hk.2.2.1, hk.2.2.2⟩⟩, hk.2.1⟩))) hg hat);replace HL103_5 := ak (Kd.V_afterv (ok := (fun k_ => (P0_1_ k_ ∨ w.heap.size ≤ k_) ∧ k_ ≠ gb101 ∧ k_ ≠ gb102)) (vw (Kd.V_mono HL103_5.out (fun _ hk => ⟨⟨hk.1, ⟨hk.2.2.1, hk.2.2.2⟩⟩, hk.2.1⟩))) hg hat);replace HL103_6 := ak (Kd.V_afterv (ok := (fun k_ => (P0_1_ k_ ∨ w.heap.size ≤ k_) ∧ k_ ≠ gb101 ∧ k_ ≠ gb102)) (vw (Kd.V_mono HL103_6.out (fun _ hk => ⟨⟨hk.1, ⟨hk.2.2.1, hk.2.2.2⟩⟩, hk.2.1⟩))) hg hat);replace HL105_0 := ak (Kd.V_afterv (ok := (fun k_ => (P0_1_ k_ ∨ w.heap.size ≤ k_) ∧ k_ ≠ gb101 ∧ k_ ≠ gb102)) (vw (Kd.V_mono HL105_0.out (fun _ hk => ⟨⟨hk.1, ⟨hk.2.2.1, hk.2.2.2⟩⟩, hk.2.1⟩))) hg hat);replace HL105_4 := ak (Kd.V_afterv (ok := (fun k_ => (P0_1_ k_ ∨ w.heap.size ≤ k_) ∧ k_ ≠ gb101 ∧ k_ ≠ gb102)) (vw (Kd.V_mono HL105_4.out (fun _ hk => ⟨⟨hk.1, ⟨hk.2.2.1, hk.2.2.2⟩⟩, hk.2.1⟩))) hg hat);replace HL105_5 := ak (Kd.V_afterv (ok := (fun k_ => (P0_1_ k_ ∨ w.heap.size ≤ k_) ∧ k_ ≠ gb101 ∧ k_ ≠ gb102)) (vw (Kd.V_mono HL105_5.out (fun _ hk => ⟨⟨hk.1, ⟨hk.2.2.1, hk.2.2.2⟩⟩, hk.2.1⟩))) hg hat);replace HL105_6 := ak (Kd.V_afterv (ok := (fun k_ => (P0_1_ k_ ∨ w.heap.size ≤ k_) ∧ k_ ≠ gb101 ∧ k_ ≠ gb102)) (vw (Kd.V_mono HL105_6.out (fun _ hk => ⟨⟨hk.1, ⟨hk.2.2.1, hk.2.2.2⟩⟩, hk.2.1⟩))) hg hat);replace HB := ak (hb);have HO108 := ak (ho);clear HO_7;clear ho hb hg hat))
       go_roundg k1
       case measure => have := HK1.out; omega
       case rel => exact ⟨(y106), (wrap64 (x8_1 + 1)), o2, H', ⟨by have := HK1.out; omega⟩, ⟨by (with_reducible repeat (first | apply Kd.N_alloc | apply Kd.N_drewN | apply Kd.N_drew)); exact HO108.out⟩, ⟨by (with_reducible repeat (first | apply Kd.V_alloc | apply Kd.V_drewN | apply Kd.V_drew)); exact Kd.V_mono HO_102001.out (fun _ hk => ⟨hk.1.1, ⟨hk.2, ⟨hk.1.2.1, hk.1.2.2⟩⟩⟩)⟩, ⟨bk BK101.out⟩, ⟨bk BK102.out⟩, ⟨bs⟩⟩
      ·rw [if_neg c11] at H
       exact absurd H (by simp)
     ·replace H := ie H
      obtain ⟨c18b0, c18b1, H⟩ | ⟨c18b0, c18b1, H⟩ := H
      ·by_cases c19 : x7_1.length < 1172812402961
       ·rw [if_pos c19] at H
        have LMc19 := ak c19
        clear c19
        obtain ⟨y111, hy111⟩ : ∃ y_ : List (S33), y_ = (x7_1 ++ [(⟨(⟨(rd_T33 l0_1 x8_1).f0.f0⟩ : S31), (rd_T33 l0_1 x8_1).f1, (rd_T33 l0_1 x8_1).f2, (rd_T33 l0_1 x8_1).f3, (⟨(rd_T33 l0_1 x8_1).f4.f0⟩ : S31), (rd_T33 l0_1 x8_1).f5, (rd_T33 l0_1 x8_1).f6⟩ : S33)]) := ⟨_, rfl⟩
        (try with_reducible replace H := bnS H)
        (try rw [← hy111] at H)
        have Ny111 := ak hy111
        clear hy111
        have H' := ak H
        clear H
        have hnb20 := NB101_102.out
        have hnc20 := NB102_101.out
        obtain ⟨hcz21_0, hcz21_1, hfz21_0, hfz21_1⟩ := cells2 BK101.out
        try go_wp2
        replace HO_7 := ak (Kd.N_drew HO_7.out)
        replace HO_102001 := ak (Kd.V_drew HO_102001.out)
        replace BK101 := ak (blk_drew BK101.out)
        replace BK102 := ak (blk_drew BK102.out)
        replace HB := ak (below_drew1 HB.out)
        have p103 : 0 ≤ (x8_1 : Int) := of_decide_eq_true (by first | (with_reducible assumption) | assumption)
        have q103 : x8_1 < (l0_1.length : Int) := of_decide_eq_true (by first | (with_reducible assumption) | assumption)
        obtain ⟨ad103, A103_0, c103_0, A103_4, c103_4, A103_5, c103_5, A103_6, c103_6, e103, hx103_0, hx103_1, hx103_2, hx103_3, hx103_4, hx103_5, hx103_6, hl103_0, hi103_0, hl103_4, hi103_4, hl103_5, hi103_5, hl103_6, hi103_6⟩ := at_T33 (Kd.V_reads' HO_102001.out).2.2 x8_1 p103 q103
        cases e103
        obtain ⟨ce103, hce103, hMe103, hcc103⟩ := Kd.V_get HO_102001.out z33 x8_1 p103 (by first | exact q103 | exact of_decide_eq_true (by first | (with_reducible assumption) | assumption) | (have e_ := (Kd.V_reads' HO_102001.out).1; omega))
        obtain ⟨ua103_0, uc103_0, ua103_4, uc103_4, ua103_5, uc103_5, ua103_6, uc103_6, rfl, ul103_0, ge103_0, ul103_4, ge103_4, ul103_5, ge103_5, ul103_6, ge103_6⟩ := k33_openF hMe103
        have hv103_0 := hcc103 0 _ rfl
        rw [Nat.add_zero] at hv103_0
        replace hv103_0 := Option.some.inj (hv103_0.symm.trans hx103_0)
        injection hv103_0 with hva_ hvn_ hvc_
        rw [hva_] at ge103_0
        rw [hvc_] at ul103_0
        have HL103_0 := ak (show Kd.V (Kd.slice 5 (Kd.int .u8)) 25 _ w.heap.size _ _ ((rd_T33 l0_1 x8_1).f0.f0) from Kd.V_mk ul103_0 ge103_0)
        clear hva_ hvn_ hvc_ ge103_0 ul103_0
        have hv103_4 := hcc103 4 _ rfl
        rw [add_field _ _ 4 (by omega)] at hv103_4
        replace hv103_4 := Option.some.inj (hv103_4.symm.trans hx103_4)
        injection hv103_4 with hva_ hvn_ hvc_
        rw [hva_] at ge103_4
        rw [hvc_] at ul103_4
        have HL103_4 := ak (show Kd.V (Kd.slice 5 (Kd.int .u8)) 25 _ w.heap.size _ _ ((rd_T33 l0_1 x8_1).f4.f0) from Kd.V_mk ul103_4 ge103_4)
        clear hva_ hvn_ hvc_ ge103_4 ul103_4
        have hv103_5 := hcc103 5 _ rfl
        rw [add_field _ _ 5 (by omega)] at hv103_5
        replace hv103_5 := Option.some.inj (hv103_5.symm.trans hx103_5)
        injection hv103_5 with hva_ hvn_ hvc_
        rw [hva_] at ge103_5
        rw [hvc_] at ul103_5
        have HL103_5 := ak (show Kd.V (Kd.int .u8) 5 _ w.heap.size _ _ ((rd_T33 l0_1 x8_1).f5) from Kd.V_mk ul103_5 ge103_5)
        clear hva_ hvn_ hvc_ ge103_5 ul103_5
        have hv103_6 := hcc103 6 _ rfl
        rw [add_field _ _ 6 (by omega)] at hv103_6
        replace hv103_6 := Option.some.inj (hv103_6.symm.trans hx103_6)
        injection hv103_6 with hva_ hvn_ hvc_
        rw [hva_] at ge103_6
        rw [hvc_] at ul103_6
        have HL103_6 := ak (show Kd.V (Kd.int .i64) 3 _ w.heap.size _ _ ((rd_T33 l0_1 x8_1).f6) from Kd.V_mk ul103_6 ge103_6)
        clear hva_ hvn_ hvc_ ge103_6 ul103_6 hcc103 hce103
        have HR103_0 := ak hi103_0
        have HC103_0 := ak hl103_0
        clear hi103_0 hl103_0
        have HR103_4 := ak hi103_4
        have HC103_4 := ak hl103_4
        clear hi103_4 hl103_4
        have HR103_5 := ak hi103_5
        have HC103_5 := ak hl103_5
        clear hi103_5 hl103_5
        have HR103_6 := ak hi103_6
        have HC103_6 := ak hl103_6
        clear hi103_6 hl103_6
        replace p103 := eq_true p103
        replace q103 := eq_true q103
        have p109 : 0 ≤ (x8_1 : Int) := of_decide_eq_true (by first | (with_reducible assumption) | assumption)
        have q109 : x8_1 < (l0_1.length : Int) := of_decide_eq_true (by first | (with_reducible assumption) | assumption)
        obtain ⟨ad109, A109_0, c109_0, A109_4, c109_4, A109_5, c109_5, A109_6, c109_6, e109, hx109_0, hx109_1, hx109_2, hx109_3, hx109_4, hx109_5, hx109_6, hl109_0, hi109_0, hl109_4, hi109_4, hl109_5, hi109_5, hl109_6, hi109_6⟩ := at_T33 (Kd.V_reads' HO_102001.out).2.2 x8_1 p109 q109
        obtain rfl : ad103 = ad109 := (by injection e109)
        obtain ⟨ce109, hce109, hMe109, hcc109⟩ := Kd.V_get HO_102001.out z33 x8_1 p109 (by first | exact q109 | exact of_decide_eq_true (by first | (with_reducible assumption) | assumption) | (have e_ := (Kd.V_reads' HO_102001.out).1; omega))
        obtain ⟨ua109_0, uc109_0, ua109_4, uc109_4, ua109_5, uc109_5, ua109_6, uc109_6, rfl, ul109_0, ge109_0, ul109_4, ge109_4, ul109_5, ge109_5, ul109_6, ge109_6⟩ := k33_openF hMe109
        have hv109_0 := hcc109 0 _ rfl
        rw [Nat.add_zero] at hv109_0
        replace hv109_0 := Option.some.inj (hv109_0.symm.trans hx109_0)
        injection hv109_0 with hva_ hvn_ hvc_
        rw [hva_] at ge109_0
        rw [hvc_] at ul109_0
        have HL109_0 := ak (show Kd.V (Kd.slice 5 (Kd.int .u8)) 25 _ w.heap.size _ _ ((rd_T33 l0_1 x8_1).f0.f0) from Kd.V_mk ul109_0 ge109_0)
        clear hva_ hvn_ hvc_ ge109_0 ul109_0
        have hv109_4 := hcc109 4 _ rfl
        rw [add_field _ _ 4 (by omega)] at hv109_4
        replace hv109_4 := Option.some.inj (hv109_4.symm.trans hx109_4)
        injection hv109_4 with hva_ hvn_ hvc_
        rw [hva_] at ge109_4
        rw [hvc_] at ul109_4
        have HL109_4 := ak (show Kd.V (Kd.slice 5 (Kd.int .u8)) 25 _ w.heap.size _ _ ((rd_T33 l0_1 x8_1).f4.f0) from Kd.V_mk ul109_4 ge109_4)
        clear hva_ hvn_ hvc_ ge109_4 ul109_4
        have hv109_5 := hcc109 5 _ rfl
        rw [add_field _ _ 5 (by omega)] at hv109_5
        replace hv109_5 := Option.some.inj (hv109_5.symm.trans hx109_5)
        injection hv109_5 with hva_ hvn_ hvc_
        rw [hva_] at ge109_5
        rw [hvc_] at ul109_5
        have HL109_5 := ak (show Kd.V (Kd.int .u8) 5 _ w.heap.size _ _ ((rd_T33 l0_1 x8_1).f5) from Kd.V_mk ul109_5 ge109_5)
        clear hva_ hvn_ hvc_ ge109_5 ul109_5
        have hv109_6 := hcc109 6 _ rfl
        rw [add_field _ _ 6 (by omega)] at hv109_6
        replace hv109_6 := Option.some.inj (hv109_6.symm.trans hx109_6)
        injection hv109_6 with hva_ hvn_ hvc_
        rw [hva_] at ge109_6
        rw [hvc_] at ul109_6
        have HL109_6 := ak (show Kd.V (Kd.int .i64) 3 _ w.heap.size _ _ ((rd_T33 l0_1 x8_1).f6) from Kd.V_mk ul109_6 ge109_6)
        clear hva_ hvn_ hvc_ ge109_6 ul109_6 hcc109 hce109
        have HR109_0 := ak hi109_0
        have HC109_0 := ak hl109_0
        clear hi109_0 hl109_0
        have HR109_4 := ak hi109_4
        have HC109_4 := ak hl109_4
        clear hi109_4 hl109_4
        have HR109_5 := ak hi109_5
        have HC109_5 := ak hl109_5
        clear hi109_5 hl109_5
        have HR109_6 := ak hi109_6
        have HC109_6 := ak hl109_6
        clear hi109_6 hl109_6
        replace p109 := eq_true p109
        replace q109 := eq_true q109
        refine start_ (n := 23) (S := fun w' => w'.cell? ⟨gb101, 0, none⟩ = some (.slice A0_0 l0_0.length c0_0) ∧ w'.cell? ⟨gb101, 1, none⟩ = some (.slice (some ad103) l0_1.length c0_1) ∧ w'.cell? ⟨gb102, 0, none⟩ = some (.slice A1_0 l1_0.length c1_0) ∧ w'.cell? (ad103.add ((x8_1).toNat * 7)) = some (.slice A103_0 ((rd_T33 l0_1 x8_1).f0.f0).length c103_0) ∧ w'.cell? ⟨(ad103.add ((x8_1).toNat * 7)).block, (ad103.add ((x8_1).toNat * 7)).off + 1, none⟩ = some (.int .i64 ((rd_T33 l0_1 x8_1).f1)) ∧ w'.cell? ⟨(ad103.add ((x8_1).toNat * 7)).block, (ad103.add ((x8_1).toNat * 7)).off + 2, none⟩ = some (.int .i64 ((rd_T33 l0_1 x8_1).f2)) ∧ w'.cell? ⟨(ad103.add ((x8_1).toNat * 7)).block, (ad103.add ((x8_1).toNat * 7)).off + 3, none⟩ = some (.int .i64 ((rd_T33 l0_1 x8_1).f3)) ∧ w'.cell? ⟨(ad103.add ((x8_1).toNat * 7)).block, (ad103.add ((x8_1).toNat * 7)).off + 4, none⟩ = some (.slice A103_4 ((rd_T33 l0_1 x8_1).f4.f0).length c103_4) ∧ w'.cell? ⟨(ad103.add ((x8_1).toNat * 7)).block, (ad103.add ((x8_1).toNat * 7)).off + 5, none⟩ = some (.slice A103_5 ((rd_T33 l0_1 x8_1).f5).length c103_5) ∧ w'.cell? ⟨(ad103.add ((x8_1).toNat * 7)).block, (ad103.add ((x8_1).toNat * 7)).off + 6, none⟩ = some (.slice A103_6 ((rd_T33 l0_1 x8_1).f6).length c103_6) ∧ w'.cell? (ad103.add ((x8_1).toNat * 7)) = some (.slice A109_0 ((rd_T33 l0_1 x8_1).f0.f0).length c109_0) ∧ w'.cell? ⟨(ad103.add ((x8_1).toNat * 7)).block, (ad103.add ((x8_1).toNat * 7)).off + 1, none⟩ = some (.int .i64 ((rd_T33 l0_1 x8_1).f1)) ∧ w'.cell? ⟨(ad103.add ((x8_1).toNat * 7)).block, (ad103.add ((x8_1).toNat * 7)).off + 2, none⟩ = some (.int .i64 ((rd_T33 l0_1 x8_1).f2)) ∧ w'.cell? ⟨(ad103.add ((x8_1).toNat * 7)).block, (ad103.add ((x8_1).toNat * 7)).off + 3, none⟩ = some (.int .i64 ((rd_T33 l0_1 x8_1).f3)) ∧ w'.cell? ⟨(ad103.add ((x8_1).toNat * 7)).block, (ad103.add ((x8_1).toNat * 7)).off + 4, none⟩ = some (.slice A109_4 ((rd_T33 l0_1 x8_1).f4.f0).length c109_4) ∧ w'.cell? ⟨(ad103.add ((x8_1).toNat * 7)).block, (ad103.add ((x8_1).toNat * 7)).off + 5, none⟩ = some (.slice A109_5 ((rd_T33 l0_1 x8_1).f5).length c109_5) ∧ w'.cell? ⟨(ad103.add ((x8_1).toNat * 7)).block, (ad103.add ((x8_1).toNat * 7)).off + 6, none⟩ = some (.slice A109_6 ((rd_T33 l0_1 x8_1).f6).length c109_6)) (ds := []) (bA 23 0) (by kernel_rfl) rfl rfl kq (fun hHeld => ?_); refine with_tabW spec_l5all.tab5 spec_l5all.bits5 (fun HT_ HW_ => ?_)
        generalize wr.drew = w22 at HO_7 HO_102001 BK101 BK102 HB HL103_0 HL103_4 HL103_5 HL103_6 HL109_0 HL109_4 HL109_5 HL109_6 HR103_0 HR103_4 HR103_5 HR103_6 HR109_0 HR109_4 HR109_5 HR109_6 hx103_0 hx103_1 hx103_2 hx103_3 hx103_4 hx103_5 hx103_6 hx109_0 hx109_1 hx109_2 hx109_3 hx109_4 hx109_5 hx109_6 hHeld ⊢
        refine pu HT_ 0 ?_
        refine pu HT_ 2 ?_
        refine ta HT_ HW_ hHeld 1 ?_
        refine pu HT_ 3 ?_
        refine pu HT_ 4 ?_
        refine ta HT_ HW_ hHeld 5 ?_
        refine ta HT_ HW_ hHeld 6 ?_
        refine on HT_ 7 (fun K hK => ?_)
        refine gsG Try.func98 (spec_l2cmp.calls k1 _ _ ((rd_T33 l0_1 x8_1).f0.f0) _ _ l1_0 t104 _ ?side1 HC103_0.out (cv HR1_0 HB) HC1_0.out A8.out) ?_
        (case side1 => repeat (first | exact (by repeat (first | (with_reducible exact HR103_0.out) | (with_reducible refine Kd.C_alloc ?_ _) | (with_reducible refine Kd.C_drewN ?_ _) | (with_reducible refine Kd.C_drew ?_) | exact HR103_0.out)) | (with_reducible refine Kd.C_alloc ?_ _) | (with_reducible refine Kd.C_drewN ?_ _) | (with_reducible refine Kd.C_drew ?_)))
        rintro e w23 ⟨rfl, hb⟩
        have HS3_ := (hb.cell (World.block_lt_of_cell? _ _ (hHeld.2.2.2.1))).trans (hHeld.2.2.2.1)
        have HS4_ := (hb.cell (World.block_lt_of_cell? _ _ (hHeld.2.2.2.2.1))).trans (hHeld.2.2.2.2.1)
        have HS5_ := (hb.cell (World.block_lt_of_cell? _ _ (hHeld.2.2.2.2.2.1))).trans (hHeld.2.2.2.2.2.1)
        have HS6_ := (hb.cell (World.block_lt_of_cell? _ _ (hHeld.2.2.2.2.2.2.1))).trans (hHeld.2.2.2.2.2.2.1)
        have HS7_ := (hb.cell (World.block_lt_of_cell? _ _ (hHeld.2.2.2.2.2.2.2.1))).trans (hHeld.2.2.2.2.2.2.2.1)
        have HS8_ := (hb.cell (World.block_lt_of_cell? _ _ (hHeld.2.2.2.2.2.2.2.2.1))).trans (hHeld.2.2.2.2.2.2.2.2.1)
        have HS9_ := (hb.cell (World.block_lt_of_cell? _ _ (hHeld.2.2.2.2.2.2.2.2.2.1))).trans (hHeld.2.2.2.2.2.2.2.2.2.1)
        have HS10_ := (hb.cell (World.block_lt_of_cell? _ _ (hHeld.2.2.2.2.2.2.2.2.2.2.1))).trans (hHeld.2.2.2.2.2.2.2.2.2.2.1)
        have HS11_ := (hb.cell (World.block_lt_of_cell? _ _ (hHeld.2.2.2.2.2.2.2.2.2.2.2.1))).trans (hHeld.2.2.2.2.2.2.2.2.2.2.2.1)
        have HS12_ := (hb.cell (World.block_lt_of_cell? _ _ (hHeld.2.2.2.2.2.2.2.2.2.2.2.2.1))).trans (hHeld.2.2.2.2.2.2.2.2.2.2.2.2.1)
        have HS13_ := (hb.cell (World.block_lt_of_cell? _ _ (hHeld.2.2.2.2.2.2.2.2.2.2.2.2.2.1))).trans (hHeld.2.2.2.2.2.2.2.2.2.2.2.2.2.1)
        have HS14_ := (hb.cell (World.block_lt_of_cell? _ _ (hHeld.2.2.2.2.2.2.2.2.2.2.2.2.2.2.1))).trans (hHeld.2.2.2.2.2.2.2.2.2.2.2.2.2.2.1)
        have HS15_ := (hb.cell (World.block_lt_of_cell? _ _ (hHeld.2.2.2.2.2.2.2.2.2.2.2.2.2.2.2.1))).trans (hHeld.2.2.2.2.2.2.2.2.2.2.2.2.2.2.2.1)
        have HS16_ := (hb.cell (World.block_lt_of_cell? _ _ (hHeld.2.2.2.2.2.2.2.2.2.2.2.2.2.2.2.2))).trans (hHeld.2.2.2.2.2.2.2.2.2.2.2.2.2.2.2.2)
        refine ⟨_, rfl, ?_⟩
        replace HO_7 := ak (Kd.N_below (nw HO_7.out) hb)
        replace HO_102001 := ak (Kd.V_below (vw HO_102001.out) hb)
        replace HL103_0 := ak (Kd.V_below (vw HL103_0.out) hb)
        replace HL103_4 := ak (Kd.V_below (vw HL103_4.out) hb)
        replace HL103_5 := ak (Kd.V_below (vw HL103_5.out) hb)
        replace HL103_6 := ak (Kd.V_below (vw HL103_6.out) hb)
        replace BK101 := b1 BK101 hb
        replace BK102 := b1 BK102 hb
        replace HR103_0 := ak (Kd.C_below (by repeat (first | (with_reducible exact HR103_0.out) | (with_reducible refine Kd.C_alloc ?_ _) | (with_reducible refine Kd.C_drewN ?_ _) | (with_reducible refine Kd.C_drew ?_) | exact HR103_0.out)) hb)
        replace HR103_4 := ak (Kd.C_below (by repeat (first | (with_reducible exact HR103_4.out) | (with_reducible refine Kd.C_alloc ?_ _) | (with_reducible refine Kd.C_drewN ?_ _) | (with_reducible refine Kd.C_drew ?_) | exact HR103_4.out)) hb)
        replace HR103_5 := ak (Kd.C_below (by repeat (first | (with_reducible exact HR103_5.out) | (with_reducible refine Kd.C_alloc ?_ _) | (with_reducible refine Kd.C_drewN ?_ _) | (with_reducible refine Kd.C_drew ?_) | exact HR103_5.out)) hb)
        replace HR103_6 := ak (Kd.C_below (by repeat (first | (with_reducible exact HR103_6.out) | (with_reducible refine Kd.C_alloc ?_ _) | (with_reducible refine Kd.C_drewN ?_ _) | (with_reducible refine Kd.C_drew ?_) | exact HR103_6.out)) hb)
        replace HB := b2s bs hb
        refine hK.out _ _ kp (fun hHeld => ?_)
        (try clear hb)
        (try clear hk)
        clear hK K
        refine norm_ (a' := ?_) ?_ ?_; rotate_left; go_simp; rfl
        refine pu HT_ 8 ?_
        refine pu HT_ 9 ?_
        refine pu HT_ 10 ?_
        refine pu HT_ 11 ?_
        refine pu HT_ 12 ?_
        refine pu HT_ 13 ?_
        refine pu HT_ 15 ?_
        refine pu HT_ 19 ?_
        refine ta HT_ HW_ hHeld 14 ?_
        refine pu HT_ 16 ?_
        refine pu HT_ 17 ?_
        refine ta HT_ HW_ hHeld 18 ?_
        refine pu HT_ 20 ?_
        refine pu HT_ 21 ?_
        refine pu HT_ 22 ?_
        refine done_ (done_of HT_.out (by kernel_rfl)) ?_
        obtain ⟨hcz24_0, hcz24_1, hfz24_0, hfz24_1⟩ := cells2 BK101.out
        have p110 : 0 ≤ (x8_1 : Int) := of_decide_eq_true (by first | (with_reducible assumption) | assumption)
        have q110 : x8_1 < (l0_1.length : Int) := of_decide_eq_true (by first | (with_reducible assumption) | assumption)
        obtain ⟨ad110, A110_0, c110_0, A110_4, c110_4, A110_5, c110_5, A110_6, c110_6, e110, hx110_0, hx110_1, hx110_2, hx110_3, hx110_4, hx110_5, hx110_6, hl110_0, hi110_0, hl110_4, hi110_4, hl110_5, hi110_5, hl110_6, hi110_6⟩ := at_T33 (Kd.V_reads' HO_102001.out).2.2 x8_1 p110 q110
        obtain rfl : ad103 = ad110 := (by injection e110)
        obtain ⟨ce110, hce110, hMe110, hcc110⟩ := Kd.V_get HO_102001.out z33 x8_1 p110 (by first | exact q110 | exact of_decide_eq_true (by first | (with_reducible assumption) | assumption) | (have e_ := (Kd.V_reads' HO_102001.out).1; omega))
        obtain ⟨ua110_0, uc110_0, ua110_4, uc110_4, ua110_5, uc110_5, ua110_6, uc110_6, rfl, ul110_0, ge110_0, ul110_4, ge110_4, ul110_5, ge110_5, ul110_6, ge110_6⟩ := k33_openF hMe110
        have hv110_0 := hcc110 0 _ rfl
        rw [Nat.add_zero] at hv110_0
        replace hv110_0 := Option.some.inj (hv110_0.symm.trans hx110_0)
        injection hv110_0 with hva_ hvn_ hvc_
        rw [hva_] at ge110_0
        rw [hvc_] at ul110_0
        have HL110_0 := ak (show Kd.V (Kd.slice 5 (Kd.int .u8)) 25 _ w.heap.size _ _ ((rd_T33 l0_1 x8_1).f0.f0) from Kd.V_mk ul110_0 ge110_0)
        clear hva_ hvn_ hvc_ ge110_0 ul110_0
        have hv110_4 := hcc110 4 _ rfl
        rw [add_field _ _ 4 (by omega)] at hv110_4
        replace hv110_4 := Option.some.inj (hv110_4.symm.trans hx110_4)
        injection hv110_4 with hva_ hvn_ hvc_
        rw [hva_] at ge110_4
        rw [hvc_] at ul110_4
        have HL110_4 := ak (show Kd.V (Kd.slice 5 (Kd.int .u8)) 25 _ w.heap.size _ _ ((rd_T33 l0_1 x8_1).f4.f0) from Kd.V_mk ul110_4 ge110_4)
        clear hva_ hvn_ hvc_ ge110_4 ul110_4
        have hv110_5 := hcc110 5 _ rfl
        rw [add_field _ _ 5 (by omega)] at hv110_5
        replace hv110_5 := Option.some.inj (hv110_5.symm.trans hx110_5)
        injection hv110_5 with hva_ hvn_ hvc_
        rw [hva_] at ge110_5
        rw [hvc_] at ul110_5
        have HL110_5 := ak (show Kd.V (Kd.int .u8) 5 _ w.heap.size _ _ ((rd_T33 l0_1 x8_1).f5) from Kd.V_mk ul110_5 ge110_5)
        clear hva_ hvn_ hvc_ ge110_5 ul110_5
        have hv110_6 := hcc110 6 _ rfl
        rw [add_field _ _ 6 (by omega)] at hv110_6
        replace hv110_6 := Option.some.inj (hv110_6.symm.trans hx110_6)
        injection hv110_6 with hva_ hvn_ hvc_
        rw [hva_] at ge110_6
        rw [hvc_] at ul110_6
        have HL110_6 := ak (show Kd.V (Kd.int .i64) 3 _ w.heap.size _ _ ((rd_T33 l0_1 x8_1).f6) from Kd.V_mk ul110_6 ge110_6)
        clear hva_ hvn_ hvc_ ge110_6 ul110_6 hcc110 hce110
        have HR110_0 := ak hi110_0
        have HC110_0 := ak hl110_0
        clear hi110_0 hl110_0
        have HR110_4 := ak hi110_4
        have HC110_4 := ak hl110_4
        clear hi110_4 hl110_4
        have HR110_5 := ak hi110_5
        have HC110_5 := ak hl110_5
        clear hi110_5 hl110_5
        have HR110_6 := ak hi110_6
        have HC110_6 := ak hl110_6
        clear hi110_6 hl110_6
        replace p110 := eq_true p110
        replace q110 := eq_true q110
        have eb_ := Option.some.inj (hx109_0.symm.trans hx103_0)
        injection eb_ with eb_ en_ ec_
        subst eb_
        subst ec_
        clear en_
        have ea_ := Option.some.inj (HS3_.symm.trans hx110_0)
        injection ea_ with ea_ en_ ec_
        subst ea_
        subst ec_
        clear en_
        have eb_ := Option.some.inj (hx109_4.symm.trans hx103_4)
        injection eb_ with eb_ en_ ec_
        subst eb_
        subst ec_
        clear en_
        have ea_ := Option.some.inj (HS7_.symm.trans hx110_4)
        injection ea_ with ea_ en_ ec_
        subst ea_
        subst ec_
        clear en_
        have eb_ := Option.some.inj (hx109_5.symm.trans hx103_5)
        injection eb_ with eb_ en_ ec_
        subst eb_
        subst ec_
        clear en_
        have ea_ := Option.some.inj (HS8_.symm.trans hx110_5)
        injection ea_ with ea_ en_ ec_
        subst ea_
        subst ec_
        clear en_
        have eb_ := Option.some.inj (hx109_6.symm.trans hx103_6)
        injection eb_ with eb_ en_ ec_
        subst eb_
        subst ec_
        clear en_
        have ea_ := Option.some.inj (HS9_.symm.trans hx110_6)
        injection ea_ with ea_ en_ ec_
        subst ea_
        subst ec_
        clear en_
        try go_wp2_with (((with_reducible refine gate_builtin (b := .append) (xs := #[.tmp 39, .tmp 45]) rfl ?_);at_builtin;refine Kd.N_append k33 (w0 := w) w.heap.size rfl (.tmp 39) (.tmp 45) 57 33 (.agg #[(.slice none 0 0), (.int .i64 0), (.int .i64 0), (.int .i64 0), (.slice none 0 0), (.slice none 0 0), (.slice none 0 0)]) 120 rfl Try.underlying57 info33 rfl (by decide) (by omega) u7 x7_1 (⟨(⟨(rd_T33 l0_1 x8_1).f0.f0⟩ : S31), (rd_T33 l0_1 x8_1).f1, (rd_T33 l0_1 x8_1).f2, (rd_T33 l0_1 x8_1).f3, (⟨(rd_T33 l0_1 x8_1).f4.f0⟩ : S31), (rd_T33 l0_1 x8_1).f5, (rd_T33 l0_1 x8_1).f6⟩ : S33) [.slice A109_0 ((rd_T33 l0_1 x8_1).f0.f0).length c109_0, .int .i64 ((rd_T33 l0_1 x8_1).f1), .int .i64 ((rd_T33 l0_1 x8_1).f2), .int .i64 ((rd_T33 l0_1 x8_1).f3), .slice A109_4 ((rd_T33 l0_1 x8_1).f4.f0).length c109_4, .slice A109_5 ((rd_T33 l0_1 x8_1).f5).length c109_5, .slice A109_6 ((rd_T33 l0_1 x8_1).f6).length c109_6] (fun k_ => (P0_1_ k_ ∨ w.heap.size ≤ k_) ∧ k_ ≠ gb101 ∧ k_ ≠ gb102) (fun k_ => ((fun k_ => (P0_1_ k_ ∨ w.heap.size ≤ k_) ∧ k_ ≠ gb101 ∧ k_ ≠ gb102)) k_ ∧ some k_ ≠ (u7 : Value).ownBlock) rfl rfl ?aP (fun _ hk => hk) ?aF ?aO ?aB ?aS ?aL ?_;(case aP => exact (k33_mkF _ _ (⟨(⟨(rd_T33 l0_1 x8_1).f0.f0⟩ : S31), (rd_T33 l0_1 x8_1).f1, (rd_T33 l0_1 x8_1).f2, (rd_T33 l0_1 x8_1).f3, (⟨(rd_T33 l0_1 x8_1).f4.f0⟩ : S31), (rd_T33 l0_1 x8_1).f5, (rd_T33 l0_1 x8_1).f6⟩ : S33) (Kd.V_reads' (Kd.V_mono (ok' := (fun k_ => ((fun k_ => (P0_1_ k_ ∨ w.heap.size ≤ k_) ∧ k_ ≠ gb101 ∧ k_ ≠ gb102)) k_ ∧ some k_ ≠ (u7 : Value).ownBlock)) (HL110_0.out) (fun k_ hk => ⟨⟨hk.1, ⟨hk.2.2.1, hk.2.2.2⟩⟩, hk.2.1⟩))).2.1 (Kd.V_F (Kd.V_mono (ok' := (fun k_ => ((fun k_ => (P0_1_ k_ ∨ w.heap.size ≤ k_) ∧ k_ ≠ gb101 ∧ k_ ≠ gb102)) k_ ∧ some k_ ≠ (u7 : Value).ownBlock)) (HL110_0.out) (fun k_ hk => ⟨⟨hk.1, ⟨hk.2.2.1, hk.2.2.2⟩⟩, hk.2.1⟩))) (Kd.V_reads' (Kd.V_mono (ok' := (fun k_ => ((fun k_ => (P0_1_ k_ ∨ w.heap.size ≤ k_) ∧ k_ ≠ gb101 ∧ k_ ≠ gb102)) k_ ∧ some k_ ≠ (u7 : Value).ownBlock)) (HL110_4.out) (fun k_ hk => ⟨⟨hk.1, ⟨hk.2.2.1, hk.2.2.2⟩⟩, hk.2.1⟩))).2.1 (Kd.V_F (Kd.V_mono (ok' := (fun k_ => ((fun k_ => (P0_1_ k_ ∨ w.heap.size ≤ k_) ∧ k_ ≠ gb101 ∧ k_ ≠ gb102)) k_ ∧ some k_ ≠ (u7 : Value).ownBlock)) (HL110_4.out) (fun k_ hk => ⟨⟨hk.1, ⟨hk.2.2.1, hk.2.2.2⟩⟩, hk.2.1⟩))) (Kd.V_reads' (Kd.V_mono (ok' := (fun k_ => ((fun k_ => (P0_1_ k_ ∨ w.heap.size ≤ k_) ∧ k_ ≠ gb101 ∧ k_ ≠ gb102)) k_ ∧ some k_ ≠ (u7 : Value).ownBlock)) (HL110_5.out) (fun k_ hk => ⟨⟨hk.1, ⟨hk.2.2.1, hk.2.2.2⟩⟩, hk.2.1⟩))).2.1 (Kd.V_F (Kd.V_mono (ok' := (fun k_ => ((fun k_ => (P0_1_ k_ ∨ w.heap.size ≤ k_) ∧ k_ ≠ gb101 ∧ k_ ≠ gb102)) k_ ∧ some k_ ≠ (u7 : Value).ownBlock)) (HL110_5.out) (fun k_ hk => ⟨⟨hk.1, ⟨hk.2.2.1, hk.2.2.2⟩⟩, hk.2.1⟩))) (Kd.V_reads' (Kd.V_mono (ok' := (fun k_ => ((fun k_ => (P0_1_ k_ ∨ w.heap.size ≤ k_) ∧ k_ ≠ gb101 ∧ k_ ≠ gb102)) k_ ∧ some k_ ≠ (u7 : Value).ownBlock)) (HL110_6.out) (fun k_ hk => ⟨⟨hk.1, ⟨hk.2.2.1, hk.2.2.2⟩⟩, hk.2.1⟩))).2.1 (Kd.V_F (Kd.V_mono (ok' := (fun k_ => ((fun k_ => (P0_1_ k_ ∨ w.heap.size ≤ k_) ∧ k_ ≠ gb101 ∧ k_ ≠ gb102)) k_ ∧ some k_ ≠ (u7 : Value).ownBlock)) (HL110_6.out) (fun k_ hk => ⟨⟨hk.1, ⟨hk.2.2.1, hk.2.2.2⟩⟩, hk.2.1⟩)))));(case aB => exact bs);(case aF => exact (fun k_ hk => ⟨(.inr (Nat.le_trans (below_size bs) hk)), Kd.freshB (g := gb101) (o := .cells #[.slice A0_0 l0_0.length c0_0, .slice (some ad103) l0_1.length c0_1] 59 (0, 0)) (bk BK101.out) k_ hk, Kd.freshB (g := gb102) (o := .cells #[.slice A1_0 l1_0.length c1_0] 31 (0, 0)) (bk BK102.out) k_ hk⟩));(case aO => exact (nw HO_7.out));(case aS => exact (below_size bs));(case aL => have := LMc19.out; omega);intro v112 w25 ho hb hg hat;rw [← Ny111.out] at ho;replace HO_102001 := ak (Kd.V_afterv (ok := (fun k_ => (P0_1_ k_ ∨ w.heap.size ≤ k_) ∧ k_ ≠ gb101 ∧ k_ ≠ gb102)) (vw (Kd.V_mono HO_102001.out (fun _ hk => ⟨⟨hk.1, ⟨hk.2.2.1, hk.2.2.2⟩⟩, hk.2.1⟩))) hg hat);replace BK101 := ak (blk_grown (bk BK101.out) hg (Kd.N_ne HO_7.out BK101.out (by decide)));replace BK102 := ak (blk_grown (bk BK102.out) hg (Kd.N_ne HO_7.out BK102.out (by decide)));replace HL103_0 := ak (Kd.V_afterv (ok := (fun k_ => (P0_1_ k_ ∨ w.heap.size ≤ k_) ∧ k_ ≠ gb101 ∧ k_ ≠ gb102)) (vw (Kd.V_mono HL103_0.out (fun _ hk => ⟨⟨hk.1, ⟨hk.2.2.1, hk.2.2.2⟩⟩, hk.2.1⟩))) hg hat);replace HL103_4 := ak (Kd.V_afterv (ok := (fun k_ => (P0_1_ k_ ∨ w.heap.size ≤ k_) ∧ k_ ≠ gb101 ∧ k_ ≠ gb102)) (vw (Kd.V_mono HL103_4.out (fun _ hk => ⟨⟨hk.1, ⟨hk.2.2.1, hk.2.2.2⟩⟩, hk.2.1⟩))) hg hat);replace HL103_5 := ak (Kd.V_afterv (ok := (fun k_ => (P0_1_ k_ ∨ w.heap.size ≤ k_) ∧ k_ ≠ gb101 ∧ k_ ≠ gb102)) (vw (Kd.V_mono HL103_5.out (fun _ hk => ⟨⟨hk.1, ⟨hk.2.2.1, hk.2.2.2⟩⟩, hk.2.1⟩))) hg hat);replace HL103_6 := ak (Kd.V_afterv (ok := (fun k_ => (P0_1_ k_ ∨ w.heap.size ≤ k_) ∧ k_ ≠ gb101 ∧ k_ ≠ gb102)) (vw (Kd.V_mono HL103_6.out (fun _ hk => ⟨⟨hk.1, ⟨hk.2.2.1, hk.2.2.2⟩⟩, hk.2.1⟩))) hg hat);replace HL110_0 := ak (Kd.V_afterv (ok := (fun k_ => (P0_1_ k_ ∨ w.heap.size ≤ k_) ∧ k_ ≠ gb101 ∧ k_ ≠ gb102)) (vw (Kd.V_mono HL110_0.out (fun _ hk => ⟨⟨hk.1, ⟨hk.2.2.1, hk.2.2.2⟩⟩, hk.2.1⟩))) hg hat);replace HL110_4 := ak (Kd.V_afterv (ok := (fun k_ => (P0_1_ k_ ∨ w.heap.size ≤ k_) ∧ k_ ≠ gb101 ∧ k_ ≠ gb102)) (vw (Kd.V_mono HL110_4.out (fun _ hk => ⟨⟨hk.1, ⟨hk.2.2.1, hk.2.2.2⟩⟩, hk.2.1⟩))) hg hat);replace HL110_5 := ak (Kd.V_afterv (ok := (fun k_ => (P0_1_ k_ ∨ w.heap.size ≤ k_) ∧ k_ ≠ gb101 ∧ k_ ≠ gb102)) (vw (Kd.V_mono HL110_5.out (fun _ hk => ⟨⟨hk.1, ⟨hk.2.2.1, hk.2.2.2⟩⟩, hk.2.1⟩))) hg hat);replace HL110_6 := ak (Kd.V_afterv (ok := (fun k_ => (P0_1_ k_ ∨ w.heap.size ≤ k_) ∧ k_ ≠ gb101 ∧ k_ ≠ gb102)) (vw (Kd.V_mono HL110_6.out (fun _ hk => ⟨⟨hk.1, ⟨hk.2.2.1, hk.2.2.2⟩⟩, hk.2.1⟩))) hg hat);replace HB := ak (hb);have HO113 := ak (ho);clear HO_7;clear ho hb hg hat))
        go_roundg k1
        case measure => have := HK1.out; omega
        case rel => exact ⟨(y111), (wrap64 (x8_1 + 1)), o2, H', ⟨by have := HK1.out; omega⟩, ⟨by (with_reducible repeat (first | apply Kd.N_alloc | apply Kd.N_drewN | apply Kd.N_drew)); exact HO113.out⟩, ⟨by (with_reducible repeat (first | apply Kd.V_alloc | apply Kd.V_drewN | apply Kd.V_drew)); exact Kd.V_mono HO_102001.out (fun _ hk => ⟨hk.1.1, ⟨hk.2, ⟨hk.1.2.1, hk.1.2.2⟩⟩⟩)⟩, ⟨bk BK101.out⟩, ⟨bk BK102.out⟩, ⟨bs⟩⟩
       ·rw [if_neg c19] at H
        exact absurd H (by simp)
      ·have H' := ak H
       clear H
       have hnb26 := NB101_102.out
       have hnc26 := NB102_101.out
       obtain ⟨hcz27_0, hcz27_1, hfz27_0, hfz27_1⟩ := cells2 BK101.out
       try go_wp2
       replace HO_7 := ak (Kd.N_drew HO_7.out)
       replace HO_102001 := ak (Kd.V_drew HO_102001.out)
       replace BK101 := ak (blk_drew BK101.out)
       replace BK102 := ak (blk_drew BK102.out)
       replace HB := ak (below_drew1 HB.out)
       have p103 : 0 ≤ (x8_1 : Int) := of_decide_eq_true (by first | (with_reducible assumption) | assumption)
       have q103 : x8_1 < (l0_1.length : Int) := of_decide_eq_true (by first | (with_reducible assumption) | assumption)
       obtain ⟨ad103, A103_0, c103_0, A103_4, c103_4, A103_5, c103_5, A103_6, c103_6, e103, hx103_0, hx103_1, hx103_2, hx103_3, hx103_4, hx103_5, hx103_6, hl103_0, hi103_0, hl103_4, hi103_4, hl103_5, hi103_5, hl103_6, hi103_6⟩ := at_T33 (Kd.V_reads' HO_102001.out).2.2 x8_1 p103 q103
       cases e103
       obtain ⟨ce103, hce103, hMe103, hcc103⟩ := Kd.V_get HO_102001.out z33 x8_1 p103 (by first | exact q103 | exact of_decide_eq_true (by first | (with_reducible assumption) | assumption) | (have e_ := (Kd.V_reads' HO_102001.out).1; omega))
       obtain ⟨ua103_0, uc103_0, ua103_4, uc103_4, ua103_5, uc103_5, ua103_6, uc103_6, rfl, ul103_0, ge103_0, ul103_4, ge103_4, ul103_5, ge103_5, ul103_6, ge103_6⟩ := k33_openF hMe103
       have hv103_0 := hcc103 0 _ rfl
       rw [Nat.add_zero] at hv103_0
       replace hv103_0 := Option.some.inj (hv103_0.symm.trans hx103_0)
       injection hv103_0 with hva_ hvn_ hvc_
       rw [hva_] at ge103_0
       rw [hvc_] at ul103_0
       have HL103_0 := ak (show Kd.V (Kd.slice 5 (Kd.int .u8)) 25 _ w.heap.size _ _ ((rd_T33 l0_1 x8_1).f0.f0) from Kd.V_mk ul103_0 ge103_0)
       clear hva_ hvn_ hvc_ ge103_0 ul103_0
       have hv103_4 := hcc103 4 _ rfl
       rw [add_field _ _ 4 (by omega)] at hv103_4
       replace hv103_4 := Option.some.inj (hv103_4.symm.trans hx103_4)
       injection hv103_4 with hva_ hvn_ hvc_
       rw [hva_] at ge103_4
       rw [hvc_] at ul103_4
       have HL103_4 := ak (show Kd.V (Kd.slice 5 (Kd.int .u8)) 25 _ w.heap.size _ _ ((rd_T33 l0_1 x8_1).f4.f0) from Kd.V_mk ul103_4 ge103_4)
       clear hva_ hvn_ hvc_ ge103_4 ul103_4
       have hv103_5 := hcc103 5 _ rfl
       rw [add_field _ _ 5 (by omega)] at hv103_5
       replace hv103_5 := Option.some.inj (hv103_5.symm.trans hx103_5)
       injection hv103_5 with hva_ hvn_ hvc_
       rw [hva_] at ge103_5
       rw [hvc_] at ul103_5
       have HL103_5 := ak (show Kd.V (Kd.int .u8) 5 _ w.heap.size _ _ ((rd_T33 l0_1 x8_1).f5) from Kd.V_mk ul103_5 ge103_5)
       clear hva_ hvn_ hvc_ ge103_5 ul103_5
       have hv103_6 := hcc103 6 _ rfl
       rw [add_field _ _ 6 (by omega)] at hv103_6
       replace hv103_6 := Option.some.inj (hv103_6.symm.trans hx103_6)
       injection hv103_6 with hva_ hvn_ hvc_
       rw [hva_] at ge103_6
       rw [hvc_] at ul103_6
       have HL103_6 := ak (show Kd.V (Kd.int .i64) 3 _ w.heap.size _ _ ((rd_T33 l0_1 x8_1).f6) from Kd.V_mk ul103_6 ge103_6)
       clear hva_ hvn_ hvc_ ge103_6 ul103_6 hcc103 hce103
       have HR103_0 := ak hi103_0
       have HC103_0 := ak hl103_0
       clear hi103_0 hl103_0
       have HR103_4 := ak hi103_4
       have HC103_4 := ak hl103_4
       clear hi103_4 hl103_4
       have HR103_5 := ak hi103_5
       have HC103_5 := ak hl103_5
       clear hi103_5 hl103_5
       have HR103_6 := ak hi103_6
       have HC103_6 := ak hl103_6
       clear hi103_6 hl103_6
       replace p103 := eq_true p103
       replace q103 := eq_true q103
       have p109 : 0 ≤ (x8_1 : Int) := of_decide_eq_true (by first | (with_reducible assumption) | assumption)
       have q109 : x8_1 < (l0_1.length : Int) := of_decide_eq_true (by first | (with_reducible assumption) | assumption)
       obtain ⟨ad109, A109_0, c109_0, A109_4, c109_4, A109_5, c109_5, A109_6, c109_6, e109, hx109_0, hx109_1, hx109_2, hx109_3, hx109_4, hx109_5, hx109_6, hl109_0, hi109_0, hl109_4, hi109_4, hl109_5, hi109_5, hl109_6, hi109_6⟩ := at_T33 (Kd.V_reads' HO_102001.out).2.2 x8_1 p109 q109
       obtain rfl : ad103 = ad109 := (by injection e109)
       obtain ⟨ce109, hce109, hMe109, hcc109⟩ := Kd.V_get HO_102001.out z33 x8_1 p109 (by first | exact q109 | exact of_decide_eq_true (by first | (with_reducible assumption) | assumption) | (have e_ := (Kd.V_reads' HO_102001.out).1; omega))
       obtain ⟨ua109_0, uc109_0, ua109_4, uc109_4, ua109_5, uc109_5, ua109_6, uc109_6, rfl, ul109_0, ge109_0, ul109_4, ge109_4, ul109_5, ge109_5, ul109_6, ge109_6⟩ := k33_openF hMe109
       have hv109_0 := hcc109 0 _ rfl
       rw [Nat.add_zero] at hv109_0
       replace hv109_0 := Option.some.inj (hv109_0.symm.trans hx109_0)
       injection hv109_0 with hva_ hvn_ hvc_
       rw [hva_] at ge109_0
       rw [hvc_] at ul109_0
       have HL109_0 := ak (show Kd.V (Kd.slice 5 (Kd.int .u8)) 25 _ w.heap.size _ _ ((rd_T33 l0_1 x8_1).f0.f0) from Kd.V_mk ul109_0 ge109_0)
       clear hva_ hvn_ hvc_ ge109_0 ul109_0
       have hv109_4 := hcc109 4 _ rfl
       rw [add_field _ _ 4 (by omega)] at hv109_4
       replace hv109_4 := Option.some.inj (hv109_4.symm.trans hx109_4)
       injection hv109_4 with hva_ hvn_ hvc_
       rw [hva_] at ge109_4
       rw [hvc_] at ul109_4
       have HL109_4 := ak (show Kd.V (Kd.slice 5 (Kd.int .u8)) 25 _ w.heap.size _ _ ((rd_T33 l0_1 x8_1).f4.f0) from Kd.V_mk ul109_4 ge109_4)
       clear hva_ hvn_ hvc_ ge109_4 ul109_4
       have hv109_5 := hcc109 5 _ rfl
       rw [add_field _ _ 5 (by omega)] at hv109_5
       replace hv109_5 := Option.some.inj (hv109_5.symm.trans hx109_5)
       injection hv109_5 with hva_ hvn_ hvc_
       rw [hva_] at ge109_5
       rw [hvc_] at ul109_5
       have HL109_5 := ak (show Kd.V (Kd.int .u8) 5 _ w.heap.size _ _ ((rd_T33 l0_1 x8_1).f5) from Kd.V_mk ul109_5 ge109_5)
       clear hva_ hvn_ hvc_ ge109_5 ul109_5
       have hv109_6 := hcc109 6 _ rfl
       rw [add_field _ _ 6 (by omega)] at hv109_6
       replace hv109_6 := Option.some.inj (hv109_6.symm.trans hx109_6)
       injection hv109_6 with hva_ hvn_ hvc_
       rw [hva_] at ge109_6
       rw [hvc_] at ul109_6
       have HL109_6 := ak (show Kd.V (Kd.int .i64) 3 _ w.heap.size _ _ ((rd_T33 l0_1 x8_1).f6) from Kd.V_mk ul109_6 ge109_6)
       clear hva_ hvn_ hvc_ ge109_6 ul109_6 hcc109 hce109
       have HR109_0 := ak hi109_0
       have HC109_0 := ak hl109_0
       clear hi109_0 hl109_0
       have HR109_4 := ak hi109_4
       have HC109_4 := ak hl109_4
       clear hi109_4 hl109_4
       have HR109_5 := ak hi109_5
       have HC109_5 := ak hl109_5
       clear hi109_5 hl109_5
       have HR109_6 := ak hi109_6
       have HC109_6 := ak hl109_6
       clear hi109_6 hl109_6
       replace p109 := eq_true p109
       replace q109 := eq_true q109
       refine start_ (n := 23) (S := fun w' => w'.cell? ⟨gb101, 0, none⟩ = some (.slice A0_0 l0_0.length c0_0) ∧ w'.cell? ⟨gb101, 1, none⟩ = some (.slice (some ad103) l0_1.length c0_1) ∧ w'.cell? ⟨gb102, 0, none⟩ = some (.slice A1_0 l1_0.length c1_0) ∧ w'.cell? (ad103.add ((x8_1).toNat * 7)) = some (.slice A103_0 ((rd_T33 l0_1 x8_1).f0.f0).length c103_0) ∧ w'.cell? ⟨(ad103.add ((x8_1).toNat * 7)).block, (ad103.add ((x8_1).toNat * 7)).off + 1, none⟩ = some (.int .i64 ((rd_T33 l0_1 x8_1).f1)) ∧ w'.cell? ⟨(ad103.add ((x8_1).toNat * 7)).block, (ad103.add ((x8_1).toNat * 7)).off + 2, none⟩ = some (.int .i64 ((rd_T33 l0_1 x8_1).f2)) ∧ w'.cell? ⟨(ad103.add ((x8_1).toNat * 7)).block, (ad103.add ((x8_1).toNat * 7)).off + 3, none⟩ = some (.int .i64 ((rd_T33 l0_1 x8_1).f3)) ∧ w'.cell? ⟨(ad103.add ((x8_1).toNat * 7)).block, (ad103.add ((x8_1).toNat * 7)).off + 4, none⟩ = some (.slice A103_4 ((rd_T33 l0_1 x8_1).f4.f0).length c103_4) ∧ w'.cell? ⟨(ad103.add ((x8_1).toNat * 7)).block, (ad103.add ((x8_1).toNat * 7)).off + 5, none⟩ = some (.slice A103_5 ((rd_T33 l0_1 x8_1).f5).length c103_5) ∧ w'.cell? ⟨(ad103.add ((x8_1).toNat * 7)).block, (ad103.add ((x8_1).toNat * 7)).off + 6, none⟩ = some (.slice A103_6 ((rd_T33 l0_1 x8_1).f6).length c103_6) ∧ w'.cell? (ad103.add ((x8_1).toNat * 7)) = some (.slice A109_0 ((rd_T33 l0_1 x8_1).f0.f0).length c109_0) ∧ w'.cell? ⟨(ad103.add ((x8_1).toNat * 7)).block, (ad103.add ((x8_1).toNat * 7)).off + 1, none⟩ = some (.int .i64 ((rd_T33 l0_1 x8_1).f1)) ∧ w'.cell? ⟨(ad103.add ((x8_1).toNat * 7)).block, (ad103.add ((x8_1).toNat * 7)).off + 2, none⟩ = some (.int .i64 ((rd_T33 l0_1 x8_1).f2)) ∧ w'.cell? ⟨(ad103.add ((x8_1).toNat * 7)).block, (ad103.add ((x8_1).toNat * 7)).off + 3, none⟩ = some (.int .i64 ((rd_T33 l0_1 x8_1).f3)) ∧ w'.cell? ⟨(ad103.add ((x8_1).toNat * 7)).block, (ad103.add ((x8_1).toNat * 7)).off + 4, none⟩ = some (.slice A109_4 ((rd_T33 l0_1 x8_1).f4.f0).length c109_4) ∧ w'.cell? ⟨(ad103.add ((x8_1).toNat * 7)).block, (ad103.add ((x8_1).toNat * 7)).off + 5, none⟩ = some (.slice A109_5 ((rd_T33 l0_1 x8_1).f5).length c109_5) ∧ w'.cell? ⟨(ad103.add ((x8_1).toNat * 7)).block, (ad103.add ((x8_1).toNat * 7)).off + 6, none⟩ = some (.slice A109_6 ((rd_T33 l0_1 x8_1).f6).length c109_6)) (ds := []) (bA 23 0) (by kernel_rfl) rfl rfl kq (fun hHeld => ?_); refine with_tabW spec_l5all.tab5 spec_l5all.bits5 (fun HT_ HW_ => ?_)
       generalize wr.drew = w28 at HO_7 HO_102001 BK101 BK102 HB HL103_0 HL103_4 HL103_5 HL103_6 HL109_0 HL109_4 HL109_5 HL109_6 HR103_0 HR103_4 HR103_5 HR103_6 HR109_0 HR109_4 HR109_5 HR109_6 hx103_0 hx103_1 hx103_2 hx103_3 hx103_4 hx103_5 hx103_6 hx109_0 hx109_1 hx109_2 hx109_3 hx109_4 hx109_5 hx109_6 hHeld ⊢
       refine pu HT_ 0 ?_
       refine pu HT_ 2 ?_
       refine ta HT_ HW_ hHeld 1 ?_
       refine pu HT_ 3 ?_
       refine pu HT_ 4 ?_
       refine ta HT_ HW_ hHeld 5 ?_
       refine ta HT_ HW_ hHeld 6 ?_
       refine on HT_ 7 (fun K hK => ?_)
       refine gsG Try.func98 (spec_l2cmp.calls k1 _ _ ((rd_T33 l0_1 x8_1).f0.f0) _ _ l1_0 t104 _ ?side1 HC103_0.out (cv HR1_0 HB) HC1_0.out A8.out) ?_
       (case side1 => repeat (first | exact (by repeat (first | (with_reducible exact HR103_0.out) | (with_reducible refine Kd.C_alloc ?_ _) | (with_reducible refine Kd.C_drewN ?_ _) | (with_reducible refine Kd.C_drew ?_) | exact HR103_0.out)) | (with_reducible refine Kd.C_alloc ?_ _) | (with_reducible refine Kd.C_drewN ?_ _) | (with_reducible refine Kd.C_drew ?_)))
       rintro e w29 ⟨rfl, hb⟩
       have HS3_ := (hb.cell (World.block_lt_of_cell? _ _ (hHeld.2.2.2.1))).trans (hHeld.2.2.2.1)
       have HS4_ := (hb.cell (World.block_lt_of_cell? _ _ (hHeld.2.2.2.2.1))).trans (hHeld.2.2.2.2.1)
       have HS5_ := (hb.cell (World.block_lt_of_cell? _ _ (hHeld.2.2.2.2.2.1))).trans (hHeld.2.2.2.2.2.1)
       have HS6_ := (hb.cell (World.block_lt_of_cell? _ _ (hHeld.2.2.2.2.2.2.1))).trans (hHeld.2.2.2.2.2.2.1)
       have HS7_ := (hb.cell (World.block_lt_of_cell? _ _ (hHeld.2.2.2.2.2.2.2.1))).trans (hHeld.2.2.2.2.2.2.2.1)
       have HS8_ := (hb.cell (World.block_lt_of_cell? _ _ (hHeld.2.2.2.2.2.2.2.2.1))).trans (hHeld.2.2.2.2.2.2.2.2.1)
       have HS9_ := (hb.cell (World.block_lt_of_cell? _ _ (hHeld.2.2.2.2.2.2.2.2.2.1))).trans (hHeld.2.2.2.2.2.2.2.2.2.1)
       have HS10_ := (hb.cell (World.block_lt_of_cell? _ _ (hHeld.2.2.2.2.2.2.2.2.2.2.1))).trans (hHeld.2.2.2.2.2.2.2.2.2.2.1)
       have HS11_ := (hb.cell (World.block_lt_of_cell? _ _ (hHeld.2.2.2.2.2.2.2.2.2.2.2.1))).trans (hHeld.2.2.2.2.2.2.2.2.2.2.2.1)
       have HS12_ := (hb.cell (World.block_lt_of_cell? _ _ (hHeld.2.2.2.2.2.2.2.2.2.2.2.2.1))).trans (hHeld.2.2.2.2.2.2.2.2.2.2.2.2.1)
       have HS13_ := (hb.cell (World.block_lt_of_cell? _ _ (hHeld.2.2.2.2.2.2.2.2.2.2.2.2.2.1))).trans (hHeld.2.2.2.2.2.2.2.2.2.2.2.2.2.1)
       have HS14_ := (hb.cell (World.block_lt_of_cell? _ _ (hHeld.2.2.2.2.2.2.2.2.2.2.2.2.2.2.1))).trans (hHeld.2.2.2.2.2.2.2.2.2.2.2.2.2.2.1)
       have HS15_ := (hb.cell (World.block_lt_of_cell? _ _ (hHeld.2.2.2.2.2.2.2.2.2.2.2.2.2.2.2.1))).trans (hHeld.2.2.2.2.2.2.2.2.2.2.2.2.2.2.2.1)
       have HS16_ := (hb.cell (World.block_lt_of_cell? _ _ (hHeld.2.2.2.2.2.2.2.2.2.2.2.2.2.2.2.2))).trans (hHeld.2.2.2.2.2.2.2.2.2.2.2.2.2.2.2.2)
       refine ⟨_, rfl, ?_⟩
       replace HO_7 := ak (Kd.N_below (nw HO_7.out) hb)
       replace HO_102001 := ak (Kd.V_below (vw HO_102001.out) hb)
       replace HL103_0 := ak (Kd.V_below (vw HL103_0.out) hb)
       replace HL103_4 := ak (Kd.V_below (vw HL103_4.out) hb)
       replace HL103_5 := ak (Kd.V_below (vw HL103_5.out) hb)
       replace HL103_6 := ak (Kd.V_below (vw HL103_6.out) hb)
       replace BK101 := b1 BK101 hb
       replace BK102 := b1 BK102 hb
       replace HR103_0 := ak (Kd.C_below (by repeat (first | (with_reducible exact HR103_0.out) | (with_reducible refine Kd.C_alloc ?_ _) | (with_reducible refine Kd.C_drewN ?_ _) | (with_reducible refine Kd.C_drew ?_) | exact HR103_0.out)) hb)
       replace HR103_4 := ak (Kd.C_below (by repeat (first | (with_reducible exact HR103_4.out) | (with_reducible refine Kd.C_alloc ?_ _) | (with_reducible refine Kd.C_drewN ?_ _) | (with_reducible refine Kd.C_drew ?_) | exact HR103_4.out)) hb)
       replace HR103_5 := ak (Kd.C_below (by repeat (first | (with_reducible exact HR103_5.out) | (with_reducible refine Kd.C_alloc ?_ _) | (with_reducible refine Kd.C_drewN ?_ _) | (with_reducible refine Kd.C_drew ?_) | exact HR103_5.out)) hb)
       replace HR103_6 := ak (Kd.C_below (by repeat (first | (with_reducible exact HR103_6.out) | (with_reducible refine Kd.C_alloc ?_ _) | (with_reducible refine Kd.C_drewN ?_ _) | (with_reducible refine Kd.C_drew ?_) | exact HR103_6.out)) hb)
       replace HB := b2s bs hb
       refine hK.out _ _ kp (fun hHeld => ?_)
       (try clear hb)
       (try clear hk)
       clear hK K
       refine norm_ (a' := ?_) ?_ ?_; rotate_left; go_simp; rfl
       refine pu HT_ 8 ?_
       refine pu HT_ 9 ?_
       refine pu HT_ 10 ?_
       refine pu HT_ 11 ?_
       refine pu HT_ 12 ?_
       refine pu HT_ 13 ?_
       refine pu HT_ 15 ?_
       refine pu HT_ 19 ?_
       refine ta HT_ HW_ hHeld 14 ?_
       refine pu HT_ 16 ?_
       refine pu HT_ 17 ?_
       refine ta HT_ HW_ hHeld 18 ?_
       refine pu HT_ 20 ?_
       refine pu HT_ 21 ?_
       refine pu HT_ 22 ?_
       refine done_ (done_of HT_.out (by kernel_rfl)) ?_
       (try clear hHeld); (try clear HS3_); (try clear HS4_); (try clear HS5_); (try clear HS6_); (try clear HS7_); (try clear HS8_); (try clear HS9_); (try clear HS10_)
       try go_wp2
       go_roundg k1
       case measure => have := HK1.out; omega
       case rel => exact ⟨(x7_1), (wrap64 (x8_1 + 1)), o2, H', ⟨by have := HK1.out; omega⟩, ⟨by (with_reducible repeat (first | apply Kd.N_alloc | apply Kd.N_drewN | apply Kd.N_drew)); exact HO_7.out⟩, ⟨by (with_reducible repeat (first | apply Kd.V_alloc | apply Kd.V_drewN | apply Kd.V_drew)); exact HO_102001.out⟩, ⟨bk BK101.out⟩, ⟨bk BK102.out⟩, ⟨bs⟩⟩
    ·have H' := ak H
     clear H
     have hnb30 := NB101_102.out
     have hnc30 := NB102_101.out
     obtain ⟨hcz31_0, hcz31_1, hfz31_0, hfz31_1⟩ := cells2 BK101.out
     try go_wp2
     replace HO_7 := ak (Kd.N_drew HO_7.out)
     replace HO_102001 := ak (Kd.V_drew HO_102001.out)
     replace BK101 := ak (blk_drew BK101.out)
     replace BK102 := ak (blk_drew BK102.out)
     replace HB := ak (below_drew1 HB.out)
     have p103 : 0 ≤ (x8_1 : Int) := of_decide_eq_true (by first | (with_reducible assumption) | assumption)
     have q103 : x8_1 < (l0_1.length : Int) := of_decide_eq_true (by first | (with_reducible assumption) | assumption)
     obtain ⟨ad103, A103_0, c103_0, A103_4, c103_4, A103_5, c103_5, A103_6, c103_6, e103, hx103_0, hx103_1, hx103_2, hx103_3, hx103_4, hx103_5, hx103_6, hl103_0, hi103_0, hl103_4, hi103_4, hl103_5, hi103_5, hl103_6, hi103_6⟩ := at_T33 (Kd.V_reads' HO_102001.out).2.2 x8_1 p103 q103
     cases e103
     obtain ⟨ce103, hce103, hMe103, hcc103⟩ := Kd.V_get HO_102001.out z33 x8_1 p103 (by first | exact q103 | exact of_decide_eq_true (by first | (with_reducible assumption) | assumption) | (have e_ := (Kd.V_reads' HO_102001.out).1; omega))
     obtain ⟨ua103_0, uc103_0, ua103_4, uc103_4, ua103_5, uc103_5, ua103_6, uc103_6, rfl, ul103_0, ge103_0, ul103_4, ge103_4, ul103_5, ge103_5, ul103_6, ge103_6⟩ := k33_openF hMe103
     have hv103_0 := hcc103 0 _ rfl
     rw [Nat.add_zero] at hv103_0
     replace hv103_0 := Option.some.inj (hv103_0.symm.trans hx103_0)
     injection hv103_0 with hva_ hvn_ hvc_
     rw [hva_] at ge103_0
     rw [hvc_] at ul103_0
     have HL103_0 := ak (show Kd.V (Kd.slice 5 (Kd.int .u8)) 25 _ w.heap.size _ _ ((rd_T33 l0_1 x8_1).f0.f0) from Kd.V_mk ul103_0 ge103_0)
     clear hva_ hvn_ hvc_ ge103_0 ul103_0
     have hv103_4 := hcc103 4 _ rfl
     rw [add_field _ _ 4 (by omega)] at hv103_4
     replace hv103_4 := Option.some.inj (hv103_4.symm.trans hx103_4)
     injection hv103_4 with hva_ hvn_ hvc_
     rw [hva_] at ge103_4
     rw [hvc_] at ul103_4
     have HL103_4 := ak (show Kd.V (Kd.slice 5 (Kd.int .u8)) 25 _ w.heap.size _ _ ((rd_T33 l0_1 x8_1).f4.f0) from Kd.V_mk ul103_4 ge103_4)
     clear hva_ hvn_ hvc_ ge103_4 ul103_4
     have hv103_5 := hcc103 5 _ rfl
     rw [add_field _ _ 5 (by omega)] at hv103_5
     replace hv103_5 := Option.some.inj (hv103_5.symm.trans hx103_5)
     injection hv103_5 with hva_ hvn_ hvc_
     rw [hva_] at ge103_5
     rw [hvc_] at ul103_5
     have HL103_5 := ak (show Kd.V (Kd.int .u8) 5 _ w.heap.size _ _ ((rd_T33 l0_1 x8_1).f5) from Kd.V_mk ul103_5 ge103_5)
     clear hva_ hvn_ hvc_ ge103_5 ul103_5
     have hv103_6 := hcc103 6 _ rfl
     rw [add_field _ _ 6 (by omega)] at hv103_6
     replace hv103_6 := Option.some.inj (hv103_6.symm.trans hx103_6)
     injection hv103_6 with hva_ hvn_ hvc_
     rw [hva_] at ge103_6
     rw [hvc_] at ul103_6
     have HL103_6 := ak (show Kd.V (Kd.int .i64) 3 _ w.heap.size _ _ ((rd_T33 l0_1 x8_1).f6) from Kd.V_mk ul103_6 ge103_6)
     clear hva_ hvn_ hvc_ ge103_6 ul103_6 hcc103 hce103
     have HR103_0 := ak hi103_0
     have HC103_0 := ak hl103_0
     clear hi103_0 hl103_0
     have HR103_4 := ak hi103_4
     have HC103_4 := ak hl103_4
     clear hi103_4 hl103_4
     have HR103_5 := ak hi103_5
     have HC103_5 := ak hl103_5
     clear hi103_5 hl103_5
     have HR103_6 := ak hi103_6
     have HC103_6 := ak hl103_6
     clear hi103_6 hl103_6
     replace p103 := eq_true p103
     replace q103 := eq_true q103
     refine start_ (n := 23) (S := fun w' => w'.cell? ⟨gb101, 0, none⟩ = some (.slice A0_0 l0_0.length c0_0) ∧ w'.cell? ⟨gb101, 1, none⟩ = some (.slice (some ad103) l0_1.length c0_1) ∧ w'.cell? ⟨gb102, 0, none⟩ = some (.slice A1_0 l1_0.length c1_0) ∧ w'.cell? (ad103.add ((x8_1).toNat * 7)) = some (.slice A103_0 ((rd_T33 l0_1 x8_1).f0.f0).length c103_0) ∧ w'.cell? ⟨(ad103.add ((x8_1).toNat * 7)).block, (ad103.add ((x8_1).toNat * 7)).off + 1, none⟩ = some (.int .i64 ((rd_T33 l0_1 x8_1).f1)) ∧ w'.cell? ⟨(ad103.add ((x8_1).toNat * 7)).block, (ad103.add ((x8_1).toNat * 7)).off + 2, none⟩ = some (.int .i64 ((rd_T33 l0_1 x8_1).f2)) ∧ w'.cell? ⟨(ad103.add ((x8_1).toNat * 7)).block, (ad103.add ((x8_1).toNat * 7)).off + 3, none⟩ = some (.int .i64 ((rd_T33 l0_1 x8_1).f3)) ∧ w'.cell? ⟨(ad103.add ((x8_1).toNat * 7)).block, (ad103.add ((x8_1).toNat * 7)).off + 4, none⟩ = some (.slice A103_4 ((rd_T33 l0_1 x8_1).f4.f0).length c103_4) ∧ w'.cell? ⟨(ad103.add ((x8_1).toNat * 7)).block, (ad103.add ((x8_1).toNat * 7)).off + 5, none⟩ = some (.slice A103_5 ((rd_T33 l0_1 x8_1).f5).length c103_5) ∧ w'.cell? ⟨(ad103.add ((x8_1).toNat * 7)).block, (ad103.add ((x8_1).toNat * 7)).off + 6, none⟩ = some (.slice A103_6 ((rd_T33 l0_1 x8_1).f6).length c103_6)) (ds := []) (bA 23 0) (by kernel_rfl) rfl rfl kq (fun hHeld => ?_); refine with_tabW spec_l5all.tab5 spec_l5all.bits5 (fun HT_ HW_ => ?_)
     generalize wr.drew = w32 at HO_7 HO_102001 BK101 BK102 HB HL103_0 HL103_4 HL103_5 HL103_6 HR103_0 HR103_4 HR103_5 HR103_6 hx103_0 hx103_1 hx103_2 hx103_3 hx103_4 hx103_5 hx103_6 hHeld ⊢
     refine pu HT_ 0 ?_
     refine pu HT_ 2 ?_
     refine ta HT_ HW_ hHeld 1 ?_
     refine pu HT_ 3 ?_
     refine pu HT_ 4 ?_
     refine ta HT_ HW_ hHeld 5 ?_
     refine ta HT_ HW_ hHeld 6 ?_
     refine on HT_ 7 (fun K hK => ?_)
     refine gsG Try.func98 (spec_l2cmp.calls k1 _ _ ((rd_T33 l0_1 x8_1).f0.f0) _ _ l1_0 t104 _ ?side1 HC103_0.out (cv HR1_0 HB) HC1_0.out A8.out) ?_
     (case side1 => repeat (first | exact (by repeat (first | (with_reducible exact HR103_0.out) | (with_reducible refine Kd.C_alloc ?_ _) | (with_reducible refine Kd.C_drewN ?_ _) | (with_reducible refine Kd.C_drew ?_) | exact HR103_0.out)) | (with_reducible refine Kd.C_alloc ?_ _) | (with_reducible refine Kd.C_drewN ?_ _) | (with_reducible refine Kd.C_drew ?_)))
     rintro e w33 ⟨rfl, hb⟩
     have HS3_ := (hb.cell (World.block_lt_of_cell? _ _ (hHeld.2.2.2.1))).trans (hHeld.2.2.2.1)
     have HS4_ := (hb.cell (World.block_lt_of_cell? _ _ (hHeld.2.2.2.2.1))).trans (hHeld.2.2.2.2.1)
     have HS5_ := (hb.cell (World.block_lt_of_cell? _ _ (hHeld.2.2.2.2.2.1))).trans (hHeld.2.2.2.2.2.1)
     have HS6_ := (hb.cell (World.block_lt_of_cell? _ _ (hHeld.2.2.2.2.2.2.1))).trans (hHeld.2.2.2.2.2.2.1)
     have HS7_ := (hb.cell (World.block_lt_of_cell? _ _ (hHeld.2.2.2.2.2.2.2.1))).trans (hHeld.2.2.2.2.2.2.2.1)
     have HS8_ := (hb.cell (World.block_lt_of_cell? _ _ (hHeld.2.2.2.2.2.2.2.2.1))).trans (hHeld.2.2.2.2.2.2.2.2.1)
     have HS9_ := (hb.cell (World.block_lt_of_cell? _ _ (hHeld.2.2.2.2.2.2.2.2.2))).trans (hHeld.2.2.2.2.2.2.2.2.2)
     refine ⟨_, rfl, ?_⟩
     replace HO_7 := ak (Kd.N_below (nw HO_7.out) hb)
     replace HO_102001 := ak (Kd.V_below (vw HO_102001.out) hb)
     replace HL103_0 := ak (Kd.V_below (vw HL103_0.out) hb)
     replace HL103_4 := ak (Kd.V_below (vw HL103_4.out) hb)
     replace HL103_5 := ak (Kd.V_below (vw HL103_5.out) hb)
     replace HL103_6 := ak (Kd.V_below (vw HL103_6.out) hb)
     replace BK101 := b1 BK101 hb
     replace BK102 := b1 BK102 hb
     replace HR103_0 := ak (Kd.C_below (by repeat (first | (with_reducible exact HR103_0.out) | (with_reducible refine Kd.C_alloc ?_ _) | (with_reducible refine Kd.C_drewN ?_ _) | (with_reducible refine Kd.C_drew ?_) | exact HR103_0.out)) hb)
     replace HR103_4 := ak (Kd.C_below (by repeat (first | (with_reducible exact HR103_4.out) | (with_reducible refine Kd.C_alloc ?_ _) | (with_reducible refine Kd.C_drewN ?_ _) | (with_reducible refine Kd.C_drew ?_) | exact HR103_4.out)) hb)
     replace HR103_5 := ak (Kd.C_below (by repeat (first | (with_reducible exact HR103_5.out) | (with_reducible refine Kd.C_alloc ?_ _) | (with_reducible refine Kd.C_drewN ?_ _) | (with_reducible refine Kd.C_drew ?_) | exact HR103_5.out)) hb)
     replace HR103_6 := ak (Kd.C_below (by repeat (first | (with_reducible exact HR103_6.out) | (with_reducible refine Kd.C_alloc ?_ _) | (with_reducible refine Kd.C_drewN ?_ _) | (with_reducible refine Kd.C_drew ?_) | exact HR103_6.out)) hb)
     replace HB := b2s bs hb
     refine hK.out _ _ kp (fun hHeld => ?_)
     (try clear hb)
     (try clear hk)
     clear hK K
     refine norm_ (a' := ?_) ?_ ?_; rotate_left; go_simp; rfl
     refine pu HT_ 8 ?_
     refine pu HT_ 9 ?_
     refine sk HT_ 10 ?_
     refine sk HT_ 11 ?_
     refine sk HT_ 12 ?_
     refine sk HT_ 13 ?_
     refine sk HT_ 14 ?_
     refine sk HT_ 15 ?_
     refine sk HT_ 16 ?_
     refine sk HT_ 17 ?_
     refine sk HT_ 18 ?_
     refine sk HT_ 19 ?_
     refine sk HT_ 20 ?_
     refine sk HT_ 21 ?_
     refine pu HT_ 22 ?_
     refine done_ (done_of HT_.out (by kernel_rfl)) ?_
     (try clear hHeld); (try clear HS3_); (try clear HS4_); (try clear HS5_); (try clear HS6_); (try clear HS7_); (try clear HS8_); (try clear HS9_); (try clear HS10_)
     try go_wp2
     go_roundg k1
     case measure => have := HK1.out; omega
     case rel => exact ⟨(x7_1), (wrap64 (x8_1 + 1)), o2, H', ⟨by have := HK1.out; omega⟩, ⟨by (with_reducible repeat (first | apply Kd.N_alloc | apply Kd.N_drewN | apply Kd.N_drew)); exact HO_7.out⟩, ⟨by (with_reducible repeat (first | apply Kd.V_alloc | apply Kd.V_drewN | apply Kd.V_drew)); exact HO_102001.out⟩, ⟨bk BK101.out⟩, ⟨bk BK102.out⟩, ⟨bs⟩⟩
   ·obtain rfl := Option.some.inj H
    have hnb34 := NB101_102.out
    have hnc34 := NB102_101.out
    obtain ⟨hcz35_0, hcz35_1, hfz35_0, hfz35_1⟩ := cells2 BK101.out
    go_wp2
    go_ret
    exact ⟨_, o1, by (with_reducible repeat (first | apply Kd.N_alloc | apply Kd.N_drewN | apply Kd.N_drew)); exact Kd.N_mono HO_7.out (fun _ hk => hk.1), bs⟩

/-! ### spec_l7owner: function 112 -/
def spec_l7owner.l0 : Nat → List Int → List (S33) → Bool → Int → Option (Bool × Bool)
 | 0, _, _, _, _ => none
 | k + 1, x2, x8, x9, x10 => if x10 < (x8.length : Int) then (if 0 ≤ x10 then (if ((rd_T33 x8 x10).f1) = 49 then (if (strOfNums ((rd_T33 x8 x10).f5)).toList = (strOfNums x2).toList then (spec_l7owner.l0 k x2 x8 true (wrap64 (x10 + 1))) else (some (false, false))) else (spec_l7owner.l0 k x2 x8 x9 (wrap64 (x10 + 1)))) else (none)) else (some (((x8.length : Int) == 0), x9))
def spec_l7owner.f (k : Nat) (l0_0 : List (List Int)) (l0_1 : List (S33)) (l1_0 : List (List Int)) (l2 : List Int) : Option (Bool × Bool) := (spec_l5all.f k l0_0 l0_1 l1_0 255).bind fun t103 => (spec_l7owner.l0 k l2 t103 false 0)
theorem spec_l7owner.mono_l : ∀ k, (∀ y0 y1 y2 y3, LeO (spec_l7owner.l0 k y0 y1 y2 y3) (spec_l7owner.l0 (k + 1) y0 y1 y2 y3))
 | 0 => fun _ _ _ _ r h => by simp [spec_l7owner.l0] at h
 | k + 1 => by
  have ih0 := spec_l7owner.mono_l k
  ·intro y0 y1 y2 y3
   unfold spec_l7owner.l0
   repeat' first
   | (with_reducible exact ih0 _ _ _ _)
   | (with_reducible exact spec_l5all.mono _ _ _ _ _)
   | (with_reducible exact LeO.refl _)
   | (with_reducible exact LeO.none _)
   | (with_reducible refine LeO.ite ?_ ?_)
   | (with_reducible refine LeO.bind ?_ (fun _ => ?_))
   | exact ih0 _ _ _ _
   | exact spec_l5all.mono _ _ _ _ _
   | exact LeO.none _
   | refine LeO.ite ?_ ?_
   | refine LeO.bind ?_ (fun _ => ?_)
theorem spec_l7owner.mono : ∀ a0 a1 a2 a3 k, LeO (spec_l7owner.f k a0 a1 a2 a3) (spec_l7owner.f (k + 1) a0 a1 a2 a3) := by
 intro a0 a1 a2 a3 k
 have ih0 := spec_l7owner.mono_l k
 unfold spec_l7owner.f
 repeat' first
   | (with_reducible exact ih0 _ _ _ _)
   | (with_reducible exact spec_l5all.mono _ _ _ _ _)
   | (with_reducible exact LeO.refl _)
   | (with_reducible exact LeO.none _)
   | (with_reducible refine LeO.ite ?_ ?_)
   | (with_reducible refine LeO.bind ?_ (fun _ => ?_))
   | exact ih0 _ _ _ _
   | exact spec_l5all.mono _ _ _ _ _
   | exact LeO.none _
   | refine LeO.ite ?_ ?_
   | refine LeO.bind ?_ (fun _ => ?_)
set_option maxHeartbeats 8000000 in
set_option maxRecDepth 100000 in
theorem spec_l7owner.calls (k : Nat) (A0_0 : Option Addr) (c0_0 : Nat) (l0_0 : List (List Int)) (A0_1 : Option Addr) (c0_1 : Nat) (l0_1 : List (S33)) (A1_0 : Option Addr) (c1_0 : Nat) (l1_0 : List (List Int)) (A2 : Option Addr) (c2 : Nat) (l2 : List Int) (r1 : Bool) (r2 : Bool) (w : World) (hr0_0 : Kd.C (Kd.slice 5 (Kd.int .u8)) w A0_0 l0_0.length l0_0) (hc0_0 : l0_0.length ≤ c0_0) (hr0_1 : Kd.C k33 w A0_1 l0_1.length l0_1) (hc0_1 : l0_1.length ≤ c0_1) (hr1_0 : Kd.C (Kd.slice 5 (Kd.int .u8)) w A1_0 l1_0.length l1_0) (hc1_0 : l1_0.length ≤ c1_0) (hr2 : Kd.C (Kd.int .u8) w A2 l2.length l2) (hc2 : l2.length ≤ c2) (h : spec_l7owner.f k l0_0 l0_1 l1_0 l2 = some (r1, r2)) :
  Calls Try.prog 112 #[.agg #[.slice A0_0 l0_0.length c0_0, .slice A0_1 l0_1.length c0_1], .agg #[.slice A1_0 l1_0.length c1_0], .slice A2 l2.length c2] w fun e w' => e = .returned (.tuple #[.bool r1, .bool r2]) ∧ Below w.heap.size w w' := by
 have hu59 := Try.underlying59
 have hu31 := Try.underlying31
 have HR0_0 := ak hr0_0
 have HC0_0 := ak hc0_0
 clear hr0_0 hc0_0
 have HR0_1 := ak hr0_1
 have HC0_1 := ak hc0_1
 clear hr0_1 hc0_1
 have HR1_0 := ak hr1_0
 have HC1_0 := ak hc1_0
 clear hr1_0 hc1_0
 have HR2 := ak hr2
 have HC2 := ak hc2
 clear hr2 hc2
 have HB := ak (Below.refl w.heap.size w)
 have H : ((spec_l5all.f k l0_0 l0_1 l1_0 255).bind fun t103 => (spec_l7owner.l0 k l2 t103 false 0)) = some (r1, r2) := h
 clear h
 replace H := bnd H
 obtain ⟨t103, A4, H⟩ := H
 have H' := ak H
 clear H
 go_enter Try.func112, Try.ntmps112
 go_wp2_with (first | ((with_reducible refine gate_dst (N := 3) rfl ?_);refine bxd (N := 3) rfl HB ?_;clear HB;intro gb101 w5 hg HB BK101 GE101 hb;have GW101 := GE101;clear hb hg) | ((with_reducible refine gate_dst (N := 4) rfl ?_);refine bxe (N := 4) rfl ?_;intro gb102 hg w6 hbox hb;have BK102 := ak (hbox);have GW102 := b3s hg bs;have GE102 := GW102;replace HB := b2s bs hb;have NB101_102 := b4 hg BK101;have NB102_101 := b5 hg BK101;replace BK101 := b1 BK101 hb;clear hb hbox hg;have hnb7 := NB101_102.out;have hnc7 := NB102_101.out;obtain ⟨hcz8_0, hcz8_1, hfz8_0, hfz8_1⟩ := cells2 BK101.out;obtain ⟨hcz9_0, hfz9_0⟩ := cells1 BK102.out) | (go_at_call 177;(with_reducible refine (spec_l5all.calls k _ _ l0_0 (fun k_ => k_ < w.heap.size) _ _ l0_1 _ _ l1_0 255 t103 _ (cv HR0_0 HB) HC0_0.out ?side3 (cv HR1_0 HB) HC1_0.out A4.out).mono ?_);(case side3 => exact Kd.V_mk HC0_1.out (Kd.F_below (Kd.C_F k33_heap HR0_1.out) bs));rintro e w10 ⟨v104, rfl, ho0, hb⟩;have HO105 := ak (Kd.N_lower (Kd.N_mono (ok' := fun k_ => k_ ≠ gb101 ∧ k_ ≠ gb102) ho0 (fun k_ hk_ => ⟨Or.elim hk_ (fun hs_ => fun e_ => Nat.not_le.2 hs_ (by rw [e_]; exact GW101.out)) (fun hn_ => (Kd.freshB (g := gb101) (o := .cells #[.slice A0_0 l0_0.length c0_0, .slice A0_1 l0_1.length c0_1] 59 (0, 0)) (bk BK101.out) k_ hn_)), Or.elim hk_ (fun hs_ => fun e_ => Nat.not_le.2 hs_ (by rw [e_]; exact GW102.out)) (fun hn_ => (Kd.freshB (g := gb102) (o := .cells #[.slice A1_0 l1_0.length c1_0] 31 (0, 0)) (bk BK102.out) k_ hn_))⟩)) (below_size bs));replace BK101 := b1 BK101 hb;replace BK102 := b1 BK102 hb;replace HB := b2s bs hb;(try clear hb);(try clear ho0)))
 repeat (go_quiet (first | ((with_reducible refine gate_dst (N := 3) rfl ?_);refine bxd (N := 3) rfl HB ?_;clear HB;intro gb101 w5 hg HB BK101 GE101 hb;have GW101 := GE101;clear hb hg) | ((with_reducible refine gate_dst (N := 4) rfl ?_);refine bxe (N := 4) rfl ?_;intro gb102 hg w6 hbox hb;have BK102 := ak (hbox);have GW102 := b3s hg bs;have GE102 := GW102;replace HB := b2s bs hb;have NB101_102 := b4 hg BK101;have NB102_101 := b5 hg BK101;replace BK101 := b1 BK101 hb;clear hb hbox hg;have hnb7 := NB101_102.out;have hnc7 := NB102_101.out;obtain ⟨hcz8_0, hcz8_1, hfz8_0, hfz8_1⟩ := cells2 BK101.out;obtain ⟨hcz9_0, hfz9_0⟩ := cells1 BK102.out) | (go_at_call 177;(with_reducible refine (spec_l5all.calls k _ _ l0_0 (fun k_ => k_ < w.heap.size) _ _ l0_1 _ _ l1_0 255 t103 _ (cv HR0_0 HB) HC0_0.out ?side3 (cv HR1_0 HB) HC1_0.out A4.out).mono ?_);(case side3 => exact Kd.V_mk HC0_1.out (Kd.F_below (Kd.C_F k33_heap HR0_1.out) bs));rintro e w10 ⟨v104, rfl, ho0, hb⟩;have HO105 := ak (Kd.N_lower (Kd.N_mono (ok' := fun k_ => k_ ≠ gb101 ∧ k_ ≠ gb102) ho0 (fun k_ hk_ => ⟨Or.elim hk_ (fun hs_ => fun e_ => Nat.not_le.2 hs_ (by rw [e_]; exact GW101.out)) (fun hn_ => (Kd.freshB (g := gb101) (o := .cells #[.slice A0_0 l0_0.length c0_0, .slice A0_1 l0_1.length c0_1] 59 (0, 0)) (bk BK101.out) k_ hn_)), Or.elim hk_ (fun hs_ => fun e_ => Nat.not_le.2 hs_ (by rw [e_]; exact GW102.out)) (fun hn_ => (Kd.freshB (g := gb102) (o := .cells #[.slice A1_0 l1_0.length c1_0] 31 (0, 0)) (bk BK102.out) k_ hn_))⟩)) (below_size bs));replace BK101 := b1 BK101 hb;replace BK102 := b1 BK102 hb;replace HB := b2s bs hb;(try clear hb);(try clear ho0))); try go_wp2_with (first | ((with_reducible refine gate_dst (N := 3) rfl ?_);refine bxd (N := 3) rfl HB ?_;clear HB;intro gb101 w5 hg HB BK101 GE101 hb;have GW101 := GE101;clear hb hg) | ((with_reducible refine gate_dst (N := 4) rfl ?_);refine bxe (N := 4) rfl ?_;intro gb102 hg w6 hbox hb;have BK102 := ak (hbox);have GW102 := b3s hg bs;have GE102 := GW102;replace HB := b2s bs hb;have NB101_102 := b4 hg BK101;have NB102_101 := b5 hg BK101;replace BK101 := b1 BK101 hb;clear hb hbox hg;have hnb7 := NB101_102.out;have hnc7 := NB102_101.out;obtain ⟨hcz8_0, hcz8_1, hfz8_0, hfz8_1⟩ := cells2 BK101.out;obtain ⟨hcz9_0, hfz9_0⟩ := cells1 BK102.out) | (go_at_call 177;(with_reducible refine (spec_l5all.calls k _ _ l0_0 (fun k_ => k_ < w.heap.size) _ _ l0_1 _ _ l1_0 255 t103 _ (cv HR0_0 HB) HC0_0.out ?side3 (cv HR1_0 HB) HC1_0.out A4.out).mono ?_);(case side3 => exact Kd.V_mk HC0_1.out (Kd.F_below (Kd.C_F k33_heap HR0_1.out) bs));rintro e w10 ⟨v104, rfl, ho0, hb⟩;have HO105 := ak (Kd.N_lower (Kd.N_mono (ok' := fun k_ => k_ ≠ gb101 ∧ k_ ≠ gb102) ho0 (fun k_ hk_ => ⟨Or.elim hk_ (fun hs_ => fun e_ => Nat.not_le.2 hs_ (by rw [e_]; exact GW101.out)) (fun hn_ => (Kd.freshB (g := gb101) (o := .cells #[.slice A0_0 l0_0.length c0_0, .slice A0_1 l0_1.length c0_1] 59 (0, 0)) (bk BK101.out) k_ hn_)), Or.elim hk_ (fun hs_ => fun e_ => Nat.not_le.2 hs_ (by rw [e_]; exact GW102.out)) (fun hn_ => (Kd.freshB (g := gb102) (o := .cells #[.slice A1_0 l1_0.length c1_0] 31 (0, 0)) (bk BK102.out) k_ hn_))⟩)) (below_size bs));replace BK101 := b1 BK101 hb;replace BK102 := b1 BK102 hb;replace HB := b2s bs hb;(try clear hb);(try clear ho0))))
 go_loopg [9, 10] k (fun kq v9 v10 w' => ∃ (x9_1 : Bool) (x10_1 : Int), v9 = .bool x9_1 ∧ v10 = .int .i64 x10_1 ∧ Aside0 (spec_l7owner.l0 kq l2 t103 x9_1 x10_1 = some (r1, r2)) ∧ Aside0 (kq ≤ k) ∧ Aside0 (Kd.N k33 33 w' w.heap.size (fun k_ => k_ ≠ gb101 ∧ k_ ≠ gb102) v104 t103) ∧ Aside0 (w'.heap[gb101]? = some (.cells #[(.slice A0_0 l0_0.length c0_0), (.slice A0_1 l0_1.length c0_1)] 59 (0, 0))) ∧ Aside0 (w'.heap[gb102]? = some (.cells #[(.slice A1_0 l1_0.length c1_0)] 31 (0, 0))) ∧ Aside0 (Below w.heap.size w w'))
 case atStart => exact ⟨(false), (0), o2, o2, H', ⟨Nat.le_refl _⟩, ⟨by (with_reducible repeat (first | apply Kd.N_alloc | apply Kd.N_drewN | apply Kd.N_drew)); exact HO105.out⟩, ⟨bk BK101.out⟩, ⟨bk BK102.out⟩, ⟨bs⟩⟩
 case round =>
  clear H'
  (try clear c2)
  (try clear hcz8_0)
  (try clear hcz8_1)
  (try clear hcz9_0)
  (try clear hfz8_0)
  (try clear hfz8_1)
  (try clear hfz9_0)
  obtain ⟨x9_1, x10_1, rfl, rfl, HA, HK1, HO_8, BK101, BK102, HB⟩ := hrel
  cases gk with
  | zero => exact absurd HA.out (by simp [spec_l7owner.l0])
  | succ k1 =>
   have H := HA.out
   clear HA
   simp only [spec_l7owner.l0] at H
   replace H := ip H
   obtain ⟨c11b0, H⟩ | ⟨c11b0, H⟩ := H
   ·replace H := ipN H
    obtain ⟨c12b0, H⟩ := H
    replace H := ie H
    obtain ⟨c13b0, c13b1, H⟩ | ⟨c13b0, c13b1, H⟩ := H
    ·replace H := ie H
     obtain ⟨c14b0, c14b1, H⟩ | ⟨c14b0, c14b1, H⟩ := H
     ·have H' := ak H
      clear H
      obtain ⟨Ao15, co15, eo15⟩ := Kd.N_slice HO_8.out
      subst eo15
      have p106 : 0 ≤ (x10_1 : Int) := of_decide_eq_true (by first | (with_reducible assumption) | assumption)
      have q106 : x10_1 < (t103.length : Int) := of_decide_eq_true (by first | (with_reducible assumption) | assumption)
      obtain ⟨ad106, A106_0, c106_0, A106_4, c106_4, A106_5, c106_5, A106_6, c106_6, e106, hx106_0, hx106_1, hx106_2, hx106_3, hx106_4, hx106_5, hx106_6, hl106_0, hi106_0, hl106_4, hi106_4, hl106_5, hi106_5, hl106_6, hi106_6⟩ := at_T33 (Kd.N_reads' HO_8.out).2.2 x10_1 p106 q106
      cases e106
      obtain ⟨ce106, hce106, hMe106, hcc106⟩ := Kd.N_get HO_8.out z33 x10_1 p106 (by first | exact q106 | exact of_decide_eq_true (by first | (with_reducible assumption) | assumption) | (have e_ := (Kd.N_reads' HO_8.out).1; omega))
      obtain ⟨ua106_0, uc106_0, ua106_4, uc106_4, ua106_5, uc106_5, ua106_6, uc106_6, rfl, ul106_0, ge106_0, ul106_4, ge106_4, ul106_5, ge106_5, ul106_6, ge106_6⟩ := k33_openF hMe106
      have hv106_0 := hcc106 0 _ rfl
      rw [Nat.add_zero] at hv106_0
      replace hv106_0 := Option.some.inj (hv106_0.symm.trans hx106_0)
      injection hv106_0 with hva_ hvn_ hvc_
      rw [hva_] at ge106_0
      rw [hvc_] at ul106_0
      have HL106_0 := ak (show Kd.V (Kd.slice 5 (Kd.int .u8)) 25 _ w.heap.size _ _ ((rd_T33 t103 x10_1).f0.f0) from Kd.V_mk ul106_0 ge106_0)
      clear hva_ hvn_ hvc_ ge106_0 ul106_0
      have hv106_4 := hcc106 4 _ rfl
      rw [add_field _ _ 4 (by omega)] at hv106_4
      replace hv106_4 := Option.some.inj (hv106_4.symm.trans hx106_4)
      injection hv106_4 with hva_ hvn_ hvc_
      rw [hva_] at ge106_4
      rw [hvc_] at ul106_4
      have HL106_4 := ak (show Kd.V (Kd.slice 5 (Kd.int .u8)) 25 _ w.heap.size _ _ ((rd_T33 t103 x10_1).f4.f0) from Kd.V_mk ul106_4 ge106_4)
      clear hva_ hvn_ hvc_ ge106_4 ul106_4
      have hv106_5 := hcc106 5 _ rfl
      rw [add_field _ _ 5 (by omega)] at hv106_5
      replace hv106_5 := Option.some.inj (hv106_5.symm.trans hx106_5)
      injection hv106_5 with hva_ hvn_ hvc_
      rw [hva_] at ge106_5
      rw [hvc_] at ul106_5
      have HL106_5 := ak (show Kd.V (Kd.int .u8) 5 _ w.heap.size _ _ ((rd_T33 t103 x10_1).f5) from Kd.V_mk ul106_5 ge106_5)
      clear hva_ hvn_ hvc_ ge106_5 ul106_5
      have hv106_6 := hcc106 6 _ rfl
      rw [add_field _ _ 6 (by omega)] at hv106_6
      replace hv106_6 := Option.some.inj (hv106_6.symm.trans hx106_6)
      injection hv106_6 with hva_ hvn_ hvc_
      rw [hva_] at ge106_6
      rw [hvc_] at ul106_6
      have HL106_6 := ak (show Kd.V (Kd.int .i64) 3 _ w.heap.size _ _ ((rd_T33 t103 x10_1).f6) from Kd.V_mk ul106_6 ge106_6)
      clear hva_ hvn_ hvc_ ge106_6 ul106_6 hcc106 hce106
      have HR106_0 := ak hi106_0
      have HC106_0 := ak hl106_0
      clear hi106_0 hl106_0
      have HR106_4 := ak hi106_4
      have HC106_4 := ak hl106_4
      clear hi106_4 hl106_4
      have HR106_5 := ak hi106_5
      have HC106_5 := ak hl106_5
      clear hi106_5 hl106_5
      have HR106_6 := ak hi106_6
      have HC106_6 := ak hl106_6
      clear hi106_6 hl106_6
      replace p106 := eq_true p106
      replace q106 := eq_true q106
      have p107 : 0 ≤ (x10_1 : Int) := of_decide_eq_true (by first | (with_reducible assumption) | assumption)
      have q107 : x10_1 < (t103.length : Int) := of_decide_eq_true (by first | (with_reducible assumption) | assumption)
      obtain ⟨ad107, A107_0, c107_0, A107_4, c107_4, A107_5, c107_5, A107_6, c107_6, e107, hx107_0, hx107_1, hx107_2, hx107_3, hx107_4, hx107_5, hx107_6, hl107_0, hi107_0, hl107_4, hi107_4, hl107_5, hi107_5, hl107_6, hi107_6⟩ := at_T33 (Kd.N_reads' HO_8.out).2.2 x10_1 p107 q107
      obtain rfl : ad106 = ad107 := (by injection e107)
      obtain ⟨ce107, hce107, hMe107, hcc107⟩ := Kd.N_get HO_8.out z33 x10_1 p107 (by first | exact q107 | exact of_decide_eq_true (by first | (with_reducible assumption) | assumption) | (have e_ := (Kd.N_reads' HO_8.out).1; omega))
      obtain ⟨ua107_0, uc107_0, ua107_4, uc107_4, ua107_5, uc107_5, ua107_6, uc107_6, rfl, ul107_0, ge107_0, ul107_4, ge107_4, ul107_5, ge107_5, ul107_6, ge107_6⟩ := k33_openF hMe107
      have hv107_0 := hcc107 0 _ rfl
      rw [Nat.add_zero] at hv107_0
      replace hv107_0 := Option.some.inj (hv107_0.symm.trans hx107_0)
      injection hv107_0 with hva_ hvn_ hvc_
      rw [hva_] at ge107_0
      rw [hvc_] at ul107_0
      have HL107_0 := ak (show Kd.V (Kd.slice 5 (Kd.int .u8)) 25 _ w.heap.size _ _ ((rd_T33 t103 x10_1).f0.f0) from Kd.V_mk ul107_0 ge107_0)
      clear hva_ hvn_ hvc_ ge107_0 ul107_0
      have hv107_4 := hcc107 4 _ rfl
      rw [add_field _ _ 4 (by omega)] at hv107_4
      replace hv107_4 := Option.some.inj (hv107_4.symm.trans hx107_4)
      injection hv107_4 with hva_ hvn_ hvc_
      rw [hva_] at ge107_4
      rw [hvc_] at ul107_4
      have HL107_4 := ak (show Kd.V (Kd.slice 5 (Kd.int .u8)) 25 _ w.heap.size _ _ ((rd_T33 t103 x10_1).f4.f0) from Kd.V_mk ul107_4 ge107_4)
      clear hva_ hvn_ hvc_ ge107_4 ul107_4
      have hv107_5 := hcc107 5 _ rfl
      rw [add_field _ _ 5 (by omega)] at hv107_5
      replace hv107_5 := Option.some.inj (hv107_5.symm.trans hx107_5)
      injection hv107_5 with hva_ hvn_ hvc_
      rw [hva_] at ge107_5
      rw [hvc_] at ul107_5
      have HL107_5 := ak (show Kd.V (Kd.int .u8) 5 _ w.heap.size _ _ ((rd_T33 t103 x10_1).f5) from Kd.V_mk ul107_5 ge107_5)
      clear hva_ hvn_ hvc_ ge107_5 ul107_5
      have hv107_6 := hcc107 6 _ rfl
      rw [add_field _ _ 6 (by omega)] at hv107_6
      replace hv107_6 := Option.some.inj (hv107_6.symm.trans hx107_6)
      injection hv107_6 with hva_ hvn_ hvc_
      rw [hva_] at ge107_6
      rw [hvc_] at ul107_6
      have HL107_6 := ak (show Kd.V (Kd.int .i64) 3 _ w.heap.size _ _ ((rd_T33 t103 x10_1).f6) from Kd.V_mk ul107_6 ge107_6)
      clear hva_ hvn_ hvc_ ge107_6 ul107_6 hcc107 hce107
      have HR107_0 := ak hi107_0
      have HC107_0 := ak hl107_0
      clear hi107_0 hl107_0
      have HR107_4 := ak hi107_4
      have HC107_4 := ak hl107_4
      clear hi107_4 hl107_4
      have HR107_5 := ak hi107_5
      have HC107_5 := ak hl107_5
      clear hi107_5 hl107_5
      have HR107_6 := ak hi107_6
      have HC107_6 := ak hl107_6
      clear hi107_6 hl107_6
      replace p107 := eq_true p107
      replace q107 := eq_true q107
      have ea_ := Option.some.inj (hx106_0.symm.trans hx107_0)
      injection ea_ with ea_ en_ ec_
      subst ea_
      subst ec_
      clear en_
      have ea_ := Option.some.inj (hx106_4.symm.trans hx107_4)
      injection ea_ with ea_ en_ ec_
      subst ea_
      subst ec_
      clear en_
      have ea_ := Option.some.inj (hx106_5.symm.trans hx107_5)
      injection ea_ with ea_ en_ ec_
      subst ea_
      subst ec_
      clear en_
      have ea_ := Option.some.inj (hx106_6.symm.trans hx107_6)
      injection ea_ with ea_ en_ ec_
      subst ea_
      subst ec_
      clear en_
      have hcv16 := Kd.C_string (P := Try.prog) (A := A106_5) (c := c106_5) Try.underlying25 Try.underlying5 Try.underlying9 (by repeat (first | (with_reducible exact HR107_5.out) | (with_reducible refine Kd.C_alloc ?_ _) | (with_reducible refine Kd.C_drewN ?_ _) | (with_reducible refine Kd.C_drew ?_) | exact HR107_5.out))
      have hcw16 := fun m : Nat => Kd.C_string (P := Try.prog) (A := A106_5) (c := c106_5) Try.underlying25 Try.underlying5 Try.underlying9 (Kd.C_drewN (by repeat (first | (with_reducible exact HR107_5.out) | (with_reducible refine Kd.C_alloc ?_ _) | (with_reducible refine Kd.C_drewN ?_ _) | (with_reducible refine Kd.C_drew ?_) | exact HR107_5.out)) m)
      have hcv17 := Kd.C_string (P := Try.prog) (A := A2) (c := c2) Try.underlying25 Try.underlying5 Try.underlying9 (Kd.C_below HR2.out HB.out)
      have hcw17 := fun m : Nat => Kd.C_string (P := Try.prog) (A := A2) (c := c2) Try.underlying25 Try.underlying5 Try.underlying9 (Kd.C_drewN (Kd.C_below HR2.out HB.out) m)
      go_wp2
      repeat (go_quiet (fail); try go_wp2)
      go_roundg k1
      case measure => have := HK1.out; omega
      case rel => exact ⟨(true), (wrap64 (x10_1 + 1)), o2, o2, H', ⟨by have := HK1.out; omega⟩, ⟨by (with_reducible repeat (first | apply Kd.N_alloc | apply Kd.N_drewN | apply Kd.N_drew)); exact HO_8.out⟩, ⟨bk BK101.out⟩, ⟨bk BK102.out⟩, ⟨bs⟩⟩
     ·simp only [Option.some.injEq, Prod.mk.injEq] at H
      obtain ⟨rfl, rfl⟩ := H
      obtain ⟨Ao18, co18, eo18⟩ := Kd.N_slice HO_8.out
      subst eo18
      have p106 : 0 ≤ (x10_1 : Int) := of_decide_eq_true (by first | (with_reducible assumption) | assumption)
      have q106 : x10_1 < (t103.length : Int) := of_decide_eq_true (by first | (with_reducible assumption) | assumption)
      obtain ⟨ad106, A106_0, c106_0, A106_4, c106_4, A106_5, c106_5, A106_6, c106_6, e106, hx106_0, hx106_1, hx106_2, hx106_3, hx106_4, hx106_5, hx106_6, hl106_0, hi106_0, hl106_4, hi106_4, hl106_5, hi106_5, hl106_6, hi106_6⟩ := at_T33 (Kd.N_reads' HO_8.out).2.2 x10_1 p106 q106
      cases e106
      obtain ⟨ce106, hce106, hMe106, hcc106⟩ := Kd.N_get HO_8.out z33 x10_1 p106 (by first | exact q106 | exact of_decide_eq_true (by first | (with_reducible assumption) | assumption) | (have e_ := (Kd.N_reads' HO_8.out).1; omega))
      obtain ⟨ua106_0, uc106_0, ua106_4, uc106_4, ua106_5, uc106_5, ua106_6, uc106_6, rfl, ul106_0, ge106_0, ul106_4, ge106_4, ul106_5, ge106_5, ul106_6, ge106_6⟩ := k33_openF hMe106
      have hv106_0 := hcc106 0 _ rfl
      rw [Nat.add_zero] at hv106_0
      replace hv106_0 := Option.some.inj (hv106_0.symm.trans hx106_0)
      injection hv106_0 with hva_ hvn_ hvc_
      rw [hva_] at ge106_0
      rw [hvc_] at ul106_0
      have HL106_0 := ak (show Kd.V (Kd.slice 5 (Kd.int .u8)) 25 _ w.heap.size _ _ ((rd_T33 t103 x10_1).f0.f0) from Kd.V_mk ul106_0 ge106_0)
      clear hva_ hvn_ hvc_ ge106_0 ul106_0
      have hv106_4 := hcc106 4 _ rfl
      rw [add_field _ _ 4 (by omega)] at hv106_4
      replace hv106_4 := Option.some.inj (hv106_4.symm.trans hx106_4)
      injection hv106_4 with hva_ hvn_ hvc_
      rw [hva_] at ge106_4
      rw [hvc_] at ul106_4
      have HL106_4 := ak (show Kd.V (Kd.slice 5 (Kd.int .u8)) 25 _ w.heap.size _ _ ((rd_T33 t103 x10_1).f4.f0) from Kd.V_mk ul106_4 ge106_4)
      clear hva_ hvn_ hvc_ ge106_4 ul106_4
      have hv106_5 := hcc106 5 _ rfl
      rw [add_field _ _ 5 (by omega)] at hv106_5
      replace hv106_5 := Option.some.inj (hv106_5.symm.trans hx106_5)
      injection hv106_5 with hva_ hvn_ hvc_
      rw [hva_] at ge106_5
      rw [hvc_] at ul106_5
      have HL106_5 := ak (show Kd.V (Kd.int .u8) 5 _ w.heap.size _ _ ((rd_T33 t103 x10_1).f5) from Kd.V_mk ul106_5 ge106_5)
      clear hva_ hvn_ hvc_ ge106_5 ul106_5
      have hv106_6 := hcc106 6 _ rfl
      rw [add_field _ _ 6 (by omega)] at hv106_6
      replace hv106_6 := Option.some.inj (hv106_6.symm.trans hx106_6)
      injection hv106_6 with hva_ hvn_ hvc_
      rw [hva_] at ge106_6
      rw [hvc_] at ul106_6
      have HL106_6 := ak (show Kd.V (Kd.int .i64) 3 _ w.heap.size _ _ ((rd_T33 t103 x10_1).f6) from Kd.V_mk ul106_6 ge106_6)
      clear hva_ hvn_ hvc_ ge106_6 ul106_6 hcc106 hce106
      have HR106_0 := ak hi106_0
      have HC106_0 := ak hl106_0
      clear hi106_0 hl106_0
      have HR106_4 := ak hi106_4
      have HC106_4 := ak hl106_4
      clear hi106_4 hl106_4
      have HR106_5 := ak hi106_5
      have HC106_5 := ak hl106_5
      clear hi106_5 hl106_5
      have HR106_6 := ak hi106_6
      have HC106_6 := ak hl106_6
      clear hi106_6 hl106_6
      replace p106 := eq_true p106
      replace q106 := eq_true q106
      have p107 : 0 ≤ (x10_1 : Int) := of_decide_eq_true (by first | (with_reducible assumption) | assumption)
      have q107 : x10_1 < (t103.length : Int) := of_decide_eq_true (by first | (with_reducible assumption) | assumption)
      obtain ⟨ad107, A107_0, c107_0, A107_4, c107_4, A107_5, c107_5, A107_6, c107_6, e107, hx107_0, hx107_1, hx107_2, hx107_3, hx107_4, hx107_5, hx107_6, hl107_0, hi107_0, hl107_4, hi107_4, hl107_5, hi107_5, hl107_6, hi107_6⟩ := at_T33 (Kd.N_reads' HO_8.out).2.2 x10_1 p107 q107
      obtain rfl : ad106 = ad107 := (by injection e107)
      obtain ⟨ce107, hce107, hMe107, hcc107⟩ := Kd.N_get HO_8.out z33 x10_1 p107 (by first | exact q107 | exact of_decide_eq_true (by first | (with_reducible assumption) | assumption) | (have e_ := (Kd.N_reads' HO_8.out).1; omega))
      obtain ⟨ua107_0, uc107_0, ua107_4, uc107_4, ua107_5, uc107_5, ua107_6, uc107_6, rfl, ul107_0, ge107_0, ul107_4, ge107_4, ul107_5, ge107_5, ul107_6, ge107_6⟩ := k33_openF hMe107
      have hv107_0 := hcc107 0 _ rfl
      rw [Nat.add_zero] at hv107_0
      replace hv107_0 := Option.some.inj (hv107_0.symm.trans hx107_0)
      injection hv107_0 with hva_ hvn_ hvc_
      rw [hva_] at ge107_0
      rw [hvc_] at ul107_0
      have HL107_0 := ak (show Kd.V (Kd.slice 5 (Kd.int .u8)) 25 _ w.heap.size _ _ ((rd_T33 t103 x10_1).f0.f0) from Kd.V_mk ul107_0 ge107_0)
      clear hva_ hvn_ hvc_ ge107_0 ul107_0
      have hv107_4 := hcc107 4 _ rfl
      rw [add_field _ _ 4 (by omega)] at hv107_4
      replace hv107_4 := Option.some.inj (hv107_4.symm.trans hx107_4)
      injection hv107_4 with hva_ hvn_ hvc_
      rw [hva_] at ge107_4
      rw [hvc_] at ul107_4
      have HL107_4 := ak (show Kd.V (Kd.slice 5 (Kd.int .u8)) 25 _ w.heap.size _ _ ((rd_T33 t103 x10_1).f4.f0) from Kd.V_mk ul107_4 ge107_4)
      clear hva_ hvn_ hvc_ ge107_4 ul107_4
      have hv107_5 := hcc107 5 _ rfl
      rw [add_field _ _ 5 (by omega)] at hv107_5
      replace hv107_5 := Option.some.inj (hv107_5.symm.trans hx107_5)
      injection hv107_5 with hva_ hvn_ hvc_
      rw [hva_] at ge107_5
      rw [hvc_] at ul107_5
      have HL107_5 := ak (show Kd.V (Kd.int .u8) 5 _ w.heap.size _ _ ((rd_T33 t103 x10_1).f5) from Kd.V_mk ul107_5 ge107_5)
      clear hva_ hvn_ hvc_ ge107_5 ul107_5
      have hv107_6 := hcc107 6 _ rfl
      rw [add_field _ _ 6 (by omega)] at hv107_6
      replace hv107_6 := Option.some.inj (hv107_6.symm.trans hx107_6)
      injection hv107_6 with hva_ hvn_ hvc_
      rw [hva_] at ge107_6
      rw [hvc_] at ul107_6
      have HL107_6 := ak (show Kd.V (Kd.int .i64) 3 _ w.heap.size _ _ ((rd_T33 t103 x10_1).f6) from Kd.V_mk ul107_6 ge107_6)
      clear hva_ hvn_ hvc_ ge107_6 ul107_6 hcc107 hce107
      have HR107_0 := ak hi107_0
      have HC107_0 := ak hl107_0
      clear hi107_0 hl107_0
      have HR107_4 := ak hi107_4
      have HC107_4 := ak hl107_4
      clear hi107_4 hl107_4
      have HR107_5 := ak hi107_5
      have HC107_5 := ak hl107_5
      clear hi107_5 hl107_5
      have HR107_6 := ak hi107_6
      have HC107_6 := ak hl107_6
      clear hi107_6 hl107_6
      replace p107 := eq_true p107
      replace q107 := eq_true q107
      have ea_ := Option.some.inj (hx106_0.symm.trans hx107_0)
      injection ea_ with ea_ en_ ec_
      subst ea_
      subst ec_
      clear en_
      have ea_ := Option.some.inj (hx106_4.symm.trans hx107_4)
      injection ea_ with ea_ en_ ec_
      subst ea_
      subst ec_
      clear en_
      have ea_ := Option.some.inj (hx106_5.symm.trans hx107_5)
      injection ea_ with ea_ en_ ec_
      subst ea_
      subst ec_
      clear en_
      have ea_ := Option.some.inj (hx106_6.symm.trans hx107_6)
      injection ea_ with ea_ en_ ec_
      subst ea_
      subst ec_
      clear en_
      have hcv19 := Kd.C_string (P := Try.prog) (A := A106_5) (c := c106_5) Try.underlying25 Try.underlying5 Try.underlying9 (by repeat (first | (with_reducible exact HR107_5.out) | (with_reducible refine Kd.C_alloc ?_ _) | (with_reducible refine Kd.C_drewN ?_ _) | (with_reducible refine Kd.C_drew ?_) | exact HR107_5.out))
      have hcw19 := fun m : Nat => Kd.C_string (P := Try.prog) (A := A106_5) (c := c106_5) Try.underlying25 Try.underlying5 Try.underlying9 (Kd.C_drewN (by repeat (first | (with_reducible exact HR107_5.out) | (with_reducible refine Kd.C_alloc ?_ _) | (with_reducible refine Kd.C_drewN ?_ _) | (with_reducible refine Kd.C_drew ?_) | exact HR107_5.out)) m)
      have hcv20 := Kd.C_string (P := Try.prog) (A := A2) (c := c2) Try.underlying25 Try.underlying5 Try.underlying9 (Kd.C_below HR2.out HB.out)
      have hcw20 := fun m : Nat => Kd.C_string (P := Try.prog) (A := A2) (c := c2) Try.underlying25 Try.underlying5 Try.underlying9 (Kd.C_drewN (Kd.C_below HR2.out HB.out) m)
      go_wp2
      repeat (go_quiet (fail); try go_wp2)
      go_ret2
      exact ⟨o1, bs⟩
    ·have H' := ak H
     clear H
     obtain ⟨Ao21, co21, eo21⟩ := Kd.N_slice HO_8.out
     subst eo21
     have p106 : 0 ≤ (x10_1 : Int) := of_decide_eq_true (by first | (with_reducible assumption) | assumption)
     have q106 : x10_1 < (t103.length : Int) := of_decide_eq_true (by first | (with_reducible assumption) | assumption)
     obtain ⟨ad106, A106_0, c106_0, A106_4, c106_4, A106_5, c106_5, A106_6, c106_6, e106, hx106_0, hx106_1, hx106_2, hx106_3, hx106_4, hx106_5, hx106_6, hl106_0, hi106_0, hl106_4, hi106_4, hl106_5, hi106_5, hl106_6, hi106_6⟩ := at_T33 (Kd.N_reads' HO_8.out).2.2 x10_1 p106 q106
     cases e106
     obtain ⟨ce106, hce106, hMe106, hcc106⟩ := Kd.N_get HO_8.out z33 x10_1 p106 (by first | exact q106 | exact of_decide_eq_true (by first | (with_reducible assumption) | assumption) | (have e_ := (Kd.N_reads' HO_8.out).1; omega))
     obtain ⟨ua106_0, uc106_0, ua106_4, uc106_4, ua106_5, uc106_5, ua106_6, uc106_6, rfl, ul106_0, ge106_0, ul106_4, ge106_4, ul106_5, ge106_5, ul106_6, ge106_6⟩ := k33_openF hMe106
     have hv106_0 := hcc106 0 _ rfl
     rw [Nat.add_zero] at hv106_0
     replace hv106_0 := Option.some.inj (hv106_0.symm.trans hx106_0)
     injection hv106_0 with hva_ hvn_ hvc_
     rw [hva_] at ge106_0
     rw [hvc_] at ul106_0
     have HL106_0 := ak (show Kd.V (Kd.slice 5 (Kd.int .u8)) 25 _ w.heap.size _ _ ((rd_T33 t103 x10_1).f0.f0) from Kd.V_mk ul106_0 ge106_0)
     clear hva_ hvn_ hvc_ ge106_0 ul106_0
     have hv106_4 := hcc106 4 _ rfl
     rw [add_field _ _ 4 (by omega)] at hv106_4
     replace hv106_4 := Option.some.inj (hv106_4.symm.trans hx106_4)
     injection hv106_4 with hva_ hvn_ hvc_
     rw [hva_] at ge106_4
     rw [hvc_] at ul106_4
     have HL106_4 := ak (show Kd.V (Kd.slice 5 (Kd.int .u8)) 25 _ w.heap.size _ _ ((rd_T33 t103 x10_1).f4.f0) from Kd.V_mk ul106_4 ge106_4)
     clear hva_ hvn_ hvc_ ge106_4 ul106_4
     have hv106_5 := hcc106 5 _ rfl
     rw [add_field _ _ 5 (by omega)] at hv106_5
     replace hv106_5 := Option.some.inj (hv106_5.symm.trans hx106_5)
     injection hv106_5 with hva_ hvn_ hvc_
     rw [hva_] at ge106_5
     rw [hvc_] at ul106_5
     have HL106_5 := ak (show Kd.V (Kd.int .u8) 5 _ w.heap.size _ _ ((rd_T33 t103 x10_1).f5) from Kd.V_mk ul106_5 ge106_5)
     clear hva_ hvn_ hvc_ ge106_5 ul106_5
     have hv106_6 := hcc106 6 _ rfl
     rw [add_field _ _ 6 (by omega)] at hv106_6
     replace hv106_6 := Option.some.inj (hv106_6.symm.trans hx106_6)
     injection hv106_6 with hva_ hvn_ hvc_
     rw [hva_] at ge106_6
     rw [hvc_] at ul106_6
     have HL106_6 := ak (show Kd.V (Kd.int .i64) 3 _ w.heap.size _ _ ((rd_T33 t103 x10_1).f6) from Kd.V_mk ul106_6 ge106_6)
     clear hva_ hvn_ hvc_ ge106_6 ul106_6 hcc106 hce106
     have HR106_0 := ak hi106_0
     have HC106_0 := ak hl106_0
     clear hi106_0 hl106_0
     have HR106_4 := ak hi106_4
     have HC106_4 := ak hl106_4
     clear hi106_4 hl106_4
     have HR106_5 := ak hi106_5
     have HC106_5 := ak hl106_5
     clear hi106_5 hl106_5
     have HR106_6 := ak hi106_6
     have HC106_6 := ak hl106_6
     clear hi106_6 hl106_6
     replace p106 := eq_true p106
     replace q106 := eq_true q106
     go_wp2
     repeat (go_quiet (fail); try go_wp2)
     go_roundg k1
     case measure => have := HK1.out; omega
     case rel => exact ⟨(x9_1), (wrap64 (x10_1 + 1)), o2, o2, H', ⟨by have := HK1.out; omega⟩, ⟨by (with_reducible repeat (first | apply Kd.N_alloc | apply Kd.N_drewN | apply Kd.N_drew)); exact HO_8.out⟩, ⟨bk BK101.out⟩, ⟨bk BK102.out⟩, ⟨bs⟩⟩
   ·simp only [Option.some.injEq, Prod.mk.injEq] at H
    obtain ⟨rfl, rfl⟩ := H
    obtain ⟨Ao22, co22, eo22⟩ := Kd.N_slice HO_8.out
    subst eo22
    go_wp2
    repeat (go_quiet (fail); try go_wp2)
    go_ret2
    exact ⟨o1, bs⟩

/-! ### spec_Owner: function 46 -/
def spec_Owner.f (k : Nat) (l0_0 : List (List Int)) (l0_1 : List (S33)) (l1_0 : List (List Int)) (l2 : List Int) : Option (Bool × Bool) := (spec_ZoneOk.f k l0_0 l0_1).bind fun t103 => (if t103 = true then ((spec_NameOk.f k l1_0).bind fun t104 => (if t104 = true then ((spec_l7owner.f k l0_0 l0_1 l1_0 l2).bind fun bt105 => (some (bt105.1, bt105.2))) else (some (false, false)))) else (some (false, false)))
theorem spec_Owner.mono : ∀ a0 a1 a2 a3 k, LeO (spec_Owner.f k a0 a1 a2 a3) (spec_Owner.f (k + 1) a0 a1 a2 a3) := by
 intro a0 a1 a2 a3 k
 unfold spec_Owner.f
 repeat' first
   | (with_reducible exact spec_NameOk.mono _ _)
   | (with_reducible exact spec_ZoneOk.mono _ _ _)
   | (with_reducible exact spec_l7owner.mono _ _ _ _ _)
   | (with_reducible exact LeO.refl _)
   | (with_reducible exact LeO.none _)
   | (with_reducible refine LeO.ite ?_ ?_)
   | (with_reducible refine LeO.bind ?_ (fun _ => ?_))
   | exact spec_NameOk.mono _ _
   | exact spec_ZoneOk.mono _ _ _
   | exact spec_l7owner.mono _ _ _ _ _
   | exact LeO.none _
   | refine LeO.ite ?_ ?_
   | refine LeO.bind ?_ (fun _ => ?_)
set_option maxHeartbeats 8000000 in
set_option maxRecDepth 100000 in
theorem spec_Owner.calls (k : Nat) (A0_0 : Option Addr) (c0_0 : Nat) (l0_0 : List (List Int)) (A0_1 : Option Addr) (c0_1 : Nat) (l0_1 : List (S33)) (A1_0 : Option Addr) (c1_0 : Nat) (l1_0 : List (List Int)) (A2 : Option Addr) (c2 : Nat) (l2 : List Int) (r1 : Bool) (r2 : Bool) (w : World) (hr0_0 : Kd.C (Kd.slice 5 (Kd.int .u8)) w A0_0 l0_0.length l0_0) (hc0_0 : l0_0.length ≤ c0_0) (hr0_1 : Kd.C k33 w A0_1 l0_1.length l0_1) (hc0_1 : l0_1.length ≤ c0_1) (hr1_0 : Kd.C (Kd.slice 5 (Kd.int .u8)) w A1_0 l1_0.length l1_0) (hc1_0 : l1_0.length ≤ c1_0) (hr2 : Kd.C (Kd.int .u8) w A2 l2.length l2) (hc2 : l2.length ≤ c2) (h : spec_Owner.f k l0_0 l0_1 l1_0 l2 = some (r1, r2)) :
  Calls Try.prog 46 #[.agg #[.slice A0_0 l0_0.length c0_0, .slice A0_1 l0_1.length c0_1], .agg #[.slice A1_0 l1_0.length c1_0], .slice A2 l2.length c2] w fun e w' => e = .returned (.tuple #[.bool r1, .bool r2]) ∧ Below w.heap.size w w' := by
 have hu59 := Try.underlying59
 have hu31 := Try.underlying31
 have HR0_0 := ak hr0_0
 have HC0_0 := ak hc0_0
 clear hr0_0 hc0_0
 have HR0_1 := ak hr0_1
 have HC0_1 := ak hc0_1
 clear hr0_1 hc0_1
 have HR1_0 := ak hr1_0
 have HC1_0 := ak hc1_0
 clear hr1_0 hc1_0
 have HR2 := ak hr2
 have HC2 := ak hc2
 clear hr2 hc2
 have HB := ak (Below.refl w.heap.size w)
 have H : ((spec_ZoneOk.f k l0_0 l0_1).bind fun t103 => (if t103 = true then ((spec_NameOk.f k l1_0).bind fun t104 => (if t104 = true then ((spec_l7owner.f k l0_0 l0_1 l1_0 l2).bind fun bt105 => (some (bt105.1, bt105.2))) else (some (false, false)))) else (some (false, false)))) = some (r1, r2) := h
 clear h
 replace H := bnd H
 obtain ⟨t103, A4, H⟩ := H
 replace H := ib H
 obtain ⟨rfl, H⟩ | ⟨rfl, H⟩ := H
 ·replace H := bnd H
  obtain ⟨t104, A6, H⟩ := H
  replace H := ib H
  obtain ⟨rfl, H⟩ | ⟨rfl, H⟩ := H
  ·replace H := Option.bind_eq_some_iff.mp H
   obtain ⟨⟨t105, t106⟩, A80, H⟩ := H
   replace H : (some (t105, t106)) = some (r1, r2) := H
   have A8 := ak A80
   clear A80
   simp only [Option.some.injEq, Prod.mk.injEq] at H
   obtain ⟨rfl, rfl⟩ := H
   go_enter Try.func46, Try.ntmps46
   go_wp2_with (first | ((with_reducible refine gate_dst (N := 3) rfl ?_);refine bxd (N := 3) rfl HB ?_;clear HB;intro gb101 w9 hg HB BK101 GE101 hb;have GW101 := GE101;clear hb hg) | ((with_reducible refine gate_dst (N := 4) rfl ?_);refine bxe (N := 4) rfl ?_;intro gb102 hg w10 hbox hb;have BK102 := ak (hbox);have GW102 := b3s hg bs;have GE102 := GW102;replace HB := b2s bs hb;have NB101_102 := b4 hg BK101;have NB102_101 := b5 hg BK101;replace BK101 := b1 BK101 hb;clear hb hbox hg;have hnb11 := NB101_102.out;have hnc11 := NB102_101.out;obtain ⟨hcz12_0, hcz12_1, hfz12_0, hfz12_1⟩ := cells2 BK101.out) | ((with_reducible refine gate_callee (f := 35) rfl ?_);refine glB 9 rfl rfl Try.func35 (spec_ZoneOk.calls k _ _ l0_0 _ _ l0_1 true _ (cv HR0_0 HB) HC0_0.out (cv HR0_1 HB) HC0_1.out A4.out) (fun w13 hb => ?_);replace BK101 := b1 BK101 hb;replace BK102 := b1 BK102 hb;replace HB := b2s bs hb;(try clear hb);obtain ⟨hcz14_0, hfz14_0⟩ := cells1 BK102.out) | (go_at_call 76;(with_reducible refine (spec_NameOk.calls k _ _ l1_0 true _ (cv HR1_0 HB) HC1_0.out A6.out).mono ?_);rintro e w15 ⟨rfl, hb⟩;replace BK101 := b1 BK101 hb;replace BK102 := b1 BK102 hb;replace HB := b2s bs hb;(try clear hb);obtain ⟨hcz16_0, hcz16_1, hfz16_0, hfz16_1⟩ := cells2 BK101.out;obtain ⟨hcz17_0, hfz17_0⟩ := cells1 BK102.out) | ((with_reducible refine gate_callee (f := 112) rfl ?_);refine glB 19 rfl rfl Try.func112 (spec_l7owner.calls k _ _ l0_0 _ _ l0_1 _ _ l1_0 _ _ l2 t105 t106 _ (cv HR0_0 HB) HC0_0.out (cv HR0_1 HB) HC0_1.out (cv HR1_0 HB) HC1_0.out (cv HR2 HB) HC2.out A8.out) (fun w18 hb => ?_);replace BK101 := b1 BK101 hb;replace BK102 := b1 BK102 hb;replace HB := b2s bs hb;(try clear hb)))
   go_ret2
   exact ⟨o1, bs⟩
  ·simp only [Option.some.injEq, Prod.mk.injEq] at H
   obtain ⟨rfl, rfl⟩ := H
   go_enter Try.func46, Try.ntmps46
   go_wp2_with (first | ((with_reducible refine gate_dst (N := 3) rfl ?_);refine bxd (N := 3) rfl HB ?_;clear HB;intro gb101 w19 hg HB BK101 GE101 hb;have GW101 := GE101;clear hb hg) | ((with_reducible refine gate_dst (N := 4) rfl ?_);refine bxe (N := 4) rfl ?_;intro gb102 hg w20 hbox hb;have BK102 := ak (hbox);have GW102 := b3s hg bs;have GE102 := GW102;replace HB := b2s bs hb;have NB101_102 := b4 hg BK101;have NB102_101 := b5 hg BK101;replace BK101 := b1 BK101 hb;clear hb hbox hg;have hnb21 := NB101_102.out;have hnc21 := NB102_101.out;obtain ⟨hcz22_0, hcz22_1, hfz22_0, hfz22_1⟩ := cells2 BK101.out) | ((with_reducible refine gate_callee (f := 35) rfl ?_);refine glB 9 rfl rfl Try.func35 (spec_ZoneOk.calls k _ _ l0_0 _ _ l0_1 true _ (cv HR0_0 HB) HC0_0.out (cv HR0_1 HB) HC0_1.out A4.out) (fun w23 hb => ?_);replace BK101 := b1 BK101 hb;replace BK102 := b1 BK102 hb;replace HB := b2s bs hb;(try clear hb);obtain ⟨hcz24_0, hfz24_0⟩ := cells1 BK102.out) | (go_at_call 76;(with_reducible refine (spec_NameOk.calls k _ _ l1_0 false _ (cv HR1_0 HB) HC1_0.out A6.out).mono ?_);rintro e w25 ⟨rfl, hb⟩;replace BK101 := b1 BK101 hb;replace BK102 := b1 BK102 hb;replace HB := b2s bs hb;(try clear hb)))
   go_ret2
   exact ⟨o1, bs⟩
 ·simp only [Option.some.injEq, Prod.mk.injEq] at H
  obtain ⟨rfl, rfl⟩ := H
  go_enter Try.func46, Try.ntmps46
  go_wp2_with (first | ((with_reducible refine gate_dst (N := 3) rfl ?_);refine bxd (N := 3) rfl HB ?_;clear HB;intro gb101 w26 hg HB BK101 GE101 hb;have GW101 := GE101;clear hb hg) | ((with_reducible refine gate_dst (N := 4) rfl ?_);refine bxe (N := 4) rfl ?_;intro gb102 hg w27 hbox hb;have BK102 := ak (hbox);have GW102 := b3s hg bs;have GE102 := GW102;replace HB := b2s bs hb;have NB101_102 := b4 hg BK101;have NB102_101 := b5 hg BK101;replace BK101 := b1 BK101 hb;clear hb hbox hg;have hnb28 := NB101_102.out;have hnc28 := NB102_101.out;obtain ⟨hcz29_0, hcz29_1, hfz29_0, hfz29_1⟩ := cells2 BK101.out) | ((with_reducible refine gate_callee (f := 35) rfl ?_);refine glB 9 rfl rfl Try.func35 (spec_ZoneOk.calls k _ _ l0_0 _ _ l0_1 false _ (cv HR0_0 HB) HC0_0.out (cv HR0_1 HB) HC0_1.out A4.out) (fun w30 hb => ?_);replace BK101 := b1 BK101 hb;replace BK102 := b1 BK102 hb;replace HB := b2s bs hb;(try clear hb)))
  go_ret2
  exact ⟨o1, bs⟩

/-! ### cmp_Or_int: function 140 -/
def cmp_Or_int.l0 : Nat → Int → List Int → Int → Int → Option (Int)
 | 0, _, _, _, _ => none
 | k + 1, x3, x6, x7, x8 => if x8 < x7 then (if 0 ≤ x8 then (if x8 < (x6.length : Int) then (if (rd x6 x8) = x3 then (cmp_Or_int.l0 k x3 x6 x7 (wrap64 (x8 + 1))) else (some (rd x6 x8))) else (none)) else (none)) else (some x3)
def cmp_Or_int.f (k : Nat) (l0 : List Int) : Option (Int) := cmp_Or_int.l0 k 0 l0 (l0.length : Int) 0
theorem cmp_Or_int.mono_l : ∀ k, (∀ y0 y1 y2 y3, LeO (cmp_Or_int.l0 k y0 y1 y2 y3) (cmp_Or_int.l0 (k + 1) y0 y1 y2 y3))
 | 0 => fun _ _ _ _ r h => by simp [cmp_Or_int.l0] at h
 | k + 1 => by
  have ih0 := cmp_Or_int.mono_l k
  ·intro y0 y1 y2 y3
   unfold cmp_Or_int.l0
   repeat' first
   | (with_reducible exact ih0 _ _ _ _)
   | (with_reducible exact LeO.refl _)
   | (with_reducible exact LeO.none _)
   | (with_reducible refine LeO.ite ?_ ?_)
   | (with_reducible refine LeO.bind ?_ (fun _ => ?_))
   | exact ih0 _ _ _ _
   | exact LeO.none _
   | refine LeO.ite ?_ ?_
   | refine LeO.bind ?_ (fun _ => ?_)
theorem cmp_Or_int.mono : ∀ a0 k, LeO (cmp_Or_int.f k a0) (cmp_Or_int.f (k + 1) a0) := by
 intro a0 k
 have ih0 := cmp_Or_int.mono_l k
 unfold cmp_Or_int.f
 repeat' first
   | (with_reducible exact ih0 _ _ _ _)
   | (with_reducible exact LeO.refl _)
   | (with_reducible exact LeO.none _)
   | (with_reducible refine LeO.ite ?_ ?_)
   | (with_reducible refine LeO.bind ?_ (fun _ => ?_))
   | exact ih0 _ _ _ _
   | exact LeO.none _
   | refine LeO.ite ?_ ?_
   | refine LeO.bind ?_ (fun _ => ?_)
set_option maxHeartbeats 8000000 in
set_option maxRecDepth 100000 in
theorem cmp_Or_int.calls (k : Nat) (A0 : Option Addr) (c0 : Nat) (l0 : List Int) (r : Int) (w : World) (hr0 : Kd.C (Kd.int .i64) w A0 l0.length l0) (hc0 : l0.length ≤ c0) (h : cmp_Or_int.f k l0 = some r) :
  Calls Try.prog 140 #[.slice A0 l0.length c0] w fun e w' => e = .returned (.int .i64 r) ∧ Drawn0 w w' := by
 have HR0 := ak hr0
 have HC0 := ak hc0
 clear hr0 hc0
 have H : (cmp_Or_int.l0 k 0 l0 (l0.length : Int) 0) = some r := h
 clear h
 have H' := ak H
 clear H
 go_enter Try.func140, Try.ntmps140
 go_wp2
 go_loopg [8] k (fun kq v8 w' => ∃ (x8_1 : Int), v8 = .int .i64 x8_1 ∧ Aside0 (cmp_Or_int.l0 kq 0 l0 (l0.length : Int) x8_1 = some r) ∧ Aside0 (kq ≤ k) ∧ Drawn0 w w')
 case atStart => exact ⟨(0), o2, H', ⟨Nat.le_refl _⟩, od⟩
 case round =>
  clear H'
  obtain ⟨x8_1, rfl, HA, HK1, ⟨m1, rfl⟩⟩ := hrel
  cases gk with
  | zero => exact absurd HA.out (by simp [cmp_Or_int.l0])
  | succ k1 =>
   have H := HA.out
   clear HA
   simp only [cmp_Or_int.l0] at H
   replace H := ip H
   obtain ⟨c2b0, H⟩ | ⟨c2b0, H⟩ := H
   ·replace H := ipN H
    obtain ⟨c3b0, H⟩ := H
    replace H := ipN H
    obtain ⟨c4b0, H⟩ := H
    replace H := ie H
    obtain ⟨c5b0, c5b1, H⟩ | ⟨c5b0, c5b1, H⟩ := H
    ·have H' := ak H
     clear H
     obtain ⟨ad101, rfl, hx101_0, p101, q101⟩ := el0_int HR0 x8_1
     go_wp2
     go_roundg k1
     case measure => have := HK1.out; omega
     case rel => exact ⟨(wrap64 (x8_1 + 1)), o2, H', ⟨by have := HK1.out; omega⟩, od⟩
    ·obtain rfl := Option.some.inj H
     obtain ⟨ad101, rfl, hx101_0, p101, q101⟩ := el0_int HR0 x8_1
     go_wp2
     go_ret
     exact ⟨o2, od⟩
   ·obtain rfl := Option.some.inj H
    go_wp2
    go_ret
    exact ⟨o2, od⟩

/-! ### cmp_isNaN_int: function 207 -/
def cmp_isNaN_int.f (a0 : Int) : Option (Bool) := some (a0 != a0)
set_option maxHeartbeats 8000000 in
set_option maxRecDepth 100000 in
theorem cmp_isNaN_int.calls (a0 : Int) (r : Bool) (w : World) (h : cmp_isNaN_int.f a0 = some r) :
  Calls Try.prog 207 #[.int .i64 a0] w fun e w' => e = .returned (.bool r) ∧ Drawn0 w w' := by
 have H : (some (a0 != a0)) = some r := h
 clear h
 obtain rfl := Option.some.inj H
 go_enter Try.func207, Try.ntmps207
 go_wp2
 go_ret
 exact ⟨o2, od⟩

/-! ### cmp_Compare_int: function 142 -/
def cmp_Compare_int.f (a0 : Int) (a1 : Int) : Option (Int) := (cmp_isNaN_int.f a0).bind fun t101 => ((cmp_isNaN_int.f a1).bind fun t102 => (if t101 = true then (if t102 = true then (some 0) else (some (-1))) else (if t102 = true then (some 1) else (if a0 < a1 then (some (-1)) else (if a0 > a1 then (some 1) else (some 0))))))
set_option maxHeartbeats 8000000 in
set_option maxRecDepth 100000 in
theorem cmp_Compare_int.calls (a0 : Int) (a1 : Int) (r : Int) (w : World) (h : cmp_Compare_int.f a0 a1 = some r) :
  Calls Try.prog 142 #[.int .i64 a0, .int .i64 a1] w fun e w' => e = .returned (.int .i64 r) ∧ Drawn0 w w' := by
 have H : ((cmp_isNaN_int.f a0).bind fun t101 => ((cmp_isNaN_int.f a1).bind fun t102 => (if t101 = true then (if t102 = true then (some 0) else (some (-1))) else (if t102 = true then (some 1) else (if a0 < a1 then (some (-1)) else (if a0 > a1 then (some 1) else (some 0))))))) = some r := h
 clear h
 replace H := bnd H
 obtain ⟨t101, A3, H⟩ := H
 replace H := bnd H
 obtain ⟨t102, A4, H⟩ := H
 replace H := ib H
 obtain ⟨rfl, H⟩ | ⟨rfl, H⟩ := H
 ·replace H := ib H
  obtain ⟨rfl, H⟩ | ⟨rfl, H⟩ := H
  ·obtain rfl := Option.some.inj H
   go_enter Try.func142, Try.ntmps142
   go_wp2_with (first | ((with_reducible refine gate_callee (f := 207) rfl ?_);refine glD 8 rfl rfl Try.func207 (cmp_isNaN_int.calls a0 true _ A3.out) (fun nd => ?_)) | ((with_reducible refine gate_callee (f := 207) rfl ?_);refine glD 10 rfl rfl Try.func207 (cmp_isNaN_int.calls a1 true _ A4.out) (fun nd => ?_)))
   go_ret
   exact ⟨o2, od⟩
  ·obtain rfl := Option.some.inj H
   go_enter Try.func142, Try.ntmps142
   go_wp2_with (first | ((with_reducible refine gate_callee (f := 207) rfl ?_);refine glD 8 rfl rfl Try.func207 (cmp_isNaN_int.calls a0 true _ A3.out) (fun nd => ?_)) | ((with_reducible refine gate_callee (f := 207) rfl ?_);refine glD 10 rfl rfl Try.func207 (cmp_isNaN_int.calls a1 false _ A4.out) (fun nd => ?_)))
   go_ret
   exact ⟨o2, od⟩
 ·replace H := ib H
  obtain ⟨rfl, H⟩ | ⟨rfl, H⟩ := H
  ·obtain rfl := Option.some.inj H
   go_enter Try.func142, Try.ntmps142
   go_wp2_with (first | ((with_reducible refine gate_callee (f := 207) rfl ?_);refine glD 8 rfl rfl Try.func207 (cmp_isNaN_int.calls a0 false _ A3.out) (fun nd => ?_)) | ((with_reducible refine gate_callee (f := 207) rfl ?_);refine glD 10 rfl rfl Try.func207 (cmp_isNaN_int.calls a1 true _ A4.out) (fun nd => ?_)))
   go_ret
   exact ⟨o2, od⟩
  ·replace H := ip H
   obtain ⟨c8b0, H⟩ | ⟨c8b0, H⟩ := H
   ·obtain rfl := Option.some.inj H
    go_enter Try.func142, Try.ntmps142
    go_wp2_with (first | ((with_reducible refine gate_callee (f := 207) rfl ?_);refine glD 8 rfl rfl Try.func207 (cmp_isNaN_int.calls a0 false _ A3.out) (fun nd => ?_)) | ((with_reducible refine gate_callee (f := 207) rfl ?_);refine glD 10 rfl rfl Try.func207 (cmp_isNaN_int.calls a1 false _ A4.out) (fun nd => ?_)))
    go_ret
    exact ⟨o2, od⟩
   ·replace H := ig H
    obtain ⟨c9b0, H⟩ | ⟨c9b0, H⟩ := H
    ·obtain rfl := Option.some.inj H
     go_enter Try.func142, Try.ntmps142
     go_wp2_with (first | ((with_reducible refine gate_callee (f := 207) rfl ?_);refine glD 8 rfl rfl Try.func207 (cmp_isNaN_int.calls a0 false _ A3.out) (fun nd => ?_)) | ((with_reducible refine gate_callee (f := 207) rfl ?_);refine glD 10 rfl rfl Try.func207 (cmp_isNaN_int.calls a1 false _ A4.out) (fun nd => ?_)))
     go_ret
     exact ⟨o2, od⟩
    ·obtain rfl := Option.some.inj H
     go_enter Try.func142, Try.ntmps142
     go_wp2_with (first | ((with_reducible refine gate_callee (f := 207) rfl ?_);refine glD 8 rfl rfl Try.func207 (cmp_isNaN_int.calls a0 false _ A3.out) (fun nd => ?_)) | ((with_reducible refine gate_callee (f := 207) rfl ?_);refine glD 10 rfl rfl Try.func207 (cmp_isNaN_int.calls a1 false _ A4.out) (fun nd => ?_)))
     go_ret
     exact ⟨o2, od⟩

/-! ### bytes_Compare: function 143 -/

theorem bytes_Compare.push (l : List Int) : ∀ (acc : ByteArray), l.foldl (fun (s : ByteArray) n => s.push n.toNat.toUInt8) acc = ⟨acc.data ++ (l.map fun n => UInt8.ofNat n.toNat).toArray⟩ := by
 induction l with
 | nil => intro acc; simp
 | cons x l ih => intro acc; rw [List.foldl_cons, ih]; simp [ByteArray.push]
theorem bytes_Compare.loads {P : Program} (w : World) (l : List Int) : ∀ (a : Addr) (acc : ByteArray), (∀ j x, l[j]? = some x → w.cell? (a.add j) = some (.int .u8 x)) →
  (Extern.Bytes.loadBytes a l.length acc).run P w = .ok (l.foldl (fun (s : ByteArray) n => s.push n.toNat.toUInt8) acc) w := by
 induction l with
 | nil => intro a acc h; simp [Extern.Bytes.loadBytes, Sem.run_pure]
 | cons x l ih =>
  intro a acc h
  have h0 := h 0 x rfl
  have ha : a.add 0 = a := by cases a; simp [Addr.add]
  rw [ha] at h0
  have hl : (load a).run P w = .ok (.int .u8 x) w := by go_simp
  simp only [List.length_cons, Extern.Bytes.loadBytes, Sem.run_bind, hl, Result.andThen]
  rw [ih (a.add 1) (acc.push x.toNat.toUInt8) (fun j y hj => by rw [Go.Proofs.YtagedmajlppohaaW.PrintWords.add_add, Nat.add_comm]; exact h (j + 1) y (by simpa using hj))]
  rfl
theorem bytes_Compare.bytes {P : Program} (w : World) (A : Option Addr) (c : Nat) (l : List Int) (h : Kd.C (Kd.int .u8) w A l.length l) : (Extern.Bytes.bytesOf (.slice A l.length c)).run P w = .ok (strOfNums l) w := by
 cases A with
 | none =>
  have hl : l = [] := by
   cases l with
   | nil => rfl
   | cons x l => obtain ⟨ad, e, _⟩ := h.2.2 (by simp); cases e
  subst hl
  simp [Extern.Bytes.bytesOf, Sem.run_pure, strOfNums]; rfl
 | some a =>
  have := bytes_Compare.loads (P := P) w l a ByteArray.empty (fun j x hj => by
   have hjl := (List.getElem?_eq_some_iff.1 hj).1
   obtain ⟨ad, e, hc⟩ := Kd.at_int h (j : Int) (by omega) (by omega)
   injection e with e; subst e
   rw [show ((j : Int)).toNat = j from by omega] at hc
   rw [hc]
   simp [rd, List.getD_eq_getElem?_getD, hj])
  simp only [Extern.Bytes.bytesOf]
  rw [this, bytes_Compare.push]
  simp [strOfNums]
theorem bytes_Compare.run {P : Program} (w : World) (A0 : Option Addr) (c0 : Nat) (l0 : List Int) (A1 : Option Addr) (c1 : Nat) (l1 : List Int) (h0 : Kd.C (Kd.int .u8) w A0 l0.length l0) (h1 : Kd.C (Kd.int .u8) w A1 l1.length l1) :
  (Extern.BytealgCompare.compare #[.slice A0 l0.length c0, .slice A1 l1.length c1]).run P w = .ok (.int .i64 (Lib.compareBytes (strOfNums l0).data.toList (strOfNums l1).data.toList)) w := by
 change Sem.run P (do pure (goInt (Extern.BytealgCompare.cmp (← Extern.Bytes.bytesOf (.slice A0 l0.length c0)) (← Extern.Bytes.bytesOf (.slice A1 l1.length c1))))) w = _
 simp only [Sem.run_bind, bytes_Compare.bytes w A0 c0 l0 h0, bytes_Compare.bytes w A1 c1 l1 h1, Sem.run_pure, Result.andThen]
 rw [Lib.cmp_eq]
 rfl
def bytes_Compare.f (l0 : List Int) (l1 : List Int) : Option Int := some (Lib.compareBytes (strOfNums l0).data.toList (strOfNums l1).data.toList)
set_option maxHeartbeats 8000000 in
set_option maxRecDepth 100000 in
theorem bytes_Compare.calls (A0 : Option Addr) (c0 : Nat) (l0 : List Int) (A1 : Option Addr) (c1 : Nat) (l1 : List Int) (r : Int) (w : World) (hr0 : Kd.C (Kd.int .u8) w A0 l0.length l0) (hc0 : l0.length ≤ c0) (hr1 : Kd.C (Kd.int .u8) w A1 l1.length l1) (hc1 : l1.length ≤ c1) (h : bytes_Compare.f l0 l1 = some r) :
  Calls Try.prog 143 #[.slice A0 l0.length c0, .slice A1 l1.length c1] w fun e w' => e = .returned (.int .i64 r) ∧ Drawn0 w w' := by
 have hx := bytes_Compare.run (P := Try.prog) w A0 c0 l0 A1 c1 l1 hr0 hr1
 have hr := Option.some.inj h
 rw [hr] at hx
 clear h hr hr0 hr1
 go_enter Try.func143, Try.ntmps143
 go_wp2
 rw [run_callFunc_extern Try.func208 (by kernel_rfl) (by kernel_rfl) (by kernel_rfl) (e := Extern.BytealgCompare.compare) (by kernel_rfl), hx]
 simp only [Result.andThen]
 rw [Oper.upon_value]
 go_wp2
 go_ret
 exact ⟨rfl, Drawn0.refl _⟩

/-! ### impl_Name_compare: function 141 -/
def impl_Name_compare.l0 : Nat → Int → List (List Int) → List (List Int) → Option (Int)
 | 0, _, _, _ => none
 | k + 1, x5, x102000, x103000 => if x5 ≤ (mn (x102000.length : Int) (x103000.length : Int)) then (if 0 ≤ (wrap64 ((x102000.length : Int) - x5)) then (if (wrap64 ((x102000.length : Int) - x5)) < (x102000.length : Int) then (if 0 ≤ (wrap64 ((x103000.length : Int) - x5)) then (if (wrap64 ((x103000.length : Int) - x5)) < (x103000.length : Int) then ((bytes_Compare.f (rd_L10 x102000 (wrap64 ((x102000.length : Int) - x5))) (rd_L10 x103000 (wrap64 ((x103000.length : Int) - x5)))).bind fun t105 => (if t105 = 0 then (impl_Name_compare.l0 k (wrap64 (x5 + 1)) x102000 x103000) else (some t105))) else (none)) else (none)) else (none)) else (none)) else ((cmp_Compare_int.f (x102000.length : Int) (x103000.length : Int)).bind fun t106 => (some t106))
def impl_Name_compare.f (k : Nat) (l0_0 : List (List Int)) (l1_0 : List (List Int)) : Option (Int) := impl_Name_compare.l0 k 1 l0_0 l1_0
theorem impl_Name_compare.mono_l : ∀ k, (∀ y0 y1 y2, LeO (impl_Name_compare.l0 k y0 y1 y2) (impl_Name_compare.l0 (k + 1) y0 y1 y2))
 | 0 => fun _ _ _ r h => by simp [impl_Name_compare.l0] at h
 | k + 1 => by
  have ih0 := impl_Name_compare.mono_l k
  ·intro y0 y1 y2
   unfold impl_Name_compare.l0
   repeat' first
   | (with_reducible exact ih0 _ _ _)
   | (with_reducible exact LeO.refl _)
   | (with_reducible exact LeO.none _)
   | (with_reducible refine LeO.ite ?_ ?_)
   | (with_reducible refine LeO.bind ?_ (fun _ => ?_))
   | exact ih0 _ _ _
   | exact LeO.none _
   | refine LeO.ite ?_ ?_
   | refine LeO.bind ?_ (fun _ => ?_)
theorem impl_Name_compare.mono : ∀ a0 a1 k, LeO (impl_Name_compare.f k a0 a1) (impl_Name_compare.f (k + 1) a0 a1) := by
 intro a0 a1 k
 have ih0 := impl_Name_compare.mono_l k
 unfold impl_Name_compare.f
 repeat' first
   | (with_reducible exact ih0 _ _ _)
   | (with_reducible exact LeO.refl _)
   | (with_reducible exact LeO.none _)
   | (with_reducible refine LeO.ite ?_ ?_)
   | (with_reducible refine LeO.bind ?_ (fun _ => ?_))
   | exact ih0 _ _ _
   | exact LeO.none _
   | refine LeO.ite ?_ ?_
   | refine LeO.bind ?_ (fun _ => ?_)
set_option maxHeartbeats 8000000 in
set_option maxRecDepth 100000 in
theorem impl_Name_compare.calls (k : Nat) (A0_0 : Option Addr) (c0_0 : Nat) (l0_0 : List (List Int)) (A1_0 : Option Addr) (c1_0 : Nat) (l1_0 : List (List Int)) (r : Int) (w : World) (hr0_0 : Kd.C (Kd.slice 5 (Kd.int .u8)) w A0_0 l0_0.length l0_0) (hc0_0 : l0_0.length ≤ c0_0) (hr1_0 : Kd.C (Kd.slice 5 (Kd.int .u8)) w A1_0 l1_0.length l1_0) (hc1_0 : l1_0.length ≤ c1_0) (h : impl_Name_compare.f k l0_0 l1_0 = some r) :
  Calls Try.prog 141 #[.agg #[.slice A0_0 l0_0.length c0_0], .agg #[.slice A1_0 l1_0.length c1_0]] w fun e w' => e = .returned (.int .i64 r) ∧ Below w.heap.size w w' := by
 have hu31 := Try.underlying31
 have HR0_0 := ak hr0_0
 have HC0_0 := ak hc0_0
 clear hr0_0 hc0_0
 have HR1_0 := ak hr1_0
 have HC1_0 := ak hc1_0
 clear hr1_0 hc1_0
 have HB := ak (Below.refl w.heap.size w)
 have H : (impl_Name_compare.l0 k 1 l0_0 l1_0) = some r := h
 clear h
 have H' := ak H
 clear H
 go_enter Try.func141, Try.ntmps141
 go_wp2_with (first | ((with_reducible refine gate_dst (N := 2) rfl ?_);refine bxd (N := 2) rfl HB ?_;clear HB;intro gb101 w3 hg HB BK101 GE101 hb;have GW101 := GE101;clear hb hg) | ((with_reducible refine gate_dst (N := 3) rfl ?_);refine bxe (N := 3) rfl ?_;intro gb102 hg w4 hbox hb;have BK102 := ak (hbox);have GW102 := b3s hg bs;have GE102 := GW102;replace HB := b2s bs hb;have NB101_102 := b4 hg BK101;have NB102_101 := b5 hg BK101;replace BK101 := b1 BK101 hb;clear hb hbox hg))
 repeat (go_quiet (first | ((with_reducible refine gate_dst (N := 2) rfl ?_);refine bxd (N := 2) rfl HB ?_;clear HB;intro gb101 w3 hg HB BK101 GE101 hb;have GW101 := GE101;clear hb hg) | ((with_reducible refine gate_dst (N := 3) rfl ?_);refine bxe (N := 3) rfl ?_;intro gb102 hg w4 hbox hb;have BK102 := ak (hbox);have GW102 := b3s hg bs;have GE102 := GW102;replace HB := b2s bs hb;have NB101_102 := b4 hg BK101;have NB102_101 := b5 hg BK101;replace BK101 := b1 BK101 hb;clear hb hbox hg)); try go_wp2_with (first | ((with_reducible refine gate_dst (N := 2) rfl ?_);refine bxd (N := 2) rfl HB ?_;clear HB;intro gb101 w3 hg HB BK101 GE101 hb;have GW101 := GE101;clear hb hg) | ((with_reducible refine gate_dst (N := 3) rfl ?_);refine bxe (N := 3) rfl ?_;intro gb102 hg w4 hbox hb;have BK102 := ak (hbox);have GW102 := b3s hg bs;have GE102 := GW102;replace HB := b2s bs hb;have NB101_102 := b4 hg BK101;have NB102_101 := b5 hg BK101;replace BK101 := b1 BK101 hb;clear hb hbox hg)))
 go_loopg [5] k (fun kq v5 w' => ∃ (x5_1 : Int), v5 = .int .i64 x5_1 ∧ Aside0 (impl_Name_compare.l0 kq x5_1 l0_0 l1_0 = some r) ∧ Aside0 (kq ≤ k) ∧ Aside0 (w'.heap[gb101]? = some (.cells #[(.slice A0_0 l0_0.length c0_0)] 31 (0, 0))) ∧ Aside0 (w'.heap[gb102]? = some (.cells #[(.slice A1_0 l1_0.length c1_0)] 31 (0, 0))) ∧ Aside0 (Below w.heap.size w w'))
 case atStart => exact ⟨(1), o2, H', ⟨Nat.le_refl _⟩, ⟨bk BK101.out⟩, ⟨bk BK102.out⟩, ⟨bs⟩⟩
 case round =>
  clear H'
  obtain ⟨x5_1, rfl, HA, HK1, BK101, BK102, HB⟩ := hrel
  cases gk with
  | zero => exact absurd HA.out (by simp [impl_Name_compare.l0])
  | succ k1 =>
   have H := HA.out
   clear HA
   simp only [impl_Name_compare.l0] at H
   obtain ⟨ji5, hji5⟩ : ∃ j_ : Int, (mn (l0_0.length : Int) (l1_0.length : Int)) = j_ := ⟨_, rfl⟩
   (first | rw [hji5] at H | simp only [hji5] at H)
   have hji5_ : (if (l1_0.length : Int) < (l0_0.length : Int) then (l1_0.length : Int) else (l0_0.length : Int)) = ji5 := hji5; have hji5_n := hji5_; (try simp only [Int.ofNat_lt] at hji5_n)
   replace H := ip H
   obtain ⟨c6b0, H⟩ | ⟨c6b0, H⟩ := H
   ·obtain ⟨ji7, hji7⟩ : ∃ j_ : Int, (wrap64 ((l0_0.length : Int) - x5_1)) = j_ := ⟨_, rfl⟩
    (first | rw [hji7] at H | simp only [hji7] at H)
    have hji7w : (IntKind.i64.wrap ((l0_0.length : Int) - x5_1)) = ji7 := (i64_w _).trans hji7
    replace H := ipN H
    obtain ⟨c8b0, H⟩ := H
    replace H := ipN H
    obtain ⟨c9b0, H⟩ := H
    obtain ⟨ji10, hji10⟩ : ∃ j_ : Int, (wrap64 ((l1_0.length : Int) - x5_1)) = j_ := ⟨_, rfl⟩
    (first | rw [hji10] at H | simp only [hji10] at H)
    have hji10w : (IntKind.i64.wrap ((l1_0.length : Int) - x5_1)) = ji10 := (i64_w _).trans hji10
    replace H := ipN H
    obtain ⟨c11b0, H⟩ := H
    replace H := ipN H
    obtain ⟨c12b0, H⟩ := H
    replace H := bnd H
    obtain ⟨t105, A13, H⟩ := H
    replace H := ie H
    obtain ⟨c14b0, c14b1, H⟩ | ⟨c14b0, c14b1, H⟩ := H
    ·have H' := ak H
     clear H
     have hnb15 := NB101_102.out
     have hnc15 := NB102_101.out
     obtain ⟨hcz16_0, hfz16_0⟩ := cells1 BK101.out
     obtain ⟨hcz17_0, hfz17_0⟩ := cells1 BK102.out
     obtain ⟨ad103, A103_0, c103_0, rfl, hx103_0, HC103_0, HR103_0, p103, q103⟩ := el_L10 HR0_0 HB (ji7)
     obtain ⟨ad104, A104_0, c104_0, rfl, hx104_0, HC104_0, HR104_0, p104, q104⟩ := el_L10 HR1_0 HB (ji10)
     go_wp2_with ((go_at_call 143;(with_reducible refine (bytes_Compare.calls _ _ (rd_L10 l0_0 (ji7)) _ _ (rd_L10 l1_0 (ji10)) t105 _ (cv HR103_0 HB) HC103_0.out (cv HR104_0 HB) HC104_0.out A13.out).mono ?_);rintro e w' ⟨rfl, ⟨nd, rfl⟩⟩;(try first | exact ⟨rfl, _, World.drewN_drewN _ _ _⟩ | exact ⟨rfl, _, Eq.trans (World.drewN_drewN _ _ _) (congrArg (World.drewN _) (Nat.add_assoc _ _ _))⟩)))
     repeat (go_quiet ((go_at_call 143;(with_reducible refine (bytes_Compare.calls _ _ (rd_L10 l0_0 (ji7)) _ _ (rd_L10 l1_0 (ji10)) t105 _ (cv HR103_0 HB) HC103_0.out (cv HR104_0 HB) HC104_0.out A13.out).mono ?_);rintro e w' ⟨rfl, ⟨nd, rfl⟩⟩;(try first | exact ⟨rfl, _, World.drewN_drewN _ _ _⟩ | exact ⟨rfl, _, Eq.trans (World.drewN_drewN _ _ _) (congrArg (World.drewN _) (Nat.add_assoc _ _ _))⟩))); try go_wp2_with ((go_at_call 143;(with_reducible refine (bytes_Compare.calls _ _ (rd_L10 l0_0 (ji7)) _ _ (rd_L10 l1_0 (ji10)) t105 _ (cv HR103_0 HB) HC103_0.out (cv HR104_0 HB) HC104_0.out A13.out).mono ?_);rintro e w' ⟨rfl, ⟨nd, rfl⟩⟩;(try first | exact ⟨rfl, _, World.drewN_drewN _ _ _⟩ | exact ⟨rfl, _, Eq.trans (World.drewN_drewN _ _ _) (congrArg (World.drewN _) (Nat.add_assoc _ _ _))⟩))))
     go_roundg k1
     case measure => have := HK1.out; omega
     case rel => exact ⟨(wrap64 (x5_1 + 1)), o2, H', ⟨by have := HK1.out; omega⟩, ⟨bk BK101.out⟩, ⟨bk BK102.out⟩, ⟨bs⟩⟩
    ·obtain rfl := Option.some.inj H
     have hnb18 := NB101_102.out
     have hnc18 := NB102_101.out
     obtain ⟨hcz19_0, hfz19_0⟩ := cells1 BK101.out
     obtain ⟨hcz20_0, hfz20_0⟩ := cells1 BK102.out
     obtain ⟨ad103, A103_0, c103_0, rfl, hx103_0, HC103_0, HR103_0, p103, q103⟩ := el_L10 HR0_0 HB (ji7)
     obtain ⟨ad104, A104_0, c104_0, rfl, hx104_0, HC104_0, HR104_0, p104, q104⟩ := el_L10 HR1_0 HB (ji10)
     go_wp2_with ((go_at_call 143;(with_reducible refine (bytes_Compare.calls _ _ (rd_L10 l0_0 (ji7)) _ _ (rd_L10 l1_0 (ji10)) t105 _ (cv HR103_0 HB) HC103_0.out (cv HR104_0 HB) HC104_0.out A13.out).mono ?_);rintro e w' ⟨rfl, ⟨nd, rfl⟩⟩;(try first | exact ⟨rfl, _, World.drewN_drewN _ _ _⟩ | exact ⟨rfl, _, Eq.trans (World.drewN_drewN _ _ _) (congrArg (World.drewN _) (Nat.add_assoc _ _ _))⟩)))
     repeat (go_quiet ((go_at_call 143;(with_reducible refine (bytes_Compare.calls _ _ (rd_L10 l0_0 (ji7)) _ _ (rd_L10 l1_0 (ji10)) t105 _ (cv HR103_0 HB) HC103_0.out (cv HR104_0 HB) HC104_0.out A13.out).mono ?_);rintro e w' ⟨rfl, ⟨nd, rfl⟩⟩;(try first | exact ⟨rfl, _, World.drewN_drewN _ _ _⟩ | exact ⟨rfl, _, Eq.trans (World.drewN_drewN _ _ _) (congrArg (World.drewN _) (Nat.add_assoc _ _ _))⟩))); try go_wp2_with ((go_at_call 143;(with_reducible refine (bytes_Compare.calls _ _ (rd_L10 l0_0 (ji7)) _ _ (rd_L10 l1_0 (ji10)) t105 _ (cv HR103_0 HB) HC103_0.out (cv HR104_0 HB) HC104_0.out A13.out).mono ?_);rintro e w' ⟨rfl, ⟨nd, rfl⟩⟩;(try first | exact ⟨rfl, _, World.drewN_drewN _ _ _⟩ | exact ⟨rfl, _, Eq.trans (World.drewN_drewN _ _ _) (congrArg (World.drewN _) (Nat.add_assoc _ _ _))⟩))))
     go_ret
     exact ⟨by first | rfl | (simp [errW_none, errW_some] <;> rfl) | (simp only [← hji5, ← hji7, ← hji10]; first | rfl | (simp [errW_none, errW_some] <;> rfl)) | (simp [*, errW_none, errW_some] <;> rfl), bs⟩
   ·replace H := bnd H
    obtain ⟨t106, A21, H⟩ := H
    obtain rfl := Option.some.inj H
    have hnb22 := NB101_102.out
    have hnc22 := NB102_101.out
    obtain ⟨hcz23_0, hfz23_0⟩ := cells1 BK101.out
    obtain ⟨hcz24_0, hfz24_0⟩ := cells1 BK102.out
    go_wp2_with ((go_at_call 142;(with_reducible refine (cmp_Compare_int.calls (l0_0.length : Int) (l1_0.length : Int) t106 _ A21.out).mono ?_);rintro e w' ⟨rfl, ⟨nd, rfl⟩⟩;(try first | exact ⟨rfl, _, World.drewN_drewN _ _ _⟩ | exact ⟨rfl, _, Eq.trans (World.drewN_drewN _ _ _) (congrArg (World.drewN _) (Nat.add_assoc _ _ _))⟩)))
    repeat (go_quiet ((go_at_call 142;(with_reducible refine (cmp_Compare_int.calls (l0_0.length : Int) (l1_0.length : Int) t106 _ A21.out).mono ?_);rintro e w' ⟨rfl, ⟨nd, rfl⟩⟩;(try first | exact ⟨rfl, _, World.drewN_drewN _ _ _⟩ | exact ⟨rfl, _, Eq.trans (World.drewN_drewN _ _ _) (congrArg (World.drewN _) (Nat.add_assoc _ _ _))⟩))); try go_wp2_with ((go_at_call 142;(with_reducible refine (cmp_Compare_int.calls (l0_0.length : Int) (l1_0.length : Int) t106 _ A21.out).mono ?_);rintro e w' ⟨rfl, ⟨nd, rfl⟩⟩;(try first | exact ⟨rfl, _, World.drewN_drewN _ _ _⟩ | exact ⟨rfl, _, Eq.trans (World.drewN_drewN _ _ _) (congrArg (World.drewN _) (Nat.add_assoc _ _ _))⟩))))
    go_ret
    exact ⟨by first | rfl | (simp [errW_none, errW_some] <;> rfl) | (simp only [← hji5]; first | rfl | (simp [errW_none, errW_some] <;> rfl)) | (simp [*, errW_none, errW_some] <;> rfl), bs⟩

/-! ### impl_hasTo: function 85 -/
def impl_hasTo.f (a0 : Int) : Option (Bool) := if a0 = 2 then (some true) else (if a0 = 5 then (some true) else (if a0 = 6 then (some true) else (some (a0 == 12))))
set_option maxHeartbeats 8000000 in
set_option maxRecDepth 100000 in
theorem impl_hasTo.calls (a0 : Int) (r : Bool) (w : World) (h : impl_hasTo.f a0 = some r) :
  Calls Try.prog 85 #[.int .i64 a0] w fun e w' => e = .returned (.bool r) ∧ Drawn0 w w' := by
 have H : (if a0 = 2 then (some true) else (if a0 = 5 then (some true) else (if a0 = 6 then (some true) else (some (a0 == 12))))) = some r := h
 clear h
 replace H := ie H
 obtain ⟨c2b0, c2b1, H⟩ | ⟨c2b0, c2b1, H⟩ := H
 ·obtain rfl := Option.some.inj H
  go_enter Try.func85, Try.ntmps85
  go_wp2
  go_ret
  exact ⟨o2, od⟩
 ·replace H := ie H
  obtain ⟨c3b0, c3b1, H⟩ | ⟨c3b0, c3b1, H⟩ := H
  ·obtain rfl := Option.some.inj H
   go_enter Try.func85, Try.ntmps85
   go_wp2
   go_ret
   exact ⟨o2, od⟩
  ·replace H := ie H
   obtain ⟨c4b0, c4b1, H⟩ | ⟨c4b0, c4b1, H⟩ := H
   ·obtain rfl := Option.some.inj H
    go_enter Try.func85, Try.ntmps85
    go_wp2
    go_ret
    exact ⟨o2, od⟩
   ·obtain rfl := Option.some.inj H
    go_enter Try.func85, Try.ntmps85
    go_wp2
    go_ret
    exact ⟨o2, od⟩

/-! ### impl_two: function 200 -/
def impl_two.f (a0 : Int) : Option (List Int) := some (([(a0 / 256) % 256, (a0) % 256] : List Int))
set_option maxHeartbeats 8000000 in
set_option maxRecDepth 100000 in
theorem impl_two.calls (a0 : Int) (r : List Int) (w : World) (h : impl_two.f a0 = some r) :
  Calls Try.prog 200 #[.int .i64 a0] w fun e w' => ∃ v0_ : Value, e = .returned (v0_) ∧ Kd.R (Kd.int .u8) 5 w' w.heap.size (fun _ => True) v0_ r ∧ Below w.heap.size w w' := by
 have HB := ak (Below.refl w.heap.size w)
 have H : (some (([(a0 / 256) % 256, (a0) % 256] : List Int))) = some r := h
 clear h
 obtain ⟨y101, hy101⟩ : ∃ y_ : List Int, y_ = (([(a0 / 256) % 256, (a0) % 256] : List Int)) := ⟨_, rfl⟩
 (try with_reducible replace H := bnS H)
 (try rw [← hy101] at H)
 have Ny101 := ak hy101
 clear hy101
 obtain rfl := Option.some.inj H
 go_enter Try.func200, Try.ntmps200
 go_wp2_with (((with_reducible refine gate_dst (N := 8) rfl ?_);refine Kd.R_lit (Kd.int .u8) _ 5 ?hg (N := 8) ?hd (xs := ([(a0 / 256) % 256, (a0) % 256] : List Int)) (inner := [.int .u8 ((a0 / 256) % 256), .int .u8 ((a0) % 256)]) (ok := fun _ => True) (okp := fun _ => True) ?hr ?hp (fun _ hk => hk) trivial (Below.refl _ _) (Nat.le_refl _) (by simp) ?_;(case hd => rfl);(case hg => rfl);(case hr => first | (go_simp; done) | (go_simp; rfl));(case hp => exact (Reps.one (show Kd.M (Kd.int .u8) _ _ _ ((a0 / 256) % 256) [.int .u8 ((a0 / 256) % 256)] from rfl) (Reps.one (show Kd.M (Kd.int .u8) _ _ _ ((a0) % 256) [.int .u8 ((a0) % 256)] from rfl) (Reps.none _ _))));intro v102 w2 ho3 hb hg_ hnew_;clear hg_ hnew_;(first | rw [← Ny101.out] at ho3 | (simp only [Int.reduceToNat] at ho3; rw [← Ny101.out] at ho3));have HO103 := ak (Kd.R_lower ho3 (below_size (bw HB.out)));replace HB := b2 HB hb;clear hb ho3))
 go_ret
 exact ⟨_, o1, rw_ HO103.out, bw HB.out⟩

/-! ### impl_four: function 149 -/
def impl_four.f (a0 : Int) : Option (List Int) := (impl_two.f (a0 / 65536)).bind fun t101 => ((impl_two.f a0).bind fun t104 => (if t101.length + t104.length < 140737488355328 then (some (t101 ++ t104)) else (none)))
set_option maxHeartbeats 8000000 in
set_option maxRecDepth 100000 in
theorem impl_four.calls (a0 : Int) (r : List Int) (w : World) (h : impl_four.f a0 = some r) :
  Calls Try.prog 149 #[.int .i64 a0] w fun e w' => ∃ v0_ : Value, e = .returned (v0_) ∧ Kd.R (Kd.int .u8) 5 w' w.heap.size (fun _ => True) v0_ r ∧ Below w.heap.size w w' := by
 have HB := ak (Below.refl w.heap.size w)
 have H : ((impl_two.f (a0 / 65536)).bind fun t101 => ((impl_two.f a0).bind fun t104 => (if t101.length + t104.length < 140737488355328 then (some (t101 ++ t104)) else (none)))) = some r := h
 clear h
 replace H := bnd H
 obtain ⟨t101, A2, H⟩ := H
 replace H := bnd H
 obtain ⟨t104, A3, H⟩ := H
 by_cases c4 : t101.length + t104.length < 140737488355328
 ·rw [if_pos c4] at H
  have LMc4 := ak c4
  clear c4
  obtain ⟨y107, hy107⟩ : ∃ y_ : List Int, y_ = (t101 ++ t104) := ⟨_, rfl⟩
  (try with_reducible replace H := bnS H)
  (try rw [← hy107] at H)
  have Ny107 := ak hy107
  clear hy107
  obtain rfl := Option.some.inj H
  go_enter Try.func149, Try.ntmps149
  go_wp2_with (first | ((with_reducible refine gate_callee (f := 200) rfl ?_);refine glG 5 rfl rfl Try.func200 (impl_two.calls (a0 / 65536) t101 _ A2.out) ?_;rintro e w5 ⟨v102, rfl, ho0, hb⟩;refine ⟨_, rfl, ?_⟩;have HO103 := ak (Kd.R_lower ho0 (below_size (bw HB.out)));replace HB := b2 HB hb;(try clear hb);(try clear ho0)) | ((with_reducible refine gate_callee (f := 200) rfl ?_);refine glG 7 rfl rfl Try.func200 (impl_two.calls a0 t104 _ A3.out) ?_;rintro e w6 ⟨v105, rfl, ho0, hb⟩;refine ⟨_, rfl, ?_⟩;have HO106 := ak (Kd.R_lower (Kd.R_new' ho0 (Kd.R_lt (rw_ HO103.out))) (below_size (bw HB.out)));replace HO103 := ak (Kd.R_elder' (rw_ HO103.out) (Kd.R_base ho0) hb);replace HB := b2 HB hb;(try clear hb);(try clear ho0);obtain ⟨Ao8, co8, eo8⟩ := Kd.R_slice HO106.out;subst eo8) | ((with_reducible refine gate_builtin (b := .append) (xs := #[.tmp 5, .tmp 7]) rfl ?_);at_builtin;refine Kd.R_append_rows (Kd.int .u8) (w0 := w) w.heap.size rfl (.tmp 5) (.tmp 7) 25 5 (.int .u8 0) 1 rfl Try.underlying25 info5 rfl (by decide) (by omega) v102 t101 t104 _ _ _ (fun k_ => some k_ ≠ (.slice Ao8 t104.length co8 : Value).ownBlock) (fun _ => False) rfl rfl ?aO ?aR (fun _ _ h => h) (fun _ h => h.elim) ?aF ?aB ?aS ?aL ?_;(case aR => repeat (first | exact (Kd.R_reads' HO106.out).2.2 | (with_reducible refine Kd.C_alloc ?_ _) | (with_reducible refine Kd.C_drewN ?_ _) | (with_reducible refine Kd.C_drew ?_)));(case aB => exact (bw HB.out));(case aF => exact (fun k_ hk => Kd.fresh' (Kd.R_lt (rw_ HO106.out)) k_ hk));(case aO => exact (rw_ (Kd.R_mono HO103.out (fun _ hk => hk.2))));(case aS => exact (below_size (bw HB.out)));(case aL => have := LMc4.out; omega);intro v108 w7 ho hb hg hat;rw [← Ny107.out] at ho;replace HO106 := ak (Kd.R_after (ok := (fun _ => True)) (rw_ HO106.out) hg hat);replace HB := ak (hb);have HO109 := ak (ho);clear HO103;clear ho hb hg hat))
  go_ret
  exact ⟨_, o1, by (with_reducible repeat (first | apply Kd.R_alloc | apply Kd.R_drewN | apply Kd.R_drew)); exact Kd.R_mono HO109.out (fun _ hk => trivial), bw HB.out⟩
 ·rw [if_neg c4] at H
  exact absurd H (by simp)

/-! ### impl_Name_wire: function 156 -/
def impl_Name_wire.l0 : Nat → List Int → List (List Int) → Int → Int → Option (List Int)
 | 0, _, _, _, _ => none
 | k + 1, x3, x8, x9, x10 => if x10 < x9 then (if 0 ≤ x10 then (if x10 < (x8.length : Int) then (if x3.length < 140737488355328 then ((some (x3 ++ [(((rd_L10 x8 x10).length : Int)) % 256] : List Int)).bind fun y106 => (if y106.length + (rd_L10 x8 x10).length < 140737488355328 then (impl_Name_wire.l0 k (y106 ++ (rd_L10 x8 x10)) x8 x9 (wrap64 (x10 + 1))) else (none))) else (none)) else (none)) else (none)) else (if x3.length < 140737488355328 then (some (x3 ++ [0])) else (none))
def impl_Name_wire.f (k : Nat) (l0_0 : List (List Int)) : Option (List Int) := impl_Name_wire.l0 k (([] : List Int)) l0_0 (l0_0.length : Int) 0
theorem impl_Name_wire.mono_l : ∀ k, (∀ y0 y1 y2 y3, LeO (impl_Name_wire.l0 k y0 y1 y2 y3) (impl_Name_wire.l0 (k + 1) y0 y1 y2 y3))
 | 0 => fun _ _ _ _ r h => by simp [impl_Name_wire.l0] at h
 | k + 1 => by
  have ih0 := impl_Name_wire.mono_l k
  ·intro y0 y1 y2 y3
   unfold impl_Name_wire.l0
   repeat' first
   | (with_reducible exact ih0 _ _ _ _)
   | (with_reducible exact LeO.refl _)
   | (with_reducible exact LeO.none _)
   | (with_reducible refine LeO.ite ?_ ?_)
   | (with_reducible refine LeO.bind ?_ (fun _ => ?_))
   | exact ih0 _ _ _ _
   | exact LeO.none _
   | refine LeO.ite ?_ ?_
   | refine LeO.bind ?_ (fun _ => ?_)
theorem impl_Name_wire.mono : ∀ a0 k, LeO (impl_Name_wire.f k a0) (impl_Name_wire.f (k + 1) a0) := by
 intro a0 k
 have ih0 := impl_Name_wire.mono_l k
 unfold impl_Name_wire.f
 repeat' first
   | (with_reducible exact ih0 _ _ _ _)
   | (with_reducible exact LeO.refl _)
   | (with_reducible exact LeO.none _)
   | (with_reducible refine LeO.ite ?_ ?_)
   | (with_reducible refine LeO.bind ?_ (fun _ => ?_))
   | exact ih0 _ _ _ _
   | exact LeO.none _
   | refine LeO.ite ?_ ?_
   | refine LeO.bind ?_ (fun _ => ?_)
set_option maxHeartbeats 8000000 in
set_option maxRecDepth 100000 in
theorem impl_Name_wire.calls (k : Nat) (A0_0 : Option Addr) (c0_0 : Nat) (l0_0 : List (List Int)) (r : List Int) (w : World) (hr0_0 : Kd.C (Kd.slice 5 (Kd.int .u8)) w A0_0 l0_0.length l0_0) (hc0_0 : l0_0.length ≤ c0_0) (h : impl_Name_wire.f k l0_0 = some r) :
  Calls Try.prog 156 #[.agg #[.slice A0_0 l0_0.length c0_0]] w fun e w' => ∃ v0_ : Value, e = .returned (v0_) ∧ Kd.R (Kd.int .u8) 5 w' w.heap.size (fun _ => True) v0_ r ∧ Below w.heap.size w w' := by
 have hu31 := Try.underlying31
 have HR0_0 := ak hr0_0
 have HC0_0 := ak hc0_0
 clear hr0_0 hc0_0
 have HB := ak (Below.refl w.heap.size w)
 have H : (impl_Name_wire.l0 k (([] : List Int)) l0_0 (l0_0.length : Int) 0) = some r := h
 clear h
 replace H : ∃ y102 : List Int, y102 = (([] : List Int)) ∧ (impl_Name_wire.l0 k y102 l0_0 (l0_0.length : Int) 0) = some r := ⟨_, rfl, H⟩
 obtain ⟨y102, hy102, H⟩ := H
 have Ny102 := ak hy102
 clear hy102
 have H' := ak H
 clear H
 go_enter Try.func156, Try.ntmps156
 go_wp2_with (first | ((with_reducible refine gate_dst (N := 1) rfl ?_);refine bxd (N := 1) rfl HB ?_;clear HB;intro gb101 w2 hg HB BK101 GE101 hb;have GW101 := GE101;clear hb hg) | ((with_reducible refine gate_dst (N := 6) rfl ?_);refine Kd.R_lit (Kd.int .u8) _ 5 ?hg (N := 6) ?hd (xs := ([] : List Int)) (inner := []) (ok := fun _ => True) (okp := fun _ => True) ?hr ?hp (fun _ hk => hk) trivial (Below.refl _ _) (Nat.le_refl _) (by simp) ?_;(case hd => rfl);(case hg => rfl);(case hr => first | (go_simp; done) | (go_simp; rfl));(case hp => exact (Reps.none _ _));intro v103 w3 ho4 hb hg_ hnew_;clear hg_ hnew_;(first | rw [← Ny102.out] at ho4 | (simp only [Int.reduceToNat] at ho4; rw [← Ny102.out] at ho4));have HO104 := ak (Kd.R_lower ho4 (below_size bs));replace BK101 := b1 BK101 hb;replace HB := b2s bs hb;clear hb ho4;obtain ⟨hcz5_0, hfz5_0⟩ := cells1 BK101.out))
 go_loopg [3, 10] k (fun kq v3 v10 w' => ∃ (x3_1 : List Int) (x10_1 : Int), v10 = .int .i64 x10_1 ∧ Aside0 (impl_Name_wire.l0 kq x3_1 l0_0 (l0_0.length : Int) x10_1 = some r) ∧ Aside0 (kq ≤ k) ∧ Aside0 (Kd.R (Kd.int .u8) 5 w' w.heap.size (fun _ => True) v3 x3_1) ∧ Aside0 (w'.heap[gb101]? = some (.cells #[(.slice A0_0 l0_0.length c0_0)] 31 (0, 0))) ∧ Aside0 (Below w.heap.size w w'))
 case atStart => exact ⟨(y102), (0), o2, H', ⟨Nat.le_refl _⟩, ⟨rw_ HO104.out⟩, ⟨bk BK101.out⟩, ⟨bs⟩⟩
 case round =>
  clear H'
  (try clear hcz5_0)
  (try clear hfz5_0)
  obtain ⟨x3_1, x10_1, rfl, HA, HK1, HO_3, BK101, HB⟩ := hrel
  cases gk with
  | zero => exact absurd HA.out (by simp [impl_Name_wire.l0])
  | succ k1 =>
   have H := HA.out
   clear HA
   simp only [impl_Name_wire.l0] at H
   replace H := ip H
   obtain ⟨c6b0, H⟩ | ⟨c6b0, H⟩ := H
   ·replace H := ipN H
    obtain ⟨c7b0, H⟩ := H
    replace H := ipN H
    obtain ⟨c8b0, H⟩ := H
    by_cases c9 : x3_1.length < 140737488355328
    ·rw [if_pos c9] at H
     have LMc9 := ak c9
     clear c9
     obtain ⟨y106, hy106⟩ : ∃ y_ : List Int, y_ = (x3_1 ++ [(((rd_L10 l0_0 x10_1).length : Int)) % 256]) := ⟨_, rfl⟩
     (try with_reducible replace H := bnS H)
     (try rw [← hy106] at H)
     have Ny106 := ak hy106
     clear hy106
     by_cases c10 : y106.length + (rd_L10 l0_0 x10_1).length < 140737488355328
     ·rw [if_pos c10] at H
      have LMc10 := ak c10
      clear c10
      obtain ⟨y109, hy109⟩ : ∃ y_ : List Int, y_ = (y106 ++ (rd_L10 l0_0 x10_1)) := ⟨_, rfl⟩
      (try with_reducible replace H := bnS H)
      (try rw [← hy109] at H)
      have Ny109 := ak hy109
      clear hy109
      have H' := ak H
      clear H
      obtain ⟨ad105, A105_0, c105_0, rfl, hx105_0, HC105_0, HR105_0, p105, q105⟩ := el_L10 HR0_0 HB x10_1
      go_wp2_with (first | ((with_reducible refine gate_builtin (b := .append) (xs := #[.tmp 14, .tmp 18]) rfl ?_);at_builtin;refine Kd.R_append (Kd.int .u8) (w0 := w) w.heap.size rfl (.tmp 14) (.tmp 18) 25 5 (.int .u8 0) 1 rfl Try.underlying25 info5 rfl (by decide) (by omega) u3 x3_1 ((((rd_L10 l0_0 x10_1).length : Int)) % 256) [.int .u8 ((((rd_L10 l0_0 x10_1).length : Int)) % 256)] (fun _ => True) (fun _ => False) rfl rfl ?aP (fun _ hk => hk.elim) ?aF ?aO ?aB ?aS ?aL ?_;(case aP => exact rfl);(case aB => exact bs);(case aF => exact (fun _ _ => trivial));(case aO => exact (rw_ HO_3.out));(case aS => exact (below_size bs));(case aL => have := LMc9.out; omega);intro v107 w11 ho hb hg hat;rw [← Ny106.out] at ho;replace BK101 := ak (blk_grown (bk BK101.out) hg (Kd.R_ne HO_3.out BK101.out (by decide)));replace HB := ak (hb);have HO108 := ak (ho);clear HO_3;clear ho hb hg hat) | ((with_reducible refine gate_builtin (b := .append) (xs := #[.tmp 19, .tmp 20]) rfl ?_);at_builtin;refine Kd.R_append_rows (Kd.int .u8) (w0 := w) w.heap.size rfl (.tmp 19) (.tmp 20) 25 5 (.int .u8 0) 1 rfl Try.underlying25 info5 rfl (by decide) (by omega) v107 y106 (rd_L10 l0_0 x10_1) _ _ _ (fun _ => True) (fun _ => False) rfl rfl ?aO ?aR (fun _ _ h => h) (fun _ h => h.elim) ?aF ?aB ?aS ?aL ?_;(case aR => exact cw HR105_0.out HB.out);(case aB => exact bs);(case aF => exact (fun _ _ => trivial));(case aO => exact (rw_ HO108.out));(case aS => exact (below_size bs));(case aL => have := LMc10.out; omega);intro v110 w12 ho hb hg hat;rw [← Ny109.out] at ho;replace BK101 := ak (blk_grown (bk BK101.out) hg (Kd.R_ne HO108.out BK101.out (by decide)));replace HB := ak (hb);have HO111 := ak (ho);clear HO108;clear ho hb hg hat))
      go_roundg k1
      case measure => have := HK1.out; omega
      case rel => exact ⟨(y109), (wrap64 (x10_1 + 1)), o2, H', ⟨by have := HK1.out; omega⟩, ⟨rw_ HO111.out⟩, ⟨bk BK101.out⟩, ⟨bs⟩⟩
     ·rw [if_neg c10] at H
      exact absurd H (by simp)
    ·rw [if_neg c9] at H
     exact absurd H (by simp)
   ·by_cases c13 : x3_1.length < 140737488355328
    ·rw [if_pos c13] at H
     have LMc13 := ak c13
     clear c13
     obtain ⟨y112, hy112⟩ : ∃ y_ : List Int, y_ = (x3_1 ++ [0]) := ⟨_, rfl⟩
     (try with_reducible replace H := bnS H)
     (try rw [← hy112] at H)
     have Ny112 := ak hy112
     clear hy112
     obtain rfl := Option.some.inj H
     go_wp2_with (((with_reducible refine gate_builtin (b := .append) (xs := #[.tmp 23, .tmp 24]) rfl ?_);at_builtin;refine Kd.R_append (Kd.int .u8) (w0 := w) w.heap.size rfl (.tmp 23) (.tmp 24) 25 5 (.int .u8 0) 1 rfl Try.underlying25 info5 rfl (by decide) (by omega) u3 x3_1 0 [.int .u8 0] (fun _ => True) (fun _ => False) rfl rfl ?aP (fun _ hk => hk.elim) ?aF ?aO ?aB ?aS ?aL ?_;(case aP => exact rfl);(case aB => exact bs);(case aF => exact (fun _ _ => trivial));(case aO => exact (rw_ HO_3.out));(case aS => exact (below_size bs));(case aL => have := LMc13.out; omega);intro v113 w14 ho hb hg hat;rw [← Ny112.out] at ho;replace BK101 := ak (blk_grown (bk BK101.out) hg (Kd.R_ne HO_3.out BK101.out (by decide)));replace HB := ak (hb);have HO114 := ak (ho);clear HO_3;clear ho hb hg hat))
     go_ret
     exact ⟨_, o1, rw_ HO114.out, bs⟩
    ·rw [if_neg c13] at H
     exact absurd H (by simp)

/-! ### impl_Rr_data: function 144 -/
def impl_Rr_data.l0 : Nat → List Int → List Int → Int → Int → Option (List Int)
 | 0, _, _, _, _ => none
 | k + 1, x3, x21, x22, x23 => if x23 < x22 then (if 0 ≤ x23 then (if x23 < (x21.length : Int) then ((impl_four.f (rd x21 x23)).bind fun t110 => (if x3.length + t110.length < 140737488355328 then (impl_Rr_data.l0 k (x3 ++ t110) x21 x22 (wrap64 (x23 + 1))) else (none))) else (none)) else (none)) else (some x3)
def impl_Rr_data.f (k : Nat) (l0_0 : List (List Int)) (a0_1 : Int) (a0_2 : Int) (a0_3 : Int) (l0_4 : List (List Int)) (l0_5 : List Int) (l0_6 : List Int) : Option (List Int) := if a0_1 = 1 then ((impl_four.f a0_3).bind fun t102 => (some t102)) else ((impl_hasTo.f a0_1).bind fun t105 => (if t105 = true then ((impl_Name_wire.f k l0_4).bind fun t106 => (impl_Rr_data.l0 k t106 l0_6 (l0_6.length : Int) 0)) else ((some (([((l0_5.length : Int)) % 256] : List Int) : List Int)).bind fun y116 => (if y116.length + l0_5.length < 140737488355328 then (some (y116 ++ l0_5)) else (none)))))
theorem impl_Rr_data.mono_l : ∀ k, (∀ y0 y1 y2 y3, LeO (impl_Rr_data.l0 k y0 y1 y2 y3) (impl_Rr_data.l0 (k + 1) y0 y1 y2 y3))
 | 0 => fun _ _ _ _ r h => by simp [impl_Rr_data.l0] at h
 | k + 1 => by
  have ih0 := impl_Rr_data.mono_l k
  ·intro y0 y1 y2 y3
   unfold impl_Rr_data.l0
   repeat' first
   | (with_reducible exact ih0 _ _ _ _)
   | (with_reducible exact impl_Name_wire.mono _ _)
   | (with_reducible exact LeO.refl _)
   | (with_reducible exact LeO.none _)
   | (with_reducible refine LeO.ite ?_ ?_)
   | (with_reducible refine LeO.bind ?_ (fun _ => ?_))
   | exact ih0 _ _ _ _
   | exact impl_Name_wire.mono _ _
   | exact LeO.none _
   | refine LeO.ite ?_ ?_
   | refine LeO.bind ?_ (fun _ => ?_)
theorem impl_Rr_data.mono : ∀ a0 a1 a2 a3 a4 a5 a6 k, LeO (impl_Rr_data.f k a0 a1 a2 a3 a4 a5 a6) (impl_Rr_data.f (k + 1) a0 a1 a2 a3 a4 a5 a6) := by
 intro a0 a1 a2 a3 a4 a5 a6 k
 have ih0 := impl_Rr_data.mono_l k
 unfold impl_Rr_data.f
 repeat' first
   | (with_reducible exact ih0 _ _ _ _)
   | (with_reducible exact impl_Name_wire.mono _ _)
   | (with_reducible exact LeO.refl _)
   | (with_reducible exact LeO.none _)
   | (with_reducible refine LeO.ite ?_ ?_)
   | (with_reducible refine LeO.bind ?_ (fun _ => ?_))
   | exact ih0 _ _ _ _
   | exact impl_Name_wire.mono _ _
   | exact LeO.none _
   | refine LeO.ite ?_ ?_
   | refine LeO.bind ?_ (fun _ => ?_)
set_option maxHeartbeats 8000000 in
set_option maxRecDepth 100000 in
theorem impl_Rr_data.calls (k : Nat) (A0_0 : Option Addr) (c0_0 : Nat) (l0_0 : List (List Int)) (a0_1 : Int) (a0_2 : Int) (a0_3 : Int) (A0_4 : Option Addr) (c0_4 : Nat) (l0_4 : List (List Int)) (A0_5 : Option Addr) (c0_5 : Nat) (l0_5 : List Int) (A0_6 : Option Addr) (c0_6 : Nat) (l0_6 : List Int) (r : List Int) (w : World) (hr0_0 : Kd.C (Kd.slice 5 (Kd.int .u8)) w A0_0 l0_0.length l0_0) (hc0_0 : l0_0.length ≤ c0_0) (hr0_4 : Kd.C (Kd.slice 5 (Kd.int .u8)) w A0_4 l0_4.length l0_4) (hc0_4 : l0_4.length ≤ c0_4) (hr0_5 : Kd.C (Kd.int .u8) w A0_5 l0_5.length l0_5) (hc0_5 : l0_5.length ≤ c0_5) (hr0_6 : Kd.C (Kd.int .i64) w A0_6 l0_6.length l0_6) (hc0_6 : l0_6.length ≤ c0_6) (h : impl_Rr_data.f k l0_0 a0_1 a0_2 a0_3 l0_4 l0_5 l0_6 = some r) :
  Calls Try.prog 144 #[.agg #[.slice A0_0 l0_0.length c0_0, .int .i64 a0_1, .int .i64 a0_2, .int .i64 a0_3, .slice A0_4 l0_4.length c0_4, .slice A0_5 l0_5.length c0_5, .slice A0_6 l0_6.length c0_6]] w fun e w' => ∃ v0_ : Value, e = .returned (v0_) ∧ Kd.R (Kd.int .u8) 5 w' w.heap.size (fun _ => True) v0_ r ∧ Below w.heap.size w w' := by
 have hu33 := Try.underlying33
 have hu31 := Try.underlying31
 have HR0_0 := ak hr0_0
 have HC0_0 := ak hc0_0
 clear hr0_0 hc0_0
 have HR0_4 := ak hr0_4
 have HC0_4 := ak hc0_4
 clear hr0_4 hc0_4
 have HR0_5 := ak hr0_5
 have HC0_5 := ak hc0_5
 clear hr0_5 hc0_5
 have HR0_6 := ak hr0_6
 have HC0_6 := ak hc0_6
 clear hr0_6 hc0_6
 have HB := ak (Below.refl w.heap.size w)
 have H : (if a0_1 = 1 then ((impl_four.f a0_3).bind fun t102 => (some t102)) else ((impl_hasTo.f a0_1).bind fun t105 => (if t105 = true then ((impl_Name_wire.f k l0_4).bind fun t106 => (impl_Rr_data.l0 k t106 l0_6 (l0_6.length : Int) 0)) else ((some (([((l0_5.length : Int)) % 256] : List Int) : List Int)).bind fun y116 => (if y116.length + l0_5.length < 140737488355328 then (some (y116 ++ l0_5)) else (none)))))) = some r := h
 clear h
 replace H := ie H
 obtain ⟨c2b0, c2b1, H⟩ | ⟨c2b0, c2b1, H⟩ := H
 ·replace H := bnd H
  obtain ⟨t102, A3, H⟩ := H
  obtain rfl := Option.some.inj H
  go_enter Try.func144, Try.ntmps144
  go_wp2_with (first | ((with_reducible refine gate_dst (N := 1) rfl ?_);refine bxd (N := 1) rfl HB ?_;clear HB;intro gb101 w4 hg HB BK101 GE101 hb;have GW101 := GE101;clear hb hg;obtain ⟨hcz5_0, hcz5_1, hcz5_2, hcz5_3, hcz5_4, hcz5_5, hcz5_6, hfz5_0, hfz5_1, hfz5_2, hfz5_3, hfz5_4, hfz5_5, hfz5_6⟩ := cells7 BK101.out) | ((with_reducible refine gate_callee (f := 149) rfl ?_);refine glG 12 rfl rfl Try.func149 (impl_four.calls a0_3 t102 _ A3.out) ?_;rintro e w6 ⟨v103, rfl, ho0, hb⟩;refine ⟨_, rfl, ?_⟩;have HO104 := ak (Kd.R_lower ho0 (below_size bs));replace BK101 := b1 BK101 hb;replace HB := b2s bs hb;(try clear hb);(try clear ho0)))
  go_ret
  exact ⟨_, o1, rw_ HO104.out, bs⟩
 ·replace H := bnd H
  obtain ⟨t105, A7, H⟩ := H
  replace H := ib H
  obtain ⟨rfl, H⟩ | ⟨rfl, H⟩ := H
  ·replace H := bnd H
   obtain ⟨t106, A9, H⟩ := H
   have H' := ak H
   clear H
   go_enter Try.func144, Try.ntmps144
   go_wp2_with (first | ((with_reducible refine gate_dst (N := 1) rfl ?_);refine bxd (N := 1) rfl HB ?_;clear HB;intro gb101 w10 hg HB BK101 GE101 hb;have GW101 := GE101;clear hb hg;obtain ⟨hcz11_0, hcz11_1, hcz11_2, hcz11_3, hcz11_4, hcz11_5, hcz11_6, hfz11_0, hfz11_1, hfz11_2, hfz11_3, hfz11_4, hfz11_5, hfz11_6⟩ := cells7 BK101.out) | ((with_reducible refine gate_callee (f := 85) rfl ?_);refine glD 16 rfl rfl Try.func85 (impl_hasTo.calls a0_1 true _ A7.out) (fun nd => ?_)) | ((with_reducible refine gate_callee (f := 156) rfl ?_);refine glG 19 rfl rfl Try.func156 (impl_Name_wire.calls k _ _ l0_4 t106 _ ?side1 HC0_4.out A9.out) ?_;(case side1 => repeat (first | exact (Kd.C_below HR0_4.out bs) | (with_reducible refine Kd.C_alloc ?_ _) | (with_reducible refine Kd.C_drewN ?_ _) | (with_reducible refine Kd.C_drew ?_)));rintro e w12 ⟨v107, rfl, ho0, hb⟩;refine ⟨_, rfl, ?_⟩;have HO108 := ak (Kd.R_lower ho0 (below_size bs));replace BK101 := b1 BK101 hb;replace HB := b2s bs hb;(try clear hb);(try clear ho0);obtain ⟨hcz13_0, hcz13_1, hcz13_2, hcz13_3, hcz13_4, hcz13_5, hcz13_6, hfz13_0, hfz13_1, hfz13_2, hfz13_3, hfz13_4, hfz13_5, hfz13_6⟩ := cells7 BK101.out))
   go_loopg [3, 23] k (fun kq v3 v23 w' => ∃ (x3_1 : List Int) (x23_1 : Int), v23 = .int .i64 x23_1 ∧ Aside0 (impl_Rr_data.l0 kq x3_1 l0_6 (l0_6.length : Int) x23_1 = some r) ∧ Aside0 (kq ≤ k) ∧ Aside0 (Kd.R (Kd.int .u8) 5 w' w.heap.size (fun _ => True) v3 x3_1) ∧ Aside0 (w'.heap[gb101]? = some (.cells #[(.slice A0_0 l0_0.length c0_0), .int .i64 a0_1, .int .i64 a0_2, .int .i64 a0_3, (.slice A0_4 l0_4.length c0_4), (.slice A0_5 l0_5.length c0_5), (.slice A0_6 l0_6.length c0_6)] 33 (0, 0))) ∧ Aside0 (Below w.heap.size w w'))
   case atStart => exact ⟨(t106), (0), o2, H', ⟨Nat.le_refl _⟩, ⟨rw_ HO108.out⟩, ⟨bk BK101.out⟩, ⟨bs⟩⟩
   case round =>
    clear H'
    (try clear c2b0)
    (try clear c2b1)
    (try clear hcz11_0)
    (try clear hcz11_1)
    (try clear hcz11_2)
    (try clear hcz11_3)
    (try clear hcz11_4)
    (try clear hcz11_5)
    (try clear hcz11_6)
    (try clear hcz13_0)
    (try clear hcz13_1)
    (try clear hcz13_2)
    (try clear hcz13_3)
    (try clear hcz13_4)
    (try clear hcz13_5)
    (try clear hcz13_6)
    (try clear hfz11_0)
    (try clear hfz11_1)
    (try clear hfz11_2)
    (try clear hfz11_3)
    (try clear hfz11_4)
    (try clear hfz11_5)
    (try clear hfz11_6)
    (try clear hfz13_0)
    (try clear hfz13_1)
    (try clear hfz13_2)
    (try clear hfz13_3)
    (try clear hfz13_4)
    (try clear hfz13_5)
    (try clear hfz13_6)
    obtain ⟨x3_1, x23_1, rfl, HA, HK1, HO_3, BK101, HB⟩ := hrel
    cases gk with
    | zero => exact absurd HA.out (by simp [impl_Rr_data.l0])
    | succ k1 =>
     have H := HA.out
     clear HA
     simp only [impl_Rr_data.l0] at H
     replace H := ip H
     obtain ⟨c14b0, H⟩ | ⟨c14b0, H⟩ := H
     ·replace H := ipN H
      obtain ⟨c15b0, H⟩ := H
      replace H := ipN H
      obtain ⟨c16b0, H⟩ := H
      replace H := bnd H
      obtain ⟨t110, A17, H⟩ := H
      by_cases c18 : x3_1.length + t110.length < 140737488355328
      ·rw [if_pos c18] at H
       have LMc18 := ak c18
       clear c18
       obtain ⟨y113, hy113⟩ : ∃ y_ : List Int, y_ = (x3_1 ++ t110) := ⟨_, rfl⟩
       (try with_reducible replace H := bnS H)
       (try rw [← hy113] at H)
       have Ny113 := ak hy113
       clear hy113
       have H' := ak H
       clear H
       obtain ⟨ad109, rfl, hx109_0, p109, q109⟩ := el_int HR0_6 HB x23_1
       go_wp2_with (first | ((with_reducible refine gate_callee (f := 149) rfl ?_);refine glG 29 rfl rfl Try.func149 (impl_four.calls (rd l0_6 x23_1) t110 _ A17.out) ?_;rintro e w19 ⟨v111, rfl, ho0, hb⟩;refine ⟨_, rfl, ?_⟩;have HO112 := ak (Kd.R_lower (Kd.R_new' ho0 (Kd.R_lt (rw_ HO_3.out))) (below_size bs));replace HO_3 := ak (Kd.R_elder' (rw_ HO_3.out) (Kd.R_base ho0) hb);replace BK101 := b1 BK101 hb;replace HB := b2s bs hb;(try clear hb);(try clear ho0);obtain ⟨Ao21, co21, eo21⟩ := Kd.R_slice HO112.out;subst eo21) | ((with_reducible refine gate_builtin (b := .append) (xs := #[.tmp 27, .tmp 29]) rfl ?_);at_builtin;refine Kd.R_append_rows (Kd.int .u8) (w0 := w) w.heap.size rfl (.tmp 27) (.tmp 29) 25 5 (.int .u8 0) 1 rfl Try.underlying25 info5 rfl (by decide) (by omega) u3 x3_1 t110 _ _ _ (fun k_ => some k_ ≠ (.slice Ao21 t110.length co21 : Value).ownBlock) (fun _ => False) rfl rfl ?aO ?aR (fun _ _ h => h) (fun _ h => h.elim) ?aF ?aB ?aS ?aL ?_;(case aR => repeat (first | exact (Kd.R_reads' HO112.out).2.2 | (with_reducible refine Kd.C_alloc ?_ _) | (with_reducible refine Kd.C_drewN ?_ _) | (with_reducible refine Kd.C_drew ?_)));(case aB => exact bs);(case aF => exact (fun k_ hk => Kd.fresh' (Kd.R_lt (rw_ HO112.out)) k_ hk));(case aO => exact (rw_ (Kd.R_mono HO_3.out (fun _ hk => hk.2))));(case aS => exact (below_size bs));(case aL => have := LMc18.out; omega);intro v114 w20 ho hb hg hat;rw [← Ny113.out] at ho;replace BK101 := ak (blk_grown (bk BK101.out) hg (Kd.R_ne HO_3.out BK101.out (by decide)));replace HO112 := ak (Kd.R_after (ok := (fun _ => True)) (rw_ HO112.out) hg hat);replace HB := ak (hb);have HO115 := ak (ho);clear HO_3;clear ho hb hg hat))
       go_roundg k1
       case measure => have := HK1.out; omega
       case rel => exact ⟨(y113), (wrap64 (x23_1 + 1)), o2, H', ⟨by have := HK1.out; omega⟩, ⟨by (with_reducible repeat (first | apply Kd.R_alloc | apply Kd.R_drewN | apply Kd.R_drew)); exact Kd.R_mono HO115.out (fun _ hk => trivial)⟩, ⟨bk BK101.out⟩, ⟨bs⟩⟩
      ·rw [if_neg c18] at H
       exact absurd H (by simp)
     ·obtain rfl := Option.some.inj H
      go_wp2
      go_ret
      exact ⟨_, o1, rw_ HO_3.out, bs⟩
  ·obtain ⟨y116, hy116⟩ : ∃ y_ : List Int, y_ = (([((l0_5.length : Int)) % 256] : List Int)) := ⟨_, rfl⟩
   (try with_reducible replace H := bnS H)
   (try rw [← hy116] at H)
   have Ny116 := ak hy116
   clear hy116
   by_cases c22 : y116.length + l0_5.length < 140737488355328
   ·rw [if_pos c22] at H
    have LMc22 := ak c22
    clear c22
    obtain ⟨y119, hy119⟩ : ∃ y_ : List Int, y_ = (y116 ++ l0_5) := ⟨_, rfl⟩
    (try with_reducible replace H := bnS H)
    (try rw [← hy119] at H)
    have Ny119 := ak hy119
    clear hy119
    obtain rfl := Option.some.inj H
    go_enter Try.func144, Try.ntmps144
    go_wp2_with (first | ((with_reducible refine gate_dst (N := 1) rfl ?_);refine bxd (N := 1) rfl HB ?_;clear HB;intro gb101 w23 hg HB BK101 GE101 hb;have GW101 := GE101;clear hb hg;obtain ⟨hcz24_0, hcz24_1, hcz24_2, hcz24_3, hcz24_4, hcz24_5, hcz24_6, hfz24_0, hfz24_1, hfz24_2, hfz24_3, hfz24_4, hfz24_5, hfz24_6⟩ := cells7 BK101.out) | ((with_reducible refine gate_callee (f := 85) rfl ?_);refine glD 16 rfl rfl Try.func85 (impl_hasTo.calls a0_1 false _ A7.out) (fun nd => ?_)) | ((with_reducible refine gate_dst (N := 37) rfl ?_);refine Kd.R_lit (Kd.int .u8) _ 5 ?hg (N := 37) ?hd (xs := ([((l0_5.length : Int)) % 256] : List Int)) (inner := [.int .u8 (((l0_5.length : Int)) % 256)]) (ok := fun _ => True) (okp := fun _ => True) ?hr ?hp (fun _ hk => hk) trivial (Below.refl _ _) (Nat.le_refl _) (by simp) ?_;(case hd => rfl);(case hg => rfl);(case hr => first | (go_simp; done) | (go_simp; rfl));(case hp => exact (Reps.one (show Kd.M (Kd.int .u8) _ _ _ (((l0_5.length : Int)) % 256) [.int .u8 (((l0_5.length : Int)) % 256)] from rfl) (Reps.none _ _)));intro v117 w25 ho26 hb hg_ hnew_;clear hg_ hnew_;(first | rw [← Ny116.out] at ho26 | (simp only [Int.reduceToNat] at ho26; rw [← Ny116.out] at ho26));have HO118 := ak (Kd.R_lower ho26 (below_size bs));replace BK101 := b1 BK101 hb;replace HB := b2s bs hb;clear hb ho26;obtain ⟨hcz27_0, hcz27_1, hcz27_2, hcz27_3, hcz27_4, hcz27_5, hcz27_6, hfz27_0, hfz27_1, hfz27_2, hfz27_3, hfz27_4, hfz27_5, hfz27_6⟩ := cells7 BK101.out) | ((with_reducible refine gate_builtin (b := .append) (xs := #[.tmp 37, .tmp 39]) rfl ?_);at_builtin;refine Kd.R_append_rows (Kd.int .u8) (w0 := w) w.heap.size rfl (.tmp 37) (.tmp 39) 25 5 (.int .u8 0) 1 rfl Try.underlying25 info5 rfl (by decide) (by omega) v117 y116 l0_5 _ _ _ (fun _ => True) (fun _ => False) rfl rfl ?aO ?aR (fun _ _ h => h) (fun _ h => h.elim) ?aF ?aB ?aS ?aL ?_;(case aR => exact cw HR0_5.out HB.out);(case aB => exact bs);(case aF => exact (fun _ _ => trivial));(case aO => exact (rw_ HO118.out));(case aS => exact (below_size bs));(case aL => have := LMc22.out; omega);intro v120 w28 ho hb hg hat;rw [← Ny119.out] at ho;replace BK101 := ak (blk_grown (bk BK101.out) hg (Kd.R_ne HO118.out BK101.out (by decide)));replace HB := ak (hb);have HO121 := ak (ho);clear HO118;clear ho hb hg hat))
    go_ret
    exact ⟨_, o1, rw_ HO121.out, bs⟩
   ·rw [if_neg c22] at H
    exact absurd H (by simp)

/-! ### impl_Rr_compare: function 64 -/
def impl_Rr_compare.f (k : Nat) (l0_0 : List (List Int)) (a0_1 : Int) (a0_2 : Int) (a0_3 : Int) (l0_4 : List (List Int)) (l0_5 : List Int) (l0_6 : List Int) (l1_0 : List (List Int)) (a1_1 : Int) (a1_2 : Int) (a1_3 : Int) (l1_4 : List (List Int)) (l1_5 : List Int) (l1_6 : List Int) : Option (Int) := (impl_Name_compare.f k l0_0 l1_0).bind fun t103 => ((cmp_Compare_int.f a0_1 a1_1).bind fun t104 => ((impl_Rr_data.f k l0_0 a0_1 a0_2 a0_3 l0_4 l0_5 l0_6).bind fun t105 => ((impl_Rr_data.f k l1_0 a1_1 a1_2 a1_3 l1_4 l1_5 l1_6).bind fun t108 => ((bytes_Compare.f t105 t108).bind fun t111 => ((cmp_Or_int.f k (([t103, t104, t111] : List Int))).bind fun t115 => (some t115))))))
theorem impl_Rr_compare.mono : ∀ a0 a1 a2 a3 a4 a5 a6 a7 a8 a9 a10 a11 a12 a13 k, LeO (impl_Rr_compare.f k a0 a1 a2 a3 a4 a5 a6 a7 a8 a9 a10 a11 a12 a13) (impl_Rr_compare.f (k + 1) a0 a1 a2 a3 a4 a5 a6 a7 a8 a9 a10 a11 a12 a13) := by
 intro a0 a1 a2 a3 a4 a5 a6 a7 a8 a9 a10 a11 a12 a13 k
 unfold impl_Rr_compare.f
 repeat' first
   | (with_reducible exact cmp_Or_int.mono _ _)
   | (with_reducible exact impl_Name_compare.mono _ _ _)
   | (with_reducible exact impl_Rr_data.mono _ _ _ _ _ _ _ _)
   | (with_reducible exact LeO.refl _)
   | (with_reducible exact LeO.none _)
   | (with_reducible refine LeO.ite ?_ ?_)
   | (with_reducible refine LeO.bind ?_ (fun _ => ?_))
   | exact cmp_Or_int.mono _ _
   | exact impl_Name_compare.mono _ _ _
   | exact impl_Rr_data.mono _ _ _ _ _ _ _ _
   | exact LeO.none _
   | refine LeO.ite ?_ ?_
   | refine LeO.bind ?_ (fun _ => ?_)
def impl_Rr_compare.T1 : Bool × List (List Nat × List Nat) := (true, [([], []), ([0], [0]), ([], []), ([2], [2]), ([1, 3], [1, 3]), ([], []), ([5], [5]), ([], []), ([7], [7]), ([6, 8, 4], [6, 8]), ([], []), ([10, 9], [10]), ([], []), ([12, 11], [12]), ([11, 13, 13], [11, 13]), ([4, 9, 14], [4, 9, 14]), ([15, 14], [15]), ([16, 16, 0, 1, 2, 3, 4, 5, 6, 7, 8, 9, 10, 11, 12, 13, 14, 15, 16], [16])])
def impl_Rr_compare.B1 : List Nat := [0, 1, 0, 4, 15, 0, 32, 0, 128, 511, 0, 2047, 0, 8191, 16383, 32767, 65535, 131071]
theorem impl_Rr_compare.tab1 : rtab .any (opsOf Try.f64 1) = impl_Rr_compare.T1 := by kernel_rfl
theorem impl_Rr_compare.bits1 : waitsOk impl_Rr_compare.T1.2 impl_Rr_compare.B1 = true := by kernel_rfl
set_option maxHeartbeats 8000000 in
set_option maxRecDepth 100000 in
theorem impl_Rr_compare.calls (k : Nat) (A0_0 : Option Addr) (c0_0 : Nat) (l0_0 : List (List Int)) (a0_1 : Int) (a0_2 : Int) (a0_3 : Int) (A0_4 : Option Addr) (c0_4 : Nat) (l0_4 : List (List Int)) (A0_5 : Option Addr) (c0_5 : Nat) (l0_5 : List Int) (A0_6 : Option Addr) (c0_6 : Nat) (l0_6 : List Int) (A1_0 : Option Addr) (c1_0 : Nat) (l1_0 : List (List Int)) (a1_1 : Int) (a1_2 : Int) (a1_3 : Int) (A1_4 : Option Addr) (c1_4 : Nat) (l1_4 : List (List Int)) (A1_5 : Option Addr) (c1_5 : Nat) (l1_5 : List Int) (A1_6 : Option Addr) (c1_6 : Nat) (l1_6 : List Int) (r : Int) (w : World) (hr0_0 : Kd.C (Kd.slice 5 (Kd.int .u8)) w A0_0 l0_0.length l0_0) (hc0_0 : l0_0.length ≤ c0_0) (hr0_4 : Kd.C (Kd.slice 5 (Kd.int .u8)) w A0_4 l0_4.length l0_4) (hc0_4 : l0_4.length ≤ c0_4) (hr0_5 : Kd.C (Kd.int .u8) w A0_5 l0_5.length l0_5) (hc0_5 : l0_5.length ≤ c0_5) (hr0_6 : Kd.C (Kd.int .i64) w A0_6 l0_6.length l0_6) (hc0_6 : l0_6.length ≤ c0_6) (hr1_0 : Kd.C (Kd.slice 5 (Kd.int .u8)) w A1_0 l1_0.length l1_0) (hc1_0 : l1_0.length ≤ c1_0) (hr1_4 : Kd.C (Kd.slice 5 (Kd.int .u8)) w A1_4 l1_4.length l1_4) (hc1_4 : l1_4.length ≤ c1_4) (hr1_5 : Kd.C (Kd.int .u8) w A1_5 l1_5.length l1_5) (hc1_5 : l1_5.length ≤ c1_5) (hr1_6 : Kd.C (Kd.int .i64) w A1_6 l1_6.length l1_6) (hc1_6 : l1_6.length ≤ c1_6) (h : impl_Rr_compare.f k l0_0 a0_1 a0_2 a0_3 l0_4 l0_5 l0_6 l1_0 a1_1 a1_2 a1_3 l1_4 l1_5 l1_6 = some r) :
  Calls Try.prog 64 #[.agg #[.slice A0_0 l0_0.length c0_0, .int .i64 a0_1, .int .i64 a0_2, .int .i64 a0_3, .slice A0_4 l0_4.length c0_4, .slice A0_5 l0_5.length c0_5, .slice A0_6 l0_6.length c0_6], .agg #[.slice A1_0 l1_0.length c1_0, .int .i64 a1_1, .int .i64 a1_2, .int .i64 a1_3, .slice A1_4 l1_4.length c1_4, .slice A1_5 l1_5.length c1_5, .slice A1_6 l1_6.length c1_6]] w fun e w' => e = .returned (.int .i64 r) ∧ Below w.heap.size w w' := by
 have hu33 := Try.underlying33
 have hu31 := Try.underlying31
 have HR0_0 := ak hr0_0
 have HC0_0 := ak hc0_0
 clear hr0_0 hc0_0
 have HR0_4 := ak hr0_4
 have HC0_4 := ak hc0_4
 clear hr0_4 hc0_4
 have HR0_5 := ak hr0_5
 have HC0_5 := ak hc0_5
 clear hr0_5 hc0_5
 have HR0_6 := ak hr0_6
 have HC0_6 := ak hc0_6
 clear hr0_6 hc0_6
 have HR1_0 := ak hr1_0
 have HC1_0 := ak hc1_0
 clear hr1_0 hc1_0
 have HR1_4 := ak hr1_4
 have HC1_4 := ak hc1_4
 clear hr1_4 hc1_4
 have HR1_5 := ak hr1_5
 have HC1_5 := ak hc1_5
 clear hr1_5 hc1_5
 have HR1_6 := ak hr1_6
 have HC1_6 := ak hc1_6
 clear hr1_6 hc1_6
 have HB := ak (Below.refl w.heap.size w)
 have H : ((impl_Name_compare.f k l0_0 l1_0).bind fun t103 => ((cmp_Compare_int.f a0_1 a1_1).bind fun t104 => ((impl_Rr_data.f k l0_0 a0_1 a0_2 a0_3 l0_4 l0_5 l0_6).bind fun t105 => ((impl_Rr_data.f k l1_0 a1_1 a1_2 a1_3 l1_4 l1_5 l1_6).bind fun t108 => ((bytes_Compare.f t105 t108).bind fun t111 => ((cmp_Or_int.f k (([t103, t104, t111] : List Int))).bind fun t115 => (some t115))))))) = some r := h
 clear h
 replace H := bnd H
 obtain ⟨t103, A3, H⟩ := H
 replace H := bnd H
 obtain ⟨t104, A4, H⟩ := H
 replace H := bnd H
 obtain ⟨t105, A5, H⟩ := H
 replace H := bnd H
 obtain ⟨t108, A6, H⟩ := H
 replace H := bnd H
 obtain ⟨t111, A7, H⟩ := H
 obtain ⟨y112, hy112⟩ : ∃ y_ : List Int, y_ = (([t103, t104, t111] : List Int)) := ⟨_, rfl⟩
 (try with_reducible replace H := bnS H)
 (try rw [← hy112] at H)
 have Ny112 := ak hy112
 clear hy112
 replace H := bnd H
 obtain ⟨t115, A8, H⟩ := H
 obtain rfl := Option.some.inj H
 go_enter Try.func64, Try.ntmps64
 try go_wp2_with (first | ((with_reducible refine gate_dst (N := 2) rfl ?_);refine bxd (N := 2) rfl HB ?_;clear HB;intro gb101 w9 hg HB BK101 GE101 hb;have GW101 := GE101;clear hb hg) | ((with_reducible refine gate_dst (N := 3) rfl ?_);refine bxe (N := 3) rfl ?_;intro gb102 hg w10 hbox hb;have BK102 := ak (hbox);have GW102 := b3s hg bs;have GE102 := GW102;replace HB := b2s bs hb;have NB101_102 := b4 hg BK101;have NB102_101 := b5 hg BK101;replace BK101 := b1 BK101 hb;clear hb hbox hg))
 replace BK101 := ak (blk_drew BK101.out)
 replace BK102 := ak (blk_drew BK102.out)
 replace HB := ak (below_drew1 HB.out)
 refine start_ (n := 18) (S := fun w' => w'.cell? ⟨gb101, 0, none⟩ = some (.slice A0_0 l0_0.length c0_0) ∧ w'.cell? ⟨gb101, 1, none⟩ = some (.int .i64 a0_1) ∧ w'.cell? ⟨gb101, 2, none⟩ = some (.int .i64 a0_2) ∧ w'.cell? ⟨gb101, 3, none⟩ = some (.int .i64 a0_3) ∧ w'.cell? ⟨gb101, 4, none⟩ = some (.slice A0_4 l0_4.length c0_4) ∧ w'.cell? ⟨gb101, 5, none⟩ = some (.slice A0_5 l0_5.length c0_5) ∧ w'.cell? ⟨gb101, 6, none⟩ = some (.slice A0_6 l0_6.length c0_6) ∧ w'.cell? ⟨gb102, 0, none⟩ = some (.slice A1_0 l1_0.length c1_0) ∧ w'.cell? ⟨gb102, 1, none⟩ = some (.int .i64 a1_1) ∧ w'.cell? ⟨gb102, 2, none⟩ = some (.int .i64 a1_2) ∧ w'.cell? ⟨gb102, 3, none⟩ = some (.int .i64 a1_3) ∧ w'.cell? ⟨gb102, 4, none⟩ = some (.slice A1_4 l1_4.length c1_4) ∧ w'.cell? ⟨gb102, 5, none⟩ = some (.slice A1_5 l1_5.length c1_5) ∧ w'.cell? ⟨gb102, 6, none⟩ = some (.slice A1_6 l1_6.length c1_6)) (ds := []) (bA 18 0) (by kernel_rfl) rfl rfl kq (fun hHeld => ?_); refine with_tabW impl_Rr_compare.tab1 impl_Rr_compare.bits1 (fun HT_ HW_ => ?_)
 generalize w10.drew = w11 at BK101 BK102 HB hHeld ⊢
 refine pu HT_ 0 ?_
 refine pu HT_ 2 ?_
 refine pu HT_ 5 ?_
 refine pu HT_ 7 ?_
 refine ta HT_ HW_ hHeld 1 ?_
 refine ta HT_ HW_ hHeld 3 ?_
 refine ta HT_ HW_ hHeld 6 ?_
 refine ta HT_ HW_ hHeld 8 ?_
 refine ta HT_ HW_ hHeld 10 ?_
 refine ta HT_ HW_ hHeld 12 ?_
 refine on HT_ 4 (fun K hK => ?_)
 refine gsB Try.func141 (impl_Name_compare.calls k _ _ l0_0 _ _ l1_0 t103 _ (cv HR0_0 HB) HC0_0.out (cv HR1_0 HB) HC1_0.out A3.out) (fun w12 hb => ?_)
 replace BK101 := b1 BK101 hb
 replace BK102 := b1 BK102 hb
 replace HB := b2s bs hb
 refine hK.out _ _ kp (fun hHeld => ?_)
 (try clear hb)
 clear hK K
 refine norm_ (a' := ?_) ?_ ?_; rotate_left; go_simp; rfl
 refine on HT_ 9 (fun K hK => ?_)
 refine gsG Try.func142 (cmp_Compare_int.calls a0_1 a1_1 t104 _ A4.out) ?_
 rintro e w' ⟨rfl, ⟨nd, rfl⟩⟩
 refine ⟨_, rfl, ?_⟩
 refine hK.out _ _ ⟨(blk_cell BK101.out 0).trans rfl, (blk_cell BK101.out 1).trans rfl, (blk_cell BK101.out 2).trans rfl, (blk_cell BK101.out 3).trans rfl, (blk_cell BK101.out 4).trans rfl, (blk_cell BK101.out 5).trans rfl, (blk_cell BK101.out 6).trans rfl, (blk_cell BK102.out 0).trans rfl, (blk_cell BK102.out 1).trans rfl, (blk_cell BK102.out 2).trans rfl, (blk_cell BK102.out 3).trans rfl, (blk_cell BK102.out 4).trans rfl, (blk_cell BK102.out 5).trans rfl, (blk_cell BK102.out 6).trans rfl⟩ (fun hHeld => ?_)
 clear hK K
 refine norm_ (a' := ?_) ?_ ?_; rotate_left; go_simp; rfl
 refine on HT_ 11 (fun K hK => ?_)
 refine gsG Try.func144 (impl_Rr_data.calls k _ _ l0_0 a0_1 a0_2 a0_3 _ _ l0_4 _ _ l0_5 _ _ l0_6 t105 _ ?side1 HC0_0.out ?side3 HC0_4.out ?side5 HC0_5.out ?side7 HC0_6.out A5.out) ?_
 (case side1 => repeat (first | exact (Kd.C_below HR0_0.out bs) | (with_reducible refine Kd.C_alloc ?_ _) | (with_reducible refine Kd.C_drewN ?_ _) | (with_reducible refine Kd.C_drew ?_)))
 (case side3 => repeat (first | exact (Kd.C_below HR0_4.out bs) | (with_reducible refine Kd.C_alloc ?_ _) | (with_reducible refine Kd.C_drewN ?_ _) | (with_reducible refine Kd.C_drew ?_)))
 (case side5 => repeat (first | exact (Kd.C_below HR0_5.out bs) | (with_reducible refine Kd.C_alloc ?_ _) | (with_reducible refine Kd.C_drewN ?_ _) | (with_reducible refine Kd.C_drew ?_)))
 (case side7 => repeat (first | exact (Kd.C_below HR0_6.out bs) | (with_reducible refine Kd.C_alloc ?_ _) | (with_reducible refine Kd.C_drewN ?_ _) | (with_reducible refine Kd.C_drew ?_)))
 rintro e w13 ⟨v106, rfl, ho0, hb⟩
 refine ⟨_, rfl, ?_⟩
 have HO107 := ak (Kd.R_lower ho0 (below_size bs))
 replace BK101 := b1 BK101 hb
 replace BK102 := b1 BK102 hb
 replace HB := b2s bs hb
 refine hK.out _ _ kp (fun hHeld => ?_)
 (try clear hb)
 (try clear ho0)
 clear hK K
 refine norm_ (a' := ?_) ?_ ?_; rotate_left; go_simp; rfl
 refine on HT_ 13 (fun K hK => ?_)
 refine gsG Try.func144 (impl_Rr_data.calls k _ _ l1_0 a1_1 a1_2 a1_3 _ _ l1_4 _ _ l1_5 _ _ l1_6 t108 _ (cv HR1_0 HB) HC1_0.out (cv HR1_4 HB) HC1_4.out (cv HR1_5 HB) HC1_5.out (cv HR1_6 HB) HC1_6.out A6.out) ?_
 rintro e w14 ⟨v109, rfl, ho0, hb⟩
 refine ⟨_, rfl, ?_⟩
 have HO110 := ak (Kd.R_lower (Kd.R_new' ho0 (Kd.R_lt (rw_ HO107.out))) (below_size bs))
 replace HO107 := ak (Kd.R_elder' (rw_ HO107.out) (Kd.R_base ho0) hb)
 replace BK101 := b1 BK101 hb
 replace BK102 := b1 BK102 hb
 replace HB := b2s bs hb
 (try clear hb)
 (try clear ho0)
 obtain ⟨Ao15, co15, eo15⟩ := Kd.R_slice HO107.out
 (first | subst eo15 | (injection eo15 with f1_ f2_ f3_; have f4_ := f1_.symm; have f5_ := f3_.symm; clear f1_ f2_ f3_; subst f4_; subst f5_))
 obtain ⟨Ao16, co16, eo16⟩ := Kd.R_slice HO110.out
 (first | subst eo16 | (injection eo16 with f1_ f2_ f3_; have f4_ := f1_.symm; have f5_ := f3_.symm; clear f1_ f2_ f3_; subst f4_; subst f5_))
 refine hK.out _ _ ⟨(blk_cell BK101.out 0).trans rfl, (blk_cell BK101.out 1).trans rfl, (blk_cell BK101.out 2).trans rfl, (blk_cell BK101.out 3).trans rfl, (blk_cell BK101.out 4).trans rfl, (blk_cell BK101.out 5).trans rfl, (blk_cell BK101.out 6).trans rfl, (blk_cell BK102.out 0).trans rfl, (blk_cell BK102.out 1).trans rfl, (blk_cell BK102.out 2).trans rfl, (blk_cell BK102.out 3).trans rfl, (blk_cell BK102.out 4).trans rfl, (blk_cell BK102.out 5).trans rfl, (blk_cell BK102.out 6).trans rfl⟩ (fun hHeld => ?_)
 clear hK K
 refine norm_ (a' := ?_) ?_ ?_; rotate_left; go_simp; rfl
 refine on HT_ 14 (fun K hK => ?_)
 refine gsG Try.func143 (bytes_Compare.calls _ _ t105 _ _ t108 t111 _ ?side1 ?side2 ?side3 ?side4 A7.out) ?_
 (case side1 => repeat (first | exact (Kd.R_reads' HO107.out).2.2 | (with_reducible refine Kd.C_alloc ?_ _) | (with_reducible refine Kd.C_drewN ?_ _) | (with_reducible refine Kd.C_drew ?_)))
 (case side2 => exact (Kd.R_reads' HO107.out).2.1)
 (case side3 => repeat (first | exact (Kd.R_reads' HO110.out).2.2 | (with_reducible refine Kd.C_alloc ?_ _) | (with_reducible refine Kd.C_drewN ?_ _) | (with_reducible refine Kd.C_drew ?_)))
 (case side4 => exact (Kd.R_reads' HO110.out).2.1)
 rintro e w' ⟨rfl, ⟨nd, rfl⟩⟩
 refine ⟨_, rfl, ?_⟩
 refine hK.out _ _ ⟨(blk_cell BK101.out 0).trans rfl, (blk_cell BK101.out 1).trans rfl, (blk_cell BK101.out 2).trans rfl, (blk_cell BK101.out 3).trans rfl, (blk_cell BK101.out 4).trans rfl, (blk_cell BK101.out 5).trans rfl, (blk_cell BK101.out 6).trans rfl, (blk_cell BK102.out 0).trans rfl, (blk_cell BK102.out 1).trans rfl, (blk_cell BK102.out 2).trans rfl, (blk_cell BK102.out 3).trans rfl, (blk_cell BK102.out 4).trans rfl, (blk_cell BK102.out 5).trans rfl, (blk_cell BK102.out 6).trans rfl⟩ (fun hHeld => ?_)
 clear hK K
 refine norm_ (a' := ?_) ?_ ?_; rotate_left; go_simp; rfl
 refine on HT_ 15 (fun K hK => ?_)
 refine Kd.R_lit_step (Kd.int .i64) _ 3 ?hg (N := 20) ?hd (xs := ([t103, t104, t111] : List Int)) (inner := [.int .i64 t103, .int .i64 t104, .int .i64 t111]) (ok := fun _ => True) (okp := fun _ => True) ?hr ?hp (fun _ hk => hk) trivial (Below.refl _ _) (Nat.le_refl _) (by simp) ?_; (case hd => rfl); (case hg => rfl); (case hr => first | (go_simp; done) | (go_simp; rfl)); (case hp => exact (Reps.one (show Kd.M (Kd.int .i64) _ _ _ t103 [.int .i64 t103] from rfl) (Reps.one (show Kd.M (Kd.int .i64) _ _ _ t104 [.int .i64 t104] from rfl) (Reps.one (show Kd.M (Kd.int .i64) _ _ _ t111 [.int .i64 t111] from rfl) (Reps.none _ _)))))
 intro v113 w17 ho18 hb hg_ hnew_
 clear hg_ hnew_
 (first | rw [← Ny112.out] at ho18 | (simp only [Int.reduceToNat] at ho18; rw [← Ny112.out] at ho18))
 replace HO107 := ak (Kd.R_below (rw_ HO107.out) hb)
 replace HO110 := ak (Kd.R_below (rw_ HO110.out) hb)
 have HO114 := ak (Kd.R_lower ho18 (below_size bs))
 replace BK101 := b1 BK101 hb
 replace BK102 := b1 BK102 hb
 replace HB := b2s bs hb
 clear hb ho18
 obtain ⟨Ao19, co19, eo19⟩ := Kd.R_slice HO114.out
 (first | subst eo19 | (injection eo19 with f1_ f2_ f3_; have f4_ := f1_.symm; have f5_ := f3_.symm; clear f1_ f2_ f3_; subst f4_; subst f5_))
 refine hK.out _ _ ⟨(blk_cell BK101.out 0).trans rfl, (blk_cell BK101.out 1).trans rfl, (blk_cell BK101.out 2).trans rfl, (blk_cell BK101.out 3).trans rfl, (blk_cell BK101.out 4).trans rfl, (blk_cell BK101.out 5).trans rfl, (blk_cell BK101.out 6).trans rfl, (blk_cell BK102.out 0).trans rfl, (blk_cell BK102.out 1).trans rfl, (blk_cell BK102.out 2).trans rfl, (blk_cell BK102.out 3).trans rfl, (blk_cell BK102.out 4).trans rfl, (blk_cell BK102.out 5).trans rfl, (blk_cell BK102.out 6).trans rfl⟩ (fun hHeld => ?_)
 clear hK K
 refine norm_ (a' := ?_) ?_ ?_; rotate_left; go_simp; rfl
 refine on HT_ 16 (fun K hK => ?_)
 refine gsG Try.func140 (cmp_Or_int.calls k _ _ y112 t115 _ ?side1 ?side2 A8.out) ?_
 (case side1 => repeat (first | exact (Kd.R_reads' HO114.out).2.2 | (with_reducible refine Kd.C_alloc ?_ _) | (with_reducible refine Kd.C_drewN ?_ _) | (with_reducible refine Kd.C_drew ?_)))
 (case side2 => exact (Kd.R_reads' HO114.out).2.1)
 rintro e w' ⟨rfl, ⟨nd, rfl⟩⟩
 refine ⟨_, rfl, ?_⟩
 refine hK.out _ _ ⟨(blk_cell BK101.out 0).trans rfl, (blk_cell BK101.out 1).trans rfl, (blk_cell BK101.out 2).trans rfl, (blk_cell BK101.out 3).trans rfl, (blk_cell BK101.out 4).trans rfl, (blk_cell BK101.out 5).trans rfl, (blk_cell BK101.out 6).trans rfl, (blk_cell BK102.out 0).trans rfl, (blk_cell BK102.out 1).trans rfl, (blk_cell BK102.out 2).trans rfl, (blk_cell BK102.out 3).trans rfl, (blk_cell BK102.out 4).trans rfl, (blk_cell BK102.out 5).trans rfl, (blk_cell BK102.out 6).trans rfl⟩ (fun hHeld => ?_)
 clear hK K
 refine norm_ (a' := ?_) ?_ ?_; rotate_left; go_simp; rfl
 refine pu HT_ 17 ?_
 refine done_ (done_of HT_.out (by kernel_rfl)) ?_
 try go_wp2
 go_ret
 exact ⟨o1, bs⟩

/-! ### slices_IndexFunc_byte_byte_233: function 233 -/

set_option maxHeartbeats 2000000 in
theorem slices_IndexFunc_byte_byte_233.calls (g : Nat) (lb : Array Value) (eg : ∀ args w, (callFunc g args).run Try.prog w = .ok (.enter g args) w) (p : List Int → Bool) (A0 : Option Addr) (c0 : Nat) (l0 : List (List Int)) (w : World) (hr0 : Kd.C (Kd.slice 5 (Kd.int .u8)) w A0 l0.length l0)
  (hp : ∀ (W : World) (A : Option Addr) (c : Nat) (x : List Int), Below w.heap.size w W → Kd.C (Kd.int .u8) W A x.length x → x.length ≤ c → Calls Try.prog g (#[.slice A x.length c] ++ lb) W fun e w' => e = .returned (.bool (p x)) ∧ Below w.heap.size w w') :
  Calls Try.prog 233 #[.slice A0 l0.length c0, .func (.func g) #[] lb] w fun e w' => (∃ r : Int, e = .returned (.int .i64 r) ∧ decide (0 ≤ r) = l0.any p) ∧ Below w.heap.size w w' := by
 have HR0 := ak hr0
 have hbig : l0.length ≤ 9223372036854775807 := hr0.2.1
 have HP := ak hp
 clear hr0 hp
 go_enter Try.func233, Try.ntmps233
 go_wp2
 go_loopg [5, 8] l0.length (fun gg _ s8 wr => ∃ kk : Nat, kk ≤ l0.length ∧ l0.length - kk ≤ gg ∧ s8 = .int .i64 kk ∧ Aside0 (Below w.heap.size w wr) ∧ Aside0 ((l0.take kk).any p = false))
 case atStart => exact ⟨0, Nat.zero_le _, by omega, rfl, ⟨Below.refl _ w⟩, ⟨by simp⟩⟩
 case round =>
  obtain ⟨kk, hkk, hg, rfl, BW, AF⟩ := hrel
  by_cases hlt : kk < l0.length
  ·obtain ⟨ad, A1, c1, rfl, hcell, hc1, hC1⟩ := at_L10 HR0.out (kk : Int) (by omega) (by omega)
   replace hcell := pw_cell_below BW.out hcell
   have hcall := HP.out wr A1 c1 (rd_L10 l0 (kk : Int)) BW.out (Kd.C_below hC1 BW.out) hc1
   have hx : Aside0 (l0.take (kk + 1) = l0.take kk ++ [rd_L10 l0 (kk : Int)]) := ⟨by
    rw [List.take_succ_eq_append_getElem hlt]; simp [rd_L10, List.getD_eq_getElem?_getD, hlt]⟩
   clear hC1 hc1
   generalize rd_L10 l0 (kk : Int) = y at hcell hcall hx
   have hltz : (kk : Int) < (l0.length : Int) := by omega
   rw [show ((kk : Int)).toNat = kk from by omega] at hcell
   cases hq : p y with
   | true =>
    rw [hq] at hcall
    go_wp2_with (go_at_fn g; refine hcall.mono ?_; rintro e w' ⟨rfl, hb'⟩)
    go_ret
    refine ⟨⟨_, rfl, ?_⟩, hb'⟩
    have : l0.any p = true := by
     rw [← List.take_append_drop (kk + 1) l0, hx.out]; simp [hq]
    rw [this]; simp
   | false =>
    rw [hq] at hcall
    go_wp2_with (go_at_fn g; refine hcall.mono ?_; rintro e w' ⟨rfl, hb'⟩)
    go_roundg (l0.length - (kk + 1))
    case measure => omega
    case rel => exact ⟨kk + 1, by omega, by omega, by go_num, ⟨hb'⟩, ⟨by rw [hx.out, List.any_append, AF.out]; simp [hq]⟩⟩
  ·have hltz : ¬ (kk : Int) < (l0.length : Int) := by omega
   go_wp2
   go_ret
   refine ⟨⟨_, rfl, ?_⟩, BW.out⟩
   have := AF.out
   rw [List.take_of_length_le (by omega)] at this
   rw [this]; rfl

/-! ### slices_ContainsFunc_byte_byte_218: function 218 -/

set_option maxHeartbeats 2000000 in
theorem slices_ContainsFunc_byte_byte_218.calls (g : Nat) (lb : Array Value) (eg : ∀ args w, (callFunc g args).run Try.prog w = .ok (.enter g args) w) (p : List Int → Bool) (A0 : Option Addr) (c0 : Nat) (l0 : List (List Int)) (w : World) (hr0 : Kd.C (Kd.slice 5 (Kd.int .u8)) w A0 l0.length l0)
  (hp : ∀ (W : World) (A : Option Addr) (c : Nat) (x : List Int), Below w.heap.size w W → Kd.C (Kd.int .u8) W A x.length x → x.length ≤ c → Calls Try.prog g (#[.slice A x.length c] ++ lb) W fun e w' => e = .returned (.bool (p x)) ∧ Below w.heap.size w w') :
  Calls Try.prog 218 #[.slice A0 l0.length c0, .func (.func g) #[] lb] w fun e w' => e = .returned (.bool (l0.any p)) ∧ Below w.heap.size w w' := by
 have hc := slices_IndexFunc_byte_byte_233.calls g lb eg p A0 c0 l0 w hr0 hp
 generalize l0.any p = q at hc ⊢
 clear hp hr0
 go_enter Try.func218, Try.ntmps218
 go_wp2_with (go_at_call 233; refine hc.mono ?_; rintro e w' ⟨⟨r, rfl, rfl⟩, hb'⟩)
 go_ret
 exact ⟨rfl, hb'⟩

/-! ### impl_all_byte_1_219: function 219 -/

set_option maxHeartbeats 2000000 in
/-- What is handed to ContainsFunc: the predicate's contrary; the predicate lies in a variable. -/
theorem impl_all_byte_1_219.calls (g : Nat) (lb : Array Value) (eg : ∀ args w, (callFunc g args).run Try.prog w = .ok (.enter g args) w) (q : Bool) (A : Option Addr) (n c : Nat) (B : Nat) (w w0 : World) (hv : w.cell? ⟨B, 0, none⟩ = some (.func (.func g) #[] lb))
  (hp : Calls Try.prog g (#[.slice A n c] ++ lb) w fun e w' => e = .returned (.bool q) ∧ Below w0.heap.size w0 w') :
  Calls Try.prog 219 #[.slice A n c, .pointer (some ⟨B, 0, none⟩)] w fun e w' => e = .returned (.bool (!q)) ∧ Below w0.heap.size w0 w' := by
 go_enter Try.func219, Try.ntmps219
 go_wp2_with (go_at_fn g; refine hp.mono ?_; rintro e w' ⟨rfl, hb'⟩)
 go_ret
 exact ⟨rfl, hb'⟩

/-! ### impl_all_byte_154: function 154 -/

set_option maxHeartbeats 2000000 in
theorem impl_all_byte_154.calls (g : Nat) (lb : Array Value) (eg : ∀ args w, (callFunc g args).run Try.prog w = .ok (.enter g args) w) (p : List Int → Bool) (A0 : Option Addr) (c0 : Nat) (l0 : List (List Int)) (w : World) (hr0 : Kd.C (Kd.slice 5 (Kd.int .u8)) w A0 l0.length l0)
  (hp : ∀ (W : World) (A : Option Addr) (c : Nat) (x : List Int), Below w.heap.size w W → Kd.C (Kd.int .u8) W A x.length x → x.length ≤ c → Calls Try.prog g (#[.slice A x.length c] ++ lb) W fun e w' => e = .returned (.bool (p x)) ∧ Below W.heap.size W w') :
  Calls Try.prog 154 #[.slice A0 l0.length c0, .func (.func g) #[] lb] w fun e w' => e = .returned (.bool (l0.all p)) ∧ Below w.heap.size w w' := by
 have eg2 : ∀ args w, (callFunc 219 args).run Try.prog w = .ok (.enter 219 args) w := enters_of Try.func219 (by kernel_rfl) rfl
 have hb0 : Below w.heap.size w (w.alloc (.cells #[.func (.func g) #[] lb] 43)) := below_alloc (Below.refl _ _) _
 have hc := slices_ContainsFunc_byte_byte_218.calls 219 #[.pointer (some ⟨w.heap.size, 0, none⟩)] eg2 (fun x => !p x) A0 c0 l0 (w.alloc (.cells #[.func (.func g) #[] lb] 43)) (Kd.C_below hr0 hb0) (fun W A c x hW hC hc =>
  impl_all_byte_1_219.calls g lb eg (p x) A x.length c w.heap.size W _ ((hW.cell (p := ⟨w.heap.size, 0, none⟩) (by simp)).trans (by simp)) ((hp W A c x (hb0.trans (hW.mono (by simp))) hC hc).mono fun e w' ⟨he, hb⟩ => ⟨he, hW.trans (hb.mono hW.size)⟩))
 have e1 : (l0.any fun x => !p x) = !(l0.all p) := by rw [List.all_eq_not_any_not]; simp
 rw [e1] at hc
 generalize l0.all p = q at hc ⊢
 clear hp hr0 e1
 go_enter Try.func154, Try.ntmps154
 go_wp2_with (go_at_call 218; refine hc.mono ?_; rintro e w' ⟨rfl, hb'⟩)
 go_ret
 exact ⟨by simp, hb0.trans (hb'.mono (by simp))⟩

/-! ### slices_IndexFunc_byte_byte_238: function 238 -/

set_option maxHeartbeats 2000000 in
theorem slices_IndexFunc_byte_byte_238.calls (g : Nat) (lb : Array Value) (eg : ∀ args w, (callFunc g args).run Try.prog w = .ok (.enter g args) w) (p : Int → Bool) (A0 : Option Addr) (c0 : Nat) (l0 : List Int) (w : World) (hr0 : Kd.C (Kd.int .u8) w A0 l0.length l0)
  (hp : ∀ (W : World) (x : Int), Below w.heap.size w W → Calls Try.prog g (#[.int .u8 x] ++ lb) W fun e w' => e = .returned (.bool (p x)) ∧ Below w.heap.size w w') :
  Calls Try.prog 238 #[.slice A0 l0.length c0, .func (.func g) #[] lb] w fun e w' => (∃ r : Int, e = .returned (.int .i64 r) ∧ decide (0 ≤ r) = l0.any p) ∧ Below w.heap.size w w' := by
 have HR0 := ak hr0
 have hbig : l0.length ≤ 9223372036854775807 := hr0.2.1
 have HP := ak hp
 clear hr0 hp
 go_enter Try.func238, Try.ntmps238
 go_wp2
 go_loopg [5, 8] l0.length (fun gg _ s8 wr => ∃ kk : Nat, kk ≤ l0.length ∧ l0.length - kk ≤ gg ∧ s8 = .int .i64 kk ∧ Aside0 (Below w.heap.size w wr) ∧ Aside0 ((l0.take kk).any p = false))
 case atStart => exact ⟨0, Nat.zero_le _, by omega, rfl, ⟨Below.refl _ w⟩, ⟨by simp⟩⟩
 case round =>
  obtain ⟨kk, hkk, hg, rfl, BW, AF⟩ := hrel
  by_cases hlt : kk < l0.length
  ·obtain ⟨ad, rfl, hcell⟩ := Kd.at_int HR0.out (kk : Int) (by omega) (by omega)
   replace hcell := pw_cell_below BW.out hcell
   have hcall := HP.out wr (rd l0 (kk : Int)) BW.out
   have hx : Aside0 (l0.take (kk + 1) = l0.take kk ++ [rd l0 (kk : Int)]) := ⟨by
    rw [List.take_succ_eq_append_getElem hlt]; simp [rd, List.getD_eq_getElem?_getD, hlt]⟩
   generalize rd l0 (kk : Int) = y at hcell hcall hx
   have hltz : (kk : Int) < (l0.length : Int) := by omega
   rw [show ((kk : Int)).toNat = kk from by omega] at hcell
   cases hq : p y with
   | true =>
    rw [hq] at hcall
    go_wp2_with (go_at_fn g; refine hcall.mono ?_; rintro e w' ⟨rfl, hb'⟩)
    go_ret
    refine ⟨⟨_, rfl, ?_⟩, hb'⟩
    have : l0.any p = true := by
     rw [← List.take_append_drop (kk + 1) l0, hx.out]; simp [hq]
    rw [this]; simp
   | false =>
    rw [hq] at hcall
    go_wp2_with (go_at_fn g; refine hcall.mono ?_; rintro e w' ⟨rfl, hb'⟩)
    go_roundg (l0.length - (kk + 1))
    case measure => omega
    case rel => exact ⟨kk + 1, by omega, by omega, by go_num, ⟨hb'⟩, ⟨by rw [hx.out, List.any_append, AF.out]; simp [hq]⟩⟩
  ·have hltz : ¬ (kk : Int) < (l0.length : Int) := by omega
   go_wp2
   go_ret
   refine ⟨⟨_, rfl, ?_⟩, BW.out⟩
   have := AF.out
   rw [List.take_of_length_le (by omega)] at this
   rw [this]; rfl

/-! ### slices_ContainsFunc_byte_byte_234: function 234 -/

set_option maxHeartbeats 2000000 in
theorem slices_ContainsFunc_byte_byte_234.calls (g : Nat) (lb : Array Value) (eg : ∀ args w, (callFunc g args).run Try.prog w = .ok (.enter g args) w) (p : Int → Bool) (A0 : Option Addr) (c0 : Nat) (l0 : List Int) (w : World) (hr0 : Kd.C (Kd.int .u8) w A0 l0.length l0)
  (hp : ∀ (W : World) (x : Int), Below w.heap.size w W → Calls Try.prog g (#[.int .u8 x] ++ lb) W fun e w' => e = .returned (.bool (p x)) ∧ Below w.heap.size w w') :
  Calls Try.prog 234 #[.slice A0 l0.length c0, .func (.func g) #[] lb] w fun e w' => e = .returned (.bool (l0.any p)) ∧ Below w.heap.size w w' := by
 have hc := slices_IndexFunc_byte_byte_238.calls g lb eg p A0 c0 l0 w hr0 hp
 generalize l0.any p = q at hc ⊢
 clear hp hr0
 go_enter Try.func234, Try.ntmps234
 go_wp2_with (go_at_call 238; refine hc.mono ?_; rintro e w' ⟨⟨r, rfl, rfl⟩, hb'⟩)
 go_ret
 exact ⟨rfl, hb'⟩

/-! ### impl_all_byte_1_235: function 235 -/

set_option maxHeartbeats 2000000 in
/-- What is handed to ContainsFunc: the predicate's contrary; the predicate lies in a variable. -/
theorem impl_all_byte_1_235.calls (g : Nat) (lb : Array Value) (eg : ∀ args w, (callFunc g args).run Try.prog w = .ok (.enter g args) w) (q : Bool) (x : Int) (B : Nat) (w w0 : World) (hv : w.cell? ⟨B, 0, none⟩ = some (.func (.func g) #[] lb))
  (hp : Calls Try.prog g (#[.int .u8 x] ++ lb) w fun e w' => e = .returned (.bool q) ∧ Below w0.heap.size w0 w') :
  Calls Try.prog 235 #[.int .u8 x, .pointer (some ⟨B, 0, none⟩)] w fun e w' => e = .returned (.bool (!q)) ∧ Below w0.heap.size w0 w' := by
 go_enter Try.func235, Try.ntmps235
 go_wp2_with (go_at_fn g; refine hp.mono ?_; rintro e w' ⟨rfl, hb'⟩)
 go_ret
 exact ⟨rfl, hb'⟩

/-! ### impl_all_byte_220: function 220 -/

set_option maxHeartbeats 2000000 in
theorem impl_all_byte_220.calls (g : Nat) (lb : Array Value) (eg : ∀ args w, (callFunc g args).run Try.prog w = .ok (.enter g args) w) (p : Int → Bool) (A0 : Option Addr) (c0 : Nat) (l0 : List Int) (w : World) (hr0 : Kd.C (Kd.int .u8) w A0 l0.length l0)
  (hp : ∀ (W : World) (x : Int), Below w.heap.size w W → Calls Try.prog g (#[.int .u8 x] ++ lb) W fun e w' => e = .returned (.bool (p x)) ∧ Below W.heap.size W w') :
  Calls Try.prog 220 #[.slice A0 l0.length c0, .func (.func g) #[] lb] w fun e w' => e = .returned (.bool (l0.all p)) ∧ Below w.heap.size w w' := by
 have eg2 : ∀ args w, (callFunc 235 args).run Try.prog w = .ok (.enter 235 args) w := enters_of Try.func235 (by kernel_rfl) rfl
 have hb0 : Below w.heap.size w (w.alloc (.cells #[.func (.func g) #[] lb] 221)) := below_alloc (Below.refl _ _) _
 have hc := slices_ContainsFunc_byte_byte_234.calls 235 #[.pointer (some ⟨w.heap.size, 0, none⟩)] eg2 (fun x => !p x) A0 c0 l0 (w.alloc (.cells #[.func (.func g) #[] lb] 221)) (Kd.C_below hr0 hb0) (fun W x hW =>
  impl_all_byte_1_235.calls g lb eg (p x) x w.heap.size W _ ((hW.cell (p := ⟨w.heap.size, 0, none⟩) (by simp)).trans (by simp)) ((hp W x (hb0.trans (hW.mono (by simp)))).mono fun e w' ⟨he, hb⟩ => ⟨he, hW.trans (hb.mono hW.size)⟩))
 have e1 : (l0.any fun x => !p x) = !(l0.all p) := by rw [List.all_eq_not_any_not]; simp
 rw [e1] at hc
 generalize l0.all p = q at hc ⊢
 clear hp hr0 e1
 go_enter Try.func220, Try.ntmps220
 go_wp2_with (go_at_call 234; refine hc.mono ?_; rintro e w' ⟨rfl, hb'⟩)
 go_ret
 exact ⟨by simp, hb0.trans (hb'.mono (by simp))⟩

/-! ### impl_LabelOk_1: function 221 -/
def impl_LabelOk_1.f (a0 : Int) : Option (Bool) := if a0 ≥ 97 then (if a0 ≤ 122 then (some true) else (if a0 ≥ 48 then (if a0 ≤ 57 then (some true) else (some (a0 == 45))) else (some (a0 == 45)))) else (if a0 ≥ 48 then (if a0 ≤ 57 then (some true) else (some (a0 == 45))) else (some (a0 == 45)))
set_option maxHeartbeats 8000000 in
set_option maxRecDepth 100000 in
theorem impl_LabelOk_1.calls (a0 : Int) (r : Bool) (w : World) (h : impl_LabelOk_1.f a0 = some r) :
  Calls Try.prog 221 #[.int .u8 a0] w fun e w' => e = .returned (.bool r) ∧ Drawn0 w w' := by
 have H : (if a0 ≥ 97 then (if a0 ≤ 122 then (some true) else (if a0 ≥ 48 then (if a0 ≤ 57 then (some true) else (some (a0 == 45))) else (some (a0 == 45)))) else (if a0 ≥ 48 then (if a0 ≤ 57 then (some true) else (some (a0 == 45))) else (some (a0 == 45)))) = some r := h
 clear h
 replace H := ih H
 obtain ⟨c2b0, H⟩ | ⟨c2b0, H⟩ := H
 ·replace H := ip H
  obtain ⟨c3b0, H⟩ | ⟨c3b0, H⟩ := H
  ·obtain rfl := Option.some.inj H
   go_enter Try.func221, Try.ntmps221
   go_wp2
   go_ret
   exact ⟨o2, od⟩
  ·replace H := ih H
   obtain ⟨c4b0, H⟩ | ⟨c4b0, H⟩ := H
   ·replace H := ip H
    obtain ⟨c5b0, H⟩ | ⟨c5b0, H⟩ := H
    ·obtain rfl := Option.some.inj H
     go_enter Try.func221, Try.ntmps221
     go_wp2
     go_ret
     exact ⟨o2, od⟩
    ·obtain rfl := Option.some.inj H
     go_enter Try.func221, Try.ntmps221
     go_wp2
     go_ret
     exact ⟨o2, od⟩
   ·obtain rfl := Option.some.inj H
    go_enter Try.func221, Try.ntmps221
    go_wp2
    go_ret
    exact ⟨o2, od⟩
 ·replace H := ih H
  obtain ⟨c6b0, H⟩ | ⟨c6b0, H⟩ := H
  ·replace H := ip H
   obtain ⟨c7b0, H⟩ | ⟨c7b0, H⟩ := H
   ·obtain rfl := Option.some.inj H
    go_enter Try.func221, Try.ntmps221
    go_wp2
    go_ret
    exact ⟨o2, od⟩
   ·obtain rfl := Option.some.inj H
    go_enter Try.func221, Try.ntmps221
    go_wp2
    go_ret
    exact ⟨o2, od⟩
  ·obtain rfl := Option.some.inj H
   go_enter Try.func221, Try.ntmps221
   go_wp2
   go_ret
   exact ⟨o2, od⟩

/-! ### impl_LabelOk: function 155 -/

def impl_LabelOk.byte (x : Int) : Bool := (decide (97 ≤ x) && decide (x ≤ 122)) || (decide (48 ≤ x) && decide (x ≤ 57)) || x == 45
theorem impl_LabelOk.byte_f (x : Int) : impl_LabelOk_1.f x = some (impl_LabelOk.byte x) := by
 unfold impl_LabelOk_1.f impl_LabelOk.byte
 by_cases h1 : 97 ≤ x <;> by_cases h2 : x ≤ 122 <;> by_cases h3 : 48 ≤ x <;> by_cases h4 : x ≤ 57 <;> by_cases h5 : x = 45 <;> simp [*] <;> omega
def impl_LabelOk.v (l0 : List Int) : Bool := decide (1 ≤ l0.length) && decide (l0.length ≤ 15) && l0.all impl_LabelOk.byte
def impl_LabelOk.f (l0 : List Int) : Option Bool := some (impl_LabelOk.v l0)
set_option maxHeartbeats 8000000 in
set_option maxRecDepth 100000 in
theorem impl_LabelOk.calls (A0 : Option Addr) (c0 : Nat) (l0 : List Int) (r : Bool) (w : World) (hr0 : Kd.C (Kd.int .u8) w A0 l0.length l0) (hc0 : l0.length ≤ c0) (h : impl_LabelOk.f l0 = some r) :
  Calls Try.prog 155 #[.slice A0 l0.length c0] w fun e w' => e = .returned (.bool r) ∧ Below w.heap.size w w' := by
 have eg : ∀ args w, (callFunc 221 args).run Try.prog w = .ok (.enter 221 args) w := enters_of Try.func221 (by kernel_rfl) rfl
 have ha := impl_all_byte_220.calls 221 #[] eg impl_LabelOk.byte A0 c0 l0 w hr0 (fun W x hW => (impl_LabelOk_1.calls x _ W (impl_LabelOk.byte_f x)).mono fun e w' ⟨he, hd⟩ => ⟨he, hd.below⟩)
 have hbig : l0.length ≤ 9223372036854775807 := hr0.2.1
 have hrv : r = impl_LabelOk.v l0 := (Option.some.inj h).symm
 subst hrv
 unfold impl_LabelOk.v
 clear h hr0
 generalize l0.all impl_LabelOk.byte = q at ha ⊢
 by_cases h1 : 1 ≤ l0.length
 ·by_cases h2 : l0.length ≤ 15
  ·rw [decide_eq_true h1, decide_eq_true h2]
   simp only [Bool.true_and]
   go_enter Try.func155, Try.ntmps155
   go_wp2_with (first | (go_at_call 220;refine ha.mono ?_;rintro e w' ⟨rfl, hb'⟩) | (go_at_call 83;go_in))
   go_ret
   exact ⟨rfl, hb'⟩
  ·rw [decide_eq_true h1, decide_eq_false h2]
   simp only [Bool.and_false, Bool.false_and]
   go_enter Try.func155, Try.ntmps155
   go_wp2
   go_ret
   exact ⟨rfl, Below.refl _ _⟩
 ·rw [decide_eq_false h1]
  simp only [Bool.false_and]
  go_enter Try.func155, Try.ntmps155
  go_wp2
  go_ret
  exact ⟨rfl, Below.refl _ _⟩

/-! ### impl_NameOk: function 74 -/

def impl_NameOk.v (l : List (List Int)) : Bool := decide (l.length ≤ 6) && l.all impl_LabelOk.v
def impl_NameOk.f (l : List (List Int)) : Option Bool := some (impl_NameOk.v l)
set_option maxHeartbeats 8000000 in
set_option maxRecDepth 100000 in
theorem impl_NameOk.calls (A0_0 : Option Addr) (c0_0 : Nat) (l0_0 : List (List Int)) (r : Bool) (w : World) (hr0_0 : Kd.C (Kd.slice 5 (Kd.int .u8)) w A0_0 l0_0.length l0_0) (hc0_0 : l0_0.length ≤ c0_0) (h : impl_NameOk.f l0_0 = some r) :
  Calls Try.prog 74 #[.agg #[.slice A0_0 l0_0.length c0_0]] w fun e w' => e = .returned (.bool r) ∧ Below w.heap.size w w' := by
 have hu := Try.underlying31
 have eg : ∀ args w, (callFunc 155 args).run Try.prog w = .ok (.enter 155 args) w := enters_of Try.func155 (by kernel_rfl) rfl
 have hb0 : Below w.heap.size w (w.alloc (.cells #[.slice A0_0 l0_0.length c0_0] 31)) := below_alloc (Below.refl _ _) _
 have ha := fun (W : World) (hW : Below w.heap.size w W) => impl_all_byte_154.calls 155 #[] eg impl_LabelOk.v A0_0 c0_0 l0_0 W (Kd.C_below hr0_0 hW) (fun W2 A c x hW2 hC hc => (impl_LabelOk.calls A c x _ W2 hC hc rfl))
 have hbig : l0_0.length ≤ 9223372036854775807 := hr0_0.2.1
 have hrv : r = impl_NameOk.v l0_0 := (Option.some.inj h).symm
 subst hrv
 unfold impl_NameOk.v
 clear h hr0_0
 have HA := ak ha
 clear ha
 generalize l0_0.all impl_LabelOk.v = q at HA ⊢
 by_cases h2 : l0_0.length ≤ 6
 ·rw [decide_eq_true h2]
  simp only [Bool.true_and]
  go_enter Try.func74, Try.ntmps74
  go_wp2_with (go_at_call 154; refine (HA.out _ hb0).mono ?_; rintro e w' ⟨rfl, hb'⟩)
  go_ret
  exact ⟨rfl, hb0.trans (hb'.mono (by simp))⟩
 ·rw [decide_eq_false h2]
  simp only [Bool.false_and]
  go_enter Try.func74, Try.ntmps74
  go_wp2
  go_ret
  exact ⟨rfl, hb0⟩

/-! ### impl_typeName: function 162 -/

def impl_typeName.v (t : Int) : ByteArray := if t = 1 then ⟨#[65]⟩ else if t = 2 then ⟨#[78, 83]⟩ else if t = 5 then ⟨#[67, 78, 65, 77, 69]⟩ else if t = 6 then ⟨#[83, 79, 65]⟩ else if t = 12 then ⟨#[80, 84, 82]⟩ else if t = 16 then ⟨#[84, 88, 84]⟩ else if t = 49 then ⟨#[68, 72, 67, 73, 68]⟩ else ⟨#[]⟩
def impl_typeName.f (t : Int) : Option ByteArray := if -9223372036854775808 ≤ t ∧ t ≤ 9223372036854775807 then some (impl_typeName.v t) else none
theorem impl_typeName.inv {e : TypeId} (he : Try.prog.underlying e = some .string) {v : Value} {z : DataW Unit × List MemPlace} (h : plainElem Try.prog e v = some z) : ∃ s : ByteArray, v = .string s ∧ z = (.lit (.string s.data.toList), []) ∧ s.size ≤ maxLen := by
 unfold plainElem at h
 rw [he] at h
 cases v <;> simp at h
 exact ⟨_, rfl, h.2.symm, h.1⟩
theorem impl_typeName.ne {a b : Int} (h : ¬ a = b) : (Lit.int .i64 a) ≠ Lit.int .i64 b := fun e => h (by injection e)
set_option maxHeartbeats 8000000 in
set_option maxRecDepth 100000 in
theorem impl_typeName.calls (a0 : Int) (r : ByteArray) (w : World) (h : impl_typeName.f a0 = some r) :
  Calls Try.prog 162 #[.int .i64 a0] w fun e w' => e = .returned (.string r) ∧ Below w.heap.size w w' := by
 have hw : (Lit.int .i64 a0).wf = true := by
  unfold impl_typeName.f at h; split at h
  ·exact WalkArith.wf_i64 (by assumption)
  ·cases h
 have hr : impl_typeName.v a0 = r := by
  unfold impl_typeName.f at h; split at h
  ·exact Option.some.inj h
  ·cases h
 clear h
 have law : Go.Maps.Keyed Try.prog 3 := Go.Maps.int_keyed Try.underlying3
 have um := Try.underlying222
 have us := Try.underlying9
 have key : ∀ n : Int, (Lit.int .i64 n).wf = true → keyOf Try.prog 3 (.int .i64 n) = some (.int .i64 n) := fun n hn => Go.Maps.keyOf_int_mk Try.underlying3 hn
 have el : ∀ s : ByteArray, s.size ≤ maxLen → plainElem (H := Unit) Try.prog 9 (.string s) = some (.lit (.string s.data.toList), []) := fun s hs => plainElem_string us hs
 have o0 := World.ownsMap_made (H := Unit) w Try.prog 3 (plainElem Try.prog 9)
 obtain ⟨w1, r1, o1, g1⟩ := o0.update law um (by unfold maxLen; omega) (key 1 (by decide)) (el ⟨#[65]⟩ (by decide))
 obtain ⟨w2, r2, o2, g2⟩ := o1.update law um (by unfold maxLen; omega) (key 2 (by decide)) (el ⟨#[78, 83]⟩ (by decide))
 obtain ⟨w3, r3, o3, g3⟩ := o2.update law um (by unfold maxLen; omega) (key 5 (by decide)) (el ⟨#[67, 78, 65, 77, 69]⟩ (by decide))
 obtain ⟨w4, r4, o4, g4⟩ := o3.update law um (by unfold maxLen; omega) (key 6 (by decide)) (el ⟨#[83, 79, 65]⟩ (by decide))
 obtain ⟨w5, r5, o5, g5⟩ := o4.update law um (by unfold maxLen; omega) (key 12 (by decide)) (el ⟨#[80, 84, 82]⟩ (by decide))
 obtain ⟨w6, r6, o6, g6⟩ := o5.update law um (by unfold maxLen; omega) (key 16 (by decide)) (el ⟨#[84, 88, 84]⟩ (by decide))
 obtain ⟨w7, r7, o7, g7⟩ := o6.update law um (by unfold maxLen; omega) (key 49 (by decide)) (el ⟨#[68, 72, 67, 73, 68]⟩ (by decide))
 obtain ⟨v, ps, rl, hv⟩ := o7.lookup law um (z := .string ⟨#[]⟩) (by kernel_rfl) (el ⟨#[]⟩ (by decide)) (key a0 hw)
 obtain ⟨s, rfl, hs, _⟩ := impl_typeName.inv us hv
 have hB : Below w.heap.size w w7 := by
  have b0 := below_alloc (Below.refl w.heap.size w) (.map #[] 0)
  refine Below.grown (Below.grown (Below.grown (Below.grown (Below.grown (Below.grown (Below.grown b0 g1 ?_ ?_) g2 ?_ ?_) g3 ?_ ?_) g4 ?_ ?_) g5 ?_ ?_) g6 ?_ ?_) g7 ?_ ?_
  all_goals first
   | (intro j hj; cases hj; exact Nat.le_refl _)
   | (have := b0.size; have := g1.size; have := g2.size; have := g3.size; have := g4.size; have := g5.size; have := g6.size; omega)
 have e : s = impl_typeName.v a0 := by
  simp only [Prod.mk.injEq] at hs
  have hat := hs.1
  have fin : ∀ {l : ByteArray}, (DataW.lit (.string l.data.toList) : DataW Unit) = .lit (.string s.data.toList) → s = l := fun {l} he => by
   simp at he
   cases s; cases l; simp at he; rw [he]
  have im : ∀ {D : DataW Unit} {k d}, Go.Maps.IsMap D → Go.Maps.IsMap (D.put k d) := fun {D k d} ⟨es, he⟩ => by subst he; exact ⟨_, rfl⟩
  have i0 : Go.Maps.IsMap (DataW.map [] : DataW Unit) := ⟨_, rfl⟩
  unfold impl_typeName.v
  by_cases h7 : a0 = 49
  ·subst h7
   rw [Go.Maps.atKey_put_same (im (im (im (im (im (im i0)))))) (by trivial)] at hat
   exact fin hat
  rw [Go.Maps.atKey_put_other (impl_typeName.ne h7)] at hat
  by_cases h6 : a0 = 16
  ·subst h6
   rw [Go.Maps.atKey_put_same (im (im (im (im (im i0))))) (by trivial)] at hat
   exact fin hat
  rw [Go.Maps.atKey_put_other (impl_typeName.ne h6)] at hat
  by_cases h5 : a0 = 12
  ·subst h5
   rw [Go.Maps.atKey_put_same (im (im (im (im i0)))) (by trivial)] at hat
   exact fin hat
  rw [Go.Maps.atKey_put_other (impl_typeName.ne h5)] at hat
  by_cases h4 : a0 = 6
  ·subst h4
   rw [Go.Maps.atKey_put_same (im (im (im i0))) (by trivial)] at hat
   exact fin hat
  rw [Go.Maps.atKey_put_other (impl_typeName.ne h4)] at hat
  by_cases h3 : a0 = 5
  ·subst h3
   rw [Go.Maps.atKey_put_same (im (im i0)) (by trivial)] at hat
   exact fin hat
  rw [Go.Maps.atKey_put_other (impl_typeName.ne h3)] at hat
  by_cases h2 : a0 = 2
  ·subst h2
   rw [Go.Maps.atKey_put_same (im i0) (by trivial)] at hat
   exact fin hat
  rw [Go.Maps.atKey_put_other (impl_typeName.ne h2)] at hat
  by_cases h1 : a0 = 1
  ·subst h1
   rw [Go.Maps.atKey_put_same i0 (by trivial)] at hat
   exact fin hat
  rw [Go.Maps.atKey_put_other (impl_typeName.ne h1)] at hat
  rw [if_neg h1, if_neg h2, if_neg h3, if_neg h4, if_neg h5, if_neg h6, if_neg h7]
  exact fin hat
 have HB := ak hB
 subst e
 clear o0 o1 o2 o3 o4 o5 o6 o7 g1 g2 g3 g4 g5 g6 g7 hB hs hv key el law hw
 subst hr
 generalize impl_typeName.v a0 = s at rl ⊢
 have hmm := @run_makeMap Try.prog
 go_enter Try.func162, Try.ntmps162
 go_wp2
 go_ret
 exact ⟨rfl, HB.out⟩

/-! ### impl_TypeOk: function 82 -/

def impl_TypeOk.f (a0 : Int) : Option Bool := (impl_typeName.f a0).bind fun t => some (!t.toList.isEmpty)
set_option maxHeartbeats 8000000 in
set_option maxRecDepth 100000 in
theorem impl_TypeOk.calls (a0 : Int) (r : Bool) (w : World) (h : impl_TypeOk.f a0 = some r) :
  Calls Try.prog 82 #[.int .i64 a0] w fun e w' => e = .returned (.bool r) ∧ Below w.heap.size w w' := by
 obtain ⟨s, hs, hr⟩ := Option.bind_eq_some_iff.mp h
 have hr := Option.some.inj hr
 subst hr
 have HC := ak hs
 clear h hs
 go_enter Try.func82, Try.ntmps82
 go_wp2_with (go_at_call 162; refine (impl_typeName.calls a0 s _ HC.out).mono ?_; rintro e w' ⟨rfl, hb⟩)
 go_ret
 exact ⟨by first | rfl | simp, hb⟩

/-! ### impl_within: function 83 -/
def impl_within.f (a0 : Int) (a1 : Int) (a2 : Int) : Option (Bool) := if a1 ≤ a0 then (some (decide (a0 ≤ a2))) else (some false)
set_option maxHeartbeats 8000000 in
set_option maxRecDepth 100000 in
theorem impl_within.calls (a0 : Int) (a1 : Int) (a2 : Int) (r : Bool) (w : World) (h : impl_within.f a0 a1 a2 = some r) :
  Calls Try.prog 83 #[.int .i64 a0, .int .i64 a1, .int .i64 a2] w fun e w' => e = .returned (.bool r) ∧ Drawn0 w w' := by
 have H : (if a1 ≤ a0 then (some (decide (a0 ≤ a2))) else (some false)) = some r := h
 clear h
 replace H := ip H
 obtain ⟨c4b0, H⟩ | ⟨c4b0, H⟩ := H
 ·obtain rfl := Option.some.inj H
  go_enter Try.func83, Try.ntmps83
  go_wp2
  go_ret
  exact ⟨o2, od⟩
 ·obtain rfl := Option.some.inj H
  go_enter Try.func83, Try.ntmps83
  go_wp2
  go_ret
  exact ⟨o2, od⟩

/-! ### impl_isWord: function 138 -/
def impl_isWord.f (a0 : Int) : Option (Bool) := (impl_within.f a0 0 4294967295).bind fun t101 => (some t101)
set_option maxHeartbeats 8000000 in
set_option maxRecDepth 100000 in
theorem impl_isWord.calls (a0 : Int) (r : Bool) (w : World) (h : impl_isWord.f a0 = some r) :
  Calls Try.prog 138 #[.int .i64 a0] w fun e w' => e = .returned (.bool r) ∧ Drawn0 w w' := by
 have H : ((impl_within.f a0 0 4294967295).bind fun t101 => (some t101)) = some r := h
 clear h
 replace H := bnd H
 obtain ⟨t101, A2, H⟩ := H
 obtain rfl := Option.some.inj H
 go_enter Try.func138, Try.ntmps138
 go_wp2_with (((with_reducible refine gate_callee (f := 83) rfl ?_);refine glD 4 rfl rfl Try.func83 (impl_within.calls a0 0 4294967295 t101 _ A2.out) (fun nd => ?_)))
 go_ret
 exact ⟨o2, od⟩

/-! ### impl_hasText: function 139 -/
def impl_hasText.f (a0 : Int) : Option (Bool) := if a0 = 16 then (some true) else (some (a0 == 49))
set_option maxHeartbeats 8000000 in
set_option maxRecDepth 100000 in
theorem impl_hasText.calls (a0 : Int) (r : Bool) (w : World) (h : impl_hasText.f a0 = some r) :
  Calls Try.prog 139 #[.int .i64 a0] w fun e w' => e = .returned (.bool r) ∧ Drawn0 w w' := by
 have H : (if a0 = 16 then (some true) else (some (a0 == 49))) = some r := h
 clear h
 replace H := ie H
 obtain ⟨c2b0, c2b1, H⟩ | ⟨c2b0, c2b1, H⟩ := H
 ·obtain rfl := Option.some.inj H
  go_enter Try.func139, Try.ntmps139
  go_wp2
  go_ret
  exact ⟨o2, od⟩
 ·obtain rfl := Option.some.inj H
  go_enter Try.func139, Try.ntmps139
  go_wp2
  go_ret
  exact ⟨o2, od⟩

/-! ### impl_RrOk: function 63 -/
mutual
def impl_RrOk.j0 : Nat → Bool → List (List Int) → Int → Int → Int → List (List Int) → List Int → List Int → Option (Bool)
 | 0, _, _, _, _, _, _, _, _ => none
 | k + 1, x22, x102000, x102001, x102002, x102003, x102004, x102005, x102006 => if x22 = true then (some false) else (if x102001 = 6 then (if (x102006.length : Int) = 2 then (if 0 < (x102006.length : Int) then ((impl_isWord.f (rd x102006 0)).bind fun t106 => (if t106 = true then (if 1 < (x102006.length : Int) then ((impl_within.f (rd x102006 1) 0 100000).bind fun t108 => (impl_RrOk.j1 k t108 x102000 x102001 x102002 x102003 x102004 x102005 x102006)) else (none)) else (impl_RrOk.j1 k false x102000 x102001 x102002 x102003 x102004 x102005 x102006))) else (none)) else (impl_RrOk.j1 k false x102000 x102001 x102002 x102003 x102004 x102005 x102006)) else (impl_RrOk.j1 k ((x102006.length : Int) == 0) x102000 x102001 x102002 x102003 x102004 x102005 x102006))
def impl_RrOk.j1 : Nat → Bool → List (List Int) → Int → Int → Int → List (List Int) → List Int → List Int → Option (Bool)
 | 0, _, _, _, _, _, _, _, _ => none
 | k + 1, x3, x102000, x102001, x102002, x102003, x102004, x102005, x102006 => if x102003 = 0 then (impl_RrOk.j2 k x3 true x102000 x102001 x102002 x102003 x102004 x102005 x102006) else (if x102001 = 1 then ((impl_isWord.f x102003).bind fun t109 => (impl_RrOk.j2 k x3 t109 x102000 x102001 x102002 x102003 x102004 x102005 x102006)) else (impl_RrOk.j2 k x3 false x102000 x102001 x102002 x102003 x102004 x102005 x102006))
def impl_RrOk.j2 : Nat → Bool → Bool → List (List Int) → Int → Int → Int → List (List Int) → List Int → List Int → Option (Bool)
 | 0, _, _, _, _, _, _, _, _, _ => none
 | k + 1, x3, x4, x102000, x102001, x102002, x102003, x102004, x102005, x102006 => if (x102004.length : Int) = 0 then (impl_RrOk.j3 k x3 x4 true x102000 x102001 x102002 x102003 x102004 x102005 x102006) else ((impl_hasTo.f x102001).bind fun t110 => (if t110 = true then ((impl_NameOk.f x102004).bind fun t111 => (impl_RrOk.j3 k x3 x4 t111 x102000 x102001 x102002 x102003 x102004 x102005 x102006)) else (impl_RrOk.j3 k x3 x4 false x102000 x102001 x102002 x102003 x102004 x102005 x102006)))
def impl_RrOk.j3 : Nat → Bool → Bool → Bool → List (List Int) → Int → Int → Int → List (List Int) → List Int → List Int → Option (Bool)
 | 0, _, _, _, _, _, _, _, _, _, _ => none
 | k + 1, x3, x4, x5, x102000, x102001, x102002, x102003, x102004, x102005, x102006 => if (x102005.length : Int) = 0 then (if x3 = true then (if x4 = true then (if x5 = true then (some true) else (some false)) else (some false)) else (some false)) else ((impl_hasText.f x102001).bind fun t112 => (if t112 = true then (if x3 = true then (if x4 = true then (if x5 = true then (some (decide ((x102005.length : Int) ≤ 40))) else (some false)) else (some false)) else (some false)) else (if x3 = true then (if x4 = true then (if x5 = true then (some false) else (some false)) else (some false)) else (some false))))
end
def impl_RrOk.f (k : Nat) (l0_0 : List (List Int)) (a0_1 : Int) (a0_2 : Int) (a0_3 : Int) (l0_4 : List (List Int)) (l0_5 : List Int) (l0_6 : List Int) : Option (Bool) := (impl_NameOk.f l0_0).bind fun t102 => (if t102 = true then ((impl_TypeOk.f a0_1).bind fun t103 => (if t103 = true then ((impl_within.f a0_2 0 100000).bind fun t104 => (impl_RrOk.j0 k (!t104) l0_0 a0_1 a0_2 a0_3 l0_4 l0_5 l0_6)) else (impl_RrOk.j0 k true l0_0 a0_1 a0_2 a0_3 l0_4 l0_5 l0_6))) else (impl_RrOk.j0 k true l0_0 a0_1 a0_2 a0_3 l0_4 l0_5 l0_6))
theorem impl_RrOk.mono_l : ∀ k, (∀ y0 y1 y2 y3 y4 y5 y6 y7, LeO (impl_RrOk.j0 k y0 y1 y2 y3 y4 y5 y6 y7) (impl_RrOk.j0 (k + 1) y0 y1 y2 y3 y4 y5 y6 y7)) ∧ (∀ y0 y1 y2 y3 y4 y5 y6 y7, LeO (impl_RrOk.j1 k y0 y1 y2 y3 y4 y5 y6 y7) (impl_RrOk.j1 (k + 1) y0 y1 y2 y3 y4 y5 y6 y7)) ∧ (∀ y0 y1 y2 y3 y4 y5 y6 y7 y8, LeO (impl_RrOk.j2 k y0 y1 y2 y3 y4 y5 y6 y7 y8) (impl_RrOk.j2 (k + 1) y0 y1 y2 y3 y4 y5 y6 y7 y8)) ∧ (∀ y0 y1 y2 y3 y4 y5 y6 y7 y8 y9, LeO (impl_RrOk.j3 k y0 y1 y2 y3 y4 y5 y6 y7 y8 y9) (impl_RrOk.j3 (k + 1) y0 y1 y2 y3 y4 y5 y6 y7 y8 y9))
 | 0 => ⟨fun _ _ _ _ _ _ _ _ r h => by simp [impl_RrOk.j0] at h, fun _ _ _ _ _ _ _ _ r h => by simp [impl_RrOk.j1] at h, fun _ _ _ _ _ _ _ _ _ r h => by simp [impl_RrOk.j2] at h, fun _ _ _ _ _ _ _ _ _ _ r h => by simp [impl_RrOk.j3] at h⟩
 | k + 1 => by
  obtain ⟨ih0, ih1, ih2, ih3⟩ := impl_RrOk.mono_l k
  refine ⟨?_, ?_, ?_, ?_⟩
  ·intro y0 y1 y2 y3 y4 y5 y6 y7
   unfold impl_RrOk.j0
   repeat' first
   | (with_reducible exact ih0 _ _ _ _ _ _ _ _)
   | (with_reducible exact ih1 _ _ _ _ _ _ _ _)
   | (with_reducible exact ih2 _ _ _ _ _ _ _ _ _)
   | (with_reducible exact ih3 _ _ _ _ _ _ _ _ _ _)
   | (with_reducible exact LeO.refl _)
   | (with_reducible exact LeO.none _)
   | (with_reducible refine LeO.ite ?_ ?_)
   | (with_reducible refine LeO.bind ?_ (fun _ => ?_))
   | exact ih0 _ _ _ _ _ _ _ _
   | exact ih1 _ _ _ _ _ _ _ _
   | exact ih2 _ _ _ _ _ _ _ _ _
   | exact ih3 _ _ _ _ _ _ _ _ _ _
   | exact LeO.none _
   | refine LeO.ite ?_ ?_
   | refine LeO.bind ?_ (fun _ => ?_)
  ·intro y0 y1 y2 y3 y4 y5 y6 y7
   unfold impl_RrOk.j1
   repeat' first
   | (with_reducible exact ih0 _ _ _ _ _ _ _ _)
   | (with_reducible exact ih1 _ _ _ _ _ _ _ _)
   | (with_reducible exact ih2 _ _ _ _ _ _ _ _ _)
   | (with_reducible exact ih3 _ _ _ _ _ _ _ _ _ _)
   | (with_reducible exact LeO.refl _)
   | (with_reducible exact LeO.none _)
   | (with_reducible refine LeO.ite ?_ ?_)
   | (with_reducible refine LeO.bind ?_ (fun _ => ?_))
   | exact ih0 _ _ _ _ _ _ _ _
   | exact ih1 _ _ _ _ _ _ _ _
   | exact ih2 _ _ _ _ _ _ _ _ _
   | exact ih3 _ _ _ _ _ _ _ _ _ _
   | exact LeO.none _
   | refine LeO.ite ?_ ?_
   | refine LeO.bind ?_ (fun _ => ?_)
  ·intro y0 y1 y2 y3 y4 y5 y6 y7 y8
   unfold impl_RrOk.j2
   repeat' first
   | (with_reducible exact ih0 _ _ _ _ _ _ _ _)
   | (with_reducible exact ih1 _ _ _ _ _ _ _ _)
   | (with_reducible exact ih2 _ _ _ _ _ _ _ _ _)
   | (with_reducible exact ih3 _ _ _ _ _ _ _ _ _ _)
   | (with_reducible exact LeO.refl _)
   | (with_reducible exact LeO.none _)
   | (with_reducible refine LeO.ite ?_ ?_)
   | (with_reducible refine LeO.bind ?_ (fun _ => ?_))
   | exact ih0 _ _ _ _ _ _ _ _
   | exact ih1 _ _ _ _ _ _ _ _
   | exact ih2 _ _ _ _ _ _ _ _ _
   | exact ih3 _ _ _ _ _ _ _ _ _ _
   | exact LeO.none _
   | refine LeO.ite ?_ ?_
   | refine LeO.bind ?_ (fun _ => ?_)
  ·intro y0 y1 y2 y3 y4 y5 y6 y7 y8 y9
   unfold impl_RrOk.j3
   repeat' first
   | (with_reducible exact ih0 _ _ _ _ _ _ _ _)
   | (with_reducible exact ih1 _ _ _ _ _ _ _ _)
   | (with_reducible exact ih2 _ _ _ _ _ _ _ _ _)
   | (with_reducible exact ih3 _ _ _ _ _ _ _ _ _ _)
   | (with_reducible exact LeO.refl _)
   | (with_reducible exact LeO.none _)
   | (with_reducible refine LeO.ite ?_ ?_)
   | (with_reducible refine LeO.bind ?_ (fun _ => ?_))
   | exact ih0 _ _ _ _ _ _ _ _
   | exact ih1 _ _ _ _ _ _ _ _
   | exact ih2 _ _ _ _ _ _ _ _ _
   | exact ih3 _ _ _ _ _ _ _ _ _ _
   | exact LeO.none _
   | refine LeO.ite ?_ ?_
   | refine LeO.bind ?_ (fun _ => ?_)
theorem impl_RrOk.mono : ∀ a0 a1 a2 a3 a4 a5 a6 k, LeO (impl_RrOk.f k a0 a1 a2 a3 a4 a5 a6) (impl_RrOk.f (k + 1) a0 a1 a2 a3 a4 a5 a6) := by
 intro a0 a1 a2 a3 a4 a5 a6 k
 obtain ⟨ih0, ih1, ih2, ih3⟩ := impl_RrOk.mono_l k
 unfold impl_RrOk.f
 repeat' first
   | (with_reducible exact ih0 _ _ _ _ _ _ _ _)
   | (with_reducible exact ih1 _ _ _ _ _ _ _ _)
   | (with_reducible exact ih2 _ _ _ _ _ _ _ _ _)
   | (with_reducible exact ih3 _ _ _ _ _ _ _ _ _ _)
   | (with_reducible exact LeO.refl _)
   | (with_reducible exact LeO.none _)
   | (with_reducible refine LeO.ite ?_ ?_)
   | (with_reducible refine LeO.bind ?_ (fun _ => ?_))
   | exact ih0 _ _ _ _ _ _ _ _
   | exact ih1 _ _ _ _ _ _ _ _
   | exact ih2 _ _ _ _ _ _ _ _ _
   | exact ih3 _ _ _ _ _ _ _ _ _ _
   | exact LeO.none _
   | refine LeO.ite ?_ ?_
   | refine LeO.bind ?_ (fun _ => ?_)
set_option maxHeartbeats 8000000 in
set_option maxRecDepth 100000 in
theorem impl_RrOk.calls (k : Nat) (A0_0 : Option Addr) (c0_0 : Nat) (l0_0 : List (List Int)) (a0_1 : Int) (a0_2 : Int) (a0_3 : Int) (A0_4 : Option Addr) (c0_4 : Nat) (l0_4 : List (List Int)) (A0_5 : Option Addr) (c0_5 : Nat) (l0_5 : List Int) (A0_6 : Option Addr) (c0_6 : Nat) (l0_6 : List Int) (r : Bool) (w : World) (hr0_0 : Kd.C (Kd.slice 5 (Kd.int .u8)) w A0_0 l0_0.length l0_0) (hc0_0 : l0_0.length ≤ c0_0) (hr0_4 : Kd.C (Kd.slice 5 (Kd.int .u8)) w A0_4 l0_4.length l0_4) (hc0_4 : l0_4.length ≤ c0_4) (hr0_5 : Kd.C (Kd.int .u8) w A0_5 l0_5.length l0_5) (hc0_5 : l0_5.length ≤ c0_5) (hr0_6 : Kd.C (Kd.int .i64) w A0_6 l0_6.length l0_6) (hc0_6 : l0_6.length ≤ c0_6) (h : impl_RrOk.f k l0_0 a0_1 a0_2 a0_3 l0_4 l0_5 l0_6 = some r) :
  Calls Try.prog 63 #[.agg #[.slice A0_0 l0_0.length c0_0, .int .i64 a0_1, .int .i64 a0_2, .int .i64 a0_3, .slice A0_4 l0_4.length c0_4, .slice A0_5 l0_5.length c0_5, .slice A0_6 l0_6.length c0_6]] w fun e w' => e = .returned (.bool r) ∧ Below w.heap.size w w' := by
 have hu33 := Try.underlying33
 have hu31 := Try.underlying31
 have HR0_0 := ak hr0_0
 have HC0_0 := ak hc0_0
 clear hr0_0 hc0_0
 have HR0_4 := ak hr0_4
 have HC0_4 := ak hc0_4
 clear hr0_4 hc0_4
 have HR0_5 := ak hr0_5
 have HC0_5 := ak hc0_5
 clear hr0_5 hc0_5
 have HR0_6 := ak hr0_6
 have HC0_6 := ak hc0_6
 clear hr0_6 hc0_6
 have HB := ak (Below.refl w.heap.size w)
 have H : ((impl_NameOk.f l0_0).bind fun t102 => (if t102 = true then ((impl_TypeOk.f a0_1).bind fun t103 => (if t103 = true then ((impl_within.f a0_2 0 100000).bind fun t104 => (impl_RrOk.j0 k (!t104) l0_0 a0_1 a0_2 a0_3 l0_4 l0_5 l0_6)) else (impl_RrOk.j0 k true l0_0 a0_1 a0_2 a0_3 l0_4 l0_5 l0_6))) else (impl_RrOk.j0 k true l0_0 a0_1 a0_2 a0_3 l0_4 l0_5 l0_6))) = some r := h
 clear h
 have HC2 := ak H
 clear H
 go_enter Try.func63, Try.ntmps63
 go_upto_region 1 with (((with_reducible refine gate_dst (N := 1) rfl ?_);(try (refine gate_guard (by rfl) ?_; dsimp only));refine bxd (N := 1) rfl HB ?_;clear HB;intro gb101 w3 hg HB BK101 GE101 hb;have GW101 := GE101;clear hb hg))
 (try simp only [Act.put, List.setIfInBounds_toArray, List.set_cons_zero, List.set_cons_succ])
 go_cut [22] (fun v22 wc => ∃ (kq : Nat) (x22_1 : Bool), v22 = .bool x22_1 ∧ Aside0 (impl_RrOk.j0 kq x22_1 l0_0 a0_1 a0_2 a0_3 l0_4 l0_5 l0_6 = some r) ∧ Aside0 (kq ≤ k) ∧ Aside0 (wc.heap[gb101]? = some (.cells #[(.slice A0_0 l0_0.length c0_0), .int .i64 a0_1, .int .i64 a0_2, .int .i64 a0_3, (.slice A0_4 l0_4.length c0_4), (.slice A0_5 l0_5.length c0_5), (.slice A0_6 l0_6.length c0_6)] 33 (0, 0))) ∧ Aside0 (Below w.heap.size w wc))
 case first =>
  have H := HC2.out
  clear HC2
  replace H := bnd H
  obtain ⟨t102, A4, H⟩ := H
  replace H := ib H
  obtain ⟨rfl, H⟩ | ⟨rfl, H⟩ := H
  ·replace H := bnd H
   obtain ⟨t103, A6, H⟩ := H
   replace H := ib H
   obtain ⟨rfl, H⟩ | ⟨rfl, H⟩ := H
   ·replace H := bnd H
    obtain ⟨t104, A8, H⟩ := H
    have H' := ak H
    clear H
    obtain ⟨hcz9_0, hcz9_1, hcz9_2, hcz9_3, hcz9_4, hcz9_5, hcz9_6, hfz9_0, hfz9_1, hfz9_2, hfz9_3, hfz9_4, hfz9_5, hfz9_6⟩ := cells7 BK101.out
    go_wp2_with (first | ((with_reducible refine gate_callee (f := 74) rfl ?_);refine glB 9 rfl rfl Try.func74 (impl_NameOk.calls _ _ l0_0 true _ (cv HR0_0 HB) HC0_0.out A4.out) (fun w10 hb => ?_);replace BK101 := b1 BK101 hb;replace HB := b2s bs hb;(try clear hb);obtain ⟨hcz11_0, hcz11_1, hcz11_2, hcz11_3, hcz11_4, hcz11_5, hcz11_6, hfz11_0, hfz11_1, hfz11_2, hfz11_3, hfz11_4, hfz11_5, hfz11_6⟩ := cells7 BK101.out) | (go_at_call 82;(with_reducible refine (impl_TypeOk.calls a0_1 true _ A6.out).mono ?_);rintro e w12 ⟨rfl, hb⟩;replace BK101 := b1 BK101 hb;replace HB := b2s bs hb;(try clear hb);obtain ⟨hcz13_0, hcz13_1, hcz13_2, hcz13_3, hcz13_4, hcz13_5, hcz13_6, hfz13_0, hfz13_1, hfz13_2, hfz13_3, hfz13_4, hfz13_5, hfz13_6⟩ := cells7 BK101.out) | (go_at_call 83;(with_reducible refine (impl_within.calls a0_2 0 100000 t104 _ A8.out).mono ?_);rintro e w' ⟨rfl, ⟨nd, rfl⟩⟩))
    go_meet
    case rel => exact ⟨_, (!t104), o2, H', ⟨o3⟩, ⟨bk BK101.out⟩, ⟨bs⟩⟩
   ·have H' := ak H
    clear H
    obtain ⟨hcz14_0, hcz14_1, hcz14_2, hcz14_3, hcz14_4, hcz14_5, hcz14_6, hfz14_0, hfz14_1, hfz14_2, hfz14_3, hfz14_4, hfz14_5, hfz14_6⟩ := cells7 BK101.out
    go_wp2_with (first | ((with_reducible refine gate_callee (f := 74) rfl ?_);refine glB 9 rfl rfl Try.func74 (impl_NameOk.calls _ _ l0_0 true _ (cv HR0_0 HB) HC0_0.out A4.out) (fun w15 hb => ?_);replace BK101 := b1 BK101 hb;replace HB := b2s bs hb;(try clear hb);obtain ⟨hcz16_0, hcz16_1, hcz16_2, hcz16_3, hcz16_4, hcz16_5, hcz16_6, hfz16_0, hfz16_1, hfz16_2, hfz16_3, hfz16_4, hfz16_5, hfz16_6⟩ := cells7 BK101.out) | (go_at_call 82;(with_reducible refine (impl_TypeOk.calls a0_1 false _ A6.out).mono ?_);rintro e w17 ⟨rfl, hb⟩;replace BK101 := b1 BK101 hb;replace HB := b2s bs hb;(try clear hb)))
    go_meet
    case rel => exact ⟨_, (true), o2, H', ⟨o3⟩, ⟨bk BK101.out⟩, ⟨bs⟩⟩
  ·have H' := ak H
   clear H
   obtain ⟨hcz18_0, hcz18_1, hcz18_2, hcz18_3, hcz18_4, hcz18_5, hcz18_6, hfz18_0, hfz18_1, hfz18_2, hfz18_3, hfz18_4, hfz18_5, hfz18_6⟩ := cells7 BK101.out
   go_wp2_with (((with_reducible refine gate_callee (f := 74) rfl ?_);refine glB 9 rfl rfl Try.func74 (impl_NameOk.calls _ _ l0_0 false _ (cv HR0_0 HB) HC0_0.out A4.out) (fun w19 hb => ?_);replace BK101 := b1 BK101 hb;replace HB := b2s bs hb;(try clear hb)))
   go_meet
   case rel => exact ⟨_, (true), o2, H', ⟨o3⟩, ⟨bk BK101.out⟩, ⟨bs⟩⟩
 case rest =>
  clear HC2
  obtain ⟨kq, x22_1, rfl, HA, HJ1, BK101, HB⟩ := hcut
  cases kq with
  | zero => exact absurd HA.out (by simp [impl_RrOk.j0])
  | succ kj1 =>
   have H := HA.out
   clear HA
   simp only [impl_RrOk.j0] at H
   replace H := ib H
   obtain ⟨rfl, H⟩ | ⟨rfl, H⟩ := H
   ·obtain rfl := Option.some.inj H
    go_wp2
    go_ret
    exact ⟨o1, bs⟩
   ·have HC21 := ak H
    clear H
    obtain ⟨hcz22_0, hcz22_1, hcz22_2, hcz22_3, hcz22_4, hcz22_5, hcz22_6, hfz22_0, hfz22_1, hfz22_2, hfz22_3, hfz22_4, hfz22_5, hfz22_6⟩ := cells7 BK101.out
    go_upto_if 29 with (fail)
    go_cut [3] (fun v3 wc => ∃ (kq : Nat) (x3_20 : Bool), v3 = .bool x3_20 ∧ Aside0 (impl_RrOk.j1 kq x3_20 l0_0 a0_1 a0_2 a0_3 l0_4 l0_5 l0_6 = some r) ∧ Aside0 (kq ≤ kj1) ∧ Aside0 (wc.heap[gb101]? = some (.cells #[(.slice A0_0 l0_0.length c0_0), .int .i64 a0_1, .int .i64 a0_2, .int .i64 a0_3, (.slice A0_4 l0_4.length c0_4), (.slice A0_5 l0_5.length c0_5), (.slice A0_6 l0_6.length c0_6)] 33 (0, 0))) ∧ Aside0 (Below w.heap.size w wc))
    case first =>
     have H := HC21.out
     clear HC21
     replace H := ie H
     obtain ⟨c23b0, c23b1, H⟩ | ⟨c23b0, c23b1, H⟩ := H
     ·(first | rw [c23b0] | (simp only [i64_w, i32_w]; rw [c23b0]) | skip)
      replace H := ie H
      obtain ⟨c24b0, c24b1, H⟩ | ⟨c24b0, c24b1, H⟩ := H
      ·replace H := ipN H
       obtain ⟨c25b0, H⟩ := H
       have c25b1 : decide (0 < l0_6.length) = true := decide_eq_true (by have := of_decide_eq_true c25b0; omega)
       replace H := bnd H
       obtain ⟨t106, A26, H⟩ := H
       replace H := ib H
       obtain ⟨rfl, H⟩ | ⟨rfl, H⟩ := H
       ·replace H := ipN H
        obtain ⟨c28b0, H⟩ := H
        have c28b1 : decide (1 < l0_6.length) = true := decide_eq_true (by have := of_decide_eq_true c28b0; omega)
        replace H := bnd H
        obtain ⟨t108, A29, H⟩ := H
        have H' := ak H
        clear H
        obtain ⟨hcz30_0, hcz30_1, hcz30_2, hcz30_3, hcz30_4, hcz30_5, hcz30_6, hfz30_0, hfz30_1, hfz30_2, hfz30_3, hfz30_4, hfz30_5, hfz30_6⟩ := cells7 BK101.out
        obtain ⟨ad105, rfl, hx105_0, p105, q105⟩ := el0_int HR0_6 0 (h0 := by decide)
        replace p105 := of_eq_true p105
        replace q105 := of_eq_true q105
        have qi105 : (0 < l0_6.length) = True := eq_true (by omega)
        (try rw [show ((0 : Int)).toNat = 0 from rfl] at hx105_0)
        (try rw [Addr.add_zero'] at hx105_0)
        replace hx105_0 := pw_cell_below HB.out hx105_0
        replace p105 := eq_true p105
        replace q105 := eq_true q105
        go_wp2_with (first | (go_at_call 138;(with_reducible refine (impl_isWord.calls (rd l0_6 0) true _ A26.out).mono ?_);rintro e w' ⟨rfl, ⟨nd, rfl⟩⟩;have p107 : 0 ≤ (1 : Int) := (by omega);have q107 : 1 < (l0_6.length : Int) := of_decide_eq_true (by first | (with_reducible assumption) | assumption);obtain ⟨ad107, e107, hx107_0⟩ := Kd.at_int HR0_6.out 1 p107 q107;obtain rfl : ad105 = ad107 := (by injection e107);(try simp only [show (1 : Int).toNat = 1 from rfl, Nat.reduceMul, Nat.reduceEqDiff, Go.Addr.add, ↓reduceIte] at hx107_0);have qi107 : (1 < l0_6.length) = True := eq_true (by omega);(try rw [show ((1 : Int)).toNat = 1 from rfl] at hx107_0);replace hx107_0 := pw_cell_below HB.out hx107_0;replace p107 := eq_true p107;replace q107 := eq_true q107) | (go_at_call 83;(with_reducible refine (impl_within.calls (rd l0_6 1) 0 100000 t108 _ A29.out).mono ?_);rintro e w' ⟨rfl, ⟨nd, rfl⟩⟩))
        go_meet
        case rel => exact ⟨_, (t108), o2, H', ⟨by have := HJ1.out; first | omega | exact Nat.le_refl _⟩, ⟨bk BK101.out⟩, ⟨bs⟩⟩
       ·have H' := ak H
        clear H
        obtain ⟨hcz31_0, hcz31_1, hcz31_2, hcz31_3, hcz31_4, hcz31_5, hcz31_6, hfz31_0, hfz31_1, hfz31_2, hfz31_3, hfz31_4, hfz31_5, hfz31_6⟩ := cells7 BK101.out
        obtain ⟨ad105, rfl, hx105_0, p105, q105⟩ := el0_int HR0_6 0 (h0 := by decide)
        replace p105 := of_eq_true p105
        replace q105 := of_eq_true q105
        have qi105 : (0 < l0_6.length) = True := eq_true (by omega)
        (try rw [show ((0 : Int)).toNat = 0 from rfl] at hx105_0)
        (try rw [Addr.add_zero'] at hx105_0)
        replace hx105_0 := pw_cell_below HB.out hx105_0
        replace p105 := eq_true p105
        replace q105 := eq_true q105
        go_wp2_with ((go_at_call 138;(with_reducible refine (impl_isWord.calls (rd l0_6 0) false _ A26.out).mono ?_);rintro e w' ⟨rfl, ⟨nd, rfl⟩⟩))
        go_meet
        case rel => exact ⟨_, (false), o2, H', ⟨by have := HJ1.out; first | omega | exact Nat.le_refl _⟩, ⟨bk BK101.out⟩, ⟨bs⟩⟩
      ·have H' := ak H
       clear H
       obtain ⟨hcz32_0, hcz32_1, hcz32_2, hcz32_3, hcz32_4, hcz32_5, hcz32_6, hfz32_0, hfz32_1, hfz32_2, hfz32_3, hfz32_4, hfz32_5, hfz32_6⟩ := cells7 BK101.out
       go_wp2
       go_meet
       case rel => exact ⟨_, (false), o2, H', ⟨by have := HJ1.out; first | omega | exact Nat.le_refl _⟩, ⟨bk BK101.out⟩, ⟨bs⟩⟩
     ·(first | rw [c23b0] | (simp only [i64_w, i32_w]; rw [c23b0]) | skip)
      have H' := ak H
      clear H
      go_wp2
      go_meet
      case rel => exact ⟨_, (((l0_6.length : Int) == 0)), o2, H', ⟨by have := HJ1.out; first | omega | exact Nat.le_refl _⟩, ⟨bk BK101.out⟩, ⟨bs⟩⟩
    case rest =>
     clear HC21
     (try clear hcz22_0)
     (try clear hcz22_1)
     (try clear hcz22_2)
     (try clear hcz22_3)
     (try clear hcz22_4)
     (try clear hcz22_5)
     (try clear hcz22_6)
     (try clear hfz22_0)
     (try clear hfz22_1)
     (try clear hfz22_2)
     (try clear hfz22_3)
     (try clear hfz22_4)
     (try clear hfz22_5)
     (try clear hfz22_6)
     obtain ⟨kq, x3_20, rfl, HA, HJ20, BK101, HB⟩ := hcut
     cases kq with
     | zero => exact absurd HA.out (by simp [impl_RrOk.j1])
     | succ kj20 =>
      have H := HA.out
      clear HA
      simp only [impl_RrOk.j1] at H
      have HC33 := ak H
      clear H
      go_upto_region 6 with (fail)
      go_cut [4] (fun v4 wc => ∃ (kq : Nat) (x4_32 : Bool), v4 = .bool x4_32 ∧ Aside0 (impl_RrOk.j2 kq x3_20 x4_32 l0_0 a0_1 a0_2 a0_3 l0_4 l0_5 l0_6 = some r) ∧ Aside0 (kq ≤ kj20) ∧ Aside0 (wc.heap[gb101]? = some (.cells #[(.slice A0_0 l0_0.length c0_0), .int .i64 a0_1, .int .i64 a0_2, .int .i64 a0_3, (.slice A0_4 l0_4.length c0_4), (.slice A0_5 l0_5.length c0_5), (.slice A0_6 l0_6.length c0_6)] 33 (0, 0))) ∧ Aside0 (Below w.heap.size w wc))
      case first =>
       have H := HC33.out
       clear HC33
       replace H := ie H
       obtain ⟨c34b0, c34b1, H⟩ | ⟨c34b0, c34b1, H⟩ := H
       ·(first | rw [c34b0] | (simp only [i64_w, i32_w]; rw [c34b0]) | skip)
        have H' := ak H
        clear H
        obtain ⟨hcz35_0, hcz35_1, hcz35_2, hcz35_3, hcz35_4, hcz35_5, hcz35_6, hfz35_0, hfz35_1, hfz35_2, hfz35_3, hfz35_4, hfz35_5, hfz35_6⟩ := cells7 BK101.out
        go_wp2
        go_meet
        case rel => exact ⟨_, (true), o2, H', ⟨by have := HJ1.out; have := HJ20.out; first | omega | exact Nat.le_refl _⟩, ⟨bk BK101.out⟩, ⟨bs⟩⟩
       ·(first | rw [c34b0] | (simp only [i64_w, i32_w]; rw [c34b0]) | skip)
        replace H := ie H
        obtain ⟨c36b0, c36b1, H⟩ | ⟨c36b0, c36b1, H⟩ := H
        ·replace H := bnd H
         obtain ⟨t109, A37, H⟩ := H
         have H' := ak H
         clear H
         obtain ⟨hcz38_0, hcz38_1, hcz38_2, hcz38_3, hcz38_4, hcz38_5, hcz38_6, hfz38_0, hfz38_1, hfz38_2, hfz38_3, hfz38_4, hfz38_5, hfz38_6⟩ := cells7 BK101.out
         go_wp2_with ((go_at_call 138;(with_reducible refine (impl_isWord.calls a0_3 t109 _ A37.out).mono ?_);rintro e w' ⟨rfl, ⟨nd, rfl⟩⟩))
         go_meet
         case rel => exact ⟨_, (t109), o2, H', ⟨by have := HJ1.out; have := HJ20.out; first | omega | exact Nat.le_refl _⟩, ⟨bk BK101.out⟩, ⟨bs⟩⟩
        ·have H' := ak H
         clear H
         obtain ⟨hcz39_0, hcz39_1, hcz39_2, hcz39_3, hcz39_4, hcz39_5, hcz39_6, hfz39_0, hfz39_1, hfz39_2, hfz39_3, hfz39_4, hfz39_5, hfz39_6⟩ := cells7 BK101.out
         go_wp2
         go_meet
         case rel => exact ⟨_, (false), o2, H', ⟨by have := HJ1.out; have := HJ20.out; first | omega | exact Nat.le_refl _⟩, ⟨bk BK101.out⟩, ⟨bs⟩⟩
      case rest =>
       clear HC33
       (try clear hcz22_0)
       (try clear hcz22_1)
       (try clear hcz22_2)
       (try clear hcz22_3)
       (try clear hcz22_4)
       (try clear hcz22_5)
       (try clear hcz22_6)
       (try clear hfz22_0)
       (try clear hfz22_1)
       (try clear hfz22_2)
       (try clear hfz22_3)
       (try clear hfz22_4)
       (try clear hfz22_5)
       (try clear hfz22_6)
       obtain ⟨kq, x4_32, rfl, HA, HJ32, BK101, HB⟩ := hcut
       cases kq with
       | zero => exact absurd HA.out (by simp [impl_RrOk.j2])
       | succ kj32 =>
        have H := HA.out
        clear HA
        simp only [impl_RrOk.j2] at H
        have HC40 := ak H
        clear H
        go_upto_region 7 with (fail)
        go_cut [5] (fun v5 wc => ∃ (kq : Nat) (x5_39 : Bool), v5 = .bool x5_39 ∧ Aside0 (impl_RrOk.j3 kq x3_20 x4_32 x5_39 l0_0 a0_1 a0_2 a0_3 l0_4 l0_5 l0_6 = some r) ∧ Aside0 (kq ≤ kj32) ∧ Aside0 (wc.heap[gb101]? = some (.cells #[(.slice A0_0 l0_0.length c0_0), .int .i64 a0_1, .int .i64 a0_2, .int .i64 a0_3, (.slice A0_4 l0_4.length c0_4), (.slice A0_5 l0_5.length c0_5), (.slice A0_6 l0_6.length c0_6)] 33 (0, 0))) ∧ Aside0 (Below w.heap.size w wc))
        case first =>
         have H := HC40.out
         clear HC40
         replace H := ie H
         obtain ⟨c41b0, c41b1, H⟩ | ⟨c41b0, c41b1, H⟩ := H
         ·(first | rw [c41b0] | (simp only [i64_w, i32_w]; rw [c41b0]) | skip)
          have H' := ak H
          clear H
          obtain ⟨hcz42_0, hcz42_1, hcz42_2, hcz42_3, hcz42_4, hcz42_5, hcz42_6, hfz42_0, hfz42_1, hfz42_2, hfz42_3, hfz42_4, hfz42_5, hfz42_6⟩ := cells7 BK101.out
          go_wp2
          go_meet
          case rel => exact ⟨_, (true), o2, H', ⟨by have := HJ1.out; have := HJ20.out; have := HJ32.out; first | omega | exact Nat.le_refl _⟩, ⟨bk BK101.out⟩, ⟨bs⟩⟩
         ·have c41b2 : ¬ (l0_4 = []) := fun h_ => bne_iff_ne.mp c41b1 (by rw [h_]; rfl)
          (first | rw [c41b0] | (simp only [i64_w, i32_w]; rw [c41b0]) | skip)
          replace H := bnd H
          obtain ⟨t110, A43, H⟩ := H
          replace H := ib H
          obtain ⟨rfl, H⟩ | ⟨rfl, H⟩ := H
          ·replace H := bnd H
           obtain ⟨t111, A45, H⟩ := H
           have H' := ak H
           clear H
           obtain ⟨hcz46_0, hcz46_1, hcz46_2, hcz46_3, hcz46_4, hcz46_5, hcz46_6, hfz46_0, hfz46_1, hfz46_2, hfz46_3, hfz46_4, hfz46_5, hfz46_6⟩ := cells7 BK101.out
           go_wp2_with (first | (go_at_call 85;(with_reducible refine (impl_hasTo.calls a0_1 true _ A43.out).mono ?_);rintro e w' ⟨rfl, ⟨nd, rfl⟩⟩) | (go_at_call 74;(with_reducible refine (impl_NameOk.calls _ _ l0_4 t111 _ ?side1 HC0_4.out A45.out).mono ?_);(case side1 => repeat (first | exact (Kd.C_below HR0_4.out bs) | (with_reducible refine Kd.C_alloc ?_ _) | (with_reducible refine Kd.C_drewN ?_ _) | (with_reducible refine Kd.C_drew ?_)));rintro e w47 ⟨rfl, hb⟩;replace BK101 := b1 BK101 hb;replace HB := b2s bs hb;(try clear hb)))
           go_meet
           case rel => exact ⟨_, (t111), o2, H', ⟨by have := HJ1.out; have := HJ20.out; have := HJ32.out; first | omega | exact Nat.le_refl _⟩, ⟨bk BK101.out⟩, ⟨bs⟩⟩
          ·have H' := ak H
           clear H
           obtain ⟨hcz48_0, hcz48_1, hcz48_2, hcz48_3, hcz48_4, hcz48_5, hcz48_6, hfz48_0, hfz48_1, hfz48_2, hfz48_3, hfz48_4, hfz48_5, hfz48_6⟩ := cells7 BK101.out
           go_wp2_with ((go_at_call 85;(with_reducible refine (impl_hasTo.calls a0_1 false _ A43.out).mono ?_);rintro e w' ⟨rfl, ⟨nd, rfl⟩⟩))
           go_meet
           case rel => exact ⟨_, (false), o2, H', ⟨by have := HJ1.out; have := HJ20.out; have := HJ32.out; first | omega | exact Nat.le_refl _⟩, ⟨bk BK101.out⟩, ⟨bs⟩⟩
        case rest =>
         clear HC40
         (try clear hcz22_0)
         (try clear hcz22_1)
         (try clear hcz22_2)
         (try clear hcz22_3)
         (try clear hcz22_4)
         (try clear hcz22_5)
         (try clear hcz22_6)
         (try clear hfz22_0)
         (try clear hfz22_1)
         (try clear hfz22_2)
         (try clear hfz22_3)
         (try clear hfz22_4)
         (try clear hfz22_5)
         (try clear hfz22_6)
         obtain ⟨kq, x5_39, rfl, HA, HJ39, BK101, HB⟩ := hcut
         cases kq with
         | zero => exact absurd HA.out (by simp [impl_RrOk.j3])
         | succ kj39 =>
          have H := HA.out
          clear HA
          simp only [impl_RrOk.j3] at H
          replace H := ie H
          obtain ⟨c49b0, c49b1, H⟩ | ⟨c49b0, c49b1, H⟩ := H
          ·replace H := ib H
           obtain ⟨rfl, H⟩ | ⟨rfl, H⟩ := H
           ·replace H := ib H
            obtain ⟨rfl, H⟩ | ⟨rfl, H⟩ := H
            ·replace H := ib H
             obtain ⟨rfl, H⟩ | ⟨rfl, H⟩ := H
             ·obtain rfl := Option.some.inj H
              obtain ⟨hcz53_0, hcz53_1, hcz53_2, hcz53_3, hcz53_4, hcz53_5, hcz53_6, hfz53_0, hfz53_1, hfz53_2, hfz53_3, hfz53_4, hfz53_5, hfz53_6⟩ := cells7 BK101.out
              go_wp2
              go_ret
              exact ⟨o1, bs⟩
             ·obtain rfl := Option.some.inj H
              obtain ⟨hcz54_0, hcz54_1, hcz54_2, hcz54_3, hcz54_4, hcz54_5, hcz54_6, hfz54_0, hfz54_1, hfz54_2, hfz54_3, hfz54_4, hfz54_5, hfz54_6⟩ := cells7 BK101.out
              go_wp2
              go_ret
              exact ⟨o1, bs⟩
            ·obtain rfl := Option.some.inj H
             obtain ⟨hcz55_0, hcz55_1, hcz55_2, hcz55_3, hcz55_4, hcz55_5, hcz55_6, hfz55_0, hfz55_1, hfz55_2, hfz55_3, hfz55_4, hfz55_5, hfz55_6⟩ := cells7 BK101.out
             go_wp2
             go_ret
             exact ⟨o1, bs⟩
           ·obtain rfl := Option.some.inj H
            obtain ⟨hcz56_0, hcz56_1, hcz56_2, hcz56_3, hcz56_4, hcz56_5, hcz56_6, hfz56_0, hfz56_1, hfz56_2, hfz56_3, hfz56_4, hfz56_5, hfz56_6⟩ := cells7 BK101.out
            go_wp2
            go_ret
            exact ⟨o1, bs⟩
          ·have c49b2 : ¬ (l0_5 = []) := fun h_ => bne_iff_ne.mp c49b1 (by rw [h_]; rfl)
           replace H := bnd H
           obtain ⟨t112, A57, H⟩ := H
           replace H := ib H
           obtain ⟨rfl, H⟩ | ⟨rfl, H⟩ := H
           ·replace H := ib H
            obtain ⟨rfl, H⟩ | ⟨rfl, H⟩ := H
            ·replace H := ib H
             obtain ⟨rfl, H⟩ | ⟨rfl, H⟩ := H
             ·replace H := ib H
              obtain ⟨rfl, H⟩ | ⟨rfl, H⟩ := H
              ·obtain rfl := Option.some.inj H
               obtain ⟨hcz62_0, hcz62_1, hcz62_2, hcz62_3, hcz62_4, hcz62_5, hcz62_6, hfz62_0, hfz62_1, hfz62_2, hfz62_3, hfz62_4, hfz62_5, hfz62_6⟩ := cells7 BK101.out
               go_wp2_with ((go_at_call 139;(with_reducible refine (impl_hasText.calls a0_1 true _ A57.out).mono ?_);rintro e w' ⟨rfl, ⟨nd, rfl⟩⟩))
               go_ret
               exact ⟨o1, bs⟩
              ·obtain rfl := Option.some.inj H
               obtain ⟨hcz63_0, hcz63_1, hcz63_2, hcz63_3, hcz63_4, hcz63_5, hcz63_6, hfz63_0, hfz63_1, hfz63_2, hfz63_3, hfz63_4, hfz63_5, hfz63_6⟩ := cells7 BK101.out
               go_wp2_with ((go_at_call 139;(with_reducible refine (impl_hasText.calls a0_1 true _ A57.out).mono ?_);rintro e w' ⟨rfl, ⟨nd, rfl⟩⟩))
               go_ret
               exact ⟨o1, bs⟩
             ·obtain rfl := Option.some.inj H
              obtain ⟨hcz64_0, hcz64_1, hcz64_2, hcz64_3, hcz64_4, hcz64_5, hcz64_6, hfz64_0, hfz64_1, hfz64_2, hfz64_3, hfz64_4, hfz64_5, hfz64_6⟩ := cells7 BK101.out
              go_wp2_with ((go_at_call 139;(with_reducible refine (impl_hasText.calls a0_1 true _ A57.out).mono ?_);rintro e w' ⟨rfl, ⟨nd, rfl⟩⟩))
              go_ret
              exact ⟨o1, bs⟩
            ·obtain rfl := Option.some.inj H
             obtain ⟨hcz65_0, hcz65_1, hcz65_2, hcz65_3, hcz65_4, hcz65_5, hcz65_6, hfz65_0, hfz65_1, hfz65_2, hfz65_3, hfz65_4, hfz65_5, hfz65_6⟩ := cells7 BK101.out
             go_wp2_with ((go_at_call 139;(with_reducible refine (impl_hasText.calls a0_1 true _ A57.out).mono ?_);rintro e w' ⟨rfl, ⟨nd, rfl⟩⟩))
             go_ret
             exact ⟨o1, bs⟩
           ·replace H := ib H
            obtain ⟨rfl, H⟩ | ⟨rfl, H⟩ := H
            ·replace H := ib H
             obtain ⟨rfl, H⟩ | ⟨rfl, H⟩ := H
             ·replace H := ib H
              obtain ⟨rfl, H⟩ | ⟨rfl, H⟩ := H
              ·obtain rfl := Option.some.inj H
               obtain ⟨hcz69_0, hcz69_1, hcz69_2, hcz69_3, hcz69_4, hcz69_5, hcz69_6, hfz69_0, hfz69_1, hfz69_2, hfz69_3, hfz69_4, hfz69_5, hfz69_6⟩ := cells7 BK101.out
               go_wp2_with ((go_at_call 139;(with_reducible refine (impl_hasText.calls a0_1 false _ A57.out).mono ?_);rintro e w' ⟨rfl, ⟨nd, rfl⟩⟩))
               go_ret
               exact ⟨o1, bs⟩
              ·obtain rfl := Option.some.inj H
               obtain ⟨hcz70_0, hcz70_1, hcz70_2, hcz70_3, hcz70_4, hcz70_5, hcz70_6, hfz70_0, hfz70_1, hfz70_2, hfz70_3, hfz70_4, hfz70_5, hfz70_6⟩ := cells7 BK101.out
               go_wp2_with ((go_at_call 139;(with_reducible refine (impl_hasText.calls a0_1 false _ A57.out).mono ?_);rintro e w' ⟨rfl, ⟨nd, rfl⟩⟩))
               go_ret
               exact ⟨o1, bs⟩
             ·obtain rfl := Option.some.inj H
              obtain ⟨hcz71_0, hcz71_1, hcz71_2, hcz71_3, hcz71_4, hcz71_5, hcz71_6, hfz71_0, hfz71_1, hfz71_2, hfz71_3, hfz71_4, hfz71_5, hfz71_6⟩ := cells7 BK101.out
              go_wp2_with ((go_at_call 139;(with_reducible refine (impl_hasText.calls a0_1 false _ A57.out).mono ?_);rintro e w' ⟨rfl, ⟨nd, rfl⟩⟩))
              go_ret
              exact ⟨o1, bs⟩
            ·obtain rfl := Option.some.inj H
             obtain ⟨hcz72_0, hcz72_1, hcz72_2, hcz72_3, hcz72_4, hcz72_5, hcz72_6, hfz72_0, hfz72_1, hfz72_2, hfz72_3, hfz72_4, hfz72_5, hfz72_6⟩ := cells7 BK101.out
             go_wp2_with ((go_at_call 139;(with_reducible refine (impl_hasText.calls a0_1 false _ A57.out).mono ?_);rintro e w' ⟨rfl, ⟨nd, rfl⟩⟩))
             go_ret
             exact ⟨o1, bs⟩

/-! ### impl_Rr_223: function 223 -/

/-- Where the first element stands of which q holds; -1: nowhere. -/
def impl_Rr_223.idx (q : S33 → Option Bool) : List S33 → Int → Option Int
 | [], _ => some (-1)
 | x :: l, i => (q x).bind fun b => if b = true then some i else impl_Rr_223.idx q l (i + 1)
theorem impl_Rr_223.leo {q q' : S33 → Option Bool} (h : ∀ x, LeO (q x) (q' x)) : ∀ l i, LeO (impl_Rr_223.idx q l i) (impl_Rr_223.idx q' l i) := by
 intro l
 induction l with
 | nil => intro i; exact LeO.refl _
 | cons x l ih =>
  intro i
  simp only [impl_Rr_223.idx]
  refine LeO.bind (h x) (fun b => ?_)
  exact LeO.ite (LeO.refl _) (ih _)
set_option maxHeartbeats 2000000 in
theorem impl_Rr_223.calls (g : Nat) (lb : Array Value) (eg : ∀ args w, (callFunc g args).run Try.prog w = .ok (.enter g args) w) (q : S33 → Option Bool) (A0 : Option Addr) (c0 : Nat) (l0 : List S33) (r : Int) (w : World) (hr0 : Kd.C k33 w A0 l0.length l0)
  (hp : ∀ (W : World) (cs : List Value) (x : S33) (b : Bool), Below w.heap.size w W → k33.K W x cs → q x = some b → Calls Try.prog g (#[.agg cs.toArray] ++ lb) W fun e w' => e = .returned (.bool b) ∧ Below W.heap.size W w') (h : impl_Rr_223.idx q l0 0 = some r) :
  Calls Try.prog 223 #[.slice A0 l0.length c0, .func (.func g) #[] lb] w fun e w' => e = .returned (.int .i64 r) ∧ Below w.heap.size w w' := by
 have HR0 := ak hr0
 have hbig : l0.length ≤ 9223372036854775807 := hr0.2.1
 have HP := ak hp
 have HX := ak h
 clear hr0 hp h
 go_enter Try.func223, Try.ntmps223
 go_wp2
 go_loopg [5, 8] l0.length (fun gg _ s8 wr => ∃ kk : Nat, kk ≤ l0.length ∧ l0.length - kk ≤ gg ∧ s8 = .int .i64 kk ∧ Aside0 (Below w.heap.size w wr) ∧ Aside0 (impl_Rr_223.idx q (l0.drop kk) (kk : Int) = some r))
 case atStart => exact ⟨0, Nat.zero_le _, by omega, rfl, ⟨Below.refl _ w⟩, ⟨by simpa using HX.out⟩⟩
 case round =>
  clear HX
  obtain ⟨kk, hkk, hg, rfl, BW, AF⟩ := hrel
  by_cases hlt : kk < l0.length
  ·obtain ⟨ad, c, rfl, hcl, hK, hcc⟩ := Kd.C_get HR0.out z33 (kk : Int) (by omega) (by omega)
   have hcl : c.length = 7 := hcl
   obtain ⟨x0, x1, x2, x3, x4, x5, x6, rfl⟩ : ∃ x0 x1 x2 x3 x4 x5 x6 : Value, c = [x0, x1, x2, x3, x4, x5, x6] := by
    match c, hcl with
    | [x0, x1, x2, x3, x4, x5, x6], _ => exact ⟨x0, x1, x2, x3, x4, x5, x6, rfl⟩
   have hK1 := k33.K_below BW.out hK
   have hcc : ∀ j u, [x0, x1, x2, x3, x4, x5, x6][j]? = some u → wr.cell? (ad.add (kk * 7 + j)) = some u := fun j u hj => by
    have := hcc j u hj
    rw [show ((kk : Int)).toNat = kk from by omega] at this
    exact pw_cell_below BW.out this
   have hx : l0.drop kk = l0.getD ((kk : Int)).toNat z33 :: l0.drop (kk + 1) := by
    rw [List.drop_eq_getElem_cons hlt, show ((kk : Int)).toNat = kk from by omega]; simp [List.getD_eq_getElem?_getD, hlt]
   have AF1 := AF.out
   rw [hx] at AF1
   simp only [impl_Rr_223.idx] at AF1
   clear AF hx hK
   generalize l0.getD ((kk : Int)).toNat z33 = y at hK1 AF1
   obtain ⟨b, hb, AF2⟩ := Option.bind_eq_some_iff.1 AF1
   clear AF1
   have hcall := (HP.out wr _ y b BW.out hK1 hb).mono (fun e w' (h : e = .returned (.bool b) ∧ Below wr.heap.size wr w') => (⟨h.1, below_step BW.out h.2⟩ : e = .returned (.bool b) ∧ Below w.heap.size w w'))
   clear hK1 hb
   have hc0 : wr.cell? (ad.add (kk * 7)) = some x0 := by simpa using hcc 0 _ rfl
   have hc1 : wr.cell? ⟨(ad.add (kk * 7)).block, (ad.add (kk * 7)).off + 1, none⟩ = some x1 := by rw [← add_field _ _ 1 (by omega)]; exact hcc 1 _ rfl
   have hc2 : wr.cell? ⟨(ad.add (kk * 7)).block, (ad.add (kk * 7)).off + 2, none⟩ = some x2 := by rw [← add_field _ _ 2 (by omega)]; exact hcc 2 _ rfl
   have hc3 : wr.cell? ⟨(ad.add (kk * 7)).block, (ad.add (kk * 7)).off + 3, none⟩ = some x3 := by rw [← add_field _ _ 3 (by omega)]; exact hcc 3 _ rfl
   have hc4 : wr.cell? ⟨(ad.add (kk * 7)).block, (ad.add (kk * 7)).off + 4, none⟩ = some x4 := by rw [← add_field _ _ 4 (by omega)]; exact hcc 4 _ rfl
   have hc5 : wr.cell? ⟨(ad.add (kk * 7)).block, (ad.add (kk * 7)).off + 5, none⟩ = some x5 := by rw [← add_field _ _ 5 (by omega)]; exact hcc 5 _ rfl
   have hc6 : wr.cell? ⟨(ad.add (kk * 7)).block, (ad.add (kk * 7)).off + 6, none⟩ = some x6 := by rw [← add_field _ _ 6 (by omega)]; exact hcc 6 _ rfl
   clear hcc
   have hltz : (kk : Int) < (l0.length : Int) := by omega
   cases b with
   | true =>
    go_wp2_with (go_at_fn g; refine hcall.mono ?_; rintro e w' ⟨rfl, hb'⟩)
    go_ret
    refine ⟨?_, hb'⟩
    have := Option.some.inj AF2
    rw [← this]; rfl
   | false =>
    have AF3 := ak AF2
    clear AF2
    go_wp2_with (go_at_fn g; refine hcall.mono ?_; rintro e w' ⟨rfl, hb'⟩)
    go_roundg (l0.length - (kk + 1))
    case measure => omega
    case rel => exact ⟨kk + 1, by omega, by omega, by go_num, ⟨hb'⟩, ⟨by have := AF3.out; simpa using this⟩⟩
  ·have hltz : ¬ (kk : Int) < (l0.length : Int) := by omega
   have AF1 := AF.out
   rw [List.drop_of_length_le (by omega)] at AF1
   have := Option.some.inj AF1
   clear AF AF1
   go_wp2
   go_ret
   exact ⟨by rw [← this]; rfl, BW.out⟩

/-! ### impl_Rr_172: function 172 -/

set_option maxHeartbeats 2000000 in
theorem impl_Rr_172.calls (g : Nat) (lb : Array Value) (eg : ∀ args w, (callFunc g args).run Try.prog w = .ok (.enter g args) w) (q : S33 → Option Bool) (A0 : Option Addr) (c0 : Nat) (l0 : List S33) (r : Int) (w : World) (hr0 : Kd.C k33 w A0 l0.length l0)
  (hp : ∀ (W : World) (cs : List Value) (x : S33) (b : Bool), Below w.heap.size w W → k33.K W x cs → q x = some b → Calls Try.prog g (#[.agg cs.toArray] ++ lb) W fun e w' => e = .returned (.bool b) ∧ Below W.heap.size W w') (h : impl_Rr_223.idx q l0 0 = some r) :
  Calls Try.prog 172 #[.slice A0 l0.length c0, .func (.func g) #[] lb] w fun e w' => e = .returned (.bool (decide (0 ≤ r))) ∧ Below w.heap.size w w' := by
 have hc := impl_Rr_223.calls g lb eg q A0 c0 l0 r w hr0 hp h
 clear hp hr0 h
 go_enter Try.func172, Try.ntmps172
 go_wp2_with (go_at_call 223; refine hc.mono ?_; rintro e w' ⟨rfl, hb'⟩)
 go_ret
 exact ⟨rfl, hb'⟩

/-! ### impl_Rr_1: function 173 -/

set_option maxHeartbeats 2000000 in
/-- What is handed to ContainsFunc: the predicate's contrary; the predicate lies in a variable. -/
theorem impl_Rr_1.calls (g : Nat) (lb : Array Value) (eg : ∀ args w, (callFunc g args).run Try.prog w = .ok (.enter g args) w) (q : Bool) (x : S33) (cs : List Value) (B : Nat) (w : World) (hK : k33.K w x cs) (hv : w.cell? ⟨B, 0, none⟩ = some (.func (.func g) #[] lb))
  (hp : ∀ W : World, Below w.heap.size w W → Calls Try.prog g (#[.agg cs.toArray] ++ lb) W fun e w' => e = .returned (.bool q) ∧ Below W.heap.size W w') :
  Calls Try.prog 173 #[.agg cs.toArray, .pointer (some ⟨B, 0, none⟩)] w fun e w' => e = .returned (.bool (!q)) ∧ Below w.heap.size w w' := by
 obtain ⟨A0, c0, A4, c4, A5, c5, A6, c6, rfl, l0, g0, l4, g4, l5, g5, l6, g6⟩ := k33_open hK
 have HB := ak (Below.refl w.heap.size w)
 have HV := ak hv
 have HP := ak hp
 clear hK hv hp l0 g0 l4 g4 l5 g5 l6 g6
 go_enter Try.func173, Try.ntmps173
 go_wp2_with (first | ((with_reducible refine gate_dst (N := 2) rfl ?_);refine bxd (N := 2) rfl HB ?_;clear HB;intro gb w2 hg HB BK GE hb;clear hg hb;obtain ⟨hz0, hz1, hz2, hz3, hz4, hz5, hz6, hf0, hf1, hf2, hf3, hf4, hf5, hf6⟩ := cells7 BK.out;have hv := (HB.out.cell (World.block_lt_of_cell? w _ HV.out)).trans HV.out) | (go_at_fn g;refine (HP.out _ HB.out).mono ?_;rintro e w3 ⟨rfl, hb⟩))
 go_ret
 exact ⟨rfl, below_step HB.out hb⟩

/-! ### impl_Rr_100: function 100 -/

def impl_Rr_100.q (k : Nat) (x : S33) : Option Bool := impl_RrOk.f k x.f0.f0 x.f1 x.f2 x.f3 x.f4.f0 x.f5 x.f6
def impl_Rr_100.f (k : Nat) (l0 : List S33) : Option Bool := (impl_Rr_223.idx (fun x => (impl_Rr_100.q k x).map (fun b => !b)) l0 0).map fun r => !decide (0 ≤ r)
theorem impl_Rr_100.mono : ∀ a0 k, LeO (impl_Rr_100.f k a0) (impl_Rr_100.f (k + 1) a0) := by
 intro a0 k
 unfold impl_Rr_100.f
 refine LeO.map _ ?_
 exact impl_Rr_223.leo (fun x => LeO.map _ (impl_RrOk.mono _ _ _ _ _ _ _ k)) a0 0
set_option maxHeartbeats 2000000 in
theorem impl_Rr_100.any (g : Nat) (lb : Array Value) (eg : ∀ args w, (callFunc g args).run Try.prog w = .ok (.enter g args) w) (q : S33 → Option Bool) (A0 : Option Addr) (c0 : Nat) (l0 : List S33) (r : Int) (w : World) (hr0 : Kd.C k33 w A0 l0.length l0)
  (hp : ∀ (W : World) (cs : List Value) (x : S33) (b : Bool), Below w.heap.size w W → k33.K W x cs → q x = some b → Calls Try.prog g (#[.agg cs.toArray] ++ lb) W fun e w' => e = .returned (.bool b) ∧ Below W.heap.size W w') (h : impl_Rr_223.idx (fun x => (q x).map (fun b => !b)) l0 0 = some r) :
  Calls Try.prog 100 #[.slice A0 l0.length c0, .func (.func g) #[] lb] w fun e w' => e = .returned (.bool (!decide (0 ≤ r))) ∧ Below w.heap.size w w' := by
 have eg2 : ∀ args w, (callFunc 173 args).run Try.prog w = .ok (.enter 173 args) w := enters_of Try.func173 (by kernel_rfl) rfl
 have hb0 : Below w.heap.size w (w.alloc (.cells #[.func (.func g) #[] lb] 97)) := below_alloc (Below.refl _ _) _
 have hc := impl_Rr_172.calls 173 #[.pointer (some ⟨w.heap.size, 0, none⟩)] eg2 (fun x => (q x).map (fun b => !b)) A0 c0 l0 r (w.alloc (.cells #[.func (.func g) #[] lb] 97)) (Kd.C_below hr0 hb0) (fun W cs x b hW hK hq => by
  obtain ⟨b', hb', rfl⟩ := Option.map_eq_some_iff.1 hq
  exact impl_Rr_1.calls g lb eg b' x cs w.heap.size W hK ((hW.cell (p := ⟨w.heap.size, 0, none⟩) (by simp)).trans (by simp)) (fun W2 hW2 => hp W2 cs x b' ((hb0.trans (hW.mono (by simp))).trans (hW2.mono (hb0.trans (hW.mono (by simp))).size)) (k33.K_below hW2 hK) hb')) h
 clear hp hr0 h
 go_enter Try.func100, Try.ntmps100
 go_wp2_with (go_at_call 172; refine hc.mono ?_; rintro e w' ⟨rfl, hb'⟩)
 go_ret
 exact ⟨rfl, hb0.trans (hb'.mono (by simp))⟩
set_option maxHeartbeats 2000000 in
theorem impl_Rr_100.calls (k : Nat) (A0 : Option Addr) (c0 : Nat) (l0 : List S33) (r : Bool) (w : World) (hr0 : Kd.C k33 w A0 l0.length l0) (hc0 : l0.length ≤ c0) (h : impl_Rr_100.f k l0 = some r) :
  Calls Try.prog 100 #[.slice A0 l0.length c0, .func (.func 63) #[] #[]] w fun e w' => e = .returned (.bool r) ∧ Below w.heap.size w w' := by
 have eg : ∀ args w, (callFunc 63 args).run Try.prog w = .ok (.enter 63 args) w := enters_of Try.func63 (by kernel_rfl) rfl
 obtain ⟨i, hi, rfl⟩ := Option.map_eq_some_iff.1 h
 refine impl_Rr_100.any 63 #[] eg (impl_Rr_100.q k) A0 c0 l0 i w hr0 (fun W cs x b hW hK hq => ?_) hi
 obtain ⟨A0, c0, A4, c4, A5, c5, A6, c6, rfl, l0, g0, l4, g4, l5, g5, l6, g6⟩ := k33_open hK
 exact impl_RrOk.calls k _ _ x.f0.f0 x.f1 x.f2 x.f3 _ _ x.f4.f0 _ _ x.f5 _ _ x.f6 b W g0 l0 g4 l4 g5 l5 g6 l6 hq

/-! ### slices_EqualFunc_byte_byte_byte_byte: function 174 -/

def slices_EqualFunc_byte_byte_byte_byte.v (p : List Int → List Int → Bool) (l0 l1 : List (List Int)) : Bool := decide (l0.length = l1.length) && (l0.zip l1).all fun z => p z.1 z.2
set_option maxHeartbeats 8000000 in
set_option maxRecDepth 100000 in
theorem slices_EqualFunc_byte_byte_byte_byte.calls (g : Nat) (lb : Array Value) (eg : ∀ args w, (callFunc g args).run Try.prog w = .ok (.enter g args) w) (p : List Int → List Int → Bool) (A0 : Option Addr) (c0 : Nat) (l0 : List (List Int)) (A1 : Option Addr) (c1 : Nat) (l1 : List (List Int)) (w : World) (hr0 : Kd.C (Kd.slice 5 (Kd.int .u8)) w A0 l0.length l0) (hr1 : Kd.C (Kd.slice 5 (Kd.int .u8)) w A1 l1.length l1)
  (hp : ∀ (W : World) (A : Option Addr) (c : Nat) (x : List Int) (A' : Option Addr) (c' : Nat) (x' : List Int), Kd.C (Kd.int .u8) W A x.length x → x.length ≤ c → Kd.C (Kd.int .u8) W A' x'.length x' → x'.length ≤ c' → Calls Try.prog g (#[.slice A x.length c, .slice A' x'.length c'] ++ lb) W fun e w' => e = .returned (.bool (p x x')) ∧ Drawn0 W w') :
  Calls Try.prog 174 #[.slice A0 l0.length c0, .slice A1 l1.length c1, .func (.func g) #[] lb] w fun e w' => e = .returned (.bool (slices_EqualFunc_byte_byte_byte_byte.v p l0 l1)) ∧ ∃ m, w' = w.drewN m := by
 have HR0 := ak hr0
 have HR1 := ak hr1
 have hbig : l0.length ≤ 9223372036854775807 := hr0.2.1
 have hbig1 : l1.length ≤ 9223372036854775807 := hr1.2.1
 have HP := ak hp
 clear hr0 hr1 hp
 by_cases hl : l0.length = l1.length
 ·have hne : (l0.length != l1.length) = false := by simp [hl]
  have hne' : ((l0.length : Int) != (l1.length : Int)) = false := by simp [hl]
  have HL := ak hl
  clear hl
  go_enter Try.func174, Try.ntmps174
  go_wp2
  go_loopg [17] l0.length (fun gg s17 wr => ∃ kk m : Nat, kk ≤ l0.length ∧ l0.length - kk ≤ gg ∧ s17 = .int .i64 kk ∧ wr = w.drewN m ∧ Aside0 (((l0.take kk).zip (l1.take kk)).all (fun z => p z.1 z.2) = true))
  case atStart => exact ⟨0, 0, Nat.zero_le _, by omega, rfl, rfl, ⟨by simp⟩⟩
  case round =>
   obtain ⟨kk, m, hkk, hg, rfl, rfl, AF⟩ := hrel
   by_cases hlt : kk < l0.length
   ·have hlt1 : kk < l1.length := by have := HL.out; omega
    obtain ⟨ad, B0, d0, rfl, hcell, hd0, hC0⟩ := at_L10 HR0.out (kk : Int) (by omega) (by omega)
    obtain ⟨ad1, B1, d1, rfl, hcell1, hd1, hC1⟩ := at_L10 HR1.out (kk : Int) (by omega) (by omega)
    have hcall := HP.out (w.drewN m) B0 d0 (rd_L10 l0 (kk : Int)) B1 d1 (rd_L10 l1 (kk : Int)) (Kd.C_drewN hC0 m) hd0 (Kd.C_drewN hC1 m) hd1
    have hx : Aside0 ((l0.take (kk + 1)).zip (l1.take (kk + 1)) = (l0.take kk).zip (l1.take kk) ++ [(rd_L10 l0 (kk : Int), rd_L10 l1 (kk : Int))]) := ⟨by
     rw [List.take_succ_eq_append_getElem hlt, List.take_succ_eq_append_getElem hlt1, List.zip_append (by simp; omega)]
     simp [rd_L10, List.getD_eq_getElem?_getD, hlt, hlt1]⟩
    clear hC0 hC1 hd0 hd1
    rw [show ((kk : Int)).toNat = kk from by omega] at hcell hcell1
    generalize rd_L10 l0 (kk : Int) = y at hcell hcall hx
    generalize rd_L10 l1 (kk : Int) = y1 at hcell1 hcall hx
    have hltz : (kk : Int) < (l0.length : Int) := by omega
    have hltz1 : (kk : Int) < (l1.length : Int) := by omega
    cases hq : p y y1 with
    | true =>
     rw [hq] at hcall
     go_wp2_with (go_at_fn g; refine hcall.mono ?_; rintro e w' ⟨rfl, ⟨q, rfl⟩⟩)
     go_roundg (l0.length - (kk + 1))
     case measure => omega
     case rel => exact ⟨kk + 1, _, by omega, by omega, by go_num, rfl, ⟨by rw [hx.out, List.all_append, AF.out]; simp [hq]⟩⟩
    | false =>
     rw [hq] at hcall
     go_wp2_with (go_at_fn g; refine hcall.mono ?_; rintro e w' ⟨rfl, ⟨q, rfl⟩⟩)
     go_ret
     refine ⟨?_, _, rfl⟩
     have : slices_EqualFunc_byte_byte_byte_byte.v p l0 l1 = false := by
      unfold slices_EqualFunc_byte_byte_byte_byte.v
      have h2 : l0.zip l1 = (l0.take (kk + 1)).zip (l1.take (kk + 1)) ++ (l0.drop (kk + 1)).zip (l1.drop (kk + 1)) := by
       conv => lhs; rw [← List.take_append_drop (kk + 1) l0, ← List.take_append_drop (kk + 1) l1]
       rw [List.zip_append (by simp; omega)]
      rw [h2, hx.out]; simp [hq]
     rw [this]; rfl
   ·have hltz : ¬ (kk : Int) < (l0.length : Int) := by omega
    go_wp2
    go_ret
    refine ⟨?_, m, rfl⟩
    have h1 := AF.out
    have h2 := HL.out
    rw [List.take_of_length_le (by omega), List.take_of_length_le (by omega)] at h1
    unfold slices_EqualFunc_byte_byte_byte_byte.v
    rw [h1, decide_eq_true h2]; rfl
 ·have hne : (l0.length != l1.length) = true := by simp [hl]
  have hne' : ((l0.length : Int) != (l1.length : Int)) = true := by simp; omega
  have hv : slices_EqualFunc_byte_byte_byte_byte.v p l0 l1 = false := by unfold slices_EqualFunc_byte_byte_byte_byte.v; rw [decide_eq_false hl]; rfl
  rw [hv]
  clear hl hv
  go_enter Try.func174, Try.ntmps174
  go_wp2
  go_ret
  exact ⟨rfl, 0, rfl⟩

/-! ### bytes_Equal: function 175 -/
def bytes_Equal.f (l0 : List Int) (l1 : List Int) : Option (Bool) := some ((strOfNums l0).toList == (strOfNums l1).toList)
set_option maxHeartbeats 8000000 in
set_option maxRecDepth 100000 in
theorem bytes_Equal.calls (A0 : Option Addr) (c0 : Nat) (l0 : List Int) (A1 : Option Addr) (c1 : Nat) (l1 : List Int) (r : Bool) (w : World) (hr0 : Kd.C (Kd.int .u8) w A0 l0.length l0) (hc0 : l0.length ≤ c0) (hr1 : Kd.C (Kd.int .u8) w A1 l1.length l1) (hc1 : l1.length ≤ c1) (h : bytes_Equal.f l0 l1 = some r) :
  Calls Try.prog 175 #[.slice A0 l0.length c0, .slice A1 l1.length c1] w fun e w' => e = .returned (.bool r) ∧ Drawn0 w w' := by
 have HR0 := ak hr0
 have HC0 := ak hc0
 clear hr0 hc0
 have HR1 := ak hr1
 have HC1 := ak hc1
 clear hr1 hc1
 have H : (some ((strOfNums l0).toList == (strOfNums l1).toList)) = some r := h
 clear h
 obtain rfl := Option.some.inj H
 have hcv3 := Kd.C_string (P := Try.prog) (A := A0) (c := c0) Try.underlying25 Try.underlying5 Try.underlying9 HR0.out
 have hcv4 := Kd.C_string (P := Try.prog) (A := A1) (c := c1) Try.underlying25 Try.underlying5 Try.underlying9 HR1.out
 go_enter Try.func175, Try.ntmps175
 go_wp2
 go_ret
 exact ⟨o2, od⟩

/-! ### impl_Name_under: function 101 -/

def impl_Name_under.eq (x y : List Int) : Bool := (strOfNums x).toList == (strOfNums y).toList
def impl_Name_under.v (l0 l1 : List (List Int)) : Bool := decide (l1.length ≤ l0.length) && slices_EqualFunc_byte_byte_byte_byte.v impl_Name_under.eq (l0.drop (l0.length - l1.length)) l1
def impl_Name_under.f (l0 l1 : List (List Int)) : Option Bool := if l0.length ≤ 140737488355328 ∧ l1.length ≤ 140737488355328 then some (impl_Name_under.v l0 l1) else none
set_option maxHeartbeats 8000000 in
set_option maxRecDepth 100000 in
theorem impl_Name_under.calls (A0_0 : Option Addr) (c0_0 : Nat) (l0_0 : List (List Int)) (A1_0 : Option Addr) (c1_0 : Nat) (l1_0 : List (List Int)) (r : Bool) (w : World) (hr0_0 : Kd.C (Kd.slice 5 (Kd.int .u8)) w A0_0 l0_0.length l0_0) (hc0_0 : l0_0.length ≤ c0_0) (hr1_0 : Kd.C (Kd.slice 5 (Kd.int .u8)) w A1_0 l1_0.length l1_0) (hc1_0 : l1_0.length ≤ c1_0) (h : impl_Name_under.f l0_0 l1_0 = some r) :
  Calls Try.prog 101 #[.agg #[.slice A0_0 l0_0.length c0_0], .agg #[.slice A1_0 l1_0.length c1_0]] w fun e w' => e = .returned (.bool r) ∧ Below w.heap.size w w' := by
 have hu := Try.underlying31
 have eg : ∀ args w, (callFunc 175 args).run Try.prog w = .ok (.enter 175 args) w := enters_of Try.func175 (by kernel_rfl) rfl
 have hb0 : Below w.heap.size w ((w.alloc (.cells #[.slice A0_0 l0_0.length c0_0] 31)).alloc (.cells #[.slice A1_0 l1_0.length c1_0] 31)) := below_alloc (below_alloc (Below.refl _ _) _) _
 have hlm : l0_0.length ≤ 140737488355328 ∧ l1_0.length ≤ 140737488355328 := by
  unfold impl_Name_under.f at h; split at h
  ·assumption
  ·cases h
 have hrv : impl_Name_under.v l0_0 l1_0 = r := by unfold impl_Name_under.f at h; rw [if_pos hlm] at h; exact Option.some.inj h
 subst hrv
 obtain ⟨hm0, hm1⟩ := hlm
 unfold impl_Name_under.v
 clear h
 by_cases h2 : l1_0.length ≤ l0_0.length
 ·obtain ⟨i0, hi0, _, hsz0, _⟩ := info_parts info25
  have hcut := cut_from (P := Try.prog) 22 25 .i64 Try.underlying22 hi0 1 hsz0 A0_0 l0_0.length c0_0 ((l0_0.length : Int) - (l1_0.length : Int)) (by omega) (by omega)
  have hC := fun (W : World) (hW : Below w.heap.size w W) => Kd.C_below (Kd.C_drop (m := l0_0.length - l1_0.length) (c := c0_0) hr0_0 (by omega) hc0_0) hW
  rw [show ((l0_0.length : Int) - (l1_0.length : Int)).toNat = l0_0.length - l1_0.length by omega, show l0_0.length - (l0_0.length - l1_0.length) = l1_0.length by omega] at hcut
  have hln : (l0_0.drop (l0_0.length - l1_0.length)).length = l1_0.length := by simp; omega
  have hcall := fun (W : World) (hW : Below w.heap.size w W) => slices_EqualFunc_byte_byte_byte_byte.calls 175 #[] eg impl_Name_under.eq _ (c0_0 - (l0_0.length - l1_0.length)) (l0_0.drop (l0_0.length - l1_0.length)) A1_0 c1_0 l1_0 W (hC W hW) (Kd.C_below hr1_0 hW) (fun W2 A c x A' c' x' h1 h3 h4 h5 => bytes_Equal.calls A c x A' c' x' _ W2 h1 h3 h4 h5 rfl)
  have hsz : (Kd.slice 5 (Kd.int .u8)).sz = 1 := rfl
  rw [hsz, hln] at hcall
  have HCALL := ak hcall
  clear hC hcall hr0_0 hr1_0 hln hsz hi0 hsz0
  rw [decide_eq_true h2]
  simp only [Bool.true_and]
  generalize slices_EqualFunc_byte_byte_byte_byte.v impl_Name_under.eq (l0_0.drop (l0_0.length - l1_0.length)) l1_0 = q at HCALL ⊢
  generalize (if c0_0 = l0_0.length - l1_0.length then A0_0 else A0_0.map (·.add ((l0_0.length - l1_0.length) * 1))) = A9 at hcut HCALL
  generalize c0_0 - (l0_0.length - l1_0.length) = c9 at hcut HCALL
  have hle : (l1_0.length : Int) ≤ (l0_0.length : Int) := by omega
  have hle2 : decide ((0 : Int) ≤ (l0_0.length : Int) - (l1_0.length : Int)) = true := by simp; omega
  have hmax : ∀ (W : World), True := fun _ => trivial
  go_enter Try.func101, Try.ntmps101
  go_wp2
  go_quiet ((go_at_call 174; exact Calls.quiet_of (HCALL.out _ (by exact pw_below_drewN hb0 _))))
  go_wp2
  go_ret
  exact ⟨rfl, pw_below_drewN hb0 _⟩
 ·rw [decide_eq_false h2]
  simp only [Bool.false_and]
  have hle2 : decide ((0 : Int) ≤ (l0_0.length : Int) - (l1_0.length : Int)) = false := by simp; omega
  have hle : (l0_0.length : Int) < (l1_0.length : Int) := by omega
  go_enter Try.func101, Try.ntmps101
  go_wp2
  go_quiet (fail)
  go_wp2
  go_ret
  exact ⟨rfl, pw_below_drewN hb0 _⟩

end Go.Proofs.Ytagedmajlppohaa.Q
