/- Printed by a program of this session (wip/myprint.py), which drives the kit's printer: functions and what their calls do. -/
import Derived.Test.YtagedmajlppohaaZFnExactOwner0
import Derived.Test.YtagedmajlppohaaZFnExactOwner1
import Derived.Test.YtagedmajlppohaaZFnExactOwner2
namespace Go.Proofs.Ytagedmajlppohaa.Q
open Go.RowKit Go Go.Proofs.YtagedmajlppohaaW.PrintWords Go.Proofs.YtagedmajlppohaaW.PrintLast Go.Proofs.YtagedmajlppohaaW.PrintMore
attribute [local go_sem] max2_int min2_int max_two min_two max_three min_three max_four min_four   -- for this text's walks alone
set_option linter.unusedVariables false
set_option linter.unusedSimpArgs false

/-! ### impl_Name_is: function 102 -/
def impl_Name_is.f (k : Nat) (l0_0 : List (List Int)) (l1_0 : List (List Int)) : Option (Bool) := (impl_Name_compare.f k l0_0 l1_0).bind fun t103 => (some (t103 == 0))
theorem impl_Name_is.mono : ∀ a0 a1 k, LeO (impl_Name_is.f k a0 a1) (impl_Name_is.f (k + 1) a0 a1) := by
 intro a0 a1 k
 unfold impl_Name_is.f
 repeat' first
   | (with_reducible exact impl_Name_compare.mono _ _ _)
   | (with_reducible exact LeO.refl _)
   | (with_reducible exact LeO.none _)
   | (with_reducible refine LeO.ite ?_ ?_)
   | (with_reducible refine LeO.bind ?_ (fun _ => ?_))
   | exact impl_Name_compare.mono _ _ _
   | exact LeO.none _
   | refine LeO.ite ?_ ?_
   | refine LeO.bind ?_ (fun _ => ?_)
set_option maxHeartbeats 8000000 in
set_option maxRecDepth 100000 in
theorem impl_Name_is.calls (k : Nat) (A0_0 : Option Addr) (c0_0 : Nat) (l0_0 : List (List Int)) (A1_0 : Option Addr) (c1_0 : Nat) (l1_0 : List (List Int)) (r : Bool) (w : World) (hr0_0 : Kd.C (Kd.slice 5 (Kd.int .u8)) w A0_0 l0_0.length l0_0) (hc0_0 : l0_0.length ≤ c0_0) (hr1_0 : Kd.C (Kd.slice 5 (Kd.int .u8)) w A1_0 l1_0.length l1_0) (hc1_0 : l1_0.length ≤ c1_0) (h : impl_Name_is.f k l0_0 l1_0 = some r) :
  Calls Try.prog 102 #[.agg #[.slice A0_0 l0_0.length c0_0], .agg #[.slice A1_0 l1_0.length c1_0]] w fun e w' => e = .returned (.bool r) ∧ Below w.heap.size w w' := by
 have hu31 := Try.underlying31
 have HR0_0 := ak hr0_0
 have HC0_0 := ak hc0_0
 clear hr0_0 hc0_0
 have HR1_0 := ak hr1_0
 have HC1_0 := ak hc1_0
 clear hr1_0 hc1_0
 have HB := ak (Below.refl w.heap.size w)
 have H : ((impl_Name_compare.f k l0_0 l1_0).bind fun t103 => (some (t103 == 0))) = some r := h
 clear h
 replace H := bnd H
 obtain ⟨t103, A3, H⟩ := H
 obtain rfl := Option.some.inj H
 go_enter Try.func102, Try.ntmps102
 go_wp2_with (first | ((with_reducible refine gate_dst (N := 2) rfl ?_);refine bxd (N := 2) rfl HB ?_;clear HB;intro gb101 w4 hg HB BK101 GE101 hb;have GW101 := GE101;clear hb hg) | ((with_reducible refine gate_dst (N := 3) rfl ?_);refine bxe (N := 3) rfl ?_;intro gb102 hg w5 hbox hb;have BK102 := ak (hbox);have GW102 := b3s hg bs;have GE102 := GW102;replace HB := b2s bs hb;have NB101_102 := b4 hg BK101;have NB102_101 := b5 hg BK101;replace BK101 := b1 BK101 hb;clear hb hbox hg;have hnb6 := NB101_102.out;have hnc6 := NB102_101.out;obtain ⟨hcz7_0, hfz7_0⟩ := cells1 BK101.out;obtain ⟨hcz8_0, hfz8_0⟩ := cells1 BK102.out) | ((with_reducible refine gate_callee (f := 141) rfl ?_);refine glB 7 rfl rfl Try.func141 (impl_Name_compare.calls k _ _ l0_0 _ _ l1_0 t103 _ (cv HR0_0 HB) HC0_0.out (cv HR1_0 HB) HC1_0.out A3.out) (fun w9 hb => ?_);replace BK101 := b1 BK101 hb;replace BK102 := b1 BK102 hb;replace HB := b2s bs hb;(try clear hb)))
 go_ret
 exact ⟨o1, bs⟩

/-! ### impl_Zone_set: function 103 -/
def impl_Zone_set.l0 : Nat → Int → List (S33) → List (S33) → Int → Int → List (List Int) → Option ((List (S33)))
 | 0, _, _, _, _, _, _ => none
 | k + 1, x2, x7, x12, x13, x14, x103000 => if x14 < x13 then (if 0 ≤ x14 then (if x14 < (x12.length : Int) then ((impl_Name_is.f k ((rd_T33 x12 x14).f0.f0) x103000).bind fun t108 => (if t108 = true then (if x2 = 255 then (if x7.length < 1172812402961 then (impl_Zone_set.l0 k x2 (x7 ++ [(⟨(⟨(rd_T33 x12 x14).f0.f0⟩ : S31), (rd_T33 x12 x14).f1, (rd_T33 x12 x14).f2, (rd_T33 x12 x14).f3, (⟨(rd_T33 x12 x14).f4.f0⟩ : S31), (rd_T33 x12 x14).f5, (rd_T33 x12 x14).f6⟩ : S33)]) x12 x13 (wrap64 (x14 + 1)) x103000) else (none)) else (if ((rd_T33 x12 x14).f1) = x2 then (if x7.length < 1172812402961 then (impl_Zone_set.l0 k x2 (x7 ++ [(⟨(⟨(rd_T33 x12 x14).f0.f0⟩ : S31), (rd_T33 x12 x14).f1, (rd_T33 x12 x14).f2, (rd_T33 x12 x14).f3, (⟨(rd_T33 x12 x14).f4.f0⟩ : S31), (rd_T33 x12 x14).f5, (rd_T33 x12 x14).f6⟩ : S33)]) x12 x13 (wrap64 (x14 + 1)) x103000) else (none)) else (impl_Zone_set.l0 k x2 x7 x12 x13 (wrap64 (x14 + 1)) x103000))) else (impl_Zone_set.l0 k x2 x7 x12 x13 (wrap64 (x14 + 1)) x103000))) else (none)) else (none)) else (some x7)
def impl_Zone_set.f (k : Nat) (l0_0 : List (List Int)) (l0_1 : List (S33)) (l1_0 : List (List Int)) (a2 : Int) : Option ((List (S33))) := impl_Zone_set.l0 k a2 (([] : List (S33))) l0_1 (l0_1.length : Int) 0 l1_0
theorem impl_Zone_set.mono_l : ∀ k, (∀ y0 y1 y2 y3 y4 y5, LeO (impl_Zone_set.l0 k y0 y1 y2 y3 y4 y5) (impl_Zone_set.l0 (k + 1) y0 y1 y2 y3 y4 y5))
 | 0 => fun _ _ _ _ _ _ r h => by simp [impl_Zone_set.l0] at h
 | k + 1 => by
  have ih0 := impl_Zone_set.mono_l k
  ·intro y0 y1 y2 y3 y4 y5
   unfold impl_Zone_set.l0
   repeat' first
   | (with_reducible exact ih0 _ _ _ _ _ _)
   | (with_reducible exact impl_Name_is.mono _ _ _)
   | (with_reducible exact LeO.refl _)
   | (with_reducible exact LeO.none _)
   | (with_reducible refine LeO.ite ?_ ?_)
   | (with_reducible refine LeO.bind ?_ (fun _ => ?_))
   | exact ih0 _ _ _ _ _ _
   | exact impl_Name_is.mono _ _ _
   | exact LeO.none _
   | refine LeO.ite ?_ ?_
   | refine LeO.bind ?_ (fun _ => ?_)
theorem impl_Zone_set.mono : ∀ a0 a1 a2 a3 k, LeO (impl_Zone_set.f k a0 a1 a2 a3) (impl_Zone_set.f (k + 1) a0 a1 a2 a3) := by
 intro a0 a1 a2 a3 k
 have ih0 := impl_Zone_set.mono_l k
 unfold impl_Zone_set.f
 repeat' first
   | (with_reducible exact ih0 _ _ _ _ _ _)
   | (with_reducible exact impl_Name_is.mono _ _ _)
   | (with_reducible exact LeO.refl _)
   | (with_reducible exact LeO.none _)
   | (with_reducible refine LeO.ite ?_ ?_)
   | (with_reducible refine LeO.bind ?_ (fun _ => ?_))
   | exact ih0 _ _ _ _ _ _
   | exact impl_Name_is.mono _ _ _
   | exact LeO.none _
   | refine LeO.ite ?_ ?_
   | refine LeO.bind ?_ (fun _ => ?_)
set_option maxHeartbeats 8000000 in
set_option maxRecDepth 100000 in
theorem impl_Zone_set.calls (k : Nat) (A0_0 : Option Addr) (c0_0 : Nat) (l0_0 : List (List Int)) (P0_1_ : Nat → Prop) (A0_1 : Option Addr) (c0_1 : Nat) (l0_1 : List (S33)) (A1_0 : Option Addr) (c1_0 : Nat) (l1_0 : List (List Int)) (a2 : Int) (r : List (S33)) (w : World) (hr0_0 : Kd.C (Kd.slice 5 (Kd.int .u8)) w A0_0 l0_0.length l0_0) (hc0_0 : l0_0.length ≤ c0_0) (hs0_1 : Kd.V k33 33 w w.heap.size (fun k_ => P0_1_ k_) (.slice A0_1 l0_1.length c0_1) l0_1) (hr1_0 : Kd.C (Kd.slice 5 (Kd.int .u8)) w A1_0 l1_0.length l1_0) (hc1_0 : l1_0.length ≤ c1_0) (h : impl_Zone_set.f k l0_0 l0_1 l1_0 a2 = some r) :
  Calls Try.prog 103 #[.agg #[.slice A0_0 l0_0.length c0_0, .slice A0_1 l0_1.length c0_1], .agg #[.slice A1_0 l1_0.length c1_0], .int .i64 a2] w fun e w' => ∃ v0_ : Value, e = .returned (v0_) ∧ Kd.N k33 33 w' w.heap.size (fun k_ => (P0_1_ k_ ∨ w.heap.size ≤ k_)) v0_ r ∧ Below w.heap.size w w' := by
 have hu59 := Try.underlying59
 have hu31 := Try.underlying31
 have hu33 := Try.underlying33
 have HR0_0 := ak hr0_0
 have HC0_0 := ak hc0_0
 clear hr0_0 hc0_0
 have HO0_1 := ak (show Kd.V k33 33 w w.heap.size (fun k_ => (P0_1_ k_ ∨ w.heap.size ≤ k_)) (.slice A0_1 l0_1.length c0_1) l0_1 from Kd.V_mono hs0_1 (fun k_ hk => .inl hk))
 have HR1_0 := ak hr1_0
 have HC1_0 := ak hc1_0
 clear hr1_0 hc1_0
 have HB := ak (Below.refl w.heap.size w)
 have H : (impl_Zone_set.l0 k a2 (([] : List (S33))) l0_1 (l0_1.length : Int) 0 l1_0) = some r := h
 clear h
 replace H : ∃ y103 : List (S33), y103 = (([] : List (S33))) ∧ (impl_Zone_set.l0 k a2 y103 l0_1 (l0_1.length : Int) 0 l1_0) = some r := ⟨_, rfl, H⟩
 obtain ⟨y103, hy103, H⟩ := H
 have Ny103 := ak hy103
 clear hy103
 have H' := ak H
 clear H
 go_enter Try.func103, Try.ntmps103
 go_wp2_with (first | ((with_reducible refine gate_dst (N := 3) rfl ?_);refine bxe (N := 3) rfl ?_;intro gb101 hg w4 hbox hb;replace HO0_1 := ak (Kd.V_below (Kd.V_elderB (vw HO0_1.out) gb101 (Nat.le_of_eq hg.symm)) hb);have BK101 := ak (hbox);have GW101 := b3 hg HB;have GE101 := GW101;replace HB := b2 HB hb;clear hb hbox hg) | ((with_reducible refine gate_dst (N := 4) rfl ?_);refine bxe (N := 4) rfl ?_;intro gb102 hg w5 hbox hb;replace HO0_1 := ak (Kd.V_below (Kd.V_elderB (vw HO0_1.out) gb102 (Nat.le_of_eq hg.symm)) hb);have BK102 := ak (hbox);have GW102 := b3s hg bs;have GE102 := GW102;replace HB := b2s bs hb;have NB101_102 := b4 hg BK101;have NB102_101 := b5 hg BK101;replace BK101 := b1 BK101 hb;clear hb hbox hg) | ((with_reducible refine gate_dst (N := 10) rfl ?_);refine Kd.N_lit k33 _ 33 ?hg (N' := 10) ?hd (xs := ([] : List (S33))) (inner := []) (ok := (fun k_ => (P0_1_ k_ ∨ w.heap.size ≤ k_) ∧ k_ ≠ gb101 ∧ k_ ≠ gb102)) (okp := (fun k_ => (P0_1_ k_ ∨ w.heap.size ≤ k_) ∧ k_ ≠ gb101 ∧ k_ ≠ gb102)) ?hr ?hp (fun _ hk => hk) ((show ∀ k_, w5.heap.size ≤ k_ → (fun k_ => (P0_1_ k_ ∨ w.heap.size ≤ k_) ∧ k_ ≠ gb101 ∧ k_ ≠ gb102) k_ from fun k_ hk => ⟨(.inr (Nat.le_trans (below_size bs) hk)), Kd.freshB (g := gb101) (o := .cells #[.slice A0_0 l0_0.length c0_0, .slice A0_1 l0_1.length c0_1] 59 (0, 0)) (bk BK101.out) k_ hk, Kd.freshB (g := gb102) (o := .cells #[.slice A1_0 l1_0.length c1_0] 31 (0, 0)) (bk BK102.out) k_ hk⟩) _ (Nat.le_refl _)) (Below.refl _ _) (Nat.le_refl _) (by simp) ?_;(case hd => rfl);(case hg => rfl);(case hr => first | (go_simp; done) | (go_simp; rfl));(case hp => exact (Reps.none _ _));intro v104 w6 ho7 hb hg_ hnew_;clear hg_ hnew_;(first | rw [← Ny103.out] at ho7 | (simp only [Int.reduceToNat] at ho7; rw [← Ny103.out] at ho7));replace HO0_1 := ak (Kd.V_elder' (vw HO0_1.out) (Kd.N_base ho7) hb);have HO105 := ak (Kd.N_lower ho7 (below_size bs));replace BK101 := b1 BK101 hb;replace BK102 := b1 BK102 hb;replace HB := b2s bs hb;clear hb ho7;have hnb8 := NB101_102.out;have hnc8 := NB102_101.out;obtain ⟨hcz9_0, hcz9_1, hfz9_0, hfz9_1⟩ := cells2 BK101.out))
 go_loopg [7, 14] k (fun kq v7 v14 w' => ∃ (x7_1 : List (S33)) (x14_1 : Int), v14 = .int .i64 x14_1 ∧ Aside0 (impl_Zone_set.l0 kq a2 x7_1 l0_1 (l0_1.length : Int) x14_1 l1_0 = some r) ∧ Aside0 (kq ≤ k) ∧ Aside0 (Kd.N k33 33 w' w.heap.size (fun k_ => (P0_1_ k_ ∨ w.heap.size ≤ k_) ∧ k_ ≠ gb101 ∧ k_ ≠ gb102) v7 x7_1) ∧ Aside0 (Kd.V k33 33 w' w.heap.size (fun k_ => (P0_1_ k_ ∨ w.heap.size ≤ k_) ∧ some k_ ≠ (v7 : Value).ownBlock ∧ k_ ≠ gb101 ∧ k_ ≠ gb102) (.slice A0_1 l0_1.length c0_1) l0_1) ∧ Aside0 (Kd.V k33 33 w' w.heap.size (fun k_ => (P0_1_ k_ ∨ w.heap.size ≤ k_) ∧ some k_ ≠ (v7 : Value).ownBlock ∧ k_ ≠ gb101 ∧ k_ ≠ gb102) (.slice A0_1 l0_1.length c0_1) l0_1) ∧ Aside0 (w'.heap[gb101]? = some (.cells #[(.slice A0_0 l0_0.length c0_0), (.slice A0_1 l0_1.length c0_1)] 59 (0, 0))) ∧ Aside0 (w'.heap[gb102]? = some (.cells #[(.slice A1_0 l1_0.length c1_0)] 31 (0, 0))) ∧ Aside0 (Below w.heap.size w w'))
 case atStart => exact ⟨(y103), (0), o2, H', ⟨Nat.le_refl _⟩, ⟨by (with_reducible repeat (first | apply Kd.N_alloc | apply Kd.N_drewN | apply Kd.N_drew)); exact HO105.out⟩, ⟨by (with_reducible repeat (first | apply Kd.V_alloc | apply Kd.V_drewN | apply Kd.V_drew)); exact Kd.V_mono HO0_1.out (fun _ hk => ⟨hk.1.1.1, ⟨hk.2, ⟨hk.1.1.2, hk.1.2⟩⟩⟩)⟩, ⟨by (with_reducible repeat (first | apply Kd.V_alloc | apply Kd.V_drewN | apply Kd.V_drew)); exact Kd.V_mono HO0_1.out (fun _ hk => ⟨hk.1.1.1, ⟨hk.2, ⟨hk.1.1.2, hk.1.2⟩⟩⟩)⟩, ⟨bk BK101.out⟩, ⟨bk BK102.out⟩, ⟨bs⟩⟩
 case round =>
  clear H'
  (try clear hcz9_0)
  (try clear hcz9_1)
  (try clear hfz9_0)
  (try clear hfz9_1)
  obtain ⟨x7_1, x14_1, rfl, HA, HK1, HO_7, HO_12, HO_102001, BK101, BK102, HB⟩ := hrel
  cases gk with
  | zero => exact absurd HA.out (by simp [impl_Zone_set.l0])
  | succ k1 =>
   have H := HA.out
   clear HA
   simp only [impl_Zone_set.l0] at H
   replace H := ip H
   obtain ⟨c10b0, H⟩ | ⟨c10b0, H⟩ := H
   ·replace H := ipN H
    obtain ⟨c11b0, H⟩ := H
    replace H := ipN H
    obtain ⟨c12b0, H⟩ := H
    replace H := bnd H
    obtain ⟨t108, A13, H⟩ := H
    replace H := ib H
    obtain ⟨rfl, H⟩ | ⟨rfl, H⟩ := H
    ·replace H := ie H
     obtain ⟨c15b0, c15b1, H⟩ | ⟨c15b0, c15b1, H⟩ := H
     ·by_cases c16 : x7_1.length < 1172812402961
      ·rw [if_pos c16] at H
       have LMc16 := ak c16
       clear c16
       obtain ⟨y109, hy109⟩ : ∃ y_ : List (S33), y_ = (x7_1 ++ [(⟨(⟨(rd_T33 l0_1 x14_1).f0.f0⟩ : S31), (rd_T33 l0_1 x14_1).f1, (rd_T33 l0_1 x14_1).f2, (rd_T33 l0_1 x14_1).f3, (⟨(rd_T33 l0_1 x14_1).f4.f0⟩ : S31), (rd_T33 l0_1 x14_1).f5, (rd_T33 l0_1 x14_1).f6⟩ : S33)]) := ⟨_, rfl⟩
       (try with_reducible replace H := bnS H)
       (try rw [← hy109] at H)
       have Ny109 := ak hy109
       clear hy109
       have H' := ak H
       clear H
       have p106 : 0 ≤ (x14_1 : Int) := of_decide_eq_true (by first | (with_reducible assumption) | assumption)
       have q106 : x14_1 < (l0_1.length : Int) := of_decide_eq_true (by first | (with_reducible assumption) | assumption)
       obtain ⟨ad106, A106_0, c106_0, A106_4, c106_4, A106_5, c106_5, A106_6, c106_6, e106, hx106_0, hx106_1, hx106_2, hx106_3, hx106_4, hx106_5, hx106_6, hl106_0, hi106_0, hl106_4, hi106_4, hl106_5, hi106_5, hl106_6, hi106_6⟩ := at_T33 (Kd.V_reads' HO_12.out).2.2 x14_1 p106 q106
       cases e106
       obtain ⟨ce106, hce106, hMe106, hcc106⟩ := Kd.V_get HO_12.out z33 x14_1 p106 (by first | exact q106 | exact of_decide_eq_true (by first | (with_reducible assumption) | assumption) | (have e_ := (Kd.V_reads' HO_12.out).1; omega))
       obtain ⟨ua106_0, uc106_0, ua106_4, uc106_4, ua106_5, uc106_5, ua106_6, uc106_6, rfl, ul106_0, ge106_0, ul106_4, ge106_4, ul106_5, ge106_5, ul106_6, ge106_6⟩ := k33_openF hMe106
       have hv106_0 := hcc106 0 _ rfl
       rw [Nat.add_zero] at hv106_0
       replace hv106_0 := Option.some.inj (hv106_0.symm.trans hx106_0)
       injection hv106_0 with hva_ hvn_ hvc_
       rw [hva_] at ge106_0
       rw [hvc_] at ul106_0
       have HL106_0 := ak (show Kd.V (Kd.slice 5 (Kd.int .u8)) 25 _ w.heap.size _ _ ((rd_T33 l0_1 x14_1).f0.f0) from Kd.V_mk ul106_0 ge106_0)
       clear hva_ hvn_ hvc_ ge106_0 ul106_0
       have hv106_4 := hcc106 4 _ rfl
       rw [add_field _ _ 4 (by omega)] at hv106_4
       replace hv106_4 := Option.some.inj (hv106_4.symm.trans hx106_4)
       injection hv106_4 with hva_ hvn_ hvc_
       rw [hva_] at ge106_4
       rw [hvc_] at ul106_4
       have HL106_4 := ak (show Kd.V (Kd.slice 5 (Kd.int .u8)) 25 _ w.heap.size _ _ ((rd_T33 l0_1 x14_1).f4.f0) from Kd.V_mk ul106_4 ge106_4)
       clear hva_ hvn_ hvc_ ge106_4 ul106_4
       have hv106_5 := hcc106 5 _ rfl
       rw [add_field _ _ 5 (by omega)] at hv106_5
       replace hv106_5 := Option.some.inj (hv106_5.symm.trans hx106_5)
       injection hv106_5 with hva_ hvn_ hvc_
       rw [hva_] at ge106_5
       rw [hvc_] at ul106_5
       have HL106_5 := ak (show Kd.V (Kd.int .u8) 5 _ w.heap.size _ _ ((rd_T33 l0_1 x14_1).f5) from Kd.V_mk ul106_5 ge106_5)
       clear hva_ hvn_ hvc_ ge106_5 ul106_5
       have hv106_6 := hcc106 6 _ rfl
       rw [add_field _ _ 6 (by omega)] at hv106_6
       replace hv106_6 := Option.some.inj (hv106_6.symm.trans hx106_6)
       injection hv106_6 with hva_ hvn_ hvc_
       rw [hva_] at ge106_6
       rw [hvc_] at ul106_6
       have HL106_6 := ak (show Kd.V (Kd.int .i64) 3 _ w.heap.size _ _ ((rd_T33 l0_1 x14_1).f6) from Kd.V_mk ul106_6 ge106_6)
       clear hva_ hvn_ hvc_ ge106_6 ul106_6 hcc106 hce106
       have HR106_0 := ak hi106_0
       have HC106_0 := ak hl106_0
       clear hi106_0 hl106_0
       have HR106_4 := ak hi106_4
       have HC106_4 := ak hl106_4
       clear hi106_4 hl106_4
       have HR106_5 := ak hi106_5
       have HC106_5 := ak hl106_5
       clear hi106_5 hl106_5
       have HR106_6 := ak hi106_6
       have HC106_6 := ak hl106_6
       clear hi106_6 hl106_6
       replace p106 := eq_true p106
       replace q106 := eq_true q106
       go_wp2_with (first | ((with_reducible refine gate_dst (N := 9) rfl ?_);refine bxe (N := 9) rfl ?_;intro gb107 hg w17 hbox hb;replace HO_7 := ak (Kd.N_below (Kd.N_elderB (nw HO_7.out) gb107 (Nat.le_of_eq hg.symm)) hb);replace HO_12 := ak (Kd.V_below (Kd.V_elderB (vw HO_12.out) gb107 (Nat.le_of_eq hg.symm)) hb);replace HO_102001 := ak (Kd.V_below (Kd.V_elderB (vw HO_102001.out) gb107 (Nat.le_of_eq hg.symm)) hb);replace HL106_0 := ak (Kd.V_below (Kd.V_elderB (vw HL106_0.out) gb107 (Nat.le_of_eq hg.symm)) hb);replace HL106_4 := ak (Kd.V_below (Kd.V_elderB (vw HL106_4.out) gb107 (Nat.le_of_eq hg.symm)) hb);replace HL106_5 := ak (Kd.V_below (Kd.V_elderB (vw HL106_5.out) gb107 (Nat.le_of_eq hg.symm)) hb);replace HL106_6 := ak (Kd.V_below (Kd.V_elderB (vw HL106_6.out) gb107 (Nat.le_of_eq hg.symm)) hb);replace HR106_0 := ak (Kd.C_below (by repeat (first | (with_reducible exact HR106_0.out) | (with_reducible refine Kd.C_alloc ?_ _) | (with_reducible refine Kd.C_drewN ?_ _) | (with_reducible refine Kd.C_drew ?_) | exact HR106_0.out)) hb);replace HR106_4 := ak (Kd.C_below (by repeat (first | (with_reducible exact HR106_4.out) | (with_reducible refine Kd.C_alloc ?_ _) | (with_reducible refine Kd.C_drewN ?_ _) | (with_reducible refine Kd.C_drew ?_) | exact HR106_4.out)) hb);replace HR106_5 := ak (Kd.C_below (by repeat (first | (with_reducible exact HR106_5.out) | (with_reducible refine Kd.C_alloc ?_ _) | (with_reducible refine Kd.C_drewN ?_ _) | (with_reducible refine Kd.C_drew ?_) | exact HR106_5.out)) hb);replace HR106_6 := ak (Kd.C_below (by repeat (first | (with_reducible exact HR106_6.out) | (with_reducible refine Kd.C_alloc ?_ _) | (with_reducible refine Kd.C_drewN ?_ _) | (with_reducible refine Kd.C_drew ?_) | exact HR106_6.out)) hb);have BK107 := ak (hbox);have GW107 := b3s hg bs;have GE107 := GW107;replace HB := b2s bs hb;have NB101_107 := b4 hg BK101;have NB107_101 := b5 hg BK101;replace BK101 := b1 BK101 hb;have NB102_107 := b4 hg BK102;have NB107_102 := b5 hg BK102;replace BK102 := b1 BK102 hb;clear hb hbox hg;have hnb18 := NB107_101.out;have hnc18 := NB101_107.out;have hnb19 := NB107_102.out;have hnc19 := NB102_107.out;obtain ⟨hcz20_0, hcz20_1, hcz20_2, hcz20_3, hcz20_4, hcz20_5, hcz20_6, hfz20_0, hfz20_1, hfz20_2, hfz20_3, hfz20_4, hfz20_5, hfz20_6⟩ := cells7 BK107.out;have hnb21 := NB102_101.out;have hnc21 := NB101_102.out;obtain ⟨hcz22_0, hfz22_0⟩ := cells1 BK102.out) | ((with_reducible refine gate_callee (f := 102) rfl ?_);refine glB 21 rfl rfl Try.func102 (impl_Name_is.calls k1 _ _ ((rd_T33 l0_1 x14_1).f0.f0) _ _ l1_0 true _ ?side1 HC106_0.out (Kd.C_below HR1_0.out bs) HC1_0.out A13.out) (fun w23 hb => ?_);(case side1 => repeat (first | exact ((Kd.V_reads' (far7V HL106_0.out (fun k_ hk => hk.2))).2.2) | (with_reducible refine Kd.C_alloc ?_ _) | (with_reducible refine Kd.C_drewN ?_ _) | (with_reducible refine Kd.C_drew ?_)));replace HO_7 := ak (Kd.N_below (far7N HO_7.out (fun k_ hk => hk.2)) hb);replace HO_12 := ak (Kd.V_below (far7V HO_12.out (fun k_ hk => hk.2)) hb);replace HO_102001 := ak (Kd.V_below (far7V HO_102001.out (fun k_ hk => hk.2)) hb);replace BK101 := ak (blk_below (bfar7 NB101_107.out BK101.out) hb);replace BK102 := ak (blk_below (bfar7 NB102_107.out BK102.out) hb);replace HR106_0 := ak (Kd.C_below ((Kd.V_reads' (far7V HL106_0.out (fun k_ hk => hk.2))).2.2) hb);replace HL106_0 := ak (Kd.V_below (far7V HL106_0.out (fun k_ hk => hk.2)) hb);replace HR106_4 := ak (Kd.C_below ((Kd.V_reads' (far7V HL106_4.out (fun k_ hk => hk.2))).2.2) hb);replace HL106_4 := ak (Kd.V_below (far7V HL106_4.out (fun k_ hk => hk.2)) hb);replace HR106_5 := ak (Kd.C_below ((Kd.V_reads' (far7V HL106_5.out (fun k_ hk => hk.2))).2.2) hb);replace HL106_5 := ak (Kd.V_below (far7V HL106_5.out (fun k_ hk => hk.2)) hb);replace HR106_6 := ak (Kd.C_below ((Kd.V_reads' (far7V HL106_6.out (fun k_ hk => hk.2))).2.2) hb);replace HL106_6 := ak (Kd.V_below (far7V HL106_6.out (fun k_ hk => hk.2)) hb);replace BK107 := ak (blk_below (bput7 BK107.out) hb);replace HB := b2s bs hb;(try clear hb);(try clear hb2);(try clear hk);(try clear hi);obtain ⟨hcz24_0, hcz24_1, hcz24_2, hcz24_3, hcz24_4, hcz24_5, hcz24_6, hfz24_0, hfz24_1, hfz24_2, hfz24_3, hfz24_4, hfz24_5, hfz24_6⟩ := cells7 BK107.out) | ((with_reducible refine gate_builtin (b := .append) (xs := #[.tmp 32, .tmp 34]) rfl ?_);at_builtin;refine Kd.N_append k33 (w0 := w) w.heap.size rfl (.tmp 32) (.tmp 34) 57 33 (.agg #[(.slice none 0 0), (.int .i64 0), (.int .i64 0), (.int .i64 0), (.slice none 0 0), (.slice none 0 0), (.slice none 0 0)]) 120 rfl Try.underlying57 info33 rfl (by decide) (by omega) u7 x7_1 (⟨(⟨(rd_T33 l0_1 x14_1).f0.f0⟩ : S31), (rd_T33 l0_1 x14_1).f1, (rd_T33 l0_1 x14_1).f2, (rd_T33 l0_1 x14_1).f3, (⟨(rd_T33 l0_1 x14_1).f4.f0⟩ : S31), (rd_T33 l0_1 x14_1).f5, (rd_T33 l0_1 x14_1).f6⟩ : S33) [.slice A106_0 ((rd_T33 l0_1 x14_1).f0.f0).length c106_0, .int .i64 ((rd_T33 l0_1 x14_1).f1), .int .i64 ((rd_T33 l0_1 x14_1).f2), .int .i64 ((rd_T33 l0_1 x14_1).f3), .slice A106_4 ((rd_T33 l0_1 x14_1).f4.f0).length c106_4, .slice A106_5 ((rd_T33 l0_1 x14_1).f5).length c106_5, .slice A106_6 ((rd_T33 l0_1 x14_1).f6).length c106_6] (fun k_ => (P0_1_ k_ ∨ w.heap.size ≤ k_) ∧ k_ ≠ gb101 ∧ k_ ≠ gb102 ∧ k_ ≠ gb107) (fun k_ => ((fun k_ => (P0_1_ k_ ∨ w.heap.size ≤ k_) ∧ k_ ≠ gb101 ∧ k_ ≠ gb102 ∧ k_ ≠ gb107)) k_ ∧ some k_ ≠ (u7 : Value).ownBlock) rfl rfl ?aP (fun _ hk => hk) ?aF ?aO ?aB ?aS ?aL ?_;(case aP => exact (k33_mkF _ _ (⟨(⟨(rd_T33 l0_1 x14_1).f0.f0⟩ : S31), (rd_T33 l0_1 x14_1).f1, (rd_T33 l0_1 x14_1).f2, (rd_T33 l0_1 x14_1).f3, (⟨(rd_T33 l0_1 x14_1).f4.f0⟩ : S31), (rd_T33 l0_1 x14_1).f5, (rd_T33 l0_1 x14_1).f6⟩ : S33) (Kd.V_reads' (Kd.V_mono (ok' := (fun k_ => ((fun k_ => (P0_1_ k_ ∨ w.heap.size ≤ k_) ∧ k_ ≠ gb101 ∧ k_ ≠ gb102 ∧ k_ ≠ gb107)) k_ ∧ some k_ ≠ (u7 : Value).ownBlock)) (HL106_0.out) (fun k_ hk => ⟨⟨hk.1.1, ⟨hk.1.2.2.1, ⟨hk.1.2.2.2, hk.2⟩⟩⟩, hk.1.2.1⟩))).2.1 (Kd.V_F (Kd.V_mono (ok' := (fun k_ => ((fun k_ => (P0_1_ k_ ∨ w.heap.size ≤ k_) ∧ k_ ≠ gb101 ∧ k_ ≠ gb102 ∧ k_ ≠ gb107)) k_ ∧ some k_ ≠ (u7 : Value).ownBlock)) (HL106_0.out) (fun k_ hk => ⟨⟨hk.1.1, ⟨hk.1.2.2.1, ⟨hk.1.2.2.2, hk.2⟩⟩⟩, hk.1.2.1⟩))) (Kd.V_reads' (Kd.V_mono (ok' := (fun k_ => ((fun k_ => (P0_1_ k_ ∨ w.heap.size ≤ k_) ∧ k_ ≠ gb101 ∧ k_ ≠ gb102 ∧ k_ ≠ gb107)) k_ ∧ some k_ ≠ (u7 : Value).ownBlock)) (HL106_4.out) (fun k_ hk => ⟨⟨hk.1.1, ⟨hk.1.2.2.1, ⟨hk.1.2.2.2, hk.2⟩⟩⟩, hk.1.2.1⟩))).2.1 (Kd.V_F (Kd.V_mono (ok' := (fun k_ => ((fun k_ => (P0_1_ k_ ∨ w.heap.size ≤ k_) ∧ k_ ≠ gb101 ∧ k_ ≠ gb102 ∧ k_ ≠ gb107)) k_ ∧ some k_ ≠ (u7 : Value).ownBlock)) (HL106_4.out) (fun k_ hk => ⟨⟨hk.1.1, ⟨hk.1.2.2.1, ⟨hk.1.2.2.2, hk.2⟩⟩⟩, hk.1.2.1⟩))) (Kd.V_reads' (Kd.V_mono (ok' := (fun k_ => ((fun k_ => (P0_1_ k_ ∨ w.heap.size ≤ k_) ∧ k_ ≠ gb101 ∧ k_ ≠ gb102 ∧ k_ ≠ gb107)) k_ ∧ some k_ ≠ (u7 : Value).ownBlock)) (HL106_5.out) (fun k_ hk => ⟨⟨hk.1.1, ⟨hk.1.2.2.1, ⟨hk.1.2.2.2, hk.2⟩⟩⟩, hk.1.2.1⟩))).2.1 (Kd.V_F (Kd.V_mono (ok' := (fun k_ => ((fun k_ => (P0_1_ k_ ∨ w.heap.size ≤ k_) ∧ k_ ≠ gb101 ∧ k_ ≠ gb102 ∧ k_ ≠ gb107)) k_ ∧ some k_ ≠ (u7 : Value).ownBlock)) (HL106_5.out) (fun k_ hk => ⟨⟨hk.1.1, ⟨hk.1.2.2.1, ⟨hk.1.2.2.2, hk.2⟩⟩⟩, hk.1.2.1⟩))) (Kd.V_reads' (Kd.V_mono (ok' := (fun k_ => ((fun k_ => (P0_1_ k_ ∨ w.heap.size ≤ k_) ∧ k_ ≠ gb101 ∧ k_ ≠ gb102 ∧ k_ ≠ gb107)) k_ ∧ some k_ ≠ (u7 : Value).ownBlock)) (HL106_6.out) (fun k_ hk => ⟨⟨hk.1.1, ⟨hk.1.2.2.1, ⟨hk.1.2.2.2, hk.2⟩⟩⟩, hk.1.2.1⟩))).2.1 (Kd.V_F (Kd.V_mono (ok' := (fun k_ => ((fun k_ => (P0_1_ k_ ∨ w.heap.size ≤ k_) ∧ k_ ≠ gb101 ∧ k_ ≠ gb102 ∧ k_ ≠ gb107)) k_ ∧ some k_ ≠ (u7 : Value).ownBlock)) (HL106_6.out) (fun k_ hk => ⟨⟨hk.1.1, ⟨hk.1.2.2.1, ⟨hk.1.2.2.2, hk.2⟩⟩⟩, hk.1.2.1⟩)))));(case aB => exact bs);(case aF => exact (fun k_ hk => ⟨(.inr (Nat.le_trans (below_size bs) hk)), Kd.freshB (g := gb101) (o := .cells #[.slice A0_0 l0_0.length c0_0, .slice (some ad106) l0_1.length c0_1] 59 (0, 0)) (bk BK101.out) k_ hk, Kd.freshB (g := gb102) (o := .cells #[.slice A1_0 l1_0.length c1_0] 31 (0, 0)) (bk BK102.out) k_ hk, Kd.freshB (g := gb107) (o := .cells #[.slice A106_0 ((rd_T33 l0_1 x14_1).f0.f0).length c106_0, .int .i64 ((rd_T33 l0_1 x14_1).f1), .int .i64 ((rd_T33 l0_1 x14_1).f2), .int .i64 ((rd_T33 l0_1 x14_1).f3), .slice A106_4 ((rd_T33 l0_1 x14_1).f4.f0).length c106_4, .slice A106_5 ((rd_T33 l0_1 x14_1).f5).length c106_5, .slice A106_6 ((rd_T33 l0_1 x14_1).f6).length c106_6] 33 (0, 0)) (bk BK107.out) k_ hk⟩));(case aO => exact (nw (Kd.N_mono HO_7.out (fun _ hk => ⟨hk.1.1, ⟨hk.1.2.1, ⟨hk.1.2.2, hk.2⟩⟩⟩))));(case aS => exact (below_size bs));(case aL => have := LMc16.out; omega);intro v110 w25 ho hb hg hat;rw [← Ny109.out] at ho;replace HO_12 := ak (Kd.V_afterv (ok := (fun k_ => (P0_1_ k_ ∨ w.heap.size ≤ k_) ∧ k_ ≠ gb101 ∧ k_ ≠ gb102 ∧ k_ ≠ gb107)) (vw (Kd.V_mono HO_12.out (fun _ hk => ⟨⟨hk.1.1, ⟨hk.1.2.2.1, ⟨hk.1.2.2.2, hk.2⟩⟩⟩, hk.1.2.1⟩))) hg hat);replace HO_102001 := ak (Kd.V_afterv (ok := (fun k_ => (P0_1_ k_ ∨ w.heap.size ≤ k_) ∧ k_ ≠ gb101 ∧ k_ ≠ gb102 ∧ k_ ≠ gb107)) (vw (Kd.V_mono HO_102001.out (fun _ hk => ⟨⟨hk.1.1, ⟨hk.1.2.2.1, ⟨hk.1.2.2.2, hk.2⟩⟩⟩, hk.1.2.1⟩))) hg hat);replace BK101 := ak (blk_grown (bk BK101.out) hg (Kd.N_ne HO_7.out BK101.out (by decide)));replace BK102 := ak (blk_grown (bk BK102.out) hg (Kd.N_ne HO_7.out BK102.out (by decide)));replace HL106_0 := ak (Kd.V_afterv (ok := (fun k_ => (P0_1_ k_ ∨ w.heap.size ≤ k_) ∧ k_ ≠ gb101 ∧ k_ ≠ gb102 ∧ k_ ≠ gb107)) (vw (Kd.V_mono HL106_0.out (fun _ hk => ⟨⟨hk.1.1, ⟨hk.1.2.2.1, ⟨hk.1.2.2.2, hk.2⟩⟩⟩, hk.1.2.1⟩))) hg hat);replace HL106_4 := ak (Kd.V_afterv (ok := (fun k_ => (P0_1_ k_ ∨ w.heap.size ≤ k_) ∧ k_ ≠ gb101 ∧ k_ ≠ gb102 ∧ k_ ≠ gb107)) (vw (Kd.V_mono HL106_4.out (fun _ hk => ⟨⟨hk.1.1, ⟨hk.1.2.2.1, ⟨hk.1.2.2.2, hk.2⟩⟩⟩, hk.1.2.1⟩))) hg hat);replace HL106_5 := ak (Kd.V_afterv (ok := (fun k_ => (P0_1_ k_ ∨ w.heap.size ≤ k_) ∧ k_ ≠ gb101 ∧ k_ ≠ gb102 ∧ k_ ≠ gb107)) (vw (Kd.V_mono HL106_5.out (fun _ hk => ⟨⟨hk.1.1, ⟨hk.1.2.2.1, ⟨hk.1.2.2.2, hk.2⟩⟩⟩, hk.1.2.1⟩))) hg hat);replace HL106_6 := ak (Kd.V_afterv (ok := (fun k_ => (P0_1_ k_ ∨ w.heap.size ≤ k_) ∧ k_ ≠ gb101 ∧ k_ ≠ gb102 ∧ k_ ≠ gb107)) (vw (Kd.V_mono HL106_6.out (fun _ hk => ⟨⟨hk.1.1, ⟨hk.1.2.2.1, ⟨hk.1.2.2.2, hk.2⟩⟩⟩, hk.1.2.1⟩))) hg hat);replace BK107 := ak (blk_grown (bk BK107.out) hg (Kd.N_away HO_7.out (fun _ hk => hk.2)));replace HB := ak (hb);have HO111 := ak (ho);clear HO_7;clear ho hb hg hat))
       go_roundg k1
       case measure => have := HK1.out; omega
       case rel => exact ⟨(y109), (wrap64 (x14_1 + 1)), o2, H', ⟨by have := HK1.out; omega⟩, ⟨by (with_reducible repeat (first | apply Kd.N_alloc | apply Kd.N_drewN | apply Kd.N_drew)); exact Kd.N_mono HO111.out (fun _ hk => ⟨hk.1, ⟨hk.2.1, hk.2.2.1⟩⟩)⟩, ⟨by (with_reducible repeat (first | apply Kd.V_alloc | apply Kd.V_drewN | apply Kd.V_drew)); exact Kd.V_mono HO_12.out (fun _ hk => ⟨hk.1.1, ⟨hk.2, ⟨hk.1.2.1, hk.1.2.2.1⟩⟩⟩)⟩, ⟨by (with_reducible repeat (first | apply Kd.V_alloc | apply Kd.V_drewN | apply Kd.V_drew)); exact Kd.V_mono HO_102001.out (fun _ hk => ⟨hk.1.1, ⟨hk.2, ⟨hk.1.2.1, hk.1.2.2.1⟩⟩⟩)⟩, ⟨bk BK101.out⟩, ⟨bk BK102.out⟩, ⟨bs⟩⟩
      ·rw [if_neg c16] at H
       exact absurd H (by simp)
     ·replace H := ie H
      obtain ⟨c26b0, c26b1, H⟩ | ⟨c26b0, c26b1, H⟩ := H
      ·by_cases c27 : x7_1.length < 1172812402961
       ·rw [if_pos c27] at H
        have LMc27 := ak c27
        clear c27
        obtain ⟨y112, hy112⟩ : ∃ y_ : List (S33), y_ = (x7_1 ++ [(⟨(⟨(rd_T33 l0_1 x14_1).f0.f0⟩ : S31), (rd_T33 l0_1 x14_1).f1, (rd_T33 l0_1 x14_1).f2, (rd_T33 l0_1 x14_1).f3, (⟨(rd_T33 l0_1 x14_1).f4.f0⟩ : S31), (rd_T33 l0_1 x14_1).f5, (rd_T33 l0_1 x14_1).f6⟩ : S33)]) := ⟨_, rfl⟩
        (try with_reducible replace H := bnS H)
        (try rw [← hy112] at H)
        have Ny112 := ak hy112
        clear hy112
        have H' := ak H
        clear H
        have p106 : 0 ≤ (x14_1 : Int) := of_decide_eq_true (by first | (with_reducible assumption) | assumption)
        have q106 : x14_1 < (l0_1.length : Int) := of_decide_eq_true (by first | (with_reducible assumption) | assumption)
        obtain ⟨ad106, A106_0, c106_0, A106_4, c106_4, A106_5, c106_5, A106_6, c106_6, e106, hx106_0, hx106_1, hx106_2, hx106_3, hx106_4, hx106_5, hx106_6, hl106_0, hi106_0, hl106_4, hi106_4, hl106_5, hi106_5, hl106_6, hi106_6⟩ := at_T33 (Kd.V_reads' HO_12.out).2.2 x14_1 p106 q106
        cases e106
        obtain ⟨ce106, hce106, hMe106, hcc106⟩ := Kd.V_get HO_12.out z33 x14_1 p106 (by first | exact q106 | exact of_decide_eq_true (by first | (with_reducible assumption) | assumption) | (have e_ := (Kd.V_reads' HO_12.out).1; omega))
        obtain ⟨ua106_0, uc106_0, ua106_4, uc106_4, ua106_5, uc106_5, ua106_6, uc106_6, rfl, ul106_0, ge106_0, ul106_4, ge106_4, ul106_5, ge106_5, ul106_6, ge106_6⟩ := k33_openF hMe106
        have hv106_0 := hcc106 0 _ rfl
        rw [Nat.add_zero] at hv106_0
        replace hv106_0 := Option.some.inj (hv106_0.symm.trans hx106_0)
        injection hv106_0 with hva_ hvn_ hvc_
        rw [hva_] at ge106_0
        rw [hvc_] at ul106_0
        have HL106_0 := ak (show Kd.V (Kd.slice 5 (Kd.int .u8)) 25 _ w.heap.size _ _ ((rd_T33 l0_1 x14_1).f0.f0) from Kd.V_mk ul106_0 ge106_0)
        clear hva_ hvn_ hvc_ ge106_0 ul106_0
        have hv106_4 := hcc106 4 _ rfl
        rw [add_field _ _ 4 (by omega)] at hv106_4
        replace hv106_4 := Option.some.inj (hv106_4.symm.trans hx106_4)
        injection hv106_4 with hva_ hvn_ hvc_
        rw [hva_] at ge106_4
        rw [hvc_] at ul106_4
        have HL106_4 := ak (show Kd.V (Kd.slice 5 (Kd.int .u8)) 25 _ w.heap.size _ _ ((rd_T33 l0_1 x14_1).f4.f0) from Kd.V_mk ul106_4 ge106_4)
        clear hva_ hvn_ hvc_ ge106_4 ul106_4
        have hv106_5 := hcc106 5 _ rfl
        rw [add_field _ _ 5 (by omega)] at hv106_5
        replace hv106_5 := Option.some.inj (hv106_5.symm.trans hx106_5)
        injection hv106_5 with hva_ hvn_ hvc_
        rw [hva_] at ge106_5
        rw [hvc_] at ul106_5
        have HL106_5 := ak (show Kd.V (Kd.int .u8) 5 _ w.heap.size _ _ ((rd_T33 l0_1 x14_1).f5) from Kd.V_mk ul106_5 ge106_5)
        clear hva_ hvn_ hvc_ ge106_5 ul106_5
        have hv106_6 := hcc106 6 _ rfl
        rw [add_field _ _ 6 (by omega)] at hv106_6
        replace hv106_6 := Option.some.inj (hv106_6.symm.trans hx106_6)
        injection hv106_6 with hva_ hvn_ hvc_
        rw [hva_] at ge106_6
        rw [hvc_] at ul106_6
        have HL106_6 := ak (show Kd.V (Kd.int .i64) 3 _ w.heap.size _ _ ((rd_T33 l0_1 x14_1).f6) from Kd.V_mk ul106_6 ge106_6)
        clear hva_ hvn_ hvc_ ge106_6 ul106_6 hcc106 hce106
        have HR106_0 := ak hi106_0
        have HC106_0 := ak hl106_0
        clear hi106_0 hl106_0
        have HR106_4 := ak hi106_4
        have HC106_4 := ak hl106_4
        clear hi106_4 hl106_4
        have HR106_5 := ak hi106_5
        have HC106_5 := ak hl106_5
        clear hi106_5 hl106_5
        have HR106_6 := ak hi106_6
        have HC106_6 := ak hl106_6
        clear hi106_6 hl106_6
        replace p106 := eq_true p106
        replace q106 := eq_true q106
        go_wp2_with (first | ((with_reducible refine gate_dst (N := 9) rfl ?_);refine bxe (N := 9) rfl ?_;intro gb107 hg w28 hbox hb;replace HO_7 := ak (Kd.N_below (Kd.N_elderB (nw HO_7.out) gb107 (Nat.le_of_eq hg.symm)) hb);replace HO_12 := ak (Kd.V_below (Kd.V_elderB (vw HO_12.out) gb107 (Nat.le_of_eq hg.symm)) hb);replace HO_102001 := ak (Kd.V_below (Kd.V_elderB (vw HO_102001.out) gb107 (Nat.le_of_eq hg.symm)) hb);replace HL106_0 := ak (Kd.V_below (Kd.V_elderB (vw HL106_0.out) gb107 (Nat.le_of_eq hg.symm)) hb);replace HL106_4 := ak (Kd.V_below (Kd.V_elderB (vw HL106_4.out) gb107 (Nat.le_of_eq hg.symm)) hb);replace HL106_5 := ak (Kd.V_below (Kd.V_elderB (vw HL106_5.out) gb107 (Nat.le_of_eq hg.symm)) hb);replace HL106_6 := ak (Kd.V_below (Kd.V_elderB (vw HL106_6.out) gb107 (Nat.le_of_eq hg.symm)) hb);replace HR106_0 := ak (Kd.C_below (by repeat (first | (with_reducible exact HR106_0.out) | (with_reducible refine Kd.C_alloc ?_ _) | (with_reducible refine Kd.C_drewN ?_ _) | (with_reducible refine Kd.C_drew ?_) | exact HR106_0.out)) hb);replace HR106_4 := ak (Kd.C_below (by repeat (first | (with_reducible exact HR106_4.out) | (with_reducible refine Kd.C_alloc ?_ _) | (with_reducible refine Kd.C_drewN ?_ _) | (with_reducible refine Kd.C_drew ?_) | exact HR106_4.out)) hb);replace HR106_5 := ak (Kd.C_below (by repeat (first | (with_reducible exact HR106_5.out) | (with_reducible refine Kd.C_alloc ?_ _) | (with_reducible refine Kd.C_drewN ?_ _) | (with_reducible refine Kd.C_drew ?_) | exact HR106_5.out)) hb);replace HR106_6 := ak (Kd.C_below (by repeat (first | (with_reducible exact HR106_6.out) | (with_reducible refine Kd.C_alloc ?_ _) | (with_reducible refine Kd.C_drewN ?_ _) | (with_reducible refine Kd.C_drew ?_) | exact HR106_6.out)) hb);have BK107 := ak (hbox);have GW107 := b3s hg bs;have GE107 := GW107;replace HB := b2s bs hb;have NB101_107 := b4 hg BK101;have NB107_101 := b5 hg BK101;replace BK101 := b1 BK101 hb;have NB102_107 := b4 hg BK102;have NB107_102 := b5 hg BK102;replace BK102 := b1 BK102 hb;clear hb hbox hg;have hnb29 := NB107_101.out;have hnc29 := NB101_107.out;have hnb30 := NB107_102.out;have hnc30 := NB102_107.out;obtain ⟨hcz31_0, hcz31_1, hcz31_2, hcz31_3, hcz31_4, hcz31_5, hcz31_6, hfz31_0, hfz31_1, hfz31_2, hfz31_3, hfz31_4, hfz31_5, hfz31_6⟩ := cells7 BK107.out;have hnb32 := NB102_101.out;have hnc32 := NB101_102.out;obtain ⟨hcz33_0, hfz33_0⟩ := cells1 BK102.out) | ((with_reducible refine gate_callee (f := 102) rfl ?_);refine glB 21 rfl rfl Try.func102 (impl_Name_is.calls k1 _ _ ((rd_T33 l0_1 x14_1).f0.f0) _ _ l1_0 true _ ?side1 HC106_0.out (Kd.C_below HR1_0.out bs) HC1_0.out A13.out) (fun w34 hb => ?_);(case side1 => repeat (first | exact ((Kd.V_reads' (far7V HL106_0.out (fun k_ hk => hk.2))).2.2) | (with_reducible refine Kd.C_alloc ?_ _) | (with_reducible refine Kd.C_drewN ?_ _) | (with_reducible refine Kd.C_drew ?_)));replace HO_7 := ak (Kd.N_below (far7N HO_7.out (fun k_ hk => hk.2)) hb);replace HO_12 := ak (Kd.V_below (far7V HO_12.out (fun k_ hk => hk.2)) hb);replace HO_102001 := ak (Kd.V_below (far7V HO_102001.out (fun k_ hk => hk.2)) hb);replace BK101 := ak (blk_below (bfar7 NB101_107.out BK101.out) hb);replace BK102 := ak (blk_below (bfar7 NB102_107.out BK102.out) hb);replace HR106_0 := ak (Kd.C_below ((Kd.V_reads' (far7V HL106_0.out (fun k_ hk => hk.2))).2.2) hb);replace HL106_0 := ak (Kd.V_below (far7V HL106_0.out (fun k_ hk => hk.2)) hb);replace HR106_4 := ak (Kd.C_below ((Kd.V_reads' (far7V HL106_4.out (fun k_ hk => hk.2))).2.2) hb);replace HL106_4 := ak (Kd.V_below (far7V HL106_4.out (fun k_ hk => hk.2)) hb);replace HR106_5 := ak (Kd.C_below ((Kd.V_reads' (far7V HL106_5.out (fun k_ hk => hk.2))).2.2) hb);replace HL106_5 := ak (Kd.V_below (far7V HL106_5.out (fun k_ hk => hk.2)) hb);replace HR106_6 := ak (Kd.C_below ((Kd.V_reads' (far7V HL106_6.out (fun k_ hk => hk.2))).2.2) hb);replace HL106_6 := ak (Kd.V_below (far7V HL106_6.out (fun k_ hk => hk.2)) hb);replace BK107 := ak (blk_below (bput7 BK107.out) hb);replace HB := b2s bs hb;(try clear hb);(try clear hb2);(try clear hk);(try clear hi);obtain ⟨hcz35_0, hcz35_1, hcz35_2, hcz35_3, hcz35_4, hcz35_5, hcz35_6, hfz35_0, hfz35_1, hfz35_2, hfz35_3, hfz35_4, hfz35_5, hfz35_6⟩ := cells7 BK107.out) | ((with_reducible refine gate_builtin (b := .append) (xs := #[.tmp 32, .tmp 34]) rfl ?_);at_builtin;refine Kd.N_append k33 (w0 := w) w.heap.size rfl (.tmp 32) (.tmp 34) 57 33 (.agg #[(.slice none 0 0), (.int .i64 0), (.int .i64 0), (.int .i64 0), (.slice none 0 0), (.slice none 0 0), (.slice none 0 0)]) 120 rfl Try.underlying57 info33 rfl (by decide) (by omega) u7 x7_1 (⟨(⟨(rd_T33 l0_1 x14_1).f0.f0⟩ : S31), (rd_T33 l0_1 x14_1).f1, (rd_T33 l0_1 x14_1).f2, (rd_T33 l0_1 x14_1).f3, (⟨(rd_T33 l0_1 x14_1).f4.f0⟩ : S31), (rd_T33 l0_1 x14_1).f5, (rd_T33 l0_1 x14_1).f6⟩ : S33) [.slice A106_0 ((rd_T33 l0_1 x14_1).f0.f0).length c106_0, .int .i64 ((rd_T33 l0_1 x14_1).f1), .int .i64 ((rd_T33 l0_1 x14_1).f2), .int .i64 ((rd_T33 l0_1 x14_1).f3), .slice A106_4 ((rd_T33 l0_1 x14_1).f4.f0).length c106_4, .slice A106_5 ((rd_T33 l0_1 x14_1).f5).length c106_5, .slice A106_6 ((rd_T33 l0_1 x14_1).f6).length c106_6] (fun k_ => (P0_1_ k_ ∨ w.heap.size ≤ k_) ∧ k_ ≠ gb101 ∧ k_ ≠ gb102 ∧ k_ ≠ gb107) (fun k_ => ((fun k_ => (P0_1_ k_ ∨ w.heap.size ≤ k_) ∧ k_ ≠ gb101 ∧ k_ ≠ gb102 ∧ k_ ≠ gb107)) k_ ∧ some k_ ≠ (u7 : Value).ownBlock) rfl rfl ?aP (fun _ hk => hk) ?aF ?aO ?aB ?aS ?aL ?_;(case aP => exact (k33_mkF _ _ (⟨(⟨(rd_T33 l0_1 x14_1).f0.f0⟩ : S31), (rd_T33 l0_1 x14_1).f1, (rd_T33 l0_1 x14_1).f2, (rd_T33 l0_1 x14_1).f3, (⟨(rd_T33 l0_1 x14_1).f4.f0⟩ : S31), (rd_T33 l0_1 x14_1).f5, (rd_T33 l0_1 x14_1).f6⟩ : S33) (Kd.V_reads' (Kd.V_mono (ok' := (fun k_ => ((fun k_ => (P0_1_ k_ ∨ w.heap.size ≤ k_) ∧ k_ ≠ gb101 ∧ k_ ≠ gb102 ∧ k_ ≠ gb107)) k_ ∧ some k_ ≠ (u7 : Value).ownBlock)) (HL106_0.out) (fun k_ hk => ⟨⟨hk.1.1, ⟨hk.1.2.2.1, ⟨hk.1.2.2.2, hk.2⟩⟩⟩, hk.1.2.1⟩))).2.1 (Kd.V_F (Kd.V_mono (ok' := (fun k_ => ((fun k_ => (P0_1_ k_ ∨ w.heap.size ≤ k_) ∧ k_ ≠ gb101 ∧ k_ ≠ gb102 ∧ k_ ≠ gb107)) k_ ∧ some k_ ≠ (u7 : Value).ownBlock)) (HL106_0.out) (fun k_ hk => ⟨⟨hk.1.1, ⟨hk.1.2.2.1, ⟨hk.1.2.2.2, hk.2⟩⟩⟩, hk.1.2.1⟩))) (Kd.V_reads' (Kd.V_mono (ok' := (fun k_ => ((fun k_ => (P0_1_ k_ ∨ w.heap.size ≤ k_) ∧ k_ ≠ gb101 ∧ k_ ≠ gb102 ∧ k_ ≠ gb107)) k_ ∧ some k_ ≠ (u7 : Value).ownBlock)) (HL106_4.out) (fun k_ hk => ⟨⟨hk.1.1, ⟨hk.1.2.2.1, ⟨hk.1.2.2.2, hk.2⟩⟩⟩, hk.1.2.1⟩))).2.1 (Kd.V_F (Kd.V_mono (ok' := (fun k_ => ((fun k_ => (P0_1_ k_ ∨ w.heap.size ≤ k_) ∧ k_ ≠ gb101 ∧ k_ ≠ gb102 ∧ k_ ≠ gb107)) k_ ∧ some k_ ≠ (u7 : Value).ownBlock)) (HL106_4.out) (fun k_ hk => ⟨⟨hk.1.1, ⟨hk.1.2.2.1, ⟨hk.1.2.2.2, hk.2⟩⟩⟩, hk.1.2.1⟩))) (Kd.V_reads' (Kd.V_mono (ok' := (fun k_ => ((fun k_ => (P0_1_ k_ ∨ w.heap.size ≤ k_) ∧ k_ ≠ gb101 ∧ k_ ≠ gb102 ∧ k_ ≠ gb107)) k_ ∧ some k_ ≠ (u7 : Value).ownBlock)) (HL106_5.out) (fun k_ hk => ⟨⟨hk.1.1, ⟨hk.1.2.2.1, ⟨hk.1.2.2.2, hk.2⟩⟩⟩, hk.1.2.1⟩))).2.1 (Kd.V_F (Kd.V_mono (ok' := (fun k_ => ((fun k_ => (P0_1_ k_ ∨ w.heap.size ≤ k_) ∧ k_ ≠ gb101 ∧ k_ ≠ gb102 ∧ k_ ≠ gb107)) k_ ∧ some k_ ≠ (u7 : Value).ownBlock)) (HL106_5.out) (fun k_ hk => ⟨⟨hk.1.1, ⟨hk.1.2.2.1, ⟨hk.1.2.2.2, hk.2⟩⟩⟩, hk.1.2.1⟩))) (Kd.V_reads' (Kd.V_mono (ok' := (fun k_ => ((fun k_ => (P0_1_ k_ ∨ w.heap.size ≤ k_) ∧ k_ ≠ gb101 ∧ k_ ≠ gb102 ∧ k_ ≠ gb107)) k_ ∧ some k_ ≠ (u7 : Value).ownBlock)) (HL106_6.out) (fun k_ hk => ⟨⟨hk.1.1, ⟨hk.1.2.2.1, ⟨hk.1.2.2.2, hk.2⟩⟩⟩, hk.1.2.1⟩))).2.1 (Kd.V_F (Kd.V_mono (ok' := (fun k_ => ((fun k_ => (P0_1_ k_ ∨ w.heap.size ≤ k_) ∧ k_ ≠ gb101 ∧ k_ ≠ gb102 ∧ k_ ≠ gb107)) k_ ∧ some k_ ≠ (u7 : Value).ownBlock)) (HL106_6.out) (fun k_ hk => ⟨⟨hk.1.1, ⟨hk.1.2.2.1, ⟨hk.1.2.2.2, hk.2⟩⟩⟩, hk.1.2.1⟩)))));(case aB => exact bs);(case aF => exact (fun k_ hk => ⟨(.inr (Nat.le_trans (below_size bs) hk)), Kd.freshB (g := gb101) (o := .cells #[.slice A0_0 l0_0.length c0_0, .slice (some ad106) l0_1.length c0_1] 59 (0, 0)) (bk BK101.out) k_ hk, Kd.freshB (g := gb102) (o := .cells #[.slice A1_0 l1_0.length c1_0] 31 (0, 0)) (bk BK102.out) k_ hk, Kd.freshB (g := gb107) (o := .cells #[.slice A106_0 ((rd_T33 l0_1 x14_1).f0.f0).length c106_0, .int .i64 ((rd_T33 l0_1 x14_1).f1), .int .i64 ((rd_T33 l0_1 x14_1).f2), .int .i64 ((rd_T33 l0_1 x14_1).f3), .slice A106_4 ((rd_T33 l0_1 x14_1).f4.f0).length c106_4, .slice A106_5 ((rd_T33 l0_1 x14_1).f5).length c106_5, .slice A106_6 ((rd_T33 l0_1 x14_1).f6).length c106_6] 33 (0, 0)) (bk BK107.out) k_ hk⟩));(case aO => exact (nw (Kd.N_mono HO_7.out (fun _ hk => ⟨hk.1.1, ⟨hk.1.2.1, ⟨hk.1.2.2, hk.2⟩⟩⟩))));(case aS => exact (below_size bs));(case aL => have := LMc27.out; omega);intro v113 w36 ho hb hg hat;rw [← Ny112.out] at ho;replace HO_12 := ak (Kd.V_afterv (ok := (fun k_ => (P0_1_ k_ ∨ w.heap.size ≤ k_) ∧ k_ ≠ gb101 ∧ k_ ≠ gb102 ∧ k_ ≠ gb107)) (vw (Kd.V_mono HO_12.out (fun _ hk => ⟨⟨hk.1.1, ⟨hk.1.2.2.1, ⟨hk.1.2.2.2, hk.2⟩⟩⟩, hk.1.2.1⟩))) hg hat);replace HO_102001 := ak (Kd.V_afterv (ok := (fun k_ => (P0_1_ k_ ∨ w.heap.size ≤ k_) ∧ k_ ≠ gb101 ∧ k_ ≠ gb102 ∧ k_ ≠ gb107)) (vw (Kd.V_mono HO_102001.out (fun _ hk => ⟨⟨hk.1.1, ⟨hk.1.2.2.1, ⟨hk.1.2.2.2, hk.2⟩⟩⟩, hk.1.2.1⟩))) hg hat);replace BK101 := ak (blk_grown (bk BK101.out) hg (Kd.N_ne HO_7.out BK101.out (by decide)));replace BK102 := ak (blk_grown (bk BK102.out) hg (Kd.N_ne HO_7.out BK102.out (by decide)));replace HL106_0 := ak (Kd.V_afterv (ok := (fun k_ => (P0_1_ k_ ∨ w.heap.size ≤ k_) ∧ k_ ≠ gb101 ∧ k_ ≠ gb102 ∧ k_ ≠ gb107)) (vw (Kd.V_mono HL106_0.out (fun _ hk => ⟨⟨hk.1.1, ⟨hk.1.2.2.1, ⟨hk.1.2.2.2, hk.2⟩⟩⟩, hk.1.2.1⟩))) hg hat);replace HL106_4 := ak (Kd.V_afterv (ok := (fun k_ => (P0_1_ k_ ∨ w.heap.size ≤ k_) ∧ k_ ≠ gb101 ∧ k_ ≠ gb102 ∧ k_ ≠ gb107)) (vw (Kd.V_mono HL106_4.out (fun _ hk => ⟨⟨hk.1.1, ⟨hk.1.2.2.1, ⟨hk.1.2.2.2, hk.2⟩⟩⟩, hk.1.2.1⟩))) hg hat);replace HL106_5 := ak (Kd.V_afterv (ok := (fun k_ => (P0_1_ k_ ∨ w.heap.size ≤ k_) ∧ k_ ≠ gb101 ∧ k_ ≠ gb102 ∧ k_ ≠ gb107)) (vw (Kd.V_mono HL106_5.out (fun _ hk => ⟨⟨hk.1.1, ⟨hk.1.2.2.1, ⟨hk.1.2.2.2, hk.2⟩⟩⟩, hk.1.2.1⟩))) hg hat);replace HL106_6 := ak (Kd.V_afterv (ok := (fun k_ => (P0_1_ k_ ∨ w.heap.size ≤ k_) ∧ k_ ≠ gb101 ∧ k_ ≠ gb102 ∧ k_ ≠ gb107)) (vw (Kd.V_mono HL106_6.out (fun _ hk => ⟨⟨hk.1.1, ⟨hk.1.2.2.1, ⟨hk.1.2.2.2, hk.2⟩⟩⟩, hk.1.2.1⟩))) hg hat);replace BK107 := ak (blk_grown (bk BK107.out) hg (Kd.N_away HO_7.out (fun _ hk => hk.2)));replace HB := ak (hb);have HO114 := ak (ho);clear HO_7;clear ho hb hg hat))
        go_roundg k1
        case measure => have := HK1.out; omega
        case rel => exact ⟨(y112), (wrap64 (x14_1 + 1)), o2, H', ⟨by have := HK1.out; omega⟩, ⟨by (with_reducible repeat (first | apply Kd.N_alloc | apply Kd.N_drewN | apply Kd.N_drew)); exact Kd.N_mono HO114.out (fun _ hk => ⟨hk.1, ⟨hk.2.1, hk.2.2.1⟩⟩)⟩, ⟨by (with_reducible repeat (first | apply Kd.V_alloc | apply Kd.V_drewN | apply Kd.V_drew)); exact Kd.V_mono HO_12.out (fun _ hk => ⟨hk.1.1, ⟨hk.2, ⟨hk.1.2.1, hk.1.2.2.1⟩⟩⟩)⟩, ⟨by (with_reducible repeat (first | apply Kd.V_alloc | apply Kd.V_drewN | apply Kd.V_drew)); exact Kd.V_mono HO_102001.out (fun _ hk => ⟨hk.1.1, ⟨hk.2, ⟨hk.1.2.1, hk.1.2.2.1⟩⟩⟩)⟩, ⟨bk BK101.out⟩, ⟨bk BK102.out⟩, ⟨bs⟩⟩
       ·rw [if_neg c27] at H
        exact absurd H (by simp)
      ·have H' := ak H
       clear H
       have p106 : 0 ≤ (x14_1 : Int) := of_decide_eq_true (by first | (with_reducible assumption) | assumption)
       have q106 : x14_1 < (l0_1.length : Int) := of_decide_eq_true (by first | (with_reducible assumption) | assumption)
       obtain ⟨ad106, A106_0, c106_0, A106_4, c106_4, A106_5, c106_5, A106_6, c106_6, e106, hx106_0, hx106_1, hx106_2, hx106_3, hx106_4, hx106_5, hx106_6, hl106_0, hi106_0, hl106_4, hi106_4, hl106_5, hi106_5, hl106_6, hi106_6⟩ := at_T33 (Kd.V_reads' HO_12.out).2.2 x14_1 p106 q106
       cases e106
       obtain ⟨ce106, hce106, hMe106, hcc106⟩ := Kd.V_get HO_12.out z33 x14_1 p106 (by first | exact q106 | exact of_decide_eq_true (by first | (with_reducible assumption) | assumption) | (have e_ := (Kd.V_reads' HO_12.out).1; omega))
       obtain ⟨ua106_0, uc106_0, ua106_4, uc106_4, ua106_5, uc106_5, ua106_6, uc106_6, rfl, ul106_0, ge106_0, ul106_4, ge106_4, ul106_5, ge106_5, ul106_6, ge106_6⟩ := k33_openF hMe106
       have hv106_0 := hcc106 0 _ rfl
       rw [Nat.add_zero] at hv106_0
       replace hv106_0 := Option.some.inj (hv106_0.symm.trans hx106_0)
       injection hv106_0 with hva_ hvn_ hvc_
       rw [hva_] at ge106_0
       rw [hvc_] at ul106_0
       have HL106_0 := ak (show Kd.V (Kd.slice 5 (Kd.int .u8)) 25 _ w.heap.size _ _ ((rd_T33 l0_1 x14_1).f0.f0) from Kd.V_mk ul106_0 ge106_0)
       clear hva_ hvn_ hvc_ ge106_0 ul106_0
       have hv106_4 := hcc106 4 _ rfl
       rw [add_field _ _ 4 (by omega)] at hv106_4
       replace hv106_4 := Option.some.inj (hv106_4.symm.trans hx106_4)
       injection hv106_4 with hva_ hvn_ hvc_
       rw [hva_] at ge106_4
       rw [hvc_] at ul106_4
       have HL106_4 := ak (show Kd.V (Kd.slice 5 (Kd.int .u8)) 25 _ w.heap.size _ _ ((rd_T33 l0_1 x14_1).f4.f0) from Kd.V_mk ul106_4 ge106_4)
       clear hva_ hvn_ hvc_ ge106_4 ul106_4
       have hv106_5 := hcc106 5 _ rfl
       rw [add_field _ _ 5 (by omega)] at hv106_5
       replace hv106_5 := Option.some.inj (hv106_5.symm.trans hx106_5)
       injection hv106_5 with hva_ hvn_ hvc_
       rw [hva_] at ge106_5
       rw [hvc_] at ul106_5
       have HL106_5 := ak (show Kd.V (Kd.int .u8) 5 _ w.heap.size _ _ ((rd_T33 l0_1 x14_1).f5) from Kd.V_mk ul106_5 ge106_5)
       clear hva_ hvn_ hvc_ ge106_5 ul106_5
       have hv106_6 := hcc106 6 _ rfl
       rw [add_field _ _ 6 (by omega)] at hv106_6
       replace hv106_6 := Option.some.inj (hv106_6.symm.trans hx106_6)
       injection hv106_6 with hva_ hvn_ hvc_
       rw [hva_] at ge106_6
       rw [hvc_] at ul106_6
       have HL106_6 := ak (show Kd.V (Kd.int .i64) 3 _ w.heap.size _ _ ((rd_T33 l0_1 x14_1).f6) from Kd.V_mk ul106_6 ge106_6)
       clear hva_ hvn_ hvc_ ge106_6 ul106_6 hcc106 hce106
       have HR106_0 := ak hi106_0
       have HC106_0 := ak hl106_0
       clear hi106_0 hl106_0
       have HR106_4 := ak hi106_4
       have HC106_4 := ak hl106_4
       clear hi106_4 hl106_4
       have HR106_5 := ak hi106_5
       have HC106_5 := ak hl106_5
       clear hi106_5 hl106_5
       have HR106_6 := ak hi106_6
       have HC106_6 := ak hl106_6
       clear hi106_6 hl106_6
       replace p106 := eq_true p106
       replace q106 := eq_true q106
       go_wp2_with (first | ((with_reducible refine gate_dst (N := 9) rfl ?_);refine bxe (N := 9) rfl ?_;intro gb107 hg w37 hbox hb;replace HO_7 := ak (Kd.N_below (Kd.N_elderB (nw HO_7.out) gb107 (Nat.le_of_eq hg.symm)) hb);replace HO_12 := ak (Kd.V_below (Kd.V_elderB (vw HO_12.out) gb107 (Nat.le_of_eq hg.symm)) hb);replace HO_102001 := ak (Kd.V_below (Kd.V_elderB (vw HO_102001.out) gb107 (Nat.le_of_eq hg.symm)) hb);replace HL106_0 := ak (Kd.V_below (Kd.V_elderB (vw HL106_0.out) gb107 (Nat.le_of_eq hg.symm)) hb);replace HL106_4 := ak (Kd.V_below (Kd.V_elderB (vw HL106_4.out) gb107 (Nat.le_of_eq hg.symm)) hb);replace HL106_5 := ak (Kd.V_below (Kd.V_elderB (vw HL106_5.out) gb107 (Nat.le_of_eq hg.symm)) hb);replace HL106_6 := ak (Kd.V_below (Kd.V_elderB (vw HL106_6.out) gb107 (Nat.le_of_eq hg.symm)) hb);replace HR106_0 := ak (Kd.C_below (by repeat (first | (with_reducible exact HR106_0.out) | (with_reducible refine Kd.C_alloc ?_ _) | (with_reducible refine Kd.C_drewN ?_ _) | (with_reducible refine Kd.C_drew ?_) | exact HR106_0.out)) hb);replace HR106_4 := ak (Kd.C_below (by repeat (first | (with_reducible exact HR106_4.out) | (with_reducible refine Kd.C_alloc ?_ _) | (with_reducible refine Kd.C_drewN ?_ _) | (with_reducible refine Kd.C_drew ?_) | exact HR106_4.out)) hb);replace HR106_5 := ak (Kd.C_below (by repeat (first | (with_reducible exact HR106_5.out) | (with_reducible refine Kd.C_alloc ?_ _) | (with_reducible refine Kd.C_drewN ?_ _) | (with_reducible refine Kd.C_drew ?_) | exact HR106_5.out)) hb);replace HR106_6 := ak (Kd.C_below (by repeat (first | (with_reducible exact HR106_6.out) | (with_reducible refine Kd.C_alloc ?_ _) | (with_reducible refine Kd.C_drewN ?_ _) | (with_reducible refine Kd.C_drew ?_) | exact HR106_6.out)) hb);have BK107 := ak (hbox);have GW107 := b3s hg bs;have GE107 := GW107;replace HB := b2s bs hb;have NB101_107 := b4 hg BK101;have NB107_101 := b5 hg BK101;replace BK101 := b1 BK101 hb;have NB102_107 := b4 hg BK102;have NB107_102 := b5 hg BK102;replace BK102 := b1 BK102 hb;clear hb hbox hg;have hnb38 := NB107_101.out;have hnc38 := NB101_107.out;have hnb39 := NB107_102.out;have hnc39 := NB102_107.out;obtain ⟨hcz40_0, hcz40_1, hcz40_2, hcz40_3, hcz40_4, hcz40_5, hcz40_6, hfz40_0, hfz40_1, hfz40_2, hfz40_3, hfz40_4, hfz40_5, hfz40_6⟩ := cells7 BK107.out;have hnb41 := NB102_101.out;have hnc41 := NB101_102.out;obtain ⟨hcz42_0, hfz42_0⟩ := cells1 BK102.out) | ((with_reducible refine gate_callee (f := 102) rfl ?_);refine glB 21 rfl rfl Try.func102 (impl_Name_is.calls k1 _ _ ((rd_T33 l0_1 x14_1).f0.f0) _ _ l1_0 true _ ?side1 HC106_0.out (Kd.C_below HR1_0.out bs) HC1_0.out A13.out) (fun w43 hb => ?_);(case side1 => repeat (first | exact ((Kd.V_reads' (far7V HL106_0.out (fun k_ hk => hk.2))).2.2) | (with_reducible refine Kd.C_alloc ?_ _) | (with_reducible refine Kd.C_drewN ?_ _) | (with_reducible refine Kd.C_drew ?_)));replace HO_7 := ak (Kd.N_below (far7N HO_7.out (fun k_ hk => hk.2)) hb);replace HO_12 := ak (Kd.V_below (far7V HO_12.out (fun k_ hk => hk.2)) hb);replace HO_102001 := ak (Kd.V_below (far7V HO_102001.out (fun k_ hk => hk.2)) hb);replace BK101 := ak (blk_below (bfar7 NB101_107.out BK101.out) hb);replace BK102 := ak (blk_below (bfar7 NB102_107.out BK102.out) hb);replace HR106_0 := ak (Kd.C_below ((Kd.V_reads' (far7V HL106_0.out (fun k_ hk => hk.2))).2.2) hb);replace HL106_0 := ak (Kd.V_below (far7V HL106_0.out (fun k_ hk => hk.2)) hb);replace HR106_4 := ak (Kd.C_below ((Kd.V_reads' (far7V HL106_4.out (fun k_ hk => hk.2))).2.2) hb);replace HL106_4 := ak (Kd.V_below (far7V HL106_4.out (fun k_ hk => hk.2)) hb);replace HR106_5 := ak (Kd.C_below ((Kd.V_reads' (far7V HL106_5.out (fun k_ hk => hk.2))).2.2) hb);replace HL106_5 := ak (Kd.V_below (far7V HL106_5.out (fun k_ hk => hk.2)) hb);replace HR106_6 := ak (Kd.C_below ((Kd.V_reads' (far7V HL106_6.out (fun k_ hk => hk.2))).2.2) hb);replace HL106_6 := ak (Kd.V_below (far7V HL106_6.out (fun k_ hk => hk.2)) hb);replace BK107 := ak (blk_below (bput7 BK107.out) hb);replace HB := b2s bs hb;(try clear hb);(try clear hb2);(try clear hk);(try clear hi);obtain ⟨hcz44_0, hcz44_1, hcz44_2, hcz44_3, hcz44_4, hcz44_5, hcz44_6, hfz44_0, hfz44_1, hfz44_2, hfz44_3, hfz44_4, hfz44_5, hfz44_6⟩ := cells7 BK107.out))
       go_roundg k1
       case measure => have := HK1.out; omega
       case rel => exact ⟨(x7_1), (wrap64 (x14_1 + 1)), o2, H', ⟨by have := HK1.out; omega⟩, ⟨by (with_reducible repeat (first | apply Kd.N_alloc | apply Kd.N_drewN | apply Kd.N_drew)); exact Kd.N_mono HO_7.out (fun _ hk => ⟨hk.1.1, ⟨hk.1.2.1, hk.1.2.2⟩⟩)⟩, ⟨by (with_reducible repeat (first | apply Kd.V_alloc | apply Kd.V_drewN | apply Kd.V_drew)); exact Kd.V_mono HO_12.out (fun _ hk => ⟨hk.1.1, ⟨hk.1.2.1, ⟨hk.1.2.2.1, hk.1.2.2.2⟩⟩⟩)⟩, ⟨by (with_reducible repeat (first | apply Kd.V_alloc | apply Kd.V_drewN | apply Kd.V_drew)); exact Kd.V_mono HO_102001.out (fun _ hk => ⟨hk.1.1, ⟨hk.1.2.1, ⟨hk.1.2.2.1, hk.1.2.2.2⟩⟩⟩)⟩, ⟨bk BK101.out⟩, ⟨bk BK102.out⟩, ⟨bs⟩⟩
    ·have H' := ak H
     clear H
     have p106 : 0 ≤ (x14_1 : Int) := of_decide_eq_true (by first | (with_reducible assumption) | assumption)
     have q106 : x14_1 < (l0_1.length : Int) := of_decide_eq_true (by first | (with_reducible assumption) | assumption)
     obtain ⟨ad106, A106_0, c106_0, A106_4, c106_4, A106_5, c106_5, A106_6, c106_6, e106, hx106_0, hx106_1, hx106_2, hx106_3, hx106_4, hx106_5, hx106_6, hl106_0, hi106_0, hl106_4, hi106_4, hl106_5, hi106_5, hl106_6, hi106_6⟩ := at_T33 (Kd.V_reads' HO_12.out).2.2 x14_1 p106 q106
     cases e106
     obtain ⟨ce106, hce106, hMe106, hcc106⟩ := Kd.V_get HO_12.out z33 x14_1 p106 (by first | exact q106 | exact of_decide_eq_true (by first | (with_reducible assumption) | assumption) | (have e_ := (Kd.V_reads' HO_12.out).1; omega))
     obtain ⟨ua106_0, uc106_0, ua106_4, uc106_4, ua106_5, uc106_5, ua106_6, uc106_6, rfl, ul106_0, ge106_0, ul106_4, ge106_4, ul106_5, ge106_5, ul106_6, ge106_6⟩ := k33_openF hMe106
     have hv106_0 := hcc106 0 _ rfl
     rw [Nat.add_zero] at hv106_0
     replace hv106_0 := Option.some.inj (hv106_0.symm.trans hx106_0)
     injection hv106_0 with hva_ hvn_ hvc_
     rw [hva_] at ge106_0
     rw [hvc_] at ul106_0
     have HL106_0 := ak (show Kd.V (Kd.slice 5 (Kd.int .u8)) 25 _ w.heap.size _ _ ((rd_T33 l0_1 x14_1).f0.f0) from Kd.V_mk ul106_0 ge106_0)
     clear hva_ hvn_ hvc_ ge106_0 ul106_0
     have hv106_4 := hcc106 4 _ rfl
     rw [add_field _ _ 4 (by omega)] at hv106_4
     replace hv106_4 := Option.some.inj (hv106_4.symm.trans hx106_4)
     injection hv106_4 with hva_ hvn_ hvc_
     rw [hva_] at ge106_4
     rw [hvc_] at ul106_4
     have HL106_4 := ak (show Kd.V (Kd.slice 5 (Kd.int .u8)) 25 _ w.heap.size _ _ ((rd_T33 l0_1 x14_1).f4.f0) from Kd.V_mk ul106_4 ge106_4)
     clear hva_ hvn_ hvc_ ge106_4 ul106_4
     have hv106_5 := hcc106 5 _ rfl
     rw [add_field _ _ 5 (by omega)] at hv106_5
     replace hv106_5 := Option.some.inj (hv106_5.symm.trans hx106_5)
     injection hv106_5 with hva_ hvn_ hvc_
     rw [hva_] at ge106_5
     rw [hvc_] at ul106_5
     have HL106_5 := ak (show Kd.V (Kd.int .u8) 5 _ w.heap.size _ _ ((rd_T33 l0_1 x14_1).f5) from Kd.V_mk ul106_5 ge106_5)
     clear hva_ hvn_ hvc_ ge106_5 ul106_5
     have hv106_6 := hcc106 6 _ rfl
     rw [add_field _ _ 6 (by omega)] at hv106_6
     replace hv106_6 := Option.some.inj (hv106_6.symm.trans hx106_6)
     injection hv106_6 with hva_ hvn_ hvc_
     rw [hva_] at ge106_6
     rw [hvc_] at ul106_6
     have HL106_6 := ak (show Kd.V (Kd.int .i64) 3 _ w.heap.size _ _ ((rd_T33 l0_1 x14_1).f6) from Kd.V_mk ul106_6 ge106_6)
     clear hva_ hvn_ hvc_ ge106_6 ul106_6 hcc106 hce106
     have HR106_0 := ak hi106_0
     have HC106_0 := ak hl106_0
     clear hi106_0 hl106_0
     have HR106_4 := ak hi106_4
     have HC106_4 := ak hl106_4
     clear hi106_4 hl106_4
     have HR106_5 := ak hi106_5
     have HC106_5 := ak hl106_5
     clear hi106_5 hl106_5
     have HR106_6 := ak hi106_6
     have HC106_6 := ak hl106_6
     clear hi106_6 hl106_6
     replace p106 := eq_true p106
     replace q106 := eq_true q106
     go_wp2_with (first | ((with_reducible refine gate_dst (N := 9) rfl ?_);refine bxe (N := 9) rfl ?_;intro gb107 hg w45 hbox hb;replace HO_7 := ak (Kd.N_below (Kd.N_elderB (nw HO_7.out) gb107 (Nat.le_of_eq hg.symm)) hb);replace HO_12 := ak (Kd.V_below (Kd.V_elderB (vw HO_12.out) gb107 (Nat.le_of_eq hg.symm)) hb);replace HO_102001 := ak (Kd.V_below (Kd.V_elderB (vw HO_102001.out) gb107 (Nat.le_of_eq hg.symm)) hb);replace HL106_0 := ak (Kd.V_below (Kd.V_elderB (vw HL106_0.out) gb107 (Nat.le_of_eq hg.symm)) hb);replace HL106_4 := ak (Kd.V_below (Kd.V_elderB (vw HL106_4.out) gb107 (Nat.le_of_eq hg.symm)) hb);replace HL106_5 := ak (Kd.V_below (Kd.V_elderB (vw HL106_5.out) gb107 (Nat.le_of_eq hg.symm)) hb);replace HL106_6 := ak (Kd.V_below (Kd.V_elderB (vw HL106_6.out) gb107 (Nat.le_of_eq hg.symm)) hb);replace HR106_0 := ak (Kd.C_below (by repeat (first | (with_reducible exact HR106_0.out) | (with_reducible refine Kd.C_alloc ?_ _) | (with_reducible refine Kd.C_drewN ?_ _) | (with_reducible refine Kd.C_drew ?_) | exact HR106_0.out)) hb);replace HR106_4 := ak (Kd.C_below (by repeat (first | (with_reducible exact HR106_4.out) | (with_reducible refine Kd.C_alloc ?_ _) | (with_reducible refine Kd.C_drewN ?_ _) | (with_reducible refine Kd.C_drew ?_) | exact HR106_4.out)) hb);replace HR106_5 := ak (Kd.C_below (by repeat (first | (with_reducible exact HR106_5.out) | (with_reducible refine Kd.C_alloc ?_ _) | (with_reducible refine Kd.C_drewN ?_ _) | (with_reducible refine Kd.C_drew ?_) | exact HR106_5.out)) hb);replace HR106_6 := ak (Kd.C_below (by repeat (first | (with_reducible exact HR106_6.out) | (with_reducible refine Kd.C_alloc ?_ _) | (with_reducible refine Kd.C_drewN ?_ _) | (with_reducible refine Kd.C_drew ?_) | exact HR106_6.out)) hb);have BK107 := ak (hbox);have GW107 := b3s hg bs;have GE107 := GW107;replace HB := b2s bs hb;have NB101_107 := b4 hg BK101;have NB107_101 := b5 hg BK101;replace BK101 := b1 BK101 hb;have NB102_107 := b4 hg BK102;have NB107_102 := b5 hg BK102;replace BK102 := b1 BK102 hb;clear hb hbox hg;have hnb46 := NB107_101.out;have hnc46 := NB101_107.out;have hnb47 := NB107_102.out;have hnc47 := NB102_107.out;obtain ⟨hcz48_0, hcz48_1, hcz48_2, hcz48_3, hcz48_4, hcz48_5, hcz48_6, hfz48_0, hfz48_1, hfz48_2, hfz48_3, hfz48_4, hfz48_5, hfz48_6⟩ := cells7 BK107.out;have hnb49 := NB102_101.out;have hnc49 := NB101_102.out;obtain ⟨hcz50_0, hfz50_0⟩ := cells1 BK102.out) | ((with_reducible refine gate_callee (f := 102) rfl ?_);refine glB 21 rfl rfl Try.func102 (impl_Name_is.calls k1 _ _ ((rd_T33 l0_1 x14_1).f0.f0) _ _ l1_0 false _ ?side1 HC106_0.out (Kd.C_below HR1_0.out bs) HC1_0.out A13.out) (fun w51 hb => ?_);(case side1 => repeat (first | exact ((Kd.V_reads' (far7V HL106_0.out (fun k_ hk => hk.2))).2.2) | (with_reducible refine Kd.C_alloc ?_ _) | (with_reducible refine Kd.C_drewN ?_ _) | (with_reducible refine Kd.C_drew ?_)));replace HO_7 := ak (Kd.N_below (far7N HO_7.out (fun k_ hk => hk.2)) hb);replace HO_12 := ak (Kd.V_below (far7V HO_12.out (fun k_ hk => hk.2)) hb);replace HO_102001 := ak (Kd.V_below (far7V HO_102001.out (fun k_ hk => hk.2)) hb);replace BK101 := ak (blk_below (bfar7 NB101_107.out BK101.out) hb);replace BK102 := ak (blk_below (bfar7 NB102_107.out BK102.out) hb);replace HR106_0 := ak (Kd.C_below ((Kd.V_reads' (far7V HL106_0.out (fun k_ hk => hk.2))).2.2) hb);replace HL106_0 := ak (Kd.V_below (far7V HL106_0.out (fun k_ hk => hk.2)) hb);replace HR106_4 := ak (Kd.C_below ((Kd.V_reads' (far7V HL106_4.out (fun k_ hk => hk.2))).2.2) hb);replace HL106_4 := ak (Kd.V_below (far7V HL106_4.out (fun k_ hk => hk.2)) hb);replace HR106_5 := ak (Kd.C_below ((Kd.V_reads' (far7V HL106_5.out (fun k_ hk => hk.2))).2.2) hb);replace HL106_5 := ak (Kd.V_below (far7V HL106_5.out (fun k_ hk => hk.2)) hb);replace HR106_6 := ak (Kd.C_below ((Kd.V_reads' (far7V HL106_6.out (fun k_ hk => hk.2))).2.2) hb);replace HL106_6 := ak (Kd.V_below (far7V HL106_6.out (fun k_ hk => hk.2)) hb);replace BK107 := ak (blk_below (bput7 BK107.out) hb);replace HB := b2s bs hb;(try clear hb);(try clear hb2);(try clear hk);(try clear hi)))
     go_roundg k1
     case measure => have := HK1.out; omega
     case rel => exact ⟨(x7_1), (wrap64 (x14_1 + 1)), o2, H', ⟨by have := HK1.out; omega⟩, ⟨by (with_reducible repeat (first | apply Kd.N_alloc | apply Kd.N_drewN | apply Kd.N_drew)); exact Kd.N_mono HO_7.out (fun _ hk => ⟨hk.1.1, ⟨hk.1.2.1, hk.1.2.2⟩⟩)⟩, ⟨by (with_reducible repeat (first | apply Kd.V_alloc | apply Kd.V_drewN | apply Kd.V_drew)); exact Kd.V_mono HO_12.out (fun _ hk => ⟨hk.1.1, ⟨hk.1.2.1, ⟨hk.1.2.2.1, hk.1.2.2.2⟩⟩⟩)⟩, ⟨by (with_reducible repeat (first | apply Kd.V_alloc | apply Kd.V_drewN | apply Kd.V_drew)); exact Kd.V_mono HO_102001.out (fun _ hk => ⟨hk.1.1, ⟨hk.1.2.1, ⟨hk.1.2.2.1, hk.1.2.2.2⟩⟩⟩)⟩, ⟨bk BK101.out⟩, ⟨bk BK102.out⟩, ⟨bs⟩⟩
   ·obtain rfl := Option.some.inj H
    go_wp2
    go_ret
    exact ⟨_, o1, by (with_reducible repeat (first | apply Kd.N_alloc | apply Kd.N_drewN | apply Kd.N_drew)); exact Kd.N_mono HO_7.out (fun _ hk => hk.1), bs⟩

/-! ### impl_ZoneOk: function 37 -/
mutual
def impl_ZoneOk.j0 : Nat → Bool → List (List Int) → List (S33) → Option (Bool)
 | 0, _, _, _ => none
 | k + 1, x21, x102000, x102001 => if x21 = true then (some false) else (impl_ZoneOk.l0 k 0 x102001 (x102001.length : Int) 0 x102000 x102001)
def impl_ZoneOk.l0 : Nat → Int → List (S33) → Int → Int → List (List Int) → List (S33) → Option (Bool)
 | 0, _, _, _, _, _, _ => none
 | k + 1, x3, x23, x24, x25, x102000, x102001 => if x25 < x24 then (if 0 ≤ x25 then (if x25 < (x23.length : Int) then (if x25 > 0 then (if 0 ≤ (wrap64 (x25 - 1)) then (if (wrap64 (x25 - 1)) < (x102001.length : Int) then ((impl_Rr_compare.f k ((rd_T33 x102001 (wrap64 (x25 - 1))).f0.f0) ((rd_T33 x102001 (wrap64 (x25 - 1))).f1) ((rd_T33 x102001 (wrap64 (x25 - 1))).f2) ((rd_T33 x102001 (wrap64 (x25 - 1))).f3) ((rd_T33 x102001 (wrap64 (x25 - 1))).f4.f0) ((rd_T33 x102001 (wrap64 (x25 - 1))).f5) ((rd_T33 x102001 (wrap64 (x25 - 1))).f6) ((rd_T33 x23 x25).f0.f0) ((rd_T33 x23 x25).f1) ((rd_T33 x23 x25).f2) ((rd_T33 x23 x25).f3) ((rd_T33 x23 x25).f4.f0) ((rd_T33 x23 x25).f5) ((rd_T33 x23 x25).f6)).bind fun t107 => (if t107 ≥ 0 then (impl_ZoneOk.j2 k x3 x23 x24 x25 true x102000 x102001 ((rd_T33 x23 x25).f0.f0) ((rd_T33 x23 x25).f1) ((rd_T33 x23 x25).f2) ((rd_T33 x23 x25).f3) ((rd_T33 x23 x25).f4.f0) ((rd_T33 x23 x25).f5) ((rd_T33 x23 x25).f6)) else ((impl_Name_under.f ((rd_T33 x23 x25).f0.f0) x102000).bind fun t108 => (impl_ZoneOk.j2 k x3 x23 x24 x25 (!t108) x102000 x102001 ((rd_T33 x23 x25).f0.f0) ((rd_T33 x23 x25).f1) ((rd_T33 x23 x25).f2) ((rd_T33 x23 x25).f3) ((rd_T33 x23 x25).f4.f0) ((rd_T33 x23 x25).f5) ((rd_T33 x23 x25).f6))))) else (none)) else (none)) else ((impl_Name_under.f ((rd_T33 x23 x25).f0.f0) x102000).bind fun t109 => (impl_ZoneOk.j2 k x3 x23 x24 x25 (!t109) x102000 x102001 ((rd_T33 x23 x25).f0.f0) ((rd_T33 x23 x25).f1) ((rd_T33 x23 x25).f2) ((rd_T33 x23 x25).f3) ((rd_T33 x23 x25).f4.f0) ((rd_T33 x23 x25).f5) ((rd_T33 x23 x25).f6)))) else (none)) else (none)) else (some (x3 == 1))
def impl_ZoneOk.j2 : Nat → Int → List (S33) → Int → Int → Bool → List (List Int) → List (S33) → List (List Int) → Int → Int → Int → List (List Int) → List Int → List Int → Option (Bool)
 | 0, _, _, _, _, _, _, _, _, _, _, _, _, _, _ => none
 | k + 1, x3, x23, x24, x25, x50, x102000, x102001, x106000, x106001, x106002, x106003, x106004, x106005, x106006 => if x50 = true then (some false) else (if x106001 = 6 then ((impl_Name_is.f k x106000 x102000).bind fun t110 => (if t110 = true then (if x106001 = 5 then ((impl_Zone_set.f k x102000 x102001 x106000 255).bind fun t111 => (if (t111.length : Int) > 1 then (some false) else (impl_ZoneOk.l0 k (wrap64 (x3 + 1)) x23 x24 (wrap64 (x25 + 1)) x102000 x102001))) else (impl_ZoneOk.l0 k (wrap64 (x3 + 1)) x23 x24 (wrap64 (x25 + 1)) x102000 x102001)) else (some false))) else (if x106001 = 5 then ((impl_Zone_set.f k x102000 x102001 x106000 255).bind fun t114 => (if (t114.length : Int) > 1 then (some false) else (impl_ZoneOk.l0 k x3 x23 x24 (wrap64 (x25 + 1)) x102000 x102001))) else (impl_ZoneOk.l0 k x3 x23 x24 (wrap64 (x25 + 1)) x102000 x102001)))
end
def impl_ZoneOk.f (k : Nat) (l0_0 : List (List Int)) (l0_1 : List (S33)) : Option (Bool) := (impl_NameOk.f l0_0).bind fun t102 => (if t102 = true then (if (l0_1.length : Int) > 60 then (impl_ZoneOk.j0 k true l0_0 l0_1) else ((impl_Rr_100.f k l0_1).bind fun t103 => (impl_ZoneOk.j0 k (!t103) l0_0 l0_1))) else (impl_ZoneOk.j0 k true l0_0 l0_1))
theorem impl_ZoneOk.mono_l : ∀ k, (∀ y0 y1 y2, LeO (impl_ZoneOk.j0 k y0 y1 y2) (impl_ZoneOk.j0 (k + 1) y0 y1 y2)) ∧ (∀ y0 y1 y2 y3 y4 y5, LeO (impl_ZoneOk.l0 k y0 y1 y2 y3 y4 y5) (impl_ZoneOk.l0 (k + 1) y0 y1 y2 y3 y4 y5)) ∧ (∀ y0 y1 y2 y3 y4 y5 y6 y7 y8 y9 y10 y11 y12 y13, LeO (impl_ZoneOk.j2 k y0 y1 y2 y3 y4 y5 y6 y7 y8 y9 y10 y11 y12 y13) (impl_ZoneOk.j2 (k + 1) y0 y1 y2 y3 y4 y5 y6 y7 y8 y9 y10 y11 y12 y13))
 | 0 => ⟨fun _ _ _ r h => by simp [impl_ZoneOk.j0] at h, fun _ _ _ _ _ _ r h => by simp [impl_ZoneOk.l0] at h, fun _ _ _ _ _ _ _ _ _ _ _ _ _ _ r h => by simp [impl_ZoneOk.j2] at h⟩
 | k + 1 => by
  obtain ⟨ih0, ih1, ih2⟩ := impl_ZoneOk.mono_l k
  refine ⟨?_, ?_, ?_⟩
  ·intro y0 y1 y2
   unfold impl_ZoneOk.j0
   repeat' first
   | (with_reducible exact ih0 _ _ _)
   | (with_reducible exact ih1 _ _ _ _ _ _)
   | (with_reducible exact ih2 _ _ _ _ _ _ _ _ _ _ _ _ _ _)
   | (with_reducible exact impl_Name_is.mono _ _ _)
   | (with_reducible exact impl_Rr_100.mono _ _)
   | (with_reducible exact impl_Rr_compare.mono _ _ _ _ _ _ _ _ _ _ _ _ _ _ _)
   | (with_reducible exact impl_Zone_set.mono _ _ _ _ _)
   | (with_reducible exact LeO.refl _)
   | (with_reducible exact LeO.none _)
   | (with_reducible refine LeO.ite ?_ ?_)
   | (with_reducible refine LeO.bind ?_ (fun _ => ?_))
   | exact ih0 _ _ _
   | exact ih1 _ _ _ _ _ _
   | exact ih2 _ _ _ _ _ _ _ _ _ _ _ _ _ _
   | exact impl_Name_is.mono _ _ _
   | exact impl_Rr_100.mono _ _
   | exact impl_Rr_compare.mono _ _ _ _ _ _ _ _ _ _ _ _ _ _ _
   | exact impl_Zone_set.mono _ _ _ _ _
   | exact LeO.none _
   | refine LeO.ite ?_ ?_
   | refine LeO.bind ?_ (fun _ => ?_)
  ·intro y0 y1 y2 y3 y4 y5
   unfold impl_ZoneOk.l0
   repeat' first
   | (with_reducible exact ih0 _ _ _)
   | (with_reducible exact ih1 _ _ _ _ _ _)
   | (with_reducible exact ih2 _ _ _ _ _ _ _ _ _ _ _ _ _ _)
   | (with_reducible exact impl_Name_is.mono _ _ _)
   | (with_reducible exact impl_Rr_100.mono _ _)
   | (with_reducible exact impl_Rr_compare.mono _ _ _ _ _ _ _ _ _ _ _ _ _ _ _)
   | (with_reducible exact impl_Zone_set.mono _ _ _ _ _)
   | (with_reducible exact LeO.refl _)
   | (with_reducible exact LeO.none _)
   | (with_reducible refine LeO.ite ?_ ?_)
   | (with_reducible refine LeO.bind ?_ (fun _ => ?_))
   | exact ih0 _ _ _
   | exact ih1 _ _ _ _ _ _
   | exact ih2 _ _ _ _ _ _ _ _ _ _ _ _ _ _
   | exact impl_Name_is.mono _ _ _
   | exact impl_Rr_100.mono _ _
   | exact impl_Rr_compare.mono _ _ _ _ _ _ _ _ _ _ _ _ _ _ _
   | exact impl_Zone_set.mono _ _ _ _ _
   | exact LeO.none _
   | refine LeO.ite ?_ ?_
   | refine LeO.bind ?_ (fun _ => ?_)
  ·intro y0 y1 y2 y3 y4 y5 y6 y7 y8 y9 y10 y11 y12 y13
   unfold impl_ZoneOk.j2
   repeat' first
   | (with_reducible exact ih0 _ _ _)
   | (with_reducible exact ih1 _ _ _ _ _ _)
   | (with_reducible exact ih2 _ _ _ _ _ _ _ _ _ _ _ _ _ _)
   | (with_reducible exact impl_Name_is.mono _ _ _)
   | (with_reducible exact impl_Rr_100.mono _ _)
   | (with_reducible exact impl_Rr_compare.mono _ _ _ _ _ _ _ _ _ _ _ _ _ _ _)
   | (with_reducible exact impl_Zone_set.mono _ _ _ _ _)
   | (with_reducible exact LeO.refl _)
   | (with_reducible exact LeO.none _)
   | (with_reducible refine LeO.ite ?_ ?_)
   | (with_reducible refine LeO.bind ?_ (fun _ => ?_))
   | exact ih0 _ _ _
   | exact ih1 _ _ _ _ _ _
   | exact ih2 _ _ _ _ _ _ _ _ _ _ _ _ _ _
   | exact impl_Name_is.mono _ _ _
   | exact impl_Rr_100.mono _ _
   | exact impl_Rr_compare.mono _ _ _ _ _ _ _ _ _ _ _ _ _ _ _
   | exact impl_Zone_set.mono _ _ _ _ _
   | exact LeO.none _
   | refine LeO.ite ?_ ?_
   | refine LeO.bind ?_ (fun _ => ?_)
theorem impl_ZoneOk.mono : ∀ a0 a1 k, LeO (impl_ZoneOk.f k a0 a1) (impl_ZoneOk.f (k + 1) a0 a1) := by
 intro a0 a1 k
 obtain ⟨ih0, ih1, ih2⟩ := impl_ZoneOk.mono_l k
 unfold impl_ZoneOk.f
 repeat' first
   | (with_reducible exact ih0 _ _ _)
   | (with_reducible exact ih1 _ _ _ _ _ _)
   | (with_reducible exact ih2 _ _ _ _ _ _ _ _ _ _ _ _ _ _)
   | (with_reducible exact impl_Name_is.mono _ _ _)
   | (with_reducible exact impl_Rr_100.mono _ _)
   | (with_reducible exact impl_Rr_compare.mono _ _ _ _ _ _ _ _ _ _ _ _ _ _ _)
   | (with_reducible exact impl_Zone_set.mono _ _ _ _ _)
   | (with_reducible exact LeO.refl _)
   | (with_reducible exact LeO.none _)
   | (with_reducible refine LeO.ite ?_ ?_)
   | (with_reducible refine LeO.bind ?_ (fun _ => ?_))
   | exact ih0 _ _ _
   | exact ih1 _ _ _ _ _ _
   | exact ih2 _ _ _ _ _ _ _ _ _ _ _ _ _ _
   | exact impl_Name_is.mono _ _ _
   | exact impl_Rr_100.mono _ _
   | exact impl_Rr_compare.mono _ _ _ _ _ _ _ _ _ _ _ _ _ _ _
   | exact impl_Zone_set.mono _ _ _ _ _
   | exact LeO.none _
   | refine LeO.ite ?_ ?_
   | refine LeO.bind ?_ (fun _ => ?_)
def impl_ZoneOk.T7 : Bool × List (List Nat × List Nat) := (true, [([], []), ([0], [0]), ([1], [1]), ([2], [2]), ([3, 2], [2, 3]), ([2], [2]), ([5, 2], [2, 5]), ([4, 6, 2], [2, 4, 6]), ([7, 2], [2, 7]), ([2], [2]), ([8, 9, 2, 2], [2, 8, 9]), ([10, 2], [2, 10]), ([2, 11], [2, 11]), ([12, 10], [12]), ([13], [13]), ([14, 13], [13, 14]), ([13], [13]), ([16, 13], [13, 16]), ([15, 17, 13, 13], [13, 15, 17]), ([18, 13], [13, 18]), ([13, 19], [13, 19])])
def impl_ZoneOk.B7 : List Nat := [0, 1, 3, 7, 15, 7, 39, 127, 255, 7, 1023, 2047, 4095, 8191, 16383, 32767, 16383, 81919, 262143, 524287, 1048575]
theorem impl_ZoneOk.tab7 : rtab .any (opsOf Try.f37 7) = impl_ZoneOk.T7 := by kernel_rfl
theorem impl_ZoneOk.bits7 : waitsOk impl_ZoneOk.T7.2 impl_ZoneOk.B7 = true := by kernel_rfl
set_option maxHeartbeats 8000000 in
set_option maxRecDepth 100000 in
theorem impl_ZoneOk.calls (k : Nat) (A0_0 : Option Addr) (c0_0 : Nat) (l0_0 : List (List Int)) (A0_1 : Option Addr) (c0_1 : Nat) (l0_1 : List (S33)) (r : Bool) (w : World) (hr0_0 : Kd.C (Kd.slice 5 (Kd.int .u8)) w A0_0 l0_0.length l0_0) (hc0_0 : l0_0.length ≤ c0_0) (hr0_1 : Kd.C k33 w A0_1 l0_1.length l0_1) (hc0_1 : l0_1.length ≤ c0_1) (h : impl_ZoneOk.f k l0_0 l0_1 = some r) :
  Calls Try.prog 37 #[.agg #[.slice A0_0 l0_0.length c0_0, .slice A0_1 l0_1.length c0_1]] w fun e w' => e = .returned (.bool r) ∧ Below w.heap.size w w' := by
 have hu59 := Try.underlying59
 have hu31 := Try.underlying31
 have hu33 := Try.underlying33
 have HR0_0 := ak hr0_0
 have HC0_0 := ak hc0_0
 clear hr0_0 hc0_0
 have HR0_1 := ak hr0_1
 have HC0_1 := ak hc0_1
 clear hr0_1 hc0_1
 have HB := ak (Below.refl w.heap.size w)
 have H : ((impl_NameOk.f l0_0).bind fun t102 => (if t102 = true then (if (l0_1.length : Int) > 60 then (impl_ZoneOk.j0 k true l0_0 l0_1) else ((impl_Rr_100.f k l0_1).bind fun t103 => (impl_ZoneOk.j0 k (!t103) l0_0 l0_1))) else (impl_ZoneOk.j0 k true l0_0 l0_1))) = some r := h
 clear h
 have HC2 := ak H
 clear H
 go_enter Try.func37, Try.ntmps37
 go_upto_region 1 with (((with_reducible refine gate_dst (N := 1) rfl ?_);(try (refine gate_guard (by rfl) ?_; dsimp only));refine bxd (N := 1) rfl HB ?_;clear HB;intro gb101 w3 hg HB BK101 GE101 hb;have GW101 := GE101;clear hb hg))
 (try simp only [Act.put, List.setIfInBounds_toArray, List.set_cons_zero, List.set_cons_succ])
 go_cut [21] (fun v21 wc => ∃ (kq : Nat) (x21_1 : Bool), v21 = .bool x21_1 ∧ Aside0 (impl_ZoneOk.j0 kq x21_1 l0_0 l0_1 = some r) ∧ Aside0 (kq ≤ k) ∧ Aside0 (wc.heap[gb101]? = some (.cells #[(.slice A0_0 l0_0.length c0_0), (.slice A0_1 l0_1.length c0_1)] 59 (0, 0))) ∧ Aside0 (Below w.heap.size w wc))
 case first =>
  have H := HC2.out
  clear HC2
  replace H := bnd H
  obtain ⟨t102, A4, H⟩ := H
  replace H := ib H
  obtain ⟨rfl, H⟩ | ⟨rfl, H⟩ := H
  ·replace H := ig H
   obtain ⟨c6b0, H⟩ | ⟨c6b0, H⟩ := H
   ·have c6b1 : decide (60 < l0_1.length) = true := decide_eq_true (by have := of_decide_eq_true c6b0; omega)
    (first | rw [c6b0] | (simp only [i64_w, i32_w]; rw [c6b0]) | skip)
    have H' := ak H
    clear H
    obtain ⟨hcz7_0, hcz7_1, hfz7_0, hfz7_1⟩ := cells2 BK101.out
    go_wp2_with (((with_reducible refine gate_callee (f := 74) rfl ?_);refine glB 8 rfl rfl Try.func74 (impl_NameOk.calls _ _ l0_0 true _ (cv HR0_0 HB) HC0_0.out A4.out) (fun w8 hb => ?_);replace BK101 := b1 BK101 hb;replace HB := b2s bs hb;(try clear hb);obtain ⟨hcz9_0, hcz9_1, hfz9_0, hfz9_1⟩ := cells2 BK101.out))
    go_meet
    case rel => exact ⟨_, (true), o2, H', ⟨o3⟩, ⟨bk BK101.out⟩, ⟨bs⟩⟩
   ·have c6b1 : decide (60 < l0_1.length) = false := decide_eq_false (by have := of_decide_eq_false c6b0; omega)
    (first | rw [c6b0] | (simp only [i64_w, i32_w]; rw [c6b0]) | skip)
    replace H := bnd H
    obtain ⟨t103, A10, H⟩ := H
    have H' := ak H
    clear H
    obtain ⟨hcz11_0, hcz11_1, hfz11_0, hfz11_1⟩ := cells2 BK101.out
    go_wp2_with (first | ((with_reducible refine gate_callee (f := 74) rfl ?_);refine glB 8 rfl rfl Try.func74 (impl_NameOk.calls _ _ l0_0 true _ (cv HR0_0 HB) HC0_0.out A4.out) (fun w12 hb => ?_);replace BK101 := b1 BK101 hb;replace HB := b2s bs hb;(try clear hb);obtain ⟨hcz13_0, hcz13_1, hfz13_0, hfz13_1⟩ := cells2 BK101.out) | (go_at_call 100;(with_reducible refine (impl_Rr_100.calls k _ _ l0_1 t103 _ (cv HR0_1 HB) HC0_1.out A10.out).mono ?_);rintro e w14 ⟨rfl, hb⟩;replace BK101 := b1 BK101 hb;replace HB := b2s bs hb;(try clear hb)))
    go_meet
    case rel => exact ⟨_, (!t103), o2, H', ⟨o3⟩, ⟨bk BK101.out⟩, ⟨bs⟩⟩
  ·have H' := ak H
   clear H
   obtain ⟨hcz15_0, hcz15_1, hfz15_0, hfz15_1⟩ := cells2 BK101.out
   go_wp2_with (((with_reducible refine gate_callee (f := 74) rfl ?_);refine glB 8 rfl rfl Try.func74 (impl_NameOk.calls _ _ l0_0 false _ (cv HR0_0 HB) HC0_0.out A4.out) (fun w16 hb => ?_);replace BK101 := b1 BK101 hb;replace HB := b2s bs hb;(try clear hb)))
   go_meet
   case rel => exact ⟨_, (true), o2, H', ⟨o3⟩, ⟨bk BK101.out⟩, ⟨bs⟩⟩
 case rest =>
  clear HC2
  obtain ⟨kq, x21_1, rfl, HA, HJ1, BK101, HB⟩ := hcut
  cases kq with
  | zero => exact absurd HA.out (by simp [impl_ZoneOk.j0])
  | succ kj1 =>
   have H := HA.out
   clear HA
   simp only [impl_ZoneOk.j0] at H
   replace H := ib H
   obtain ⟨rfl, H⟩ | ⟨rfl, H⟩ := H
   ·obtain rfl := Option.some.inj H
    go_wp2
    go_ret
    exact ⟨o1, bs⟩
   ·have H' := ak H
    clear H
    obtain ⟨hcz18_0, hcz18_1, hfz18_0, hfz18_1⟩ := cells2 BK101.out
    go_wp2
    go_loopg [3, 25] kj1 (fun kq v3 v25 w' => ∃ (x3_2 : Int) (x25_2 : Int), v3 = .int .i64 x3_2 ∧ v25 = .int .i64 x25_2 ∧ Aside0 (impl_ZoneOk.l0 kq x3_2 l0_1 (l0_1.length : Int) x25_2 l0_0 l0_1 = some r) ∧ Aside0 (kq ≤ kj1) ∧ Aside0 (w'.heap[gb101]? = some (.cells #[(.slice A0_0 l0_0.length c0_0), (.slice A0_1 l0_1.length c0_1)] 59 (0, 0))) ∧ Aside0 (Below w.heap.size w w'))
    case atStart => exact ⟨(0), (0), o2, o2, H', ⟨Nat.le_refl _⟩, ⟨bk BK101.out⟩, ⟨bs⟩⟩
    case round =>
     clear H'
     (try clear hcz18_0)
     (try clear hcz18_1)
     (try clear hfz18_0)
     (try clear hfz18_1)
     obtain ⟨x3_2, x25_2, rfl, rfl, HA, HK2, BK101, HB⟩ := hrel
     cases gk with
     | zero => exact absurd HA.out (by simp [impl_ZoneOk.l0])
     | succ k2 =>
      have H := HA.out
      clear HA
      simp only [impl_ZoneOk.l0] at H
      replace H := ip H
      obtain ⟨c19b0, H⟩ | ⟨c19b0, H⟩ := H
      ·replace H := ipN H
       obtain ⟨c20b0, H⟩ := H
       replace H := ipN H
       obtain ⟨c21b0, H⟩ := H
       have HC22 := ak H
       clear H
       obtain ⟨ad104, A104_0, c104_0, A104_4, c104_4, A104_5, c104_5, A104_6, c104_6, rfl, hx104_0, hx104_1, hx104_2, hx104_3, hx104_4, hx104_5, hx104_6, HC104_0, HR104_0, HC104_4, HR104_4, HC104_5, HR104_5, HC104_6, HR104_6, p104, q104⟩ := el_T33 HR0_1 HB x25_2
       go_upto_region 7 with (((with_reducible refine gate_dst (N := 5) rfl ?_);(try (refine gate_guard (by rfl) ?_; dsimp only));refine bxe (N := 5) rfl ?_;intro gb105 hg w23 hbox hb;have BK105 := ak (hbox);have GW105 := b3s hg bs;have GE105 := GW105;replace HB := b2s bs hb;have NB101_105 := b4 hg BK101;have NB105_101 := b5 hg BK101;replace BK101 := b1 BK101 hb;clear hb hbox hg;have hnb24 := NB105_101.out;have hnc24 := NB101_105.out;obtain ⟨hcz25_0, hcz25_1, hcz25_2, hcz25_3, hcz25_4, hcz25_5, hcz25_6, hfz25_0, hfz25_1, hfz25_2, hfz25_3, hfz25_4, hfz25_5, hfz25_6⟩ := cells7 BK105.out))
       (try simp only [Act.put, List.setIfInBounds_toArray, List.set_cons_zero, List.set_cons_succ])
       go_cut [50] (fun v50 wc => ∃ (kq : Nat) (x50_21 : Bool), v50 = .bool x50_21 ∧ Aside0 (impl_ZoneOk.j2 kq x3_2 l0_1 (l0_1.length : Int) x25_2 x50_21 l0_0 l0_1 ((rd_T33 l0_1 x25_2).f0.f0) ((rd_T33 l0_1 x25_2).f1) ((rd_T33 l0_1 x25_2).f2) ((rd_T33 l0_1 x25_2).f3) ((rd_T33 l0_1 x25_2).f4.f0) ((rd_T33 l0_1 x25_2).f5) ((rd_T33 l0_1 x25_2).f6) = some r) ∧ Aside0 (kq ≤ k2) ∧ Aside0 (wc.heap[gb101]? = some (.cells #[(.slice A0_0 l0_0.length c0_0), (.slice (some ad104) l0_1.length c0_1)] 59 (0, 0))) ∧ Aside0 (wc.heap[gb105]? = some (.cells #[(.slice A104_0 ((rd_T33 l0_1 x25_2).f0.f0).length c104_0), .int .i64 ((rd_T33 l0_1 x25_2).f1), .int .i64 ((rd_T33 l0_1 x25_2).f2), .int .i64 ((rd_T33 l0_1 x25_2).f3), (.slice A104_4 ((rd_T33 l0_1 x25_2).f4.f0).length c104_4), (.slice A104_5 ((rd_T33 l0_1 x25_2).f5).length c104_5), (.slice A104_6 ((rd_T33 l0_1 x25_2).f6).length c104_6)] 33 (0, 0))) ∧ Aside0 (Below w.heap.size w wc))
       case first =>
        have H := HC22.out
        clear HC22
        replace H := ig H
        obtain ⟨c26b0, H⟩ | ⟨c26b0, H⟩ := H
        ·(first | rw [c26b0] | (simp only [i64_w, i32_w]; rw [c26b0]) | skip)
         obtain ⟨ji27, hji27⟩ : ∃ j_ : Int, (wrap64 (x25_2 - 1)) = j_ := ⟨_, rfl⟩
         (first | rw [hji27] at H | simp only [hji27] at H)
         have hji27w : (IntKind.i64.wrap (x25_2 - 1)) = ji27 := (i64_w _).trans hji27
         replace H := ipN H
         obtain ⟨c28b0, H⟩ := H
         replace H := ipN H
         obtain ⟨c29b0, H⟩ := H
         replace H := bnd H
         obtain ⟨t107, A30, H⟩ := H
         replace H := ih H
         obtain ⟨c31b0, H⟩ | ⟨c31b0, H⟩ := H
         ·have H' := ak H
          clear H
          try go_wp2
          have n0_ : Aside0 ((((((((w23.setCell ⟨gb105, 0, none⟩ (.slice A104_0 ((rd_T33 l0_1 x25_2).f0.f0).length c104_0)).setCell ⟨gb105, 1, none⟩ (.int .i64 ((rd_T33 l0_1 x25_2).f1))).setCell ⟨gb105, 2, none⟩ (.int .i64 ((rd_T33 l0_1 x25_2).f2))).setCell ⟨gb105, 3, none⟩ (.int .i64 ((rd_T33 l0_1 x25_2).f3))).setCell ⟨gb105, 4, none⟩ (.slice A104_4 ((rd_T33 l0_1 x25_2).f4.f0).length c104_4)).setCell ⟨gb105, 5, none⟩ (.slice A104_5 ((rd_T33 l0_1 x25_2).f5).length c104_5)).setCell ⟨gb105, 6, none⟩ (.slice A104_6 ((rd_T33 l0_1 x25_2).f6).length c104_6)).heap[gb101]? = some (.cells #[.slice A0_0 l0_0.length c0_0, .slice (some ad104) l0_1.length c0_1] 59 (0, 0))) := ⟨bfar7 NB101_105.out BK101.out⟩
          have n1_ : Aside0 ((((((((w23.setCell ⟨gb105, 0, none⟩ (.slice A104_0 ((rd_T33 l0_1 x25_2).f0.f0).length c104_0)).setCell ⟨gb105, 1, none⟩ (.int .i64 ((rd_T33 l0_1 x25_2).f1))).setCell ⟨gb105, 2, none⟩ (.int .i64 ((rd_T33 l0_1 x25_2).f2))).setCell ⟨gb105, 3, none⟩ (.int .i64 ((rd_T33 l0_1 x25_2).f3))).setCell ⟨gb105, 4, none⟩ (.slice A104_4 ((rd_T33 l0_1 x25_2).f4.f0).length c104_4)).setCell ⟨gb105, 5, none⟩ (.slice A104_5 ((rd_T33 l0_1 x25_2).f5).length c104_5)).setCell ⟨gb105, 6, none⟩ (.slice A104_6 ((rd_T33 l0_1 x25_2).f6).length c104_6)).heap[gb105]? = some (.cells #[.slice A104_0 ((rd_T33 l0_1 x25_2).f0.f0).length c104_0, .int .i64 ((rd_T33 l0_1 x25_2).f1), .int .i64 ((rd_T33 l0_1 x25_2).f2), .int .i64 ((rd_T33 l0_1 x25_2).f3), .slice A104_4 ((rd_T33 l0_1 x25_2).f4.f0).length c104_4, .slice A104_5 ((rd_T33 l0_1 x25_2).f5).length c104_5, .slice A104_6 ((rd_T33 l0_1 x25_2).f6).length c104_6] 33 (0, 0))) := ⟨bput7 BK105.out⟩
          have n2_ : Aside0 (Below w.heap.size w (((((((w23.setCell ⟨gb105, 0, none⟩ (.slice A104_0 ((rd_T33 l0_1 x25_2).f0.f0).length c104_0)).setCell ⟨gb105, 1, none⟩ (.int .i64 ((rd_T33 l0_1 x25_2).f1))).setCell ⟨gb105, 2, none⟩ (.int .i64 ((rd_T33 l0_1 x25_2).f2))).setCell ⟨gb105, 3, none⟩ (.int .i64 ((rd_T33 l0_1 x25_2).f3))).setCell ⟨gb105, 4, none⟩ (.slice A104_4 ((rd_T33 l0_1 x25_2).f4.f0).length c104_4)).setCell ⟨gb105, 5, none⟩ (.slice A104_5 ((rd_T33 l0_1 x25_2).f5).length c104_5)).setCell ⟨gb105, 6, none⟩ (.slice A104_6 ((rd_T33 l0_1 x25_2).f6).length c104_6))) := ⟨bs⟩
          (try clear BK101)
          (try clear BK105)
          (try clear HB)
          generalize (((((((w23.setCell ⟨gb105, 0, none⟩ (.slice A104_0 ((rd_T33 l0_1 x25_2).f0.f0).length c104_0)).setCell ⟨gb105, 1, none⟩ (.int .i64 ((rd_T33 l0_1 x25_2).f1))).setCell ⟨gb105, 2, none⟩ (.int .i64 ((rd_T33 l0_1 x25_2).f2))).setCell ⟨gb105, 3, none⟩ (.int .i64 ((rd_T33 l0_1 x25_2).f3))).setCell ⟨gb105, 4, none⟩ (.slice A104_4 ((rd_T33 l0_1 x25_2).f4.f0).length c104_4)).setCell ⟨gb105, 5, none⟩ (.slice A104_5 ((rd_T33 l0_1 x25_2).f5).length c104_5)).setCell ⟨gb105, 6, none⟩ (.slice A104_6 ((rd_T33 l0_1 x25_2).f6).length c104_6)) = w32 at n0_ n1_ n2_ ⊢
          have BK101 := n0_
          have BK105 := n1_
          have HB := n2_
          clear n0_ n1_ n2_
          replace BK101 := ak (blk_drew BK101.out)
          replace BK105 := ak (blk_drew BK105.out)
          replace HB := ak (below_drew1 HB.out)
          obtain ⟨A106_0, c106_0, A106_4, c106_4, A106_5, c106_5, A106_6, c106_6, hw106_0, hw106_1, hw106_2, hw106_3, hw106_4, hw106_5, hw106_6, hx106_0, hx106_1, hx106_2, hx106_3, hx106_4, hx106_5, hx106_6, HC106_0, HR106_0, HC106_4, HR106_4, HC106_5, HR106_5, HC106_6, HR106_6, p106, q106⟩ := el2w_T33 HR0_1 HB (ji27)
          refine start_ (n := 21) (S := fun w' => w'.cell? ⟨gb101, 0, none⟩ = some (.slice A0_0 l0_0.length c0_0) ∧ w'.cell? ⟨gb101, 1, none⟩ = some (.slice (some ad104) l0_1.length c0_1) ∧ w'.cell? ⟨gb105, 0, none⟩ = some (.slice A104_0 ((rd_T33 l0_1 x25_2).f0.f0).length c104_0) ∧ w'.cell? ⟨gb105, 1, none⟩ = some (.int .i64 ((rd_T33 l0_1 x25_2).f1)) ∧ w'.cell? ⟨gb105, 2, none⟩ = some (.int .i64 ((rd_T33 l0_1 x25_2).f2)) ∧ w'.cell? ⟨gb105, 3, none⟩ = some (.int .i64 ((rd_T33 l0_1 x25_2).f3)) ∧ w'.cell? ⟨gb105, 4, none⟩ = some (.slice A104_4 ((rd_T33 l0_1 x25_2).f4.f0).length c104_4) ∧ w'.cell? ⟨gb105, 5, none⟩ = some (.slice A104_5 ((rd_T33 l0_1 x25_2).f5).length c104_5) ∧ w'.cell? ⟨gb105, 6, none⟩ = some (.slice A104_6 ((rd_T33 l0_1 x25_2).f6).length c104_6) ∧ w'.cell? (ad104.add (((ji27)).toNat * 7)) = some (.slice A106_0 ((rd_T33 l0_1 (ji27)).f0.f0).length c106_0) ∧ w'.cell? ⟨(ad104.add (((ji27)).toNat * 7)).block, (ad104.add (((ji27)).toNat * 7)).off + 1, none⟩ = some (.int .i64 ((rd_T33 l0_1 (ji27)).f1)) ∧ w'.cell? ⟨(ad104.add (((ji27)).toNat * 7)).block, (ad104.add (((ji27)).toNat * 7)).off + 2, none⟩ = some (.int .i64 ((rd_T33 l0_1 (ji27)).f2)) ∧ w'.cell? ⟨(ad104.add (((ji27)).toNat * 7)).block, (ad104.add (((ji27)).toNat * 7)).off + 3, none⟩ = some (.int .i64 ((rd_T33 l0_1 (ji27)).f3)) ∧ w'.cell? ⟨(ad104.add (((ji27)).toNat * 7)).block, (ad104.add (((ji27)).toNat * 7)).off + 4, none⟩ = some (.slice A106_4 ((rd_T33 l0_1 (ji27)).f4.f0).length c106_4) ∧ w'.cell? ⟨(ad104.add (((ji27)).toNat * 7)).block, (ad104.add (((ji27)).toNat * 7)).off + 5, none⟩ = some (.slice A106_5 ((rd_T33 l0_1 (ji27)).f5).length c106_5) ∧ w'.cell? ⟨(ad104.add (((ji27)).toNat * 7)).block, (ad104.add (((ji27)).toNat * 7)).off + 6, none⟩ = some (.slice A106_6 ((rd_T33 l0_1 (ji27)).f6).length c106_6)) (ds := []) (bA 21 0) (by kernel_rfl) rfl rfl kq (fun hHeld => ?_); refine with_tabW impl_ZoneOk.tab7 impl_ZoneOk.bits7 (fun HT_ HW_ => ?_)
          generalize w32.drew = w33 at BK101 BK105 HB HR106_0 HR106_4 HR106_5 HR106_6 hx106_0 hx106_1 hx106_2 hx106_3 hx106_4 hx106_5 hx106_6 hHeld ⊢
          refine pu HT_ 0 ?_
          refine pu HT_ 1 ?_
          refine pu HT_ 2 ?_
          refine pu HT_ 3 ?_
          refine pu HT_ 5 ?_
          refine pu HT_ 6 ?_
          refine ta HT_ HW_ hHeld 4 ?_
          refine pu HT_ 7 ?_
          refine ta HT_ HW_ hHeld 8 ?_
          refine ta HT_ HW_ hHeld 9 ?_
          refine on HT_ 10 (fun K hK => ?_)
          refine goes_ Try.func64 (by kernel_rfl) rfl #[.agg #[.slice A106_0 ((rd_T33 l0_1 (ji27)).f0.f0).length c106_0, .int .i64 ((rd_T33 l0_1 (ji27)).f1), .int .i64 ((rd_T33 l0_1 (ji27)).f2), .int .i64 ((rd_T33 l0_1 (ji27)).f3), .slice A106_4 ((rd_T33 l0_1 (ji27)).f4.f0).length c106_4, .slice A106_5 ((rd_T33 l0_1 (ji27)).f5).length c106_5, .slice A106_6 ((rd_T33 l0_1 (ji27)).f6).length c106_6], .agg #[.slice A104_0 ((rd_T33 l0_1 x25_2).f0.f0).length c104_0, .int .i64 ((rd_T33 l0_1 x25_2).f1), .int .i64 ((rd_T33 l0_1 x25_2).f2), .int .i64 ((rd_T33 l0_1 x25_2).f3), .slice A104_4 ((rd_T33 l0_1 x25_2).f4.f0).length c104_4, .slice A104_5 ((rd_T33 l0_1 x25_2).f5).length c104_5, .slice A104_6 ((rd_T33 l0_1 x25_2).f6).length c104_6]] (by rfl) rfl rfl (by (try simp only [List.map_toArray, List.map_cons, List.map_nil]); first | done | (simp only [hji27]; rfl) | rfl | (simp only [List.length_drop, List.length_take]; rfl)) ?_
          with_reducible refine (impl_Rr_compare.calls k2 _ _ ((rd_T33 l0_1 (ji27)).f0.f0) ((rd_T33 l0_1 (ji27)).f1) ((rd_T33 l0_1 (ji27)).f2) ((rd_T33 l0_1 (ji27)).f3) _ _ ((rd_T33 l0_1 (ji27)).f4.f0) _ _ ((rd_T33 l0_1 (ji27)).f5) _ _ ((rd_T33 l0_1 (ji27)).f6) _ _ ((rd_T33 l0_1 x25_2).f0.f0) ((rd_T33 l0_1 x25_2).f1) ((rd_T33 l0_1 x25_2).f2) ((rd_T33 l0_1 x25_2).f3) _ _ ((rd_T33 l0_1 x25_2).f4.f0) _ _ ((rd_T33 l0_1 x25_2).f5) _ _ ((rd_T33 l0_1 x25_2).f6) t107 _ ?side1 ?side2 ?side3 ?side4 ?side5 ?side6 ?side7 ?side8 ?side9 ?side10 ?side11 ?side12 ?side13 ?side14 ?side15 ?side16 A30.out).mono ?_
          (case side1 => exact cw HR106_0.out HB.out)
          (case side2 => exact HC106_0.out)
          (case side3 => exact cw HR106_4.out HB.out)
          (case side4 => exact HC106_4.out)
          (case side5 => exact cw HR106_5.out HB.out)
          (case side6 => exact HC106_5.out)
          (case side7 => exact cw HR106_6.out HB.out)
          (case side8 => exact HC106_6.out)
          (case side9 => exact cw HR104_0.out HB.out)
          (case side10 => exact HC104_0.out)
          (case side11 => exact cw HR104_4.out HB.out)
          (case side12 => exact HC104_4.out)
          (case side13 => exact cw HR104_5.out HB.out)
          (case side14 => exact HC104_5.out)
          (case side15 => exact cw HR104_6.out HB.out)
          (case side16 => exact HC104_6.out)
          rintro e w34 ⟨rfl, hb⟩
          refine ⟨_, rfl, ?_⟩
          replace BK101 := b1 BK101 hb
          replace BK105 := b1 BK105 hb
          replace HB := b2s bs hb
          refine hK.out _ _ kp (fun hHeld => ?_)
          (try clear hb)
          clear hK K
          refine norm_ (a' := ?_) ?_ ?_; rotate_left; go_simp; rfl
          refine pu HT_ 11 ?_
          refine pu HT_ 12 ?_
          refine pu HT_ 13 ?_
          refine sk HT_ 14 ?_
          refine sk HT_ 15 ?_
          refine sk HT_ 16 ?_
          refine sk HT_ 17 ?_
          refine sk HT_ 18 ?_
          refine sk HT_ 19 ?_
          refine pu HT_ 20 ?_
          refine done_ (done_of HT_.out (by kernel_rfl)) ?_
          try go_wp2
          go_meet
          case rel => exact ⟨_, (true), o2, H', ⟨by have := HJ1.out; have := HK2.out; first | omega | exact Nat.le_refl _⟩, ⟨bk BK101.out⟩, ⟨bk BK105.out⟩, ⟨bs⟩⟩
         ·replace H := bnd H
          obtain ⟨t108, A35, H⟩ := H
          have H' := ak H
          clear H
          try go_wp2
          have n0_ : Aside0 ((((((((w23.setCell ⟨gb105, 0, none⟩ (.slice A104_0 ((rd_T33 l0_1 x25_2).f0.f0).length c104_0)).setCell ⟨gb105, 1, none⟩ (.int .i64 ((rd_T33 l0_1 x25_2).f1))).setCell ⟨gb105, 2, none⟩ (.int .i64 ((rd_T33 l0_1 x25_2).f2))).setCell ⟨gb105, 3, none⟩ (.int .i64 ((rd_T33 l0_1 x25_2).f3))).setCell ⟨gb105, 4, none⟩ (.slice A104_4 ((rd_T33 l0_1 x25_2).f4.f0).length c104_4)).setCell ⟨gb105, 5, none⟩ (.slice A104_5 ((rd_T33 l0_1 x25_2).f5).length c104_5)).setCell ⟨gb105, 6, none⟩ (.slice A104_6 ((rd_T33 l0_1 x25_2).f6).length c104_6)).heap[gb101]? = some (.cells #[.slice A0_0 l0_0.length c0_0, .slice (some ad104) l0_1.length c0_1] 59 (0, 0))) := ⟨bfar7 NB101_105.out BK101.out⟩
          have n1_ : Aside0 ((((((((w23.setCell ⟨gb105, 0, none⟩ (.slice A104_0 ((rd_T33 l0_1 x25_2).f0.f0).length c104_0)).setCell ⟨gb105, 1, none⟩ (.int .i64 ((rd_T33 l0_1 x25_2).f1))).setCell ⟨gb105, 2, none⟩ (.int .i64 ((rd_T33 l0_1 x25_2).f2))).setCell ⟨gb105, 3, none⟩ (.int .i64 ((rd_T33 l0_1 x25_2).f3))).setCell ⟨gb105, 4, none⟩ (.slice A104_4 ((rd_T33 l0_1 x25_2).f4.f0).length c104_4)).setCell ⟨gb105, 5, none⟩ (.slice A104_5 ((rd_T33 l0_1 x25_2).f5).length c104_5)).setCell ⟨gb105, 6, none⟩ (.slice A104_6 ((rd_T33 l0_1 x25_2).f6).length c104_6)).heap[gb105]? = some (.cells #[.slice A104_0 ((rd_T33 l0_1 x25_2).f0.f0).length c104_0, .int .i64 ((rd_T33 l0_1 x25_2).f1), .int .i64 ((rd_T33 l0_1 x25_2).f2), .int .i64 ((rd_T33 l0_1 x25_2).f3), .slice A104_4 ((rd_T33 l0_1 x25_2).f4.f0).length c104_4, .slice A104_5 ((rd_T33 l0_1 x25_2).f5).length c104_5, .slice A104_6 ((rd_T33 l0_1 x25_2).f6).length c104_6] 33 (0, 0))) := ⟨bput7 BK105.out⟩
          have n2_ : Aside0 (Below w.heap.size w (((((((w23.setCell ⟨gb105, 0, none⟩ (.slice A104_0 ((rd_T33 l0_1 x25_2).f0.f0).length c104_0)).setCell ⟨gb105, 1, none⟩ (.int .i64 ((rd_T33 l0_1 x25_2).f1))).setCell ⟨gb105, 2, none⟩ (.int .i64 ((rd_T33 l0_1 x25_2).f2))).setCell ⟨gb105, 3, none⟩ (.int .i64 ((rd_T33 l0_1 x25_2).f3))).setCell ⟨gb105, 4, none⟩ (.slice A104_4 ((rd_T33 l0_1 x25_2).f4.f0).length c104_4)).setCell ⟨gb105, 5, none⟩ (.slice A104_5 ((rd_T33 l0_1 x25_2).f5).length c104_5)).setCell ⟨gb105, 6, none⟩ (.slice A104_6 ((rd_T33 l0_1 x25_2).f6).length c104_6))) := ⟨bs⟩
          (try clear BK101)
          (try clear BK105)
          (try clear HB)
          generalize (((((((w23.setCell ⟨gb105, 0, none⟩ (.slice A104_0 ((rd_T33 l0_1 x25_2).f0.f0).length c104_0)).setCell ⟨gb105, 1, none⟩ (.int .i64 ((rd_T33 l0_1 x25_2).f1))).setCell ⟨gb105, 2, none⟩ (.int .i64 ((rd_T33 l0_1 x25_2).f2))).setCell ⟨gb105, 3, none⟩ (.int .i64 ((rd_T33 l0_1 x25_2).f3))).setCell ⟨gb105, 4, none⟩ (.slice A104_4 ((rd_T33 l0_1 x25_2).f4.f0).length c104_4)).setCell ⟨gb105, 5, none⟩ (.slice A104_5 ((rd_T33 l0_1 x25_2).f5).length c104_5)).setCell ⟨gb105, 6, none⟩ (.slice A104_6 ((rd_T33 l0_1 x25_2).f6).length c104_6)) = w36 at n0_ n1_ n2_ ⊢
          have BK101 := n0_
          have BK105 := n1_
          have HB := n2_
          clear n0_ n1_ n2_
          replace BK101 := ak (blk_drew BK101.out)
          replace BK105 := ak (blk_drew BK105.out)
          replace HB := ak (below_drew1 HB.out)
          obtain ⟨A106_0, c106_0, A106_4, c106_4, A106_5, c106_5, A106_6, c106_6, hw106_0, hw106_1, hw106_2, hw106_3, hw106_4, hw106_5, hw106_6, hx106_0, hx106_1, hx106_2, hx106_3, hx106_4, hx106_5, hx106_6, HC106_0, HR106_0, HC106_4, HR106_4, HC106_5, HR106_5, HC106_6, HR106_6, p106, q106⟩ := el2w_T33 HR0_1 HB (ji27)
          refine start_ (n := 21) (S := fun w' => w'.cell? ⟨gb101, 0, none⟩ = some (.slice A0_0 l0_0.length c0_0) ∧ w'.cell? ⟨gb101, 1, none⟩ = some (.slice (some ad104) l0_1.length c0_1) ∧ w'.cell? ⟨gb105, 0, none⟩ = some (.slice A104_0 ((rd_T33 l0_1 x25_2).f0.f0).length c104_0) ∧ w'.cell? ⟨gb105, 1, none⟩ = some (.int .i64 ((rd_T33 l0_1 x25_2).f1)) ∧ w'.cell? ⟨gb105, 2, none⟩ = some (.int .i64 ((rd_T33 l0_1 x25_2).f2)) ∧ w'.cell? ⟨gb105, 3, none⟩ = some (.int .i64 ((rd_T33 l0_1 x25_2).f3)) ∧ w'.cell? ⟨gb105, 4, none⟩ = some (.slice A104_4 ((rd_T33 l0_1 x25_2).f4.f0).length c104_4) ∧ w'.cell? ⟨gb105, 5, none⟩ = some (.slice A104_5 ((rd_T33 l0_1 x25_2).f5).length c104_5) ∧ w'.cell? ⟨gb105, 6, none⟩ = some (.slice A104_6 ((rd_T33 l0_1 x25_2).f6).length c104_6) ∧ w'.cell? (ad104.add (((ji27)).toNat * 7)) = some (.slice A106_0 ((rd_T33 l0_1 (ji27)).f0.f0).length c106_0) ∧ w'.cell? ⟨(ad104.add (((ji27)).toNat * 7)).block, (ad104.add (((ji27)).toNat * 7)).off + 1, none⟩ = some (.int .i64 ((rd_T33 l0_1 (ji27)).f1)) ∧ w'.cell? ⟨(ad104.add (((ji27)).toNat * 7)).block, (ad104.add (((ji27)).toNat * 7)).off + 2, none⟩ = some (.int .i64 ((rd_T33 l0_1 (ji27)).f2)) ∧ w'.cell? ⟨(ad104.add (((ji27)).toNat * 7)).block, (ad104.add (((ji27)).toNat * 7)).off + 3, none⟩ = some (.int .i64 ((rd_T33 l0_1 (ji27)).f3)) ∧ w'.cell? ⟨(ad104.add (((ji27)).toNat * 7)).block, (ad104.add (((ji27)).toNat * 7)).off + 4, none⟩ = some (.slice A106_4 ((rd_T33 l0_1 (ji27)).f4.f0).length c106_4) ∧ w'.cell? ⟨(ad104.add (((ji27)).toNat * 7)).block, (ad104.add (((ji27)).toNat * 7)).off + 5, none⟩ = some (.slice A106_5 ((rd_T33 l0_1 (ji27)).f5).length c106_5) ∧ w'.cell? ⟨(ad104.add (((ji27)).toNat * 7)).block, (ad104.add (((ji27)).toNat * 7)).off + 6, none⟩ = some (.slice A106_6 ((rd_T33 l0_1 (ji27)).f6).length c106_6)) (ds := []) (bA 21 0) (by kernel_rfl) rfl rfl kq (fun hHeld => ?_); refine with_tabW impl_ZoneOk.tab7 impl_ZoneOk.bits7 (fun HT_ HW_ => ?_)
          generalize w36.drew = w37 at BK101 BK105 HB HR106_0 HR106_4 HR106_5 HR106_6 hx106_0 hx106_1 hx106_2 hx106_3 hx106_4 hx106_5 hx106_6 hHeld ⊢
          refine pu HT_ 0 ?_
          refine pu HT_ 1 ?_
          refine pu HT_ 2 ?_
          refine pu HT_ 3 ?_
          refine pu HT_ 5 ?_
          refine pu HT_ 6 ?_
          refine ta HT_ HW_ hHeld 4 ?_
          refine pu HT_ 7 ?_
          refine ta HT_ HW_ hHeld 8 ?_
          refine ta HT_ HW_ hHeld 9 ?_
          refine on HT_ 10 (fun K hK => ?_)
          refine goes_ Try.func64 (by kernel_rfl) rfl #[.agg #[.slice A106_0 ((rd_T33 l0_1 (ji27)).f0.f0).length c106_0, .int .i64 ((rd_T33 l0_1 (ji27)).f1), .int .i64 ((rd_T33 l0_1 (ji27)).f2), .int .i64 ((rd_T33 l0_1 (ji27)).f3), .slice A106_4 ((rd_T33 l0_1 (ji27)).f4.f0).length c106_4, .slice A106_5 ((rd_T33 l0_1 (ji27)).f5).length c106_5, .slice A106_6 ((rd_T33 l0_1 (ji27)).f6).length c106_6], .agg #[.slice A104_0 ((rd_T33 l0_1 x25_2).f0.f0).length c104_0, .int .i64 ((rd_T33 l0_1 x25_2).f1), .int .i64 ((rd_T33 l0_1 x25_2).f2), .int .i64 ((rd_T33 l0_1 x25_2).f3), .slice A104_4 ((rd_T33 l0_1 x25_2).f4.f0).length c104_4, .slice A104_5 ((rd_T33 l0_1 x25_2).f5).length c104_5, .slice A104_6 ((rd_T33 l0_1 x25_2).f6).length c104_6]] (by rfl) rfl rfl (by (try simp only [List.map_toArray, List.map_cons, List.map_nil]); first | done | (simp only [hji27]; rfl) | rfl | (simp only [List.length_drop, List.length_take]; rfl)) ?_
          with_reducible refine (impl_Rr_compare.calls k2 _ _ ((rd_T33 l0_1 (ji27)).f0.f0) ((rd_T33 l0_1 (ji27)).f1) ((rd_T33 l0_1 (ji27)).f2) ((rd_T33 l0_1 (ji27)).f3) _ _ ((rd_T33 l0_1 (ji27)).f4.f0) _ _ ((rd_T33 l0_1 (ji27)).f5) _ _ ((rd_T33 l0_1 (ji27)).f6) _ _ ((rd_T33 l0_1 x25_2).f0.f0) ((rd_T33 l0_1 x25_2).f1) ((rd_T33 l0_1 x25_2).f2) ((rd_T33 l0_1 x25_2).f3) _ _ ((rd_T33 l0_1 x25_2).f4.f0) _ _ ((rd_T33 l0_1 x25_2).f5) _ _ ((rd_T33 l0_1 x25_2).f6) t107 _ ?side1 ?side2 ?side3 ?side4 ?side5 ?side6 ?side7 ?side8 ?side9 ?side10 ?side11 ?side12 ?side13 ?side14 ?side15 ?side16 A30.out).mono ?_
          (case side1 => exact cw HR106_0.out HB.out)
          (case side2 => exact HC106_0.out)
          (case side3 => exact cw HR106_4.out HB.out)
          (case side4 => exact HC106_4.out)
          (case side5 => exact cw HR106_5.out HB.out)
          (case side6 => exact HC106_5.out)
          (case side7 => exact cw HR106_6.out HB.out)
          (case side8 => exact HC106_6.out)
          (case side9 => exact cw HR104_0.out HB.out)
          (case side10 => exact HC104_0.out)
          (case side11 => exact cw HR104_4.out HB.out)
          (case side12 => exact HC104_4.out)
          (case side13 => exact cw HR104_5.out HB.out)
          (case side14 => exact HC104_5.out)
          (case side15 => exact cw HR104_6.out HB.out)
          (case side16 => exact HC104_6.out)
          rintro e w38 ⟨rfl, hb⟩
          refine ⟨_, rfl, ?_⟩
          replace BK101 := b1 BK101 hb
          replace BK105 := b1 BK105 hb
          replace HB := b2s bs hb
          refine hK.out _ _ kp (fun hHeld => ?_)
          (try clear hb)
          clear hK K
          refine norm_ (a' := ?_) ?_ ?_; rotate_left; go_simp; rfl
          refine pu HT_ 11 ?_
          refine pu HT_ 12 ?_
          refine pu HT_ 13 ?_
          refine pu HT_ 14 ?_
          refine pu HT_ 16 ?_
          refine ta HT_ HW_ hHeld 15 ?_
          refine ta HT_ HW_ hHeld 17 ?_
          refine on HT_ 18 (fun K hK => ?_)
          refine gsB Try.func101 (impl_Name_under.calls _ _ ((rd_T33 l0_1 x25_2).f0.f0) _ _ l0_0 t108 _ (cv HR104_0 HB) HC104_0.out (cv HR0_0 HB) HC0_0.out A35.out) (fun w39 hb => ?_)
          replace BK101 := b1 BK101 hb
          replace BK105 := b1 BK105 hb
          replace HB := b2s bs hb
          refine hK.out _ _ kp (fun hHeld => ?_)
          (try clear hb)
          clear hK K
          refine norm_ (a' := ?_) ?_ ?_; rotate_left; go_simp; rfl
          refine pu HT_ 19 ?_
          refine pu HT_ 20 ?_
          refine done_ (done_of HT_.out (by kernel_rfl)) ?_
          try go_wp2
          go_meet
          case rel => exact ⟨_, (!t108), o2, H', ⟨by have := HJ1.out; have := HK2.out; first | omega | exact Nat.le_refl _⟩, ⟨bk BK101.out⟩, ⟨bk BK105.out⟩, ⟨bs⟩⟩
        ·(first | rw [c26b0] | (simp only [i64_w, i32_w]; rw [c26b0]) | skip)
         replace H := bnd H
         obtain ⟨t109, A40, H⟩ := H
         have H' := ak H
         clear H
         try go_wp2
         have n0_ : Aside0 ((((((((w23.setCell ⟨gb105, 0, none⟩ (.slice A104_0 ((rd_T33 l0_1 x25_2).f0.f0).length c104_0)).setCell ⟨gb105, 1, none⟩ (.int .i64 ((rd_T33 l0_1 x25_2).f1))).setCell ⟨gb105, 2, none⟩ (.int .i64 ((rd_T33 l0_1 x25_2).f2))).setCell ⟨gb105, 3, none⟩ (.int .i64 ((rd_T33 l0_1 x25_2).f3))).setCell ⟨gb105, 4, none⟩ (.slice A104_4 ((rd_T33 l0_1 x25_2).f4.f0).length c104_4)).setCell ⟨gb105, 5, none⟩ (.slice A104_5 ((rd_T33 l0_1 x25_2).f5).length c104_5)).setCell ⟨gb105, 6, none⟩ (.slice A104_6 ((rd_T33 l0_1 x25_2).f6).length c104_6)).heap[gb101]? = some (.cells #[.slice A0_0 l0_0.length c0_0, .slice (some ad104) l0_1.length c0_1] 59 (0, 0))) := ⟨bfar7 NB101_105.out BK101.out⟩
         have n1_ : Aside0 ((((((((w23.setCell ⟨gb105, 0, none⟩ (.slice A104_0 ((rd_T33 l0_1 x25_2).f0.f0).length c104_0)).setCell ⟨gb105, 1, none⟩ (.int .i64 ((rd_T33 l0_1 x25_2).f1))).setCell ⟨gb105, 2, none⟩ (.int .i64 ((rd_T33 l0_1 x25_2).f2))).setCell ⟨gb105, 3, none⟩ (.int .i64 ((rd_T33 l0_1 x25_2).f3))).setCell ⟨gb105, 4, none⟩ (.slice A104_4 ((rd_T33 l0_1 x25_2).f4.f0).length c104_4)).setCell ⟨gb105, 5, none⟩ (.slice A104_5 ((rd_T33 l0_1 x25_2).f5).length c104_5)).setCell ⟨gb105, 6, none⟩ (.slice A104_6 ((rd_T33 l0_1 x25_2).f6).length c104_6)).heap[gb105]? = some (.cells #[.slice A104_0 ((rd_T33 l0_1 x25_2).f0.f0).length c104_0, .int .i64 ((rd_T33 l0_1 x25_2).f1), .int .i64 ((rd_T33 l0_1 x25_2).f2), .int .i64 ((rd_T33 l0_1 x25_2).f3), .slice A104_4 ((rd_T33 l0_1 x25_2).f4.f0).length c104_4, .slice A104_5 ((rd_T33 l0_1 x25_2).f5).length c104_5, .slice A104_6 ((rd_T33 l0_1 x25_2).f6).length c104_6] 33 (0, 0))) := ⟨bput7 BK105.out⟩
         have n2_ : Aside0 (Below w.heap.size w (((((((w23.setCell ⟨gb105, 0, none⟩ (.slice A104_0 ((rd_T33 l0_1 x25_2).f0.f0).length c104_0)).setCell ⟨gb105, 1, none⟩ (.int .i64 ((rd_T33 l0_1 x25_2).f1))).setCell ⟨gb105, 2, none⟩ (.int .i64 ((rd_T33 l0_1 x25_2).f2))).setCell ⟨gb105, 3, none⟩ (.int .i64 ((rd_T33 l0_1 x25_2).f3))).setCell ⟨gb105, 4, none⟩ (.slice A104_4 ((rd_T33 l0_1 x25_2).f4.f0).length c104_4)).setCell ⟨gb105, 5, none⟩ (.slice A104_5 ((rd_T33 l0_1 x25_2).f5).length c104_5)).setCell ⟨gb105, 6, none⟩ (.slice A104_6 ((rd_T33 l0_1 x25_2).f6).length c104_6))) := ⟨bs⟩
         (try clear BK101)
         (try clear BK105)
         (try clear HB)
         generalize (((((((w23.setCell ⟨gb105, 0, none⟩ (.slice A104_0 ((rd_T33 l0_1 x25_2).f0.f0).length c104_0)).setCell ⟨gb105, 1, none⟩ (.int .i64 ((rd_T33 l0_1 x25_2).f1))).setCell ⟨gb105, 2, none⟩ (.int .i64 ((rd_T33 l0_1 x25_2).f2))).setCell ⟨gb105, 3, none⟩ (.int .i64 ((rd_T33 l0_1 x25_2).f3))).setCell ⟨gb105, 4, none⟩ (.slice A104_4 ((rd_T33 l0_1 x25_2).f4.f0).length c104_4)).setCell ⟨gb105, 5, none⟩ (.slice A104_5 ((rd_T33 l0_1 x25_2).f5).length c104_5)).setCell ⟨gb105, 6, none⟩ (.slice A104_6 ((rd_T33 l0_1 x25_2).f6).length c104_6)) = w41 at n0_ n1_ n2_ ⊢
         have BK101 := n0_
         have BK105 := n1_
         have HB := n2_
         clear n0_ n1_ n2_
         replace BK101 := ak (blk_drew BK101.out)
         replace BK105 := ak (blk_drew BK105.out)
         replace HB := ak (below_drew1 HB.out)
         refine start_ (n := 21) (S := fun w' => w'.cell? ⟨gb105, 0, none⟩ = some (.slice A104_0 ((rd_T33 l0_1 x25_2).f0.f0).length c104_0) ∧ w'.cell? ⟨gb105, 1, none⟩ = some (.int .i64 ((rd_T33 l0_1 x25_2).f1)) ∧ w'.cell? ⟨gb105, 2, none⟩ = some (.int .i64 ((rd_T33 l0_1 x25_2).f2)) ∧ w'.cell? ⟨gb105, 3, none⟩ = some (.int .i64 ((rd_T33 l0_1 x25_2).f3)) ∧ w'.cell? ⟨gb105, 4, none⟩ = some (.slice A104_4 ((rd_T33 l0_1 x25_2).f4.f0).length c104_4) ∧ w'.cell? ⟨gb105, 5, none⟩ = some (.slice A104_5 ((rd_T33 l0_1 x25_2).f5).length c104_5) ∧ w'.cell? ⟨gb105, 6, none⟩ = some (.slice A104_6 ((rd_T33 l0_1 x25_2).f6).length c104_6) ∧ w'.cell? ⟨gb101, 0, none⟩ = some (.slice A0_0 l0_0.length c0_0) ∧ w'.cell? ⟨gb101, 1, none⟩ = some (.slice (some ad104) l0_1.length c0_1)) (ds := []) (bA 21 0) (by kernel_rfl) rfl rfl kq (fun hHeld => ?_); refine with_tabW impl_ZoneOk.tab7 impl_ZoneOk.bits7 (fun HT_ HW_ => ?_)
         generalize w41.drew = w42 at BK101 BK105 HB hHeld ⊢
         refine pu HT_ 0 ?_
         refine pu HT_ 1 ?_
         refine pu HT_ 2 ?_
         refine sk HT_ 3 ?_
         refine sk HT_ 4 ?_
         refine sk HT_ 5 ?_
         refine sk HT_ 6 ?_
         refine sk HT_ 7 ?_
         refine sk HT_ 8 ?_
         refine sk HT_ 9 ?_
         refine sk HT_ 10 ?_
         refine sk HT_ 11 ?_
         refine pu HT_ 12 ?_
         refine pu HT_ 13 ?_
         refine pu HT_ 14 ?_
         refine pu HT_ 16 ?_
         refine ta HT_ HW_ hHeld 15 ?_
         refine ta HT_ HW_ hHeld 17 ?_
         refine on HT_ 18 (fun K hK => ?_)
         refine gsB Try.func101 (impl_Name_under.calls _ _ ((rd_T33 l0_1 x25_2).f0.f0) _ _ l0_0 t109 _ (cv HR104_0 HB) HC104_0.out (cv HR0_0 HB) HC0_0.out A40.out) (fun w43 hb => ?_)
         replace BK101 := b1 BK101 hb
         replace BK105 := b1 BK105 hb
         replace HB := b2s bs hb
         refine hK.out _ _ kp (fun hHeld => ?_)
         (try clear hb)
         clear hK K
         refine norm_ (a' := ?_) ?_ ?_; rotate_left; go_simp; rfl
         refine pu HT_ 19 ?_
         refine pu HT_ 20 ?_
         refine done_ (done_of HT_.out (by kernel_rfl)) ?_
         try go_wp2
         go_meet
         case rel => exact ⟨_, (!t109), o2, H', ⟨by have := HJ1.out; have := HK2.out; first | omega | exact Nat.le_refl _⟩, ⟨bk BK101.out⟩, ⟨bk BK105.out⟩, ⟨bs⟩⟩
       case rest =>
        clear HC22
        obtain ⟨kq, x50_21, rfl, HA, HJ21, BK101, BK105, HB⟩ := hcut
        cases kq with
        | zero => exact absurd HA.out (by simp [impl_ZoneOk.j2])
        | succ kj21 =>
         have H := HA.out
         clear HA
         simp only [impl_ZoneOk.j2] at H
         replace H := ib H
         obtain ⟨rfl, H⟩ | ⟨rfl, H⟩ := H
         ·obtain rfl := Option.some.inj H
          go_wp2
          go_ret
          exact ⟨o1, bs⟩
         ·replace H := ie H
          obtain ⟨c45b0, c45b1, H⟩ | ⟨c45b0, c45b1, H⟩ := H
          ·replace H := bnd H
           obtain ⟨t110, A46, H⟩ := H
           replace H := ib H
           obtain ⟨rfl, H⟩ | ⟨rfl, H⟩ := H
           ·replace H := ie H
            obtain ⟨c48b0, c48b1, H⟩ | ⟨c48b0, c48b1, H⟩ := H
            ·replace H := bnd H
             obtain ⟨t111, A49, H⟩ := H
             replace H := ig H
             obtain ⟨c50b0, H⟩ | ⟨c50b0, H⟩ := H
             ·have c50b1 : decide (1 < t111.length) = true := decide_eq_true (by have := of_decide_eq_true c50b0; omega)
              obtain rfl := Option.some.inj H
              have hnb51 := NB105_101.out
              have hnc51 := NB101_105.out
              obtain ⟨hcz52_0, hcz52_1, hcz52_2, hcz52_3, hcz52_4, hcz52_5, hcz52_6, hfz52_0, hfz52_1, hfz52_2, hfz52_3, hfz52_4, hfz52_5, hfz52_6⟩ := cells7 BK105.out
              obtain ⟨hcz53_0, hcz53_1, hfz53_0, hfz53_1⟩ := cells2 BK101.out
              go_wp2_with (first | ((with_reducible refine gate_callee (f := 102) rfl ?_);refine glB 60 rfl rfl Try.func102 (impl_Name_is.calls kj21 _ _ ((rd_T33 l0_1 x25_2).f0.f0) _ _ l0_0 true _ (cv HR104_0 HB) HC104_0.out (cv HR0_0 HB) HC0_0.out A46.out) (fun w54 hb => ?_);replace BK101 := b1 BK101 hb;replace BK105 := b1 BK105 hb;replace HB := b2s bs hb;(try clear hb);obtain ⟨hcz55_0, hcz55_1, hcz55_2, hcz55_3, hcz55_4, hcz55_5, hcz55_6, hfz55_0, hfz55_1, hfz55_2, hfz55_3, hfz55_4, hfz55_5, hfz55_6⟩ := cells7 BK105.out;obtain ⟨hcz56_0, hcz56_1, hfz56_0, hfz56_1⟩ := cells2 BK101.out) | (go_at_call 103;(with_reducible refine (impl_Zone_set.calls kj21 _ _ l0_0 (fun k_ => k_ < w.heap.size) _ _ l0_1 _ _ ((rd_T33 l0_1 x25_2).f0.f0) 255 t111 _ (cv HR0_0 HB) HC0_0.out ?side3 (cv HR104_0 HB) HC104_0.out A49.out).mono ?_);(case side3 => exact Kd.V_mk HC0_1.out (Kd.F_below (Kd.C_F k33_heap HR0_1.out) bs));rintro e w57 ⟨v112, rfl, ho0, hb⟩;have HO113 := ak (Kd.N_lower (Kd.N_mono (ok' := fun k_ => k_ ≠ gb101 ∧ k_ ≠ gb105) ho0 (fun k_ hk_ => ⟨Or.elim hk_ (fun hs_ => fun e_ => Nat.not_le.2 hs_ (by rw [e_]; exact GW101.out)) (fun hn_ => (Kd.freshB (g := gb101) (o := .cells #[.slice A0_0 l0_0.length c0_0, .slice (some ad104) l0_1.length c0_1] 59 (0, 0)) (bk BK101.out) k_ hn_)), Or.elim hk_ (fun hs_ => fun e_ => Nat.not_le.2 hs_ (by rw [e_]; exact GW105.out)) (fun hn_ => (Kd.freshB (g := gb105) (o := .cells #[.slice A104_0 ((rd_T33 l0_1 x25_2).f0.f0).length c104_0, .int .i64 ((rd_T33 l0_1 x25_2).f1), .int .i64 ((rd_T33 l0_1 x25_2).f2), .int .i64 ((rd_T33 l0_1 x25_2).f3), .slice A104_4 ((rd_T33 l0_1 x25_2).f4.f0).length c104_4, .slice A104_5 ((rd_T33 l0_1 x25_2).f5).length c104_5, .slice A104_6 ((rd_T33 l0_1 x25_2).f6).length c104_6] 33 (0, 0)) (bk BK105.out) k_ hn_))⟩)) (below_size bs));replace BK101 := b1 BK101 hb;replace BK105 := b1 BK105 hb;replace HB := b2s bs hb;(try clear hb);(try clear ho0);obtain ⟨Ao58, co58, eo58⟩ := Kd.N_slice HO113.out;subst eo58))
              go_ret
              exact ⟨o1, bs⟩
             ·have c50b1 : decide (1 < t111.length) = false := decide_eq_false (by have := of_decide_eq_false c50b0; omega)
              have H' := ak H
              clear H
              have hnb59 := NB105_101.out
              have hnc59 := NB101_105.out
              obtain ⟨hcz60_0, hcz60_1, hcz60_2, hcz60_3, hcz60_4, hcz60_5, hcz60_6, hfz60_0, hfz60_1, hfz60_2, hfz60_3, hfz60_4, hfz60_5, hfz60_6⟩ := cells7 BK105.out
              obtain ⟨hcz61_0, hcz61_1, hfz61_0, hfz61_1⟩ := cells2 BK101.out
              go_wp2_with (first | ((with_reducible refine gate_callee (f := 102) rfl ?_);refine glB 60 rfl rfl Try.func102 (impl_Name_is.calls kj21 _ _ ((rd_T33 l0_1 x25_2).f0.f0) _ _ l0_0 true _ (cv HR104_0 HB) HC104_0.out (cv HR0_0 HB) HC0_0.out A46.out) (fun w62 hb => ?_);replace BK101 := b1 BK101 hb;replace BK105 := b1 BK105 hb;replace HB := b2s bs hb;(try clear hb);obtain ⟨hcz63_0, hcz63_1, hcz63_2, hcz63_3, hcz63_4, hcz63_5, hcz63_6, hfz63_0, hfz63_1, hfz63_2, hfz63_3, hfz63_4, hfz63_5, hfz63_6⟩ := cells7 BK105.out;obtain ⟨hcz64_0, hcz64_1, hfz64_0, hfz64_1⟩ := cells2 BK101.out) | (go_at_call 103;(with_reducible refine (impl_Zone_set.calls kj21 _ _ l0_0 (fun k_ => k_ < w.heap.size) _ _ l0_1 _ _ ((rd_T33 l0_1 x25_2).f0.f0) 255 t111 _ (cv HR0_0 HB) HC0_0.out ?side3 (cv HR104_0 HB) HC104_0.out A49.out).mono ?_);(case side3 => exact Kd.V_mk HC0_1.out (Kd.F_below (Kd.C_F k33_heap HR0_1.out) bs));rintro e w65 ⟨v112, rfl, ho0, hb⟩;have HO113 := ak (Kd.N_lower (Kd.N_mono (ok' := fun k_ => k_ ≠ gb101 ∧ k_ ≠ gb105) ho0 (fun k_ hk_ => ⟨Or.elim hk_ (fun hs_ => fun e_ => Nat.not_le.2 hs_ (by rw [e_]; exact GW101.out)) (fun hn_ => (Kd.freshB (g := gb101) (o := .cells #[.slice A0_0 l0_0.length c0_0, .slice (some ad104) l0_1.length c0_1] 59 (0, 0)) (bk BK101.out) k_ hn_)), Or.elim hk_ (fun hs_ => fun e_ => Nat.not_le.2 hs_ (by rw [e_]; exact GW105.out)) (fun hn_ => (Kd.freshB (g := gb105) (o := .cells #[.slice A104_0 ((rd_T33 l0_1 x25_2).f0.f0).length c104_0, .int .i64 ((rd_T33 l0_1 x25_2).f1), .int .i64 ((rd_T33 l0_1 x25_2).f2), .int .i64 ((rd_T33 l0_1 x25_2).f3), .slice A104_4 ((rd_T33 l0_1 x25_2).f4.f0).length c104_4, .slice A104_5 ((rd_T33 l0_1 x25_2).f5).length c104_5, .slice A104_6 ((rd_T33 l0_1 x25_2).f6).length c104_6] 33 (0, 0)) (bk BK105.out) k_ hn_))⟩)) (below_size bs));replace BK101 := b1 BK101 hb;replace BK105 := b1 BK105 hb;replace HB := b2s bs hb;(try clear hb);(try clear ho0);obtain ⟨Ao66, co66, eo66⟩ := Kd.N_slice HO113.out;subst eo66))
              go_roundg kj21
              case measure => have := HJ1.out; have := HK2.out; have := HJ21.out; omega
              case rel => exact ⟨(wrap64 (x3_2 + 1)), (wrap64 (x25_2 + 1)), o2, o2, H', ⟨by have := HJ1.out; have := HK2.out; have := HJ21.out; omega⟩, ⟨bk BK101.out⟩, ⟨bs⟩⟩
            ·have H' := ak H
             clear H
             have hnb67 := NB105_101.out
             have hnc67 := NB101_105.out
             obtain ⟨hcz68_0, hcz68_1, hcz68_2, hcz68_3, hcz68_4, hcz68_5, hcz68_6, hfz68_0, hfz68_1, hfz68_2, hfz68_3, hfz68_4, hfz68_5, hfz68_6⟩ := cells7 BK105.out
             obtain ⟨hcz69_0, hcz69_1, hfz69_0, hfz69_1⟩ := cells2 BK101.out
             go_wp2_with (((with_reducible refine gate_callee (f := 102) rfl ?_);refine glB 60 rfl rfl Try.func102 (impl_Name_is.calls kj21 _ _ ((rd_T33 l0_1 x25_2).f0.f0) _ _ l0_0 true _ (cv HR104_0 HB) HC104_0.out (cv HR0_0 HB) HC0_0.out A46.out) (fun w70 hb => ?_);replace BK101 := b1 BK101 hb;replace BK105 := b1 BK105 hb;replace HB := b2s bs hb;(try clear hb);obtain ⟨hcz71_0, hcz71_1, hcz71_2, hcz71_3, hcz71_4, hcz71_5, hcz71_6, hfz71_0, hfz71_1, hfz71_2, hfz71_3, hfz71_4, hfz71_5, hfz71_6⟩ := cells7 BK105.out))
             go_roundg kj21
             case measure => have := HJ1.out; have := HK2.out; have := HJ21.out; omega
             case rel => exact ⟨(wrap64 (x3_2 + 1)), (wrap64 (x25_2 + 1)), o2, o2, H', ⟨by have := HJ1.out; have := HK2.out; have := HJ21.out; omega⟩, ⟨bk BK101.out⟩, ⟨bs⟩⟩
           ·obtain rfl := Option.some.inj H
            have hnb72 := NB105_101.out
            have hnc72 := NB101_105.out
            obtain ⟨hcz73_0, hcz73_1, hcz73_2, hcz73_3, hcz73_4, hcz73_5, hcz73_6, hfz73_0, hfz73_1, hfz73_2, hfz73_3, hfz73_4, hfz73_5, hfz73_6⟩ := cells7 BK105.out
            obtain ⟨hcz74_0, hcz74_1, hfz74_0, hfz74_1⟩ := cells2 BK101.out
            go_wp2_with (((with_reducible refine gate_callee (f := 102) rfl ?_);refine glB 60 rfl rfl Try.func102 (impl_Name_is.calls kj21 _ _ ((rd_T33 l0_1 x25_2).f0.f0) _ _ l0_0 false _ (cv HR104_0 HB) HC104_0.out (cv HR0_0 HB) HC0_0.out A46.out) (fun w75 hb => ?_);replace BK101 := b1 BK101 hb;replace BK105 := b1 BK105 hb;replace HB := b2s bs hb;(try clear hb)))
            go_ret
            exact ⟨o1, bs⟩
          ·replace H := ie H
           obtain ⟨c76b0, c76b1, H⟩ | ⟨c76b0, c76b1, H⟩ := H
           ·replace H := bnd H
            obtain ⟨t114, A77, H⟩ := H
            replace H := ig H
            obtain ⟨c78b0, H⟩ | ⟨c78b0, H⟩ := H
            ·have c78b1 : decide (1 < t114.length) = true := decide_eq_true (by have := of_decide_eq_true c78b0; omega)
             obtain rfl := Option.some.inj H
             have hnb79 := NB105_101.out
             have hnc79 := NB101_105.out
             obtain ⟨hcz80_0, hcz80_1, hcz80_2, hcz80_3, hcz80_4, hcz80_5, hcz80_6, hfz80_0, hfz80_1, hfz80_2, hfz80_3, hfz80_4, hfz80_5, hfz80_6⟩ := cells7 BK105.out
             obtain ⟨hcz81_0, hcz81_1, hfz81_0, hfz81_1⟩ := cells2 BK101.out
             go_wp2_with ((go_at_call 103;(with_reducible refine (impl_Zone_set.calls kj21 _ _ l0_0 (fun k_ => k_ < w.heap.size) _ _ l0_1 _ _ ((rd_T33 l0_1 x25_2).f0.f0) 255 t114 _ (cv HR0_0 HB) HC0_0.out ?side3 (cv HR104_0 HB) HC104_0.out A77.out).mono ?_);(case side3 => exact Kd.V_mk HC0_1.out (Kd.F_below (Kd.C_F k33_heap HR0_1.out) bs));rintro e w82 ⟨v115, rfl, ho0, hb⟩;have HO116 := ak (Kd.N_lower (Kd.N_mono (ok' := fun k_ => k_ ≠ gb101 ∧ k_ ≠ gb105) ho0 (fun k_ hk_ => ⟨Or.elim hk_ (fun hs_ => fun e_ => Nat.not_le.2 hs_ (by rw [e_]; exact GW101.out)) (fun hn_ => (Kd.freshB (g := gb101) (o := .cells #[.slice A0_0 l0_0.length c0_0, .slice (some ad104) l0_1.length c0_1] 59 (0, 0)) (bk BK101.out) k_ hn_)), Or.elim hk_ (fun hs_ => fun e_ => Nat.not_le.2 hs_ (by rw [e_]; exact GW105.out)) (fun hn_ => (Kd.freshB (g := gb105) (o := .cells #[.slice A104_0 ((rd_T33 l0_1 x25_2).f0.f0).length c104_0, .int .i64 ((rd_T33 l0_1 x25_2).f1), .int .i64 ((rd_T33 l0_1 x25_2).f2), .int .i64 ((rd_T33 l0_1 x25_2).f3), .slice A104_4 ((rd_T33 l0_1 x25_2).f4.f0).length c104_4, .slice A104_5 ((rd_T33 l0_1 x25_2).f5).length c104_5, .slice A104_6 ((rd_T33 l0_1 x25_2).f6).length c104_6] 33 (0, 0)) (bk BK105.out) k_ hn_))⟩)) (below_size bs));replace BK101 := b1 BK101 hb;replace BK105 := b1 BK105 hb;replace HB := b2s bs hb;(try clear hb);(try clear ho0);obtain ⟨Ao83, co83, eo83⟩ := Kd.N_slice HO116.out;subst eo83))
             go_ret
             exact ⟨o1, bs⟩
            ·have c78b1 : decide (1 < t114.length) = false := decide_eq_false (by have := of_decide_eq_false c78b0; omega)
             have H' := ak H
             clear H
             have hnb84 := NB105_101.out
             have hnc84 := NB101_105.out
             obtain ⟨hcz85_0, hcz85_1, hcz85_2, hcz85_3, hcz85_4, hcz85_5, hcz85_6, hfz85_0, hfz85_1, hfz85_2, hfz85_3, hfz85_4, hfz85_5, hfz85_6⟩ := cells7 BK105.out
             obtain ⟨hcz86_0, hcz86_1, hfz86_0, hfz86_1⟩ := cells2 BK101.out
             go_wp2_with ((go_at_call 103;(with_reducible refine (impl_Zone_set.calls kj21 _ _ l0_0 (fun k_ => k_ < w.heap.size) _ _ l0_1 _ _ ((rd_T33 l0_1 x25_2).f0.f0) 255 t114 _ (cv HR0_0 HB) HC0_0.out ?side3 (cv HR104_0 HB) HC104_0.out A77.out).mono ?_);(case side3 => exact Kd.V_mk HC0_1.out (Kd.F_below (Kd.C_F k33_heap HR0_1.out) bs));rintro e w87 ⟨v115, rfl, ho0, hb⟩;have HO116 := ak (Kd.N_lower (Kd.N_mono (ok' := fun k_ => k_ ≠ gb101 ∧ k_ ≠ gb105) ho0 (fun k_ hk_ => ⟨Or.elim hk_ (fun hs_ => fun e_ => Nat.not_le.2 hs_ (by rw [e_]; exact GW101.out)) (fun hn_ => (Kd.freshB (g := gb101) (o := .cells #[.slice A0_0 l0_0.length c0_0, .slice (some ad104) l0_1.length c0_1] 59 (0, 0)) (bk BK101.out) k_ hn_)), Or.elim hk_ (fun hs_ => fun e_ => Nat.not_le.2 hs_ (by rw [e_]; exact GW105.out)) (fun hn_ => (Kd.freshB (g := gb105) (o := .cells #[.slice A104_0 ((rd_T33 l0_1 x25_2).f0.f0).length c104_0, .int .i64 ((rd_T33 l0_1 x25_2).f1), .int .i64 ((rd_T33 l0_1 x25_2).f2), .int .i64 ((rd_T33 l0_1 x25_2).f3), .slice A104_4 ((rd_T33 l0_1 x25_2).f4.f0).length c104_4, .slice A104_5 ((rd_T33 l0_1 x25_2).f5).length c104_5, .slice A104_6 ((rd_T33 l0_1 x25_2).f6).length c104_6] 33 (0, 0)) (bk BK105.out) k_ hn_))⟩)) (below_size bs));replace BK101 := b1 BK101 hb;replace BK105 := b1 BK105 hb;replace HB := b2s bs hb;(try clear hb);(try clear ho0);obtain ⟨Ao88, co88, eo88⟩ := Kd.N_slice HO116.out;subst eo88))
             go_roundg kj21
             case measure => have := HJ1.out; have := HK2.out; have := HJ21.out; omega
             case rel => exact ⟨(x3_2), (wrap64 (x25_2 + 1)), o2, o2, H', ⟨by have := HJ1.out; have := HK2.out; have := HJ21.out; omega⟩, ⟨bk BK101.out⟩, ⟨bs⟩⟩
           ·have H' := ak H
            clear H
            have hnb89 := NB105_101.out
            have hnc89 := NB101_105.out
            obtain ⟨hcz90_0, hcz90_1, hcz90_2, hcz90_3, hcz90_4, hcz90_5, hcz90_6, hfz90_0, hfz90_1, hfz90_2, hfz90_3, hfz90_4, hfz90_5, hfz90_6⟩ := cells7 BK105.out
            go_wp2
            go_roundg kj21
            case measure => have := HJ1.out; have := HK2.out; have := HJ21.out; omega
            case rel => exact ⟨(x3_2), (wrap64 (x25_2 + 1)), o2, o2, H', ⟨by have := HJ1.out; have := HK2.out; have := HJ21.out; omega⟩, ⟨bk BK101.out⟩, ⟨bs⟩⟩
      ·obtain rfl := Option.some.inj H
       go_wp2
       go_ret
       exact ⟨o1, bs⟩

/-! ### impl_Zone_owner_1: function 179 -/

set_option maxHeartbeats 2000000 in
theorem impl_Zone_owner_1.calls (x : S33) (cs : List Value) (A1 : Option Addr) (c1 : Nat) (l1 : List Int) (B : Nat) (b : Bool) (w : World) (hK : k33.K w x cs) (hr1 : Kd.C (Kd.int .u8) w A1 l1.length l1) (hc1 : l1.length ≤ c1) (hv : w.cell? ⟨B, 0, none⟩ = some (.slice A1 l1.length c1))
  (h : bytes_Equal.f x.f5 l1 = some b) :
  Calls Try.prog 179 #[.agg cs.toArray, .pointer (some ⟨B, 0, none⟩)] w fun e w' => e = .returned (.bool b) ∧ Below w.heap.size w w' := by
 obtain ⟨A0, c0, A4, c4, A5, c5, A6, c6, rfl, l0, g0, l4, g4, l5, g5, l6, g6⟩ := k33_open hK
 have HB := ak (Below.refl w.heap.size w)
 have HV := ak hv
 have H0 := ak g5
 have L0 := ak l5
 have H1 := ak hr1
 have L1 := ak hc1
 have HH := ak h
 clear hK hr1 hc1 hv h g0 l0 l4 g4 l5 g5 l6 g6
 go_enter Try.func179, Try.ntmps179
 go_wp2_with (first | ((with_reducible refine gate_dst (N := 2) rfl ?_);refine bxd (N := 2) rfl HB ?_;clear HB;intro gb w2 hg HB BK GE hb;clear hg hb;obtain ⟨_, _, _, _, _, hz5, _, _, _, _, _, _, hf5, _⟩ := cells7 BK.out;have hz1 := (HB.out.cell (World.block_lt_of_cell? w _ HV.out)).trans HV.out) | (go_at_call 175;refine (bytes_Equal.calls _ _ x.f5 _ _ l1 b _ (cw H0.out HB.out) L0.out (cw H1.out HB.out) L1.out HH.out).mono ?_;rintro e w3 ⟨rfl, nd, rfl⟩))
 go_ret
 exact ⟨rfl, bw HB.out⟩

/-! ### impl_Zone_owner: function 113 -/

def impl_Zone_owner.f (k : Nat) (l0_0 : List (List Int)) (l0_1 : List S33) (l1_0 : List (List Int)) (l2 : List Int) : Option (Bool × Bool) :=
 (impl_Zone_set.f k l0_0 l0_1 l1_0 49).bind fun own => (impl_Zone_set.f k l0_0 l0_1 l1_0 255).bind fun al =>
  (if 0 < own.length then (impl_Rr_223.idx (fun x => (bytes_Equal.f x.f5 l2).map (fun b => !b)) own 0).map (fun r => !decide (0 ≤ r)) else some false).bind fun b => some (((al.length : Int) == 0), b)
theorem impl_Zone_owner.mono : ∀ a0 a1 a2 a3 k, LeO (impl_Zone_owner.f k a0 a1 a2 a3) (impl_Zone_owner.f (k + 1) a0 a1 a2 a3) := by
 intro a0 a1 a2 a3 k
 unfold impl_Zone_owner.f
 exact LeO.bind (impl_Zone_set.mono _ _ _ _ _) (fun _ => LeO.bind (impl_Zone_set.mono _ _ _ _ _) (fun _ => LeO.refl _))
set_option maxHeartbeats 8000000 in
set_option maxRecDepth 100000 in
theorem impl_Zone_owner.calls (k : Nat) (A0_0 : Option Addr) (c0_0 : Nat) (l0_0 : List (List Int)) (A0_1 : Option Addr) (c0_1 : Nat) (l0_1 : List S33) (A1_0 : Option Addr) (c1_0 : Nat) (l1_0 : List (List Int)) (A2 : Option Addr) (c2 : Nat) (l2 : List Int) (r1 : Bool) (r2 : Bool) (w : World) (hr0_0 : Kd.C (Kd.slice 5 (Kd.int .u8)) w A0_0 l0_0.length l0_0) (hc0_0 : l0_0.length ≤ c0_0) (hr0_1 : Kd.C k33 w A0_1 l0_1.length l0_1) (hc0_1 : l0_1.length ≤ c0_1) (hr1_0 : Kd.C (Kd.slice 5 (Kd.int .u8)) w A1_0 l1_0.length l1_0) (hc1_0 : l1_0.length ≤ c1_0) (hr2 : Kd.C (Kd.int .u8) w A2 l2.length l2) (hc2 : l2.length ≤ c2) (h : impl_Zone_owner.f k l0_0 l0_1 l1_0 l2 = some (r1, r2)) :
  Calls Try.prog 113 #[.agg #[.slice A0_0 l0_0.length c0_0, .slice A0_1 l0_1.length c0_1], .agg #[.slice A1_0 l1_0.length c1_0], .slice A2 l2.length c2] w fun e w' => e = .returned (.tuple #[.bool r1, .bool r2]) ∧ Below w.heap.size w w' := by
 have eg : ∀ args w, (callFunc 179 args).run Try.prog w = .ok (.enter 179 args) w := enters_of Try.func179 (by kernel_rfl) rfl
 unfold impl_Zone_owner.f at h
 obtain ⟨own, h1, h⟩ := Option.bind_eq_some_iff.1 h
 obtain ⟨al, h2, h⟩ := Option.bind_eq_some_iff.1 h
 obtain ⟨b, h3, h⟩ := Option.bind_eq_some_iff.1 h
 have h := Option.some.inj h
 injection h with e1 e2
 subst e1
 subst e2
 have HB := ak (Below.refl w.heap.size w)
 have HO := ak hr0_0
 have LO := ak hc0_0
 have H1 := ak hr0_1
 have L1 := ak hc0_1
 have HN := ak hr1_0
 have LN := ak hc1_0
 have HI := ak hr2
 have LI := ak hc2
 have S1 := ak h1
 have S2 := ak h2
 clear hr0_0 hc0_0 hr0_1 hc0_1 hr1_0 hc1_0 hr2 hc2 h1 h2
 by_cases c : 0 < own.length
 ·rw [if_pos c] at h3
  obtain ⟨i, hi, rfl⟩ := Option.map_eq_some_iff.1 h3
  have HX := ak hi
  have cz : (0 : Int) < (own.length : Int) := by omega
  clear h3 hi
  go_enter Try.func113, Try.ntmps113
  go_wp2_with (first | ((with_reducible refine gate_dst (N := 3) rfl ?_);refine bxd (N := 3) rfl HB ?_;clear HB;intro gz w2 hg HB BZ GZ hb;clear hg hb) | ((with_reducible refine gate_dst (N := 4) rfl ?_);refine bxd (N := 4) rfl HB ?_;clear HB;intro gn w3 hg HB BN GN hb;clear hg;replace BZ := b1 BZ hb;clear hb) | ((with_reducible refine gate_dst (N := 5) rfl ?_);refine bxd (N := 5) rfl HB ?_;clear HB;intro gi w4 hg HB BI GI hb;clear hg;replace BZ := b1 BZ hb;replace BN := b1 BN hb;clear hb;obtain ⟨hz0, hz1, hf0, hf1⟩ := cells2 BZ.out;obtain ⟨hn0, hg0⟩ := cells1 BN.out) | (go_at_call 103;(with_reducible refine (impl_Zone_set.calls k _ _ l0_0 (fun k_ => k_ < w.heap.size) _ _ l0_1 _ _ l1_0 49 own _ (cv HO HB) LO.out ?side3 (cv HN HB) LN.out S1.out).mono ?_);(case side3 => exact Kd.V_mk L1.out (Kd.F_below (Kd.C_F k33_heap H1.out) (bw HB.out)));rintro e w5 ⟨v0, rfl, ho, hb⟩;obtain ⟨Ao, co, rfl⟩ := Kd.N_slice ho;have HC1 := ak (Kd.N_reads' ho).2.2;replace HB := b2 HB hb;replace BZ := b1 BZ hb;replace BN := b1 BN hb;replace BI := b1 BI hb;clear hb ho hz0 hz1 hf0 hf1 hn0 hg0;obtain ⟨hz0, hz1, hf0, hf1⟩ := cells2 BZ.out;obtain ⟨hn0, hg0⟩ := cells1 BN.out) | (go_at_call 103;(with_reducible refine (impl_Zone_set.calls k _ _ l0_0 (fun k_ => k_ < w.heap.size) _ _ l0_1 _ _ l1_0 255 al _ (cv HO HB) LO.out ?side3 (cv HN HB) LN.out S2.out).mono ?_);(case side3 => exact Kd.V_mk L1.out (Kd.F_below (Kd.C_F k33_heap H1.out) (bw HB.out)));rintro e w6 ⟨v1, rfl, ho, hb⟩;obtain ⟨Ap, cp, rfl⟩ := Kd.N_slice ho;replace HC1 := ak (Kd.C_below HC1.out hb);replace HB := b2 HB hb;replace BI := b1 BI hb;clear hb ho) | (go_at_call 100;refine (impl_Rr_100.any 179 #[.pointer (some ⟨gi, 0, none⟩)] eg (fun x => bytes_Equal.f x.f5 l2) _ _ own i _ HC1.out (fun W cs x b hW hK hq => impl_Zone_owner_1.calls x cs A2 c2 l2 gi b W hK (Kd.C_below (cw HI.out HB.out) hW) LI.out ((hW.cell (World.block_lt_of_cell? _ _ ((blk_cell BI.out 0).trans rfl))).trans ((blk_cell BI.out 0).trans rfl)) hq) HX.out).mono ?_;rintro e w7 ⟨rfl, hb⟩))
  go_ret2
  exact ⟨rfl, below_step (bw HB.out) hb⟩
 ·rw [if_neg c] at h3
  obtain rfl := Option.some.inj h3
  have cz : ¬ (0 : Int) < (own.length : Int) := by omega
  clear h3
  go_enter Try.func113, Try.ntmps113
  go_wp2_with (first | ((with_reducible refine gate_dst (N := 3) rfl ?_);refine bxd (N := 3) rfl HB ?_;clear HB;intro gz w2 hg HB BZ GZ hb;clear hg hb) | ((with_reducible refine gate_dst (N := 4) rfl ?_);refine bxd (N := 4) rfl HB ?_;clear HB;intro gn w3 hg HB BN GN hb;clear hg;replace BZ := b1 BZ hb;clear hb) | ((with_reducible refine gate_dst (N := 5) rfl ?_);refine bxd (N := 5) rfl HB ?_;clear HB;intro gi w4 hg HB BI GI hb;clear hg;replace BZ := b1 BZ hb;replace BN := b1 BN hb;clear hb;obtain ⟨hz0, hz1, hf0, hf1⟩ := cells2 BZ.out;obtain ⟨hn0, hg0⟩ := cells1 BN.out) | (go_at_call 103;(with_reducible refine (impl_Zone_set.calls k _ _ l0_0 (fun k_ => k_ < w.heap.size) _ _ l0_1 _ _ l1_0 49 own _ (cv HO HB) LO.out ?side3 (cv HN HB) LN.out S1.out).mono ?_);(case side3 => exact Kd.V_mk L1.out (Kd.F_below (Kd.C_F k33_heap H1.out) (bw HB.out)));rintro e w5 ⟨v0, rfl, ho, hb⟩;obtain ⟨Ao, co, rfl⟩ := Kd.N_slice ho;replace HB := b2 HB hb;replace BZ := b1 BZ hb;replace BN := b1 BN hb;clear hb ho hz0 hz1 hf0 hf1 hn0 hg0;obtain ⟨hz0, hz1, hf0, hf1⟩ := cells2 BZ.out;obtain ⟨hn0, hg0⟩ := cells1 BN.out) | (go_at_call 103;(with_reducible refine (impl_Zone_set.calls k _ _ l0_0 (fun k_ => k_ < w.heap.size) _ _ l0_1 _ _ l1_0 255 al _ (cv HO HB) LO.out ?side3 (cv HN HB) LN.out S2.out).mono ?_);(case side3 => exact Kd.V_mk L1.out (Kd.F_below (Kd.C_F k33_heap H1.out) (bw HB.out)));rintro e w6 ⟨v1, rfl, ho, hb⟩;obtain ⟨Ap, cp, rfl⟩ := Kd.N_slice ho;replace HB := b2 HB hb;clear hb ho))
  go_ret2
  exact ⟨rfl, bw HB.out⟩

/-! ### impl_Owner: function 47 -/
def impl_Owner.f (k : Nat) (l0_0 : List (List Int)) (l0_1 : List (S33)) (l1_0 : List (List Int)) (l2 : List Int) : Option (Bool × Bool) := (impl_ZoneOk.f k l0_0 l0_1).bind fun t103 => (if t103 = true then ((impl_NameOk.f l1_0).bind fun t104 => (if t104 = true then ((impl_Zone_owner.f k l0_0 l0_1 l1_0 l2).bind fun bt105 => (some (bt105.1, bt105.2))) else (some (false, false)))) else (some (false, false)))
theorem impl_Owner.mono : ∀ a0 a1 a2 a3 k, LeO (impl_Owner.f k a0 a1 a2 a3) (impl_Owner.f (k + 1) a0 a1 a2 a3) := by
 intro a0 a1 a2 a3 k
 unfold impl_Owner.f
 repeat' first
   | (with_reducible exact impl_ZoneOk.mono _ _ _)
   | (with_reducible exact impl_Zone_owner.mono _ _ _ _ _)
   | (with_reducible exact LeO.refl _)
   | (with_reducible exact LeO.none _)
   | (with_reducible refine LeO.ite ?_ ?_)
   | (with_reducible refine LeO.bind ?_ (fun _ => ?_))
   | exact impl_ZoneOk.mono _ _ _
   | exact impl_Zone_owner.mono _ _ _ _ _
   | exact LeO.none _
   | refine LeO.ite ?_ ?_
   | refine LeO.bind ?_ (fun _ => ?_)
set_option maxHeartbeats 8000000 in
set_option maxRecDepth 100000 in
theorem impl_Owner.calls (k : Nat) (A0_0 : Option Addr) (c0_0 : Nat) (l0_0 : List (List Int)) (A0_1 : Option Addr) (c0_1 : Nat) (l0_1 : List (S33)) (A1_0 : Option Addr) (c1_0 : Nat) (l1_0 : List (List Int)) (A2 : Option Addr) (c2 : Nat) (l2 : List Int) (r1 : Bool) (r2 : Bool) (w : World) (hr0_0 : Kd.C (Kd.slice 5 (Kd.int .u8)) w A0_0 l0_0.length l0_0) (hc0_0 : l0_0.length ≤ c0_0) (hr0_1 : Kd.C k33 w A0_1 l0_1.length l0_1) (hc0_1 : l0_1.length ≤ c0_1) (hr1_0 : Kd.C (Kd.slice 5 (Kd.int .u8)) w A1_0 l1_0.length l1_0) (hc1_0 : l1_0.length ≤ c1_0) (hr2 : Kd.C (Kd.int .u8) w A2 l2.length l2) (hc2 : l2.length ≤ c2) (h : impl_Owner.f k l0_0 l0_1 l1_0 l2 = some (r1, r2)) :
  Calls Try.prog 47 #[.agg #[.slice A0_0 l0_0.length c0_0, .slice A0_1 l0_1.length c0_1], .agg #[.slice A1_0 l1_0.length c1_0], .slice A2 l2.length c2] w fun e w' => e = .returned (.tuple #[.bool r1, .bool r2]) ∧ Below w.heap.size w w' := by
 have hu59 := Try.underlying59
 have hu31 := Try.underlying31
 have HR0_0 := ak hr0_0
 have HC0_0 := ak hc0_0
 clear hr0_0 hc0_0
 have HR0_1 := ak hr0_1
 have HC0_1 := ak hc0_1
 clear hr0_1 hc0_1
 have HR1_0 := ak hr1_0
 have HC1_0 := ak hc1_0
 clear hr1_0 hc1_0
 have HR2 := ak hr2
 have HC2 := ak hc2
 clear hr2 hc2
 have HB := ak (Below.refl w.heap.size w)
 have H : ((impl_ZoneOk.f k l0_0 l0_1).bind fun t103 => (if t103 = true then ((impl_NameOk.f l1_0).bind fun t104 => (if t104 = true then ((impl_Zone_owner.f k l0_0 l0_1 l1_0 l2).bind fun bt105 => (some (bt105.1, bt105.2))) else (some (false, false)))) else (some (false, false)))) = some (r1, r2) := h
 clear h
 replace H := bnd H
 obtain ⟨t103, A4, H⟩ := H
 replace H := ib H
 obtain ⟨rfl, H⟩ | ⟨rfl, H⟩ := H
 ·replace H := bnd H
  obtain ⟨t104, A6, H⟩ := H
  replace H := ib H
  obtain ⟨rfl, H⟩ | ⟨rfl, H⟩ := H
  ·replace H := Option.bind_eq_some_iff.mp H
   obtain ⟨⟨t105, t106⟩, A80, H⟩ := H
   replace H : (some (t105, t106)) = some (r1, r2) := H
   have A8 := ak A80
   clear A80
   simp only [Option.some.injEq, Prod.mk.injEq] at H
   obtain ⟨rfl, rfl⟩ := H
   go_enter Try.func47, Try.ntmps47
   go_wp2_with (first | ((with_reducible refine gate_dst (N := 3) rfl ?_);refine bxd (N := 3) rfl HB ?_;clear HB;intro gb101 w9 hg HB BK101 GE101 hb;have GW101 := GE101;clear hb hg) | ((with_reducible refine gate_dst (N := 4) rfl ?_);refine bxe (N := 4) rfl ?_;intro gb102 hg w10 hbox hb;have BK102 := ak (hbox);have GW102 := b3s hg bs;have GE102 := GW102;replace HB := b2s bs hb;have NB101_102 := b4 hg BK101;have NB102_101 := b5 hg BK101;replace BK101 := b1 BK101 hb;clear hb hbox hg;have hnb11 := NB101_102.out;have hnc11 := NB102_101.out;obtain ⟨hcz12_0, hcz12_1, hfz12_0, hfz12_1⟩ := cells2 BK101.out) | ((with_reducible refine gate_callee (f := 37) rfl ?_);refine glB 9 rfl rfl Try.func37 (impl_ZoneOk.calls k _ _ l0_0 _ _ l0_1 true _ (cv HR0_0 HB) HC0_0.out (cv HR0_1 HB) HC0_1.out A4.out) (fun w13 hb => ?_);replace BK101 := b1 BK101 hb;replace BK102 := b1 BK102 hb;replace HB := b2s bs hb;(try clear hb);obtain ⟨hcz14_0, hfz14_0⟩ := cells1 BK102.out) | (go_at_call 74;(with_reducible refine (impl_NameOk.calls _ _ l1_0 true _ (cv HR1_0 HB) HC1_0.out A6.out).mono ?_);rintro e w15 ⟨rfl, hb⟩;replace BK101 := b1 BK101 hb;replace BK102 := b1 BK102 hb;replace HB := b2s bs hb;(try clear hb);obtain ⟨hcz16_0, hcz16_1, hfz16_0, hfz16_1⟩ := cells2 BK101.out;obtain ⟨hcz17_0, hfz17_0⟩ := cells1 BK102.out) | ((with_reducible refine gate_callee (f := 113) rfl ?_);refine glB 19 rfl rfl Try.func113 (impl_Zone_owner.calls k _ _ l0_0 _ _ l0_1 _ _ l1_0 _ _ l2 t105 t106 _ (cv HR0_0 HB) HC0_0.out (cv HR0_1 HB) HC0_1.out (cv HR1_0 HB) HC1_0.out (cv HR2 HB) HC2.out A8.out) (fun w18 hb => ?_);replace BK101 := b1 BK101 hb;replace BK102 := b1 BK102 hb;replace HB := b2s bs hb;(try clear hb)))
   go_ret2
   exact ⟨o1, bs⟩
  ·simp only [Option.some.injEq, Prod.mk.injEq] at H
   obtain ⟨rfl, rfl⟩ := H
   go_enter Try.func47, Try.ntmps47
   go_wp2_with (first | ((with_reducible refine gate_dst (N := 3) rfl ?_);refine bxd (N := 3) rfl HB ?_;clear HB;intro gb101 w19 hg HB BK101 GE101 hb;have GW101 := GE101;clear hb hg) | ((with_reducible refine gate_dst (N := 4) rfl ?_);refine bxe (N := 4) rfl ?_;intro gb102 hg w20 hbox hb;have BK102 := ak (hbox);have GW102 := b3s hg bs;have GE102 := GW102;replace HB := b2s bs hb;have NB101_102 := b4 hg BK101;have NB102_101 := b5 hg BK101;replace BK101 := b1 BK101 hb;clear hb hbox hg;have hnb21 := NB101_102.out;have hnc21 := NB102_101.out;obtain ⟨hcz22_0, hcz22_1, hfz22_0, hfz22_1⟩ := cells2 BK101.out) | ((with_reducible refine gate_callee (f := 37) rfl ?_);refine glB 9 rfl rfl Try.func37 (impl_ZoneOk.calls k _ _ l0_0 _ _ l0_1 true _ (cv HR0_0 HB) HC0_0.out (cv HR0_1 HB) HC0_1.out A4.out) (fun w23 hb => ?_);replace BK101 := b1 BK101 hb;replace BK102 := b1 BK102 hb;replace HB := b2s bs hb;(try clear hb);obtain ⟨hcz24_0, hfz24_0⟩ := cells1 BK102.out) | (go_at_call 74;(with_reducible refine (impl_NameOk.calls _ _ l1_0 false _ (cv HR1_0 HB) HC1_0.out A6.out).mono ?_);rintro e w25 ⟨rfl, hb⟩;replace BK101 := b1 BK101 hb;replace BK102 := b1 BK102 hb;replace HB := b2s bs hb;(try clear hb)))
   go_ret2
   exact ⟨o1, bs⟩
 ·simp only [Option.some.injEq, Prod.mk.injEq] at H
  obtain ⟨rfl, rfl⟩ := H
  go_enter Try.func47, Try.ntmps47
  go_wp2_with (first | ((with_reducible refine gate_dst (N := 3) rfl ?_);refine bxd (N := 3) rfl HB ?_;clear HB;intro gb101 w26 hg HB BK101 GE101 hb;have GW101 := GE101;clear hb hg) | ((with_reducible refine gate_dst (N := 4) rfl ?_);refine bxe (N := 4) rfl ?_;intro gb102 hg w27 hbox hb;have BK102 := ak (hbox);have GW102 := b3s hg bs;have GE102 := GW102;replace HB := b2s bs hb;have NB101_102 := b4 hg BK101;have NB102_101 := b5 hg BK101;replace BK101 := b1 BK101 hb;clear hb hbox hg;have hnb28 := NB101_102.out;have hnc28 := NB102_101.out;obtain ⟨hcz29_0, hcz29_1, hfz29_0, hfz29_1⟩ := cells2 BK101.out) | ((with_reducible refine gate_callee (f := 37) rfl ?_);refine glB 9 rfl rfl Try.func37 (impl_ZoneOk.calls k _ _ l0_0 _ _ l0_1 false _ (cv HR0_0 HB) HC0_0.out (cv HR0_1 HB) HC0_1.out A4.out) (fun w30 hb => ?_);replace BK101 := b1 BK101 hb;replace BK102 := b1 BK102 hb;replace HB := b2s bs hb;(try clear hb)))
  go_ret2
  exact ⟨o1, bs⟩

section
variable {P P' : Nat → Prop} {w w' w2 : World} {base : Nat}
end
theorem list_of {α : Type} {Q : Nat → α → Prop} : ∀ n, (∀ j, j < n → ∃ x, Q j x) → ∃ l : List α, l.length = n ∧ ∀ (j : Nat) x, l[j]? = some x → Q j x
  | 0, _ => ⟨[], rfl, fun j x h => by simp at h⟩
  | n + 1, h => by
    obtain ⟨l, hl, hq⟩ := list_of n (fun j hj => h j (by omega))
    obtain ⟨x, hx⟩ := h n (by omega)
    refine ⟨l ++ [x], by simp [hl], fun j y hy => ?_⟩
    by_cases hj : j < n
    · rw [List.getElem?_append_left (by omega)] at hy; exact hq j y hy
    · have hjl := (List.getElem?_eq_some_iff.1 hy).1
      simp at hjl
      have : j = n := by omega
      subst this
      rw [List.getElem?_append_right (by omega)] at hy
      simp [hl] at hy
      subst hy; exact hx
section
variable {α : Type} {d : Kd α} {e base a b a' b' g : Nat} {ok P : Nat → Prop} {w w' : World} {v : Value} {xs : List α} {o : Obj}
end
/-- Where a row of rows lies: below the memory's size; from the size on at which it was begun. -/
theorem S_lt_ {α : Type} {d : Kd α} {e base : Nat} {ok : Nat → Prop} {W : World} {v : Value} {xs : List α} (h : d.S e W base ok v xs) : d.S e W base (fun k => ok k ∧ k < W.heap.size) v xs := Kd.S_mono (Kd.S_bound h) (fun k hk => ⟨hk.1, hk.2.2.1⟩)
theorem S_ge_ {α : Type} {d : Kd α} {e base : Nat} {ok : Nat → Prop} {W : World} {v : Value} {xs : List α} (h : d.S e W base ok v xs) : d.S e W base (fun k => ok k ∧ base ≤ k) v xs := Kd.S_mono (Kd.S_bound h) (fun k hk => ⟨hk.1, hk.2.1⟩)

/-! ### laws_FnExactOwner: function 10 -/
def laws_FnExactOwner.f (k : Nat) (l0_0 : List (List Int)) (l0_1 : List (S28)) (l1_0 : List (List Int)) (l2 : List Int) : Option (Bool) := if (l2.length : Int) > 1048576 then (some true) else ((laws_szZone.f k l0_0 l0_1 1048576).bind fun t103 => (if t103 < 0 then (some true) else ((laws_szName.f k l1_0 t103).bind fun t104 => (if t104 < 0 then (some true) else ((laws_toZone.f k l0_0 l0_1).bind fun bt105 => ((laws_toName.f k l1_0).bind fun t111 => ((laws_toByteS.f k l2).bind fun t114 => ((spec_Owner.f k bt105.1 bt105.2 t111 t114).bind fun bt117 => ((laws_toZone.f k l0_0 l0_1).bind fun bt119 => ((laws_toName.f k l1_0).bind fun t126 => ((laws_toByteS.f k l2).bind fun t130 => ((impl_Owner.f k bt119.1 bt119.2 t126 t130).bind fun bt133 => (if (bt133.1 != bt117.1) = true then (none) else (if (bt133.2 != bt117.2) = true then (none) else ((laws_toZone.f k l0_0 l0_1).bind fun bt135 => ((laws_eqZone.f k bt119.1 bt119.2 bt135.1 bt135.2).bind fun t141 => (if t141 = true then ((laws_toName.f k l1_0).bind fun t142 => ((laws_eqName.f k t126 t142).bind fun t145 => (if t145 = true then ((laws_toByteS.f k l2).bind fun t146 => ((laws_eqByteS.f k t130 t146).bind fun t149 => (if t149 = true then (some true) else (none)))) else (none)))) else (none))))))))))))))))))
theorem laws_FnExactOwner.mono : ∀ a0 a1 a2 a3 k, LeO (laws_FnExactOwner.f k a0 a1 a2 a3) (laws_FnExactOwner.f (k + 1) a0 a1 a2 a3) := by
 intro a0 a1 a2 a3 k
 unfold laws_FnExactOwner.f
 repeat' first
   | (with_reducible exact impl_Owner.mono _ _ _ _ _)
   | (with_reducible exact laws_eqByteS.mono _ _ _)
   | (with_reducible exact laws_eqName.mono _ _ _)
   | (with_reducible exact laws_eqZone.mono _ _ _ _ _)
   | (with_reducible exact laws_szName.mono _ _ _)
   | (with_reducible exact laws_szZone.mono _ _ _ _)
   | (with_reducible exact laws_toByteS.mono _ _)
   | (with_reducible exact laws_toName.mono _ _)
   | (with_reducible exact laws_toZone.mono _ _ _)
   | (with_reducible exact spec_Owner.mono _ _ _ _ _)
   | (with_reducible exact LeO.refl _)
   | (with_reducible exact LeO.none _)
   | (with_reducible refine LeO.ite ?_ ?_)
   | (with_reducible refine LeO.bind ?_ (fun _ => ?_))
   | exact impl_Owner.mono _ _ _ _ _
   | exact laws_eqByteS.mono _ _ _
   | exact laws_eqName.mono _ _ _
   | exact laws_eqZone.mono _ _ _ _ _
   | exact laws_szName.mono _ _ _
   | exact laws_szZone.mono _ _ _ _
   | exact laws_toByteS.mono _ _
   | exact laws_toName.mono _ _
   | exact laws_toZone.mono _ _ _
   | exact spec_Owner.mono _ _ _ _ _
   | exact LeO.none _
   | refine LeO.ite ?_ ?_
   | refine LeO.bind ?_ (fun _ => ?_)
def laws_FnExactOwner.T10 : Bool × List (List Nat × List Nat) := (true, [([], []), ([0], [0]), ([], []), ([2, 1], [2]), ([], []), ([4, 3], [4]), ([1, 3, 5, 5], [1, 3, 5]), ([6], [6]), ([7], [7]), ([7], [7]), ([8, 6, 0, 1, 2, 3, 4, 5, 6, 7, 8], [8]), ([9, 10, 0, 1, 2, 3, 4, 5, 6, 7, 8, 9, 10], [9])])
def laws_FnExactOwner.B10 : List Nat := [0, 1, 0, 7, 0, 31, 63, 127, 255, 255, 511, 2047]
theorem laws_FnExactOwner.tab10 : rtab .any (opsOf Try.f10 10) = laws_FnExactOwner.T10 := by kernel_rfl
theorem laws_FnExactOwner.bits10 : waitsOk laws_FnExactOwner.T10.2 laws_FnExactOwner.B10 = true := by kernel_rfl
set_option maxHeartbeats 8000000 in
set_option maxRecDepth 100000 in
theorem laws_FnExactOwner.calls (k : Nat) (A0_0 : Option Addr) (c0_0 : Nat) (l0_0 : List (List Int)) (A0_1 : Option Addr) (c0_1 : Nat) (l0_1 : List (S28)) (A1_0 : Option Addr) (c1_0 : Nat) (l1_0 : List (List Int)) (A2 : Option Addr) (c2 : Nat) (l2 : List Int) (r : Bool) (w : World) (hr0_0 : Kd.C (Kd.slice 5 (Kd.int .u8)) w A0_0 l0_0.length l0_0) (hc0_0 : l0_0.length ≤ c0_0) (hr0_1 : Kd.C k28 w A0_1 l0_1.length l0_1) (hc0_1 : l0_1.length ≤ c0_1) (hr1_0 : Kd.C (Kd.slice 5 (Kd.int .u8)) w A1_0 l1_0.length l1_0) (hc1_0 : l1_0.length ≤ c1_0) (hr2 : Kd.C (Kd.int .u8) w A2 l2.length l2) (hc2 : l2.length ≤ c2) (h : laws_FnExactOwner.f k l0_0 l0_1 l1_0 l2 = some r) :
  Calls Try.prog 10 #[.agg #[.slice A0_0 l0_0.length c0_0, .slice A0_1 l0_1.length c0_1], .agg #[.slice A1_0 l1_0.length c1_0], .slice A2 l2.length c2] w fun e w' => e = .returned (.bool r) ∧ Below w.heap.size w w' := by
 have hu54 := Try.underlying54
 have hu24 := Try.underlying24
 have hu59 := Try.underlying59
 have hu31 := Try.underlying31
 have HR0_0 := ak hr0_0
 have HC0_0 := ak hc0_0
 clear hr0_0 hc0_0
 have HR0_1 := ak hr0_1
 have HC0_1 := ak hc0_1
 clear hr0_1 hc0_1
 have HR1_0 := ak hr1_0
 have HC1_0 := ak hc1_0
 clear hr1_0 hc1_0
 have HR2 := ak hr2
 have HC2 := ak hc2
 clear hr2 hc2
 have HB := ak (Below.refl w.heap.size w)
 have H : (if (l2.length : Int) > 1048576 then (some true) else ((laws_szZone.f k l0_0 l0_1 1048576).bind fun t103 => (if t103 < 0 then (some true) else ((laws_szName.f k l1_0 t103).bind fun t104 => (if t104 < 0 then (some true) else ((laws_toZone.f k l0_0 l0_1).bind fun bt105 => ((laws_toName.f k l1_0).bind fun t111 => ((laws_toByteS.f k l2).bind fun t114 => ((spec_Owner.f k bt105.1 bt105.2 t111 t114).bind fun bt117 => ((laws_toZone.f k l0_0 l0_1).bind fun bt119 => ((laws_toName.f k l1_0).bind fun t126 => ((laws_toByteS.f k l2).bind fun t130 => ((impl_Owner.f k bt119.1 bt119.2 t126 t130).bind fun bt133 => (if (bt133.1 != bt117.1) = true then (none) else (if (bt133.2 != bt117.2) = true then (none) else ((laws_toZone.f k l0_0 l0_1).bind fun bt135 => ((laws_eqZone.f k bt119.1 bt119.2 bt135.1 bt135.2).bind fun t141 => (if t141 = true then ((laws_toName.f k l1_0).bind fun t142 => ((laws_eqName.f k t126 t142).bind fun t145 => (if t145 = true then ((laws_toByteS.f k l2).bind fun t146 => ((laws_eqByteS.f k t130 t146).bind fun t149 => (if t149 = true then (some true) else (none)))) else (none)))) else (none))))))))))))))))))) = some r := h
 clear h
 replace H := ig H
 obtain ⟨c4b0, H⟩ | ⟨c4b0, H⟩ := H
 ·have c4b1 : decide (1048576 < l2.length) = true := decide_eq_true (by have := of_decide_eq_true c4b0; omega)
  obtain rfl := Option.some.inj H
  go_enter Try.func10, Try.ntmps10
  go_wp2_with (first | ((with_reducible refine gate_dst (N := 3) rfl ?_);refine bxd (N := 3) rfl HB ?_;clear HB;intro gb101 w5 hg HB BK101 GE101 hb;have GW101 := GE101;clear hb hg) | ((with_reducible refine gate_dst (N := 4) rfl ?_);refine bxe (N := 4) rfl ?_;intro gb102 hg w6 hbox hb;have BK102 := ak (hbox);have GW102 := b3s hg bs;have GE102 := GW102;replace HB := b2s bs hb;have NB101_102 := b4 hg BK101;have NB102_101 := b5 hg BK101;replace BK101 := b1 BK101 hb;clear hb hbox hg))
  go_ret
  exact ⟨o1, bs⟩
 ·have c4b1 : decide (1048576 < l2.length) = false := decide_eq_false (by have := of_decide_eq_false c4b0; omega)
  replace H := bnd H
  obtain ⟨t103, A7, H⟩ := H
  replace H := ip H
  obtain ⟨c8b0, H⟩ | ⟨c8b0, H⟩ := H
  ·obtain rfl := Option.some.inj H
   go_enter Try.func10, Try.ntmps10
   go_wp2_with (first | ((with_reducible refine gate_dst (N := 3) rfl ?_);refine bxd (N := 3) rfl HB ?_;clear HB;intro gb101 w9 hg HB BK101 GE101 hb;have GW101 := GE101;clear hb hg) | ((with_reducible refine gate_dst (N := 4) rfl ?_);refine bxe (N := 4) rfl ?_;intro gb102 hg w10 hbox hb;have BK102 := ak (hbox);have GW102 := b3s hg bs;have GE102 := GW102;replace HB := b2s bs hb;have NB101_102 := b4 hg BK101;have NB102_101 := b5 hg BK101;replace BK101 := b1 BK101 hb;clear hb hbox hg;have hnb11 := NB101_102.out;have hnc11 := NB102_101.out;obtain ⟨hcz12_0, hcz12_1, hfz12_0, hfz12_1⟩ := cells2 BK101.out) | ((with_reducible refine gate_callee (f := 34) rfl ?_);refine glB 20 rfl rfl Try.func34 (laws_szZone.calls k _ _ l0_0 _ _ l0_1 1048576 t103 _ (cv HR0_0 HB) HC0_0.out (cv HR0_1 HB) HC0_1.out A7.out) (fun w13 hb => ?_);replace BK101 := b1 BK101 hb;replace BK102 := b1 BK102 hb;replace HB := b2s bs hb;(try clear hb)))
   go_ret
   exact ⟨o1, bs⟩
  ·replace H := bnd H
   obtain ⟨t104, A14, H⟩ := H
   replace H := ip H
   obtain ⟨c15b0, H⟩ | ⟨c15b0, H⟩ := H
   ·obtain rfl := Option.some.inj H
    go_enter Try.func10, Try.ntmps10
    go_wp2_with (first | ((with_reducible refine gate_dst (N := 3) rfl ?_);refine bxd (N := 3) rfl HB ?_;clear HB;intro gb101 w16 hg HB BK101 GE101 hb;have GW101 := GE101;clear hb hg) | ((with_reducible refine gate_dst (N := 4) rfl ?_);refine bxe (N := 4) rfl ?_;intro gb102 hg w17 hbox hb;have BK102 := ak (hbox);have GW102 := b3s hg bs;have GE102 := GW102;replace HB := b2s bs hb;have NB101_102 := b4 hg BK101;have NB102_101 := b5 hg BK101;replace BK101 := b1 BK101 hb;clear hb hbox hg;have hnb18 := NB101_102.out;have hnc18 := NB102_101.out;obtain ⟨hcz19_0, hcz19_1, hfz19_0, hfz19_1⟩ := cells2 BK101.out) | ((with_reducible refine gate_callee (f := 34) rfl ?_);refine glB 20 rfl rfl Try.func34 (laws_szZone.calls k _ _ l0_0 _ _ l0_1 1048576 t103 _ (cv HR0_0 HB) HC0_0.out (cv HR0_1 HB) HC0_1.out A7.out) (fun w20 hb => ?_);replace BK101 := b1 BK101 hb;replace BK102 := b1 BK102 hb;replace HB := b2s bs hb;(try clear hb);obtain ⟨hcz21_0, hfz21_0⟩ := cells1 BK102.out) | ((with_reducible refine gate_callee (f := 39) rfl ?_);refine glB 25 rfl rfl Try.func39 (laws_szName.calls k _ _ l1_0 t103 t104 _ (cv HR1_0 HB) HC1_0.out A14.out) (fun w22 hb => ?_);replace BK101 := b1 BK101 hb;replace BK102 := b1 BK102 hb;replace HB := b2s bs hb;(try clear hb)))
    go_ret
    exact ⟨o1, bs⟩
   ·replace H := Option.bind_eq_some_iff.mp H
    obtain ⟨⟨t105, t108⟩, A230, H⟩ := H
    replace H : ((laws_toName.f k l1_0).bind fun t111 => ((laws_toByteS.f k l2).bind fun t114 => ((spec_Owner.f k t105 t108 t111 t114).bind fun bt117 => ((laws_toZone.f k l0_0 l0_1).bind fun bt119 => ((laws_toName.f k l1_0).bind fun t126 => ((laws_toByteS.f k l2).bind fun t130 => ((impl_Owner.f k bt119.1 bt119.2 t126 t130).bind fun bt133 => (if (bt133.1 != bt117.1) = true then (none) else (if (bt133.2 != bt117.2) = true then (none) else ((laws_toZone.f k l0_0 l0_1).bind fun bt135 => ((laws_eqZone.f k bt119.1 bt119.2 bt135.1 bt135.2).bind fun t141 => (if t141 = true then ((laws_toName.f k l1_0).bind fun t142 => ((laws_eqName.f k t126 t142).bind fun t145 => (if t145 = true then ((laws_toByteS.f k l2).bind fun t146 => ((laws_eqByteS.f k t130 t146).bind fun t149 => (if t149 = true then (some true) else (none)))) else (none)))) else (none))))))))))))) = some r := H
    have A23 := ak A230
    clear A230
    replace H := bnd H
    obtain ⟨t111, A24, H⟩ := H
    replace H := bnd H
    obtain ⟨t114, A25, H⟩ := H
    replace H := Option.bind_eq_some_iff.mp H
    obtain ⟨⟨t117, t118⟩, A260, H⟩ := H
    replace H : ((laws_toZone.f k l0_0 l0_1).bind fun bt119 => ((laws_toName.f k l1_0).bind fun t126 => ((laws_toByteS.f k l2).bind fun t130 => ((impl_Owner.f k bt119.1 bt119.2 t126 t130).bind fun bt133 => (if (bt133.1 != t117) = true then (none) else (if (bt133.2 != t118) = true then (none) else ((laws_toZone.f k l0_0 l0_1).bind fun bt135 => ((laws_eqZone.f k bt119.1 bt119.2 bt135.1 bt135.2).bind fun t141 => (if t141 = true then ((laws_toName.f k l1_0).bind fun t142 => ((laws_eqName.f k t126 t142).bind fun t145 => (if t145 = true then ((laws_toByteS.f k l2).bind fun t146 => ((laws_eqByteS.f k t130 t146).bind fun t149 => (if t149 = true then (some true) else (none)))) else (none)))) else (none)))))))))) = some r := H
    have A26 := ak A260
    clear A260
    replace H := Option.bind_eq_some_iff.mp H
    obtain ⟨⟨t119, t122⟩, A270, H⟩ := H
    replace H : ((laws_toName.f k l1_0).bind fun t126 => ((laws_toByteS.f k l2).bind fun t130 => ((impl_Owner.f k t119 t122 t126 t130).bind fun bt133 => (if (bt133.1 != t117) = true then (none) else (if (bt133.2 != t118) = true then (none) else ((laws_toZone.f k l0_0 l0_1).bind fun bt135 => ((laws_eqZone.f k t119 t122 bt135.1 bt135.2).bind fun t141 => (if t141 = true then ((laws_toName.f k l1_0).bind fun t142 => ((laws_eqName.f k t126 t142).bind fun t145 => (if t145 = true then ((laws_toByteS.f k l2).bind fun t146 => ((laws_eqByteS.f k t130 t146).bind fun t149 => (if t149 = true then (some true) else (none)))) else (none)))) else (none))))))))) = some r := H
    have A27 := ak A270
    clear A270
    replace H := bnd H
    obtain ⟨t126, A28, H⟩ := H
    replace H := bnd H
    obtain ⟨t130, A29, H⟩ := H
    replace H := Option.bind_eq_some_iff.mp H
    obtain ⟨⟨t133, t134⟩, A300, H⟩ := H
    replace H : (if (t133 != t117) = true then (none) else (if (t134 != t118) = true then (none) else ((laws_toZone.f k l0_0 l0_1).bind fun bt135 => ((laws_eqZone.f k t119 t122 bt135.1 bt135.2).bind fun t141 => (if t141 = true then ((laws_toName.f k l1_0).bind fun t142 => ((laws_eqName.f k t126 t142).bind fun t145 => (if t145 = true then ((laws_toByteS.f k l2).bind fun t146 => ((laws_eqByteS.f k t130 t146).bind fun t149 => (if t149 = true then (some true) else (none)))) else (none)))) else (none)))))) = some r := H
    have A30 := ak A300
    clear A300
    by_cases c31 : (t133 != t117) = true
    ·rw [if_pos c31] at H
     exact absurd H (by simp)
    ·rw [if_neg c31] at H
     have c31b0 : (t133 != t117) = false := by simpa using c31
     (try (have c31b1 : decide (t133 = t117) = true := by simpa using c31))
     (try (have c31b2 : (t133 == t117) = true := by simpa using c31))
     clear c31
     by_cases c32 : (t134 != t118) = true
     ·rw [if_pos c32] at H
      exact absurd H (by simp)
     ·rw [if_neg c32] at H
      have c32b0 : (t134 != t118) = false := by simpa using c32
      (try (have c32b1 : decide (t134 = t118) = true := by simpa using c32))
      (try (have c32b2 : (t134 == t118) = true := by simpa using c32))
      clear c32
      replace H := Option.bind_eq_some_iff.mp H
      obtain ⟨⟨t135, t138⟩, A330, H⟩ := H
      replace H : ((laws_eqZone.f k t119 t122 t135 t138).bind fun t141 => (if t141 = true then ((laws_toName.f k l1_0).bind fun t142 => ((laws_eqName.f k t126 t142).bind fun t145 => (if t145 = true then ((laws_toByteS.f k l2).bind fun t146 => ((laws_eqByteS.f k t130 t146).bind fun t149 => (if t149 = true then (some true) else (none)))) else (none)))) else (none))) = some r := H
      have A33 := ak A330
      clear A330
      replace H := bnd H
      obtain ⟨t141, A34, H⟩ := H
      replace H := ibN H
      obtain ⟨rfl, H⟩ := H
      replace H := bnd H
      obtain ⟨t142, A36, H⟩ := H
      replace H := bnd H
      obtain ⟨t145, A37, H⟩ := H
      replace H := ibN H
      obtain ⟨rfl, H⟩ := H
      replace H := bnd H
      obtain ⟨t146, A39, H⟩ := H
      replace H := bnd H
      obtain ⟨t149, A40, H⟩ := H
      replace H := ibN H
      obtain ⟨rfl, H⟩ := H
      obtain rfl := Option.some.inj H
      go_enter Try.func10, Try.ntmps10
      try go_wp2_with (first | ((with_reducible refine gate_dst (N := 3) rfl ?_);refine bxd (N := 3) rfl HB ?_;clear HB;intro gb101 w42 hg HB BK101 GE101 hb;have GW101 := GE101;clear hb hg) | ((with_reducible refine gate_dst (N := 4) rfl ?_);refine bxe (N := 4) rfl ?_;intro gb102 hg w43 hbox hb;have BK102 := ak (hbox);have GW102 := b3s hg bs;have GE102 := GW102;replace HB := b2s bs hb;have NB101_102 := b4 hg BK101;have NB102_101 := b5 hg BK101;replace BK101 := b1 BK101 hb;clear hb hbox hg;have hnb44 := NB101_102.out;have hnc44 := NB102_101.out;obtain ⟨hcz45_0, hcz45_1, hfz45_0, hfz45_1⟩ := cells2 BK101.out) | ((with_reducible refine gate_callee (f := 34) rfl ?_);refine glB 20 rfl rfl Try.func34 (laws_szZone.calls k _ _ l0_0 _ _ l0_1 1048576 t103 _ (cv HR0_0 HB) HC0_0.out (cv HR0_1 HB) HC0_1.out A7.out) (fun w46 hb => ?_);replace BK101 := b1 BK101 hb;replace BK102 := b1 BK102 hb;replace HB := b2s bs hb;(try clear hb);obtain ⟨hcz47_0, hfz47_0⟩ := cells1 BK102.out) | ((with_reducible refine gate_callee (f := 39) rfl ?_);refine glB 25 rfl rfl Try.func39 (laws_szName.calls k _ _ l1_0 t103 t104 _ (cv HR1_0 HB) HC1_0.out A14.out) (fun w48 hb => ?_);replace BK101 := b1 BK101 hb;replace BK102 := b1 BK102 hb;replace HB := b2s bs hb;(try clear hb)))
      replace BK101 := ak (blk_drew BK101.out)
      replace BK102 := ak (blk_drew BK102.out)
      replace HB := ak (below_drew1 HB.out)
      refine start_ (n := 12) (S := fun w' => w'.cell? ⟨gb101, 0, none⟩ = some (.slice A0_0 l0_0.length c0_0) ∧ w'.cell? ⟨gb101, 1, none⟩ = some (.slice A0_1 l0_1.length c0_1) ∧ w'.cell? ⟨gb102, 0, none⟩ = some (.slice A1_0 l1_0.length c1_0)) (ds := []) (bA 12 0) (by kernel_rfl) rfl rfl kq (fun hHeld => ?_); refine with_tabW laws_FnExactOwner.tab10 laws_FnExactOwner.bits10 (fun HT_ HW_ => ?_)
      generalize w48.drew = w49 at BK101 BK102 HB hHeld ⊢
      refine pu HT_ 4 ?_
      refine ta HT_ HW_ hHeld 0 ?_
      refine ta HT_ HW_ hHeld 2 ?_
      refine on HT_ 1 (fun K hK => ?_)
      refine gsG Try.func36 (laws_toZone.calls k _ _ l0_0 _ _ l0_1 t105 t108 _ (cv HR0_0 HB) HC0_0.out (cv HR0_1 HB) HC0_1.out A23.out) ?_
      rintro e w50 ⟨v106, v109, rfl, ho0, ho1, hb⟩
      refine ⟨_, rfl, ?_⟩
      have HO107 := ak (Kd.S_lower ho0 (below_size bs))
      have HO110 := ak (Kd.R_lower ho1 (below_size bs))
      replace BK101 := b1 BK101 hb
      replace BK102 := b1 BK102 hb
      replace HB := b2s bs hb
      refine hK.out _ _ kp (fun hHeld => ?_)
      (try clear hb)
      (try clear ho0)
      (try clear ho1)
      clear hK K
      refine norm_ (a' := ?_) ?_ ?_; rotate_left; go_simp; rfl
      refine on HT_ 3 (fun K hK => ?_)
      refine gsG Try.func41 (laws_toName.calls k _ _ l1_0 t111 _ (cv HR1_0 HB) HC1_0.out A24.out) ?_
      rintro e w51 ⟨v112, rfl, ho0, hb⟩
      refine ⟨_, rfl, ?_⟩
      replace HO110 := ak (Kd.R_elder' (rw_ HO110.out) (Kd.S_base ho0) hb)
      have HO113 := ak (Kd.S_lower (S_ge_ (Kd.S_new' ho0 (Kd.S_lt (sw HO107.out)))) (below_size bs))
      replace HO107 := ak (Kd.S_elder' (S_lt_ (sw HO107.out)) (Kd.S_base ho0) hb)
      replace BK101 := b1 BK101 hb
      replace BK102 := b1 BK102 hb
      replace HB := b2s bs hb
      refine hK.out _ _ kp (fun hHeld => ?_)
      (try clear hb)
      (try clear ho0)
      clear hK K
      refine norm_ (a' := ?_) ?_ ?_; rotate_left; go_simp; rfl
      refine on HT_ 5 (fun K hK => ?_)
      refine gsG Try.func26 (laws_toByteS.calls k _ _ l2 t114 _ (cv HR2 HB) HC2.out A25.out) ?_
      rintro e w52 ⟨v115, rfl, ho0, hb⟩
      refine ⟨_, rfl, ?_⟩
      replace HO107 := ak (Kd.S_elder' (sw HO107.out) (Kd.R_base ho0) hb)
      replace HO110 := ak (Kd.R_elder' (rw_ HO110.out) (Kd.R_base ho0) hb)
      replace HO113 := ak (Kd.S_elder' (sw HO113.out) (Kd.R_base ho0) hb)
      have HO116 := ak (Kd.R_lower ho0 (below_size bs))
      replace BK101 := b1 BK101 hb
      replace BK102 := b1 BK102 hb
      replace HB := b2s bs hb
      (try clear hb)
      (try clear ho0)
      obtain ⟨Ao53, co53, eo53⟩ := Kd.S_slice HO107.out
      (first | subst eo53 | (injection eo53 with f1_ f2_ f3_; have f4_ := f1_.symm; have f5_ := f3_.symm; clear f1_ f2_ f3_; subst f4_; subst f5_))
      obtain ⟨Ao54, co54, eo54⟩ := Kd.R_slice HO110.out
      (first | subst eo54 | (injection eo54 with f1_ f2_ f3_; have f4_ := f1_.symm; have f5_ := f3_.symm; clear f1_ f2_ f3_; subst f4_; subst f5_))
      obtain ⟨Ao55, co55, eo55⟩ := Kd.S_slice HO113.out
      (first | subst eo55 | (injection eo55 with f1_ f2_ f3_; have f4_ := f1_.symm; have f5_ := f3_.symm; clear f1_ f2_ f3_; subst f4_; subst f5_))
      obtain ⟨Ao56, co56, eo56⟩ := Kd.R_slice HO116.out
      (first | subst eo56 | (injection eo56 with f1_ f2_ f3_; have f4_ := f1_.symm; have f5_ := f3_.symm; clear f1_ f2_ f3_; subst f4_; subst f5_))
      refine hK.out _ _ ⟨(blk_cell BK101.out 0).trans rfl, (blk_cell BK101.out 1).trans rfl, (blk_cell BK102.out 0).trans rfl⟩ (fun hHeld => ?_)
      clear hK K
      refine norm_ (a' := ?_) ?_ ?_; rotate_left; go_simp; rfl
      refine on HT_ 6 (fun K hK => ?_)
      refine gsB Try.func46 (spec_Owner.calls k _ _ t105 _ _ t108 _ _ t111 _ _ t114 t117 t118 _ ?side1 ?side2 ?side3 ?side4 ?side5 ?side6 ?side7 ?side8 A26.out) (fun w57 hb => ?_)
      (case side1 => repeat (first | exact (Kd.S_reads' HO107.out).2.2 | (with_reducible refine Kd.C_alloc ?_ _) | (with_reducible refine Kd.C_drewN ?_ _) | (with_reducible refine Kd.C_drew ?_)))
      (case side2 => exact (Kd.S_reads' HO107.out).2.1)
      (case side3 => repeat (first | exact (Kd.R_reads' HO110.out).2.2 | (with_reducible refine Kd.C_alloc ?_ _) | (with_reducible refine Kd.C_drewN ?_ _) | (with_reducible refine Kd.C_drew ?_)))
      (case side4 => exact (Kd.R_reads' HO110.out).2.1)
      (case side5 => repeat (first | exact (Kd.S_reads' HO113.out).2.2 | (with_reducible refine Kd.C_alloc ?_ _) | (with_reducible refine Kd.C_drewN ?_ _) | (with_reducible refine Kd.C_drew ?_)))
      (case side6 => exact (Kd.S_reads' HO113.out).2.1)
      (case side7 => repeat (first | exact (Kd.R_reads' HO116.out).2.2 | (with_reducible refine Kd.C_alloc ?_ _) | (with_reducible refine Kd.C_drewN ?_ _) | (with_reducible refine Kd.C_drew ?_)))
      (case side8 => exact (Kd.R_reads' HO116.out).2.1)
      replace HO107 := ak (Kd.S_below (sw HO107.out) hb)
      replace HO110 := ak (Kd.R_below (rw_ HO110.out) hb)
      replace HO113 := ak (Kd.S_below (sw HO113.out) hb)
      replace HO116 := ak (Kd.R_below (rw_ HO116.out) hb)
      replace BK101 := b1 BK101 hb
      replace BK102 := b1 BK102 hb
      replace HB := b2s bs hb
      refine hK.out _ _ kp (fun hHeld => ?_)
      (try clear hb)
      clear hK K
      refine norm_ (a' := ?_) ?_ ?_; rotate_left; go_simp; rfl
      refine pu HT_ 7 ?_
      refine pu HT_ 8 ?_
      refine pu HT_ 9 ?_
      refine pu HT_ 10 ?_
      refine pu HT_ 11 ?_
      refine done_ (done_of HT_.out (by kernel_rfl)) ?_
      obtain ⟨hcz58_0, hcz58_1, hfz58_0, hfz58_1⟩ := cells2 BK101.out
      try go_wp2_with (first | ((with_reducible refine gate_callee (f := 36) rfl ?_);refine glG 39 rfl rfl Try.func36 (laws_toZone.calls k _ _ l0_0 _ _ l0_1 t119 t122 _ (cv HR0_0 HB) HC0_0.out (cv HR0_1 HB) HC0_1.out A27.out) ?_;rintro e w59 ⟨v120, v123, rfl, ho0, ho1, hb⟩;refine ⟨_, rfl, ?_⟩;have HO121 := ak (Kd.S_lower (S_ge_ (Kd.S_new' (Kd.S_new' (Kd.S_new' ho0 (Kd.S_lt (sw HO107.out))) (Kd.S_lt (sw HO113.out))) (Kd.R_lt (rw_ HO116.out)))) (below_size bs));have HO124 := ak (Kd.R_lower (Kd.R_new' (Kd.R_new' (Kd.R_new' (Kd.R_new' ho1 (Kd.S_lt (sw HO107.out))) (Kd.R_lt (rw_ HO110.out))) (Kd.S_lt (sw HO113.out))) (Kd.R_lt (rw_ HO116.out))) (below_size bs));replace HO107 := ak (Kd.S_elder' (S_lt_ (sw HO107.out)) (Kd.S_base ho0) hb);replace HO110 := ak (Kd.R_mono (Kd.R_told (Kd.R_told (Kd.R_old (rw_ HO110.out) hb) (Kd.S_base ho0)) (Kd.R_base ho1)) (fun _ h_ => h_.1));replace HO113 := ak (Kd.S_elder' (S_lt_ (sw HO113.out)) (Kd.S_base ho0) hb);replace HO116 := ak (Kd.R_below (rw_ HO116.out) hb);replace BK101 := b1 BK101 hb;replace BK102 := b1 BK102 hb;replace HB := b2s bs hb;(try clear hb);(try clear ho0);(try clear ho1)) | ((with_reducible refine gate_dst (N := 10) rfl ?_);refine bxe (N := 10) rfl ?_;intro gb125 hg w60 hbox hb;replace HO107 := ak (Kd.S_below (sw HO107.out) hb);replace HO110 := ak (Kd.R_below (rw_ HO110.out) hb);replace HO113 := ak (Kd.S_below (sw HO113.out) hb);replace HO116 := ak (Kd.R_below (rw_ HO116.out) hb);replace HO121 := ak (Kd.S_below (sw HO121.out) hb);replace HO124 := ak (Kd.R_below (rw_ HO124.out) hb);have BK125 := ak (hbox);have GW125 := b3s hg bs;have GE125 := GW125;replace HB := b2s bs hb;have NB101_125 := b4 hg BK101;have NB125_101 := b5 hg BK101;replace BK101 := b1 BK101 hb;have NB102_125 := b4 hg BK102;have NB125_102 := b5 hg BK102;replace BK102 := b1 BK102 hb;clear hb hbox hg;obtain ⟨Ao61, co61, eo61⟩ := Kd.S_slice HO121.out;subst eo61;have hnb62 := NB125_101.out;have hnc62 := NB101_125.out;have hnb63 := NB125_102.out;have hnc63 := NB102_125.out;obtain ⟨hcz64_0, hcz64_1, hfz64_0, hfz64_1⟩ := cells2 BK125.out;obtain ⟨Ao65, co65, eo65⟩ := Kd.R_slice HO124.out;subst eo65;obtain ⟨hcz66_0, hfz66_0⟩ := cells1 BK102.out) | ((with_reducible refine gate_callee (f := 41) rfl ?_);refine glG 41 rfl rfl Try.func41 (laws_toName.calls k _ _ l1_0 t126 _ (Kd.C_below HR1_0.out bs) HC1_0.out A28.out) ?_;rintro e w67 ⟨v127, rfl, ho0, hb⟩;refine ⟨_, rfl, ?_⟩;replace HO110 := ak (Kd.R_elder' (far2R HO110.out BK125.out (by decide)) (Kd.S_base ho0) hb);replace HO124 := ak (Kd.R_elder' (far2R HO124.out BK125.out (by decide)) (Kd.S_base ho0) hb);have HO128 := ak (Kd.S_lower (S_ge_ (Kd.S_new' (Kd.S_new' (Kd.S_new' (Kd.S_new' ho0 (Kd.S_lt (far2S HO107.out BK125.out (by decide)))) (Kd.S_lt (far2S HO113.out BK125.out (by decide)))) (Kd.R_lt (far2R HO116.out BK125.out (by decide)))) (Kd.S_lt (far2S HO121.out BK125.out (by decide))))) (below_size bs));replace HO107 := ak (Kd.S_elder' (S_lt_ (far2S HO107.out BK125.out (by decide))) (Kd.S_base ho0) hb);replace HO113 := ak (Kd.S_elder' (S_lt_ (far2S HO113.out BK125.out (by decide))) (Kd.S_base ho0) hb);replace HO116 := ak (Kd.R_below (far2R HO116.out BK125.out (by decide)) hb);replace HO121 := ak (Kd.S_elder' (S_lt_ (far2S HO121.out BK125.out (by decide))) (Kd.S_base ho0) hb);replace BK101 := ak (blk_below (bfar2 NB101_125.out BK101.out) hb);replace BK102 := ak (blk_below (bfar2 NB102_125.out BK102.out) hb);replace BK125 := ak (blk_below (bput2 BK125.out) hb);replace HB := b2s bs hb;(try clear hb);(try clear ho0)) | ((with_reducible refine gate_dst (N := 11) rfl ?_);refine bxe (N := 11) rfl ?_;intro gb129 hg w68 hbox hb;replace HO107 := ak (Kd.S_below (sw HO107.out) hb);replace HO110 := ak (Kd.R_below (rw_ HO110.out) hb);replace HO113 := ak (Kd.S_below (sw HO113.out) hb);replace HO116 := ak (Kd.R_below (rw_ HO116.out) hb);replace HO121 := ak (Kd.S_below (sw HO121.out) hb);replace HO124 := ak (Kd.R_below (rw_ HO124.out) hb);replace HO128 := ak (Kd.S_below (sw HO128.out) hb);have BK129 := ak (hbox);have GW129 := b3s hg bs;have GE129 := GW129;replace HB := b2s bs hb;have NB101_129 := b4 hg BK101;have NB129_101 := b5 hg BK101;replace BK101 := b1 BK101 hb;have NB102_129 := b4 hg BK102;have NB129_102 := b5 hg BK102;replace BK102 := b1 BK102 hb;have NB125_129 := b4 hg BK125;have NB129_125 := b5 hg BK125;replace BK125 := b1 BK125 hb;clear hb hbox hg;obtain ⟨Ao69, co69, eo69⟩ := Kd.S_slice HO128.out;subst eo69;have hnb70 := NB129_101.out;have hnc70 := NB101_129.out;have hnb71 := NB129_102.out;have hnc71 := NB102_129.out;have hnb72 := NB129_125.out;have hnc72 := NB125_129.out;obtain ⟨hcz73_0, hfz73_0⟩ := cells1 BK129.out) | ((with_reducible refine gate_callee (f := 26) rfl ?_);refine glG 43 rfl rfl Try.func26 (laws_toByteS.calls k _ _ l2 t130 _ (Kd.C_below HR2.out bs) HC2.out A29.out) ?_;rintro e w74 ⟨v131, rfl, ho0, hb⟩;refine ⟨_, rfl, ?_⟩;replace HO107 := ak (Kd.S_elder' (far1S HO107.out BK129.out (by decide)) (Kd.R_base ho0) hb);replace HO110 := ak (Kd.R_elder' (far1R HO110.out BK129.out (by decide)) (Kd.R_base ho0) hb);replace HO113 := ak (Kd.S_elder' (far1S HO113.out BK129.out (by decide)) (Kd.R_base ho0) hb);replace HO121 := ak (Kd.S_elder' (far1S HO121.out BK129.out (by decide)) (Kd.R_base ho0) hb);replace HO124 := ak (Kd.R_elder' (far1R HO124.out BK129.out (by decide)) (Kd.R_base ho0) hb);replace HO128 := ak (Kd.S_elder' (far1S HO128.out BK129.out (by decide)) (Kd.R_base ho0) hb);have HO132 := ak (Kd.R_lower (Kd.R_new' ho0 (Kd.R_lt (far1R HO116.out BK129.out (by decide)))) (below_size bs));replace HO116 := ak (Kd.R_elder' (far1R HO116.out BK129.out (by decide)) (Kd.R_base ho0) hb);replace BK101 := ak (blk_below (bfar1 NB101_129.out BK101.out) hb);replace BK102 := ak (blk_below (bfar1 NB102_129.out BK102.out) hb);replace BK125 := ak (blk_below (bfar1 NB125_129.out BK125.out) hb);replace BK129 := ak (blk_below (bput1 BK129.out) hb);replace HB := b2s bs hb;(try clear hb);(try clear ho0);obtain ⟨hcz75_0, hcz75_1, hfz75_0, hfz75_1⟩ := cells2 BK125.out;obtain ⟨hcz76_0, hfz76_0⟩ := cells1 BK129.out;obtain ⟨Ao77, co77, eo77⟩ := Kd.R_slice HO132.out;subst eo77) | ((with_reducible refine gate_callee (f := 47) rfl ?_);refine glB 48 rfl rfl Try.func47 (impl_Owner.calls k _ _ t119 _ _ t122 _ _ t126 _ _ t130 t133 t134 _ ?side1 ?side2 ?side3 ?side4 ?side5 ?side6 ?side7 ?side8 A30.out) (fun w78 hb => ?_);(case side1 => repeat (first | exact (Kd.S_reads' HO121.out).2.2 | (with_reducible refine Kd.C_alloc ?_ _) | (with_reducible refine Kd.C_drewN ?_ _) | (with_reducible refine Kd.C_drew ?_)));(case side2 => exact (Kd.S_reads' HO121.out).2.1);(case side3 => repeat (first | exact (Kd.R_reads' HO124.out).2.2 | (with_reducible refine Kd.C_alloc ?_ _) | (with_reducible refine Kd.C_drewN ?_ _) | (with_reducible refine Kd.C_drew ?_)));(case side4 => exact (Kd.R_reads' HO124.out).2.1);(case side5 => repeat (first | exact (Kd.S_reads' HO128.out).2.2 | (with_reducible refine Kd.C_alloc ?_ _) | (with_reducible refine Kd.C_drewN ?_ _) | (with_reducible refine Kd.C_drew ?_)));(case side6 => exact (Kd.S_reads' HO128.out).2.1);(case side7 => repeat (first | exact (Kd.R_reads' HO132.out).2.2 | (with_reducible refine Kd.C_alloc ?_ _) | (with_reducible refine Kd.C_drewN ?_ _) | (with_reducible refine Kd.C_drew ?_)));(case side8 => exact (Kd.R_reads' HO132.out).2.1);replace HO107 := ak (Kd.S_below (sw HO107.out) hb);replace HO110 := ak (Kd.R_below (rw_ HO110.out) hb);replace HO113 := ak (Kd.S_below (sw HO113.out) hb);replace HO116 := ak (Kd.R_below (rw_ HO116.out) hb);replace HO121 := ak (Kd.S_below (sw HO121.out) hb);replace HO124 := ak (Kd.R_below (rw_ HO124.out) hb);replace HO128 := ak (Kd.S_below (sw HO128.out) hb);replace HO132 := ak (Kd.R_below (rw_ HO132.out) hb);replace BK101 := b1 BK101 hb;replace BK102 := b1 BK102 hb;replace BK125 := b1 BK125 hb;replace BK129 := b1 BK129 hb;replace HB := b2s bs hb;(try clear hb)))
      replace HO107 := ak (Kd.S_drew HO107.out)
      replace HO110 := ak (Kd.R_drew HO110.out)
      replace HO113 := ak (Kd.S_drew HO113.out)
      replace HO116 := ak (Kd.R_drew HO116.out)
      replace HO121 := ak (Kd.S_drew HO121.out)
      replace HO124 := ak (Kd.R_drew HO124.out)
      replace HO128 := ak (Kd.S_drew HO128.out)
      replace HO132 := ak (Kd.R_drew HO132.out)
      replace BK101 := ak (blk_drew BK101.out)
      replace BK102 := ak (blk_drew BK102.out)
      replace BK125 := ak (blk_drew BK125.out)
      replace BK129 := ak (blk_drew BK129.out)
      replace HB := ak (below_drew1 HB.out)
      refine start_ (n := 5) (S := fun w' => w'.cell? ⟨gb125, 0, none⟩ = some (.slice Ao61 t119.length co61) ∧ w'.cell? ⟨gb125, 1, none⟩ = some (.slice Ao65 t122.length co65) ∧ w'.cell? ⟨gb101, 0, none⟩ = some (.slice A0_0 l0_0.length c0_0) ∧ w'.cell? ⟨gb101, 1, none⟩ = some (.slice A0_1 l0_1.length c0_1)) (ds := []) #[false, false, false, false, false] (by kernel_rfl) rfl rfl ⟨(blk_cell BK125.out 0).trans rfl, (blk_cell BK125.out 1).trans rfl, (blk_cell BK101.out 0).trans rfl, (blk_cell BK101.out 1).trans rfl⟩ (fun hHeld => ?_)
      generalize w78.drew = w79 at HO107 HO110 HO113 HO116 HO121 HO124 HO128 HO132 BK101 BK102 BK125 BK129 HB hHeld ⊢
      refine take_ (i := 0) (N := some 59) (v := ?_) (a' := ?_) #[true, false, false, false, false] rfl rfl (by kernel_rfl) (fun _ _ _ h => h) (Or.inl ⟨by rfl, ?_⟩) hHeld ?_ ?_
      rotate_left; rintro w' ⟨s0, s1, s2, s3⟩; go_simp; with_reducible rfl; rotate_left; go_simp; rfl
      refine take_ (i := 1) (N := some 60) (v := ?_) (a' := ?_) #[true, true, false, false, false] rfl rfl (by kernel_rfl) (fun _ _ _ h => h) (Or.inl ⟨by rfl, ?_⟩) hHeld ?_ ?_
      rotate_left; rintro w' ⟨s0, s1, s2, s3⟩; go_simp; with_reducible rfl; rotate_left; go_simp; rfl
      refine one_ (i := 2) (N := some 61) #[true, true, true, false, false] rfl rfl (by kernel_rfl) (by decide) (fun K hK => ?_)
      refine gsG Try.func36 (laws_toZone.calls k _ _ l0_0 _ _ l0_1 t135 t138 _ (cv HR0_0 HB) HC0_0.out (cv HR0_1 HB) HC0_1.out A33.out) ?_
      rintro e w80 ⟨v136, v139, rfl, ho0, ho1, hb⟩
      refine ⟨_, rfl, ?_⟩
      have HO137 := ak (Kd.S_lower (S_ge_ (Kd.S_new' (Kd.S_new' (Kd.S_new' (Kd.S_new' (Kd.S_new' (Kd.S_new' ho0 (Kd.S_lt (sw HO107.out))) (Kd.S_lt (sw HO113.out))) (Kd.R_lt (rw_ HO116.out))) (Kd.S_lt (sw HO121.out))) (Kd.S_lt (sw HO128.out))) (Kd.R_lt (rw_ HO132.out)))) (below_size bs))
      have HO140 := ak (Kd.R_lower (Kd.R_new' (Kd.R_new' (Kd.R_new' (Kd.R_new' (Kd.R_new' (Kd.R_new' (Kd.R_new' (Kd.R_new' ho1 (Kd.S_lt (sw HO107.out))) (Kd.R_lt (rw_ HO110.out))) (Kd.S_lt (sw HO113.out))) (Kd.R_lt (rw_ HO116.out))) (Kd.S_lt (sw HO121.out))) (Kd.R_lt (rw_ HO124.out))) (Kd.S_lt (sw HO128.out))) (Kd.R_lt (rw_ HO132.out))) (below_size bs))
      replace HO107 := ak (Kd.S_elder' (S_lt_ (sw HO107.out)) (Kd.S_base ho0) hb)
      replace HO110 := ak (Kd.R_mono (Kd.R_told (Kd.R_told (Kd.R_old (rw_ HO110.out) hb) (Kd.S_base ho0)) (Kd.R_base ho1)) (fun _ h_ => h_.1))
      replace HO113 := ak (Kd.S_elder' (S_lt_ (sw HO113.out)) (Kd.S_base ho0) hb)
      replace HO116 := ak (Kd.R_below (rw_ HO116.out) hb)
      replace HO121 := ak (Kd.S_elder' (S_lt_ (sw HO121.out)) (Kd.S_base ho0) hb)
      replace HO124 := ak (Kd.R_mono (Kd.R_told (Kd.R_told (Kd.R_old (rw_ HO124.out) hb) (Kd.S_base ho0)) (Kd.R_base ho1)) (fun _ h_ => h_.1))
      replace HO128 := ak (Kd.S_elder' (S_lt_ (sw HO128.out)) (Kd.S_base ho0) hb)
      replace HO132 := ak (Kd.R_below (rw_ HO132.out) hb)
      replace BK101 := b1 BK101 hb
      replace BK102 := b1 BK102 hb
      replace BK125 := b1 BK125 hb
      replace BK129 := b1 BK129 hb
      replace HB := b2s bs hb
      (try clear hb)
      (try clear ho0)
      (try clear ho1)
      obtain ⟨Ao81, co81, eo81⟩ := Kd.S_slice HO137.out
      (first | subst eo81 | (injection eo81 with f1_ f2_ f3_; have f4_ := f1_.symm; have f5_ := f3_.symm; clear f1_ f2_ f3_; subst f4_; subst f5_))
      obtain ⟨Ao82, co82, eo82⟩ := Kd.R_slice HO140.out
      (first | subst eo82 | (injection eo82 with f1_ f2_ f3_; have f4_ := f1_.symm; have f5_ := f3_.symm; clear f1_ f2_ f3_; subst f4_; subst f5_))
      refine hK.out _ _ ⟨(blk_cell BK125.out 0).trans rfl, (blk_cell BK125.out 1).trans rfl, (blk_cell BK101.out 0).trans rfl, (blk_cell BK101.out 1).trans rfl⟩ (fun hHeld => ?_)
      clear hK K
      refine norm_ (a' := ?_) ?_ ?_; rotate_left; go_simp; rfl
      refine one_ (i := 3) (N := some 62) #[true, true, true, true, false] rfl rfl (by kernel_rfl) (by decide) (fun K hK => ?_)
      refine gsB Try.func38 (laws_eqZone.calls k _ _ t119 _ _ t122 _ _ t135 _ _ t138 true _ ?side1 ?side2 ?side3 ?side4 ?side5 ?side6 ?side7 ?side8 A34.out) (fun w83 hb => ?_)
      (case side1 => repeat (first | exact (Kd.S_reads' HO121.out).2.2 | (with_reducible refine Kd.C_alloc ?_ _) | (with_reducible refine Kd.C_drewN ?_ _) | (with_reducible refine Kd.C_drew ?_)))
      (case side2 => exact (Kd.S_reads' HO121.out).2.1)
      (case side3 => repeat (first | exact (Kd.R_reads' HO124.out).2.2 | (with_reducible refine Kd.C_alloc ?_ _) | (with_reducible refine Kd.C_drewN ?_ _) | (with_reducible refine Kd.C_drew ?_)))
      (case side4 => exact (Kd.R_reads' HO124.out).2.1)
      (case side5 => repeat (first | exact (Kd.S_reads' HO137.out).2.2 | (with_reducible refine Kd.C_alloc ?_ _) | (with_reducible refine Kd.C_drewN ?_ _) | (with_reducible refine Kd.C_drew ?_)))
      (case side6 => exact (Kd.S_reads' HO137.out).2.1)
      (case side7 => repeat (first | exact (Kd.R_reads' HO140.out).2.2 | (with_reducible refine Kd.C_alloc ?_ _) | (with_reducible refine Kd.C_drewN ?_ _) | (with_reducible refine Kd.C_drew ?_)))
      (case side8 => exact (Kd.R_reads' HO140.out).2.1)
      replace HO107 := ak (Kd.S_below (sw HO107.out) hb)
      replace HO110 := ak (Kd.R_below (rw_ HO110.out) hb)
      replace HO113 := ak (Kd.S_below (sw HO113.out) hb)
      replace HO116 := ak (Kd.R_below (rw_ HO116.out) hb)
      replace HO121 := ak (Kd.S_below (sw HO121.out) hb)
      replace HO124 := ak (Kd.R_below (rw_ HO124.out) hb)
      replace HO128 := ak (Kd.S_below (sw HO128.out) hb)
      replace HO132 := ak (Kd.R_below (rw_ HO132.out) hb)
      replace HO137 := ak (Kd.S_below (sw HO137.out) hb)
      replace HO140 := ak (Kd.R_below (rw_ HO140.out) hb)
      replace BK101 := b1 BK101 hb
      replace BK102 := b1 BK102 hb
      replace BK125 := b1 BK125 hb
      replace BK129 := b1 BK129 hb
      replace HB := b2s bs hb
      refine hK.out _ _ kp (fun hHeld => ?_)
      (try clear hb)
      clear hK K
      refine norm_ (a' := ?_) ?_ ?_; rotate_left; go_simp; rfl
      refine pure_ (i := 4) (N := some 63) (v := ?_) (a' := ?_) #[true, true, true, true, true] rfl rfl (by kernel_rfl) (fun _ _ _ h => h) (Or.inl ⟨by rfl, ?_⟩) ?_ ?_
      rotate_left; intro w'; go_simp; with_reducible rfl; rotate_left; go_simp; rfl
      refine done_ (by kernel_rfl) ?_
      try go_wp2
      replace HO107 := ak (Kd.S_drew HO107.out)
      replace HO110 := ak (Kd.R_drew HO110.out)
      replace HO113 := ak (Kd.S_drew HO113.out)
      replace HO116 := ak (Kd.R_drew HO116.out)
      replace HO121 := ak (Kd.S_drew HO121.out)
      replace HO124 := ak (Kd.R_drew HO124.out)
      replace HO128 := ak (Kd.S_drew HO128.out)
      replace HO132 := ak (Kd.R_drew HO132.out)
      replace HO137 := ak (Kd.S_drew HO137.out)
      replace HO140 := ak (Kd.R_drew HO140.out)
      replace BK101 := ak (blk_drew BK101.out)
      replace BK102 := ak (blk_drew BK102.out)
      replace BK125 := ak (blk_drew BK125.out)
      replace BK129 := ak (blk_drew BK129.out)
      replace HB := ak (below_drew1 HB.out)
      refine start_ (n := 5) (S := fun w' => w'.cell? ⟨gb129, 0, none⟩ = some (.slice Ao69 t126.length co69) ∧ w'.cell? ⟨gb102, 0, none⟩ = some (.slice A1_0 l1_0.length c1_0)) (ds := []) #[false, false, false, false, false] (by kernel_rfl) rfl rfl ⟨(blk_cell BK129.out 0).trans rfl, (blk_cell BK102.out 0).trans rfl⟩ (fun hHeld => ?_)
      generalize w83.drew = w84 at HO107 HO110 HO113 HO116 HO121 HO124 HO128 HO132 HO137 HO140 BK101 BK102 BK125 BK129 HB hHeld ⊢
      refine take_ (i := 0) (N := some 64) (v := ?_) (a' := ?_) #[true, false, false, false, false] rfl rfl (by kernel_rfl) (fun _ _ _ h => h) (Or.inl ⟨by rfl, ?_⟩) hHeld ?_ ?_
      rotate_left; rintro w' ⟨s0, s1⟩; go_simp; with_reducible rfl; rotate_left; go_simp; rfl
      refine take_ (i := 1) (N := some 65) (v := ?_) (a' := ?_) #[true, true, false, false, false] rfl rfl (by kernel_rfl) (fun _ _ _ h => h) (Or.inl ⟨by rfl, ?_⟩) hHeld ?_ ?_
      rotate_left; rintro w' ⟨s0, s1⟩; go_simp; with_reducible rfl; rotate_left; go_simp; rfl
      refine one_ (i := 2) (N := some 66) #[true, true, true, false, false] rfl rfl (by kernel_rfl) (by decide) (fun K hK => ?_)
      refine gsG Try.func41 (laws_toName.calls k _ _ l1_0 t142 _ (cv HR1_0 HB) HC1_0.out A36.out) ?_
      rintro e w85 ⟨v143, rfl, ho0, hb⟩
      refine ⟨_, rfl, ?_⟩
      replace HO110 := ak (Kd.R_elder' (rw_ HO110.out) (Kd.S_base ho0) hb)
      replace HO124 := ak (Kd.R_elder' (rw_ HO124.out) (Kd.S_base ho0) hb)
      replace HO140 := ak (Kd.R_elder' (rw_ HO140.out) (Kd.S_base ho0) hb)
      have HO144 := ak (Kd.S_lower (S_ge_ (Kd.S_new' (Kd.S_new' (Kd.S_new' (Kd.S_new' (Kd.S_new' (Kd.S_new' (Kd.S_new' ho0 (Kd.S_lt (sw HO107.out))) (Kd.S_lt (sw HO113.out))) (Kd.R_lt (rw_ HO116.out))) (Kd.S_lt (sw HO121.out))) (Kd.S_lt (sw HO128.out))) (Kd.R_lt (rw_ HO132.out))) (Kd.S_lt (sw HO137.out)))) (below_size bs))
      replace HO107 := ak (Kd.S_elder' (S_lt_ (sw HO107.out)) (Kd.S_base ho0) hb)
      replace HO113 := ak (Kd.S_elder' (S_lt_ (sw HO113.out)) (Kd.S_base ho0) hb)
      replace HO116 := ak (Kd.R_below (rw_ HO116.out) hb)
      replace HO121 := ak (Kd.S_elder' (S_lt_ (sw HO121.out)) (Kd.S_base ho0) hb)
      replace HO128 := ak (Kd.S_elder' (S_lt_ (sw HO128.out)) (Kd.S_base ho0) hb)
      replace HO132 := ak (Kd.R_below (rw_ HO132.out) hb)
      replace HO137 := ak (Kd.S_elder' (S_lt_ (sw HO137.out)) (Kd.S_base ho0) hb)
      replace BK101 := b1 BK101 hb
      replace BK102 := b1 BK102 hb
      replace BK125 := b1 BK125 hb
      replace BK129 := b1 BK129 hb
      replace HB := b2s bs hb
      (try clear hb)
      (try clear ho0)
      obtain ⟨Ao86, co86, eo86⟩ := Kd.S_slice HO144.out
      (first | subst eo86 | (injection eo86 with f1_ f2_ f3_; have f4_ := f1_.symm; have f5_ := f3_.symm; clear f1_ f2_ f3_; subst f4_; subst f5_))
      refine hK.out _ _ ⟨(blk_cell BK129.out 0).trans rfl, (blk_cell BK102.out 0).trans rfl⟩ (fun hHeld => ?_)
      clear hK K
      refine norm_ (a' := ?_) ?_ ?_; rotate_left; go_simp; rfl
      refine one_ (i := 3) (N := some 67) #[true, true, true, true, false] rfl rfl (by kernel_rfl) (by decide) (fun K hK => ?_)
      refine gsB Try.func43 (laws_eqName.calls k _ _ t126 _ _ t142 true _ ?side1 ?side2 ?side3 ?side4 A37.out) (fun w87 hb => ?_)
      (case side1 => repeat (first | exact (Kd.S_reads' HO128.out).2.2 | (with_reducible refine Kd.C_alloc ?_ _) | (with_reducible refine Kd.C_drewN ?_ _) | (with_reducible refine Kd.C_drew ?_)))
      (case side2 => exact (Kd.S_reads' HO128.out).2.1)
      (case side3 => repeat (first | exact (Kd.S_reads' HO144.out).2.2 | (with_reducible refine Kd.C_alloc ?_ _) | (with_reducible refine Kd.C_drewN ?_ _) | (with_reducible refine Kd.C_drew ?_)))
      (case side4 => exact (Kd.S_reads' HO144.out).2.1)
      replace HO107 := ak (Kd.S_below (sw HO107.out) hb)
      replace HO110 := ak (Kd.R_below (rw_ HO110.out) hb)
      replace HO113 := ak (Kd.S_below (sw HO113.out) hb)
      replace HO116 := ak (Kd.R_below (rw_ HO116.out) hb)
      replace HO121 := ak (Kd.S_below (sw HO121.out) hb)
      replace HO124 := ak (Kd.R_below (rw_ HO124.out) hb)
      replace HO128 := ak (Kd.S_below (sw HO128.out) hb)
      replace HO132 := ak (Kd.R_below (rw_ HO132.out) hb)
      replace HO137 := ak (Kd.S_below (sw HO137.out) hb)
      replace HO140 := ak (Kd.R_below (rw_ HO140.out) hb)
      replace HO144 := ak (Kd.S_below (sw HO144.out) hb)
      replace BK101 := b1 BK101 hb
      replace BK102 := b1 BK102 hb
      replace BK125 := b1 BK125 hb
      replace BK129 := b1 BK129 hb
      replace HB := b2s bs hb
      refine hK.out _ _ kp (fun hHeld => ?_)
      (try clear hb)
      clear hK K
      refine norm_ (a' := ?_) ?_ ?_; rotate_left; go_simp; rfl
      refine pure_ (i := 4) (N := some 68) (v := ?_) (a' := ?_) #[true, true, true, true, true] rfl rfl (by kernel_rfl) (fun _ _ _ h => h) (Or.inl ⟨by rfl, ?_⟩) ?_ ?_
      rotate_left; intro w'; go_simp; with_reducible rfl; rotate_left; go_simp; rfl
      refine done_ (by kernel_rfl) ?_
      try go_wp2_with (first | ((with_reducible refine gate_callee (f := 26) rfl ?_);refine glG 71 rfl rfl Try.func26 (laws_toByteS.calls k _ _ l2 t146 _ (cv HR2 HB) HC2.out A39.out) ?_;rintro e w88 ⟨v147, rfl, ho0, hb⟩;refine ⟨_, rfl, ?_⟩;replace HO107 := ak (Kd.S_elder' (sw HO107.out) (Kd.R_base ho0) hb);replace HO110 := ak (Kd.R_elder' (rw_ HO110.out) (Kd.R_base ho0) hb);replace HO113 := ak (Kd.S_elder' (sw HO113.out) (Kd.R_base ho0) hb);replace HO121 := ak (Kd.S_elder' (sw HO121.out) (Kd.R_base ho0) hb);replace HO124 := ak (Kd.R_elder' (rw_ HO124.out) (Kd.R_base ho0) hb);replace HO128 := ak (Kd.S_elder' (sw HO128.out) (Kd.R_base ho0) hb);replace HO137 := ak (Kd.S_elder' (sw HO137.out) (Kd.R_base ho0) hb);replace HO140 := ak (Kd.R_elder' (rw_ HO140.out) (Kd.R_base ho0) hb);replace HO144 := ak (Kd.S_elder' (sw HO144.out) (Kd.R_base ho0) hb);have HO148 := ak (Kd.R_lower (Kd.R_new' (Kd.R_new' ho0 (Kd.R_lt (rw_ HO116.out))) (Kd.R_lt (rw_ HO132.out))) (below_size bs));replace HO116 := ak (Kd.R_elder' (rw_ HO116.out) (Kd.R_base ho0) hb);replace HO132 := ak (Kd.R_elder' (rw_ HO132.out) (Kd.R_base ho0) hb);replace BK101 := b1 BK101 hb;replace BK102 := b1 BK102 hb;replace BK125 := b1 BK125 hb;replace BK129 := b1 BK129 hb;replace HB := b2s bs hb;(try clear hb);(try clear ho0);obtain ⟨Ao89, co89, eo89⟩ := Kd.R_slice HO148.out;subst eo89) | ((with_reducible refine gate_callee (f := 28) rfl ?_);refine glD 72 rfl rfl Try.func28 (laws_eqByteS.calls k _ _ t130 _ _ t146 true _ ?side1 ?side2 ?side3 ?side4 A40.out) (fun nd => ?_);(case side1 => repeat (first | exact (Kd.R_reads' HO132.out).2.2 | (with_reducible refine Kd.C_alloc ?_ _) | (with_reducible refine Kd.C_drewN ?_ _) | (with_reducible refine Kd.C_drew ?_)));(case side2 => exact (Kd.R_reads' HO132.out).2.1);(case side3 => repeat (first | exact (Kd.R_reads' HO148.out).2.2 | (with_reducible refine Kd.C_alloc ?_ _) | (with_reducible refine Kd.C_drewN ?_ _) | (with_reducible refine Kd.C_drew ?_)));(case side4 => exact (Kd.R_reads' HO148.out).2.1)))
      go_ret
      exact ⟨o1, bs⟩

/-! ### spec_Put16: function 191 -/
def spec_Put16.f (l0 : List Int) (a1 : Int) : Option (List Int) := (some (([] : List Int) : List Int)).bind fun y101 => (if y101.length + l0.length < 140737488355328 then ((some (y101 ++ l0 : List Int)).bind fun y104 => (if a1 < 0 then (some y104) else (if a1 > 65535 then (some y104) else ((some (([(a1 / 256) % 256, (a1) % 256] : List Int) : List Int)).bind fun y107 => (if y104.length + y107.length < 140737488355328 then (some (y104 ++ y107)) else (none)))))) else (none))
set_option maxHeartbeats 8000000 in
set_option maxRecDepth 100000 in
theorem spec_Put16.calls (A0 : Option Addr) (c0 : Nat) (l0 : List Int) (a1 : Int) (r : List Int) (w : World) (hr0 : Kd.C (Kd.int .u8) w A0 l0.length l0) (hc0 : l0.length ≤ c0) (h : spec_Put16.f l0 a1 = some r) :
  Calls Try.prog 191 #[.slice A0 l0.length c0, .int .i64 a1] w fun e w' => ∃ v0_ : Value, e = .returned (v0_) ∧ Kd.R (Kd.int .u8) 5 w' w.heap.size (fun _ => True) v0_ r ∧ Below w.heap.size w w' := by
 have HR0 := ak hr0
 have HC0 := ak hc0
 clear hr0 hc0
 have HB := ak (Below.refl w.heap.size w)
 have H : ((some (([] : List Int) : List Int)).bind fun y101 => (if y101.length + l0.length < 140737488355328 then ((some (y101 ++ l0 : List Int)).bind fun y104 => (if a1 < 0 then (some y104) else (if a1 > 65535 then (some y104) else ((some (([(a1 / 256) % 256, (a1) % 256] : List Int) : List Int)).bind fun y107 => (if y104.length + y107.length < 140737488355328 then (some (y104 ++ y107)) else (none)))))) else (none))) = some r := h
 clear h
 replace H : ∃ y101 : List Int, y101 = (([] : List Int)) ∧ (if y101.length + l0.length < 140737488355328 then ((some (y101 ++ l0 : List Int)).bind fun y104 => (if a1 < 0 then (some y104) else (if a1 > 65535 then (some y104) else ((some (([(a1 / 256) % 256, (a1) % 256] : List Int) : List Int)).bind fun y107 => (if y104.length + y107.length < 140737488355328 then (some (y104 ++ y107)) else (none)))))) else (none)) = some r := ⟨_, rfl, H⟩
 obtain ⟨y101, hy101, H⟩ := H
 have Ny101 := ak hy101
 clear hy101
 by_cases c3 : y101.length + l0.length < 140737488355328
 ·rw [if_pos c3] at H
  have LMc3 := ak c3
  clear c3
  obtain ⟨y104, hy104⟩ : ∃ y_ : List Int, y_ = (y101 ++ l0) := ⟨_, rfl⟩
  (try with_reducible replace H := bnS H)
  (try rw [← hy104] at H)
  have Ny104 := ak hy104
  clear hy104
  replace H := ip H
  obtain ⟨c4b0, H⟩ | ⟨c4b0, H⟩ := H
  ·obtain rfl := Option.some.inj H
   go_enter Try.func191, Try.ntmps191
   go_wp2_with (first | ((with_reducible refine gate_dst (N := 6) rfl ?_);refine Kd.R_lit (Kd.int .u8) _ 5 ?hg (N := 6) ?hd (xs := ([] : List Int)) (inner := []) (ok := fun _ => True) (okp := fun _ => True) ?hr ?hp (fun _ hk => hk) trivial (Below.refl _ _) (Nat.le_refl _) (by simp) ?_;(case hd => rfl);(case hg => rfl);(case hr => first | (go_simp; done) | (go_simp; rfl));(case hp => exact (Reps.none _ _));intro v102 w5 ho6 hb hg_ hnew_;clear hg_ hnew_;(first | rw [← Ny101.out] at ho6 | (simp only [Int.reduceToNat] at ho6; rw [← Ny101.out] at ho6));have HO103 := ak (Kd.R_lower ho6 (below_size (bw HB.out)));replace HB := b2 HB hb;clear hb ho6) | ((with_reducible refine gate_builtin (b := .append) (xs := #[.tmp 6, .tmp 7]) rfl ?_);at_builtin;refine Kd.R_append_rows (Kd.int .u8) (w0 := w) w.heap.size rfl (.tmp 6) (.tmp 7) 25 5 (.int .u8 0) 1 rfl Try.underlying25 info5 rfl (by decide) (by omega) v102 y101 l0 _ _ _ (fun _ => True) (fun _ => False) rfl rfl ?aO ?aR (fun _ _ h => h) (fun _ h => h.elim) ?aF ?aB ?aS ?aL ?_;(case aR => exact cw HR0.out HB.out);(case aB => exact (bw HB.out));(case aF => exact (fun _ _ => trivial));(case aO => exact (rw_ HO103.out));(case aS => exact (below_size (bw HB.out)));(case aL => have := LMc3.out; omega);intro v105 w7 ho hb hg hat;rw [← Ny104.out] at ho;replace HB := ak (hb);have HO106 := ak (ho);clear HO103;clear ho hb hg hat))
   go_ret
   exact ⟨_, o1, rw_ HO106.out, bw HB.out⟩
  ·replace H := ig H
   obtain ⟨c8b0, H⟩ | ⟨c8b0, H⟩ := H
   ·obtain rfl := Option.some.inj H
    go_enter Try.func191, Try.ntmps191
    go_wp2_with (first | ((with_reducible refine gate_dst (N := 6) rfl ?_);refine Kd.R_lit (Kd.int .u8) _ 5 ?hg (N := 6) ?hd (xs := ([] : List Int)) (inner := []) (ok := fun _ => True) (okp := fun _ => True) ?hr ?hp (fun _ hk => hk) trivial (Below.refl _ _) (Nat.le_refl _) (by simp) ?_;(case hd => rfl);(case hg => rfl);(case hr => first | (go_simp; done) | (go_simp; rfl));(case hp => exact (Reps.none _ _));intro v102 w9 ho10 hb hg_ hnew_;clear hg_ hnew_;(first | rw [← Ny101.out] at ho10 | (simp only [Int.reduceToNat] at ho10; rw [← Ny101.out] at ho10));have HO103 := ak (Kd.R_lower ho10 (below_size (bw HB.out)));replace HB := b2 HB hb;clear hb ho10) | ((with_reducible refine gate_builtin (b := .append) (xs := #[.tmp 6, .tmp 7]) rfl ?_);at_builtin;refine Kd.R_append_rows (Kd.int .u8) (w0 := w) w.heap.size rfl (.tmp 6) (.tmp 7) 25 5 (.int .u8 0) 1 rfl Try.underlying25 info5 rfl (by decide) (by omega) v102 y101 l0 _ _ _ (fun _ => True) (fun _ => False) rfl rfl ?aO ?aR (fun _ _ h => h) (fun _ h => h.elim) ?aF ?aB ?aS ?aL ?_;(case aR => exact cw HR0.out HB.out);(case aB => exact (bw HB.out));(case aF => exact (fun _ _ => trivial));(case aO => exact (rw_ HO103.out));(case aS => exact (below_size (bw HB.out)));(case aL => have := LMc3.out; omega);intro v105 w11 ho hb hg hat;rw [← Ny104.out] at ho;replace HB := ak (hb);have HO106 := ak (ho);clear HO103;clear ho hb hg hat))
    go_ret
    exact ⟨_, o1, rw_ HO106.out, bw HB.out⟩
   ·obtain ⟨y107, hy107⟩ : ∃ y_ : List Int, y_ = (([(a1 / 256) % 256, (a1) % 256] : List Int)) := ⟨_, rfl⟩
    (try with_reducible replace H := bnS H)
    (try rw [← hy107] at H)
    have Ny107 := ak hy107
    clear hy107
    by_cases c12 : y104.length + y107.length < 140737488355328
    ·rw [if_pos c12] at H
     have LMc12 := ak c12
     clear c12
     obtain ⟨y110, hy110⟩ : ∃ y_ : List Int, y_ = (y104 ++ y107) := ⟨_, rfl⟩
     (try with_reducible replace H := bnS H)
     (try rw [← hy110] at H)
     have Ny110 := ak hy110
     clear hy110
     obtain rfl := Option.some.inj H
     go_enter Try.func191, Try.ntmps191
     go_wp2_with (first | ((with_reducible refine gate_dst (N := 6) rfl ?_);refine Kd.R_lit (Kd.int .u8) _ 5 ?hg (N := 6) ?hd (xs := ([] : List Int)) (inner := []) (ok := fun _ => True) (okp := fun _ => True) ?hr ?hp (fun _ hk => hk) trivial (Below.refl _ _) (Nat.le_refl _) (by simp) ?_;(case hd => rfl);(case hg => rfl);(case hr => first | (go_simp; done) | (go_simp; rfl));(case hp => exact (Reps.none _ _));intro v102 w13 ho14 hb hg_ hnew_;clear hg_ hnew_;(first | rw [← Ny101.out] at ho14 | (simp only [Int.reduceToNat] at ho14; rw [← Ny101.out] at ho14));have HO103 := ak (Kd.R_lower ho14 (below_size (bw HB.out)));replace HB := b2 HB hb;clear hb ho14) | ((with_reducible refine gate_builtin (b := .append) (xs := #[.tmp 6, .tmp 7]) rfl ?_);at_builtin;refine Kd.R_append_rows (Kd.int .u8) (w0 := w) w.heap.size rfl (.tmp 6) (.tmp 7) 25 5 (.int .u8 0) 1 rfl Try.underlying25 info5 rfl (by decide) (by omega) v102 y101 l0 _ _ _ (fun _ => True) (fun _ => False) rfl rfl ?aO ?aR (fun _ _ h => h) (fun _ h => h.elim) ?aF ?aB ?aS ?aL ?_;(case aR => exact cw HR0.out HB.out);(case aB => exact (bw HB.out));(case aF => exact (fun _ _ => trivial));(case aO => exact (rw_ HO103.out));(case aS => exact (below_size (bw HB.out)));(case aL => have := LMc3.out; omega);intro v105 w15 ho hb hg hat;rw [← Ny104.out] at ho;replace HB := ak (hb);have HO106 := ak (ho);clear HO103;clear ho hb hg hat) | ((with_reducible refine gate_dst (N := 22) rfl ?_);refine Kd.R_lit (Kd.int .u8) _ 5 ?hg (N := 22) ?hd (xs := ([(a1 / 256) % 256, (a1) % 256] : List Int)) (inner := [.int .u8 ((a1 / 256) % 256), .int .u8 ((a1) % 256)]) (ok := fun _ => True) (okp := fun _ => True) ?hr ?hp (fun _ hk => hk) trivial (Below.refl _ _) (Nat.le_refl _) (by simp) ?_;(case hd => rfl);(case hg => rfl);(case hr => first | (go_simp; done) | (go_simp; rfl));(case hp => exact (Reps.one (show Kd.M (Kd.int .u8) _ _ _ ((a1 / 256) % 256) [.int .u8 ((a1 / 256) % 256)] from rfl) (Reps.one (show Kd.M (Kd.int .u8) _ _ _ ((a1) % 256) [.int .u8 ((a1) % 256)] from rfl) (Reps.none _ _))));intro v108 w16 ho17 hb hg_ hnew_;clear hg_ hnew_;(first | rw [← Ny107.out] at ho17 | (simp only [Int.reduceToNat] at ho17; rw [← Ny107.out] at ho17));have HO109 := ak (Kd.R_lower (Kd.R_new' ho17 (Kd.R_lt (rw_ HO106.out))) (below_size (bw HB.out)));replace HO106 := ak (Kd.R_elder' (rw_ HO106.out) (Kd.R_base ho17) hb);replace HB := b2 HB hb;clear hb ho17;obtain ⟨Ao19, co19, eo19⟩ := Kd.R_slice HO109.out;subst eo19) | ((with_reducible refine gate_builtin (b := .append) (xs := #[.tmp 16, .tmp 22]) rfl ?_);at_builtin;refine Kd.R_append_rows (Kd.int .u8) (w0 := w) w.heap.size rfl (.tmp 16) (.tmp 22) 25 5 (.int .u8 0) 1 rfl Try.underlying25 info5 rfl (by decide) (by omega) v105 y104 y107 _ _ _ (fun k_ => some k_ ≠ (.slice Ao19 y107.length co19 : Value).ownBlock) (fun _ => False) rfl rfl ?aO ?aR (fun _ _ h => h) (fun _ h => h.elim) ?aF ?aB ?aS ?aL ?_;(case aR => repeat (first | exact (Kd.R_reads' HO109.out).2.2 | (with_reducible refine Kd.C_alloc ?_ _) | (with_reducible refine Kd.C_drewN ?_ _) | (with_reducible refine Kd.C_drew ?_)));(case aB => exact (bw HB.out));(case aF => exact (fun k_ hk => Kd.fresh' (Kd.R_lt (rw_ HO109.out)) k_ hk));(case aO => exact (rw_ (Kd.R_mono HO106.out (fun _ hk => hk.2))));(case aS => exact (below_size (bw HB.out)));(case aL => have := LMc12.out; omega);intro v111 w18 ho hb hg hat;rw [← Ny110.out] at ho;replace HO109 := ak (Kd.R_after (ok := (fun _ => True)) (rw_ HO109.out) hg hat);replace HB := ak (hb);have HO112 := ak (ho);clear HO106;clear ho hb hg hat))
     go_ret
     exact ⟨_, o1, by (with_reducible repeat (first | apply Kd.R_alloc | apply Kd.R_drewN | apply Kd.R_drew)); exact Kd.R_mono HO112.out (fun _ hk => trivial), bw HB.out⟩
    ·rw [if_neg c12] at H
     exact absurd H (by simp)
 ·rw [if_neg c3] at H
  exact absurd H (by simp)

end Go.Proofs.Ytagedmajlppohaa.Q
