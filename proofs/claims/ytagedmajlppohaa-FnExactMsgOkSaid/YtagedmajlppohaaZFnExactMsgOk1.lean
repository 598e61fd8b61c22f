/- Printed by a program of this session (wip/myprint.py), which drives the kit's printer: functions and what their calls do. -/
import Derived.Test.YtagedmajlppohaaZFnExactMsgOk0
import Derived.Deep.RegionHeld3
import Derived.Deep.DrawnRows
namespace Go.Proofs.Ytagedmajlppohaa.Q
open Go.RowKit Go Go.Proofs.YtagedmajlppohaaW.PrintWords Go.Proofs.YtagedmajlppohaaW.PrintLast Go.Proofs.YtagedmajlppohaaW.PrintMore

set_option linter.unusedVariables false
set_option linter.unusedSimpArgs false

/-! ### spec_l2put: function 77 -/

attribute [local go_sem ↓] Go.wp_at_zero Go.wp_at_succ
/-- The labels of a name as they stand in messages, without the end. -/
def spec_l2put.w : List (List Int) → List Int
 | [] => []
 | x :: l => ((x.length : Int) % 256) :: (x ++ spec_l2put.w l)
theorem spec_l2put.w_snoc (l : List (List Int)) (x : List Int) : spec_l2put.w (l ++ [x]) = spec_l2put.w l ++ [(x.length : Int) % 256] ++ x := by
 induction l with
 | nil => simp [spec_l2put.w]
 | cons y l ih => simp [spec_l2put.w, ih]
theorem spec_l2put.w_take (l : List (List Int)) : ∀ k, (spec_l2put.w (l.take k)).length ≤ (spec_l2put.w l).length := by
 induction l with
 | nil => intro k; simp
 | cons y l ih =>
  intro k
  cases k with
  | zero => simp [spec_l2put.w]
  | succ k => have := ih k; simp only [List.take_succ_cons, spec_l2put.w, List.length_cons, List.length_append]; omega
def spec_l2put.f (l0 : List Int) (l1_0 : List (List Int)) : Option (List Int) := if l0.length + (spec_l2put.w l1_0).length + 1 < 140737488355328 then some (l0 ++ spec_l2put.w l1_0 ++ [0]) else none
theorem spec_l2put.inner {w : World} {S : Nat → Prop} {A : Option Addr} {l : List (List Int)} (h : ∀ W', Kept w W' S → Kd.C (Kd.slice 5 (Kd.int .u8)) W' A l.length l) (i : Nat) (hi : i < l.length) :
  ∃ ad A0 c0, A = some ad ∧ (∀ W', Kept w W' S → W'.cell? (ad.add i) = some (.slice A0 (rd_L10 l (i : Int)).length c0)) ∧ (rd_L10 l (i : Int)).length ≤ c0 ∧ ∀ W', Kept w W' S → (Kd.int .u8).C W' A0 (rd_L10 l (i : Int)).length (rd_L10 l (i : Int)) := by
 obtain ⟨ad, A0, c0, rfl, hx, hl, hc⟩ := at_L10 (h w (Kept.refl w S)) (i : Int) (by omega) (by omega)
 rw [show ((i : Int)).toNat = i from by omega] at hx
 have hn := Kd.foot_neS h (by omega) (show 0 < (Kd.slice 5 (Kd.int .u8)).sz from by decide)
 have hcell : ∀ W', Kept w W' S → W'.cell? (ad.add i) = some (.slice A0 (rd_L10 l (i : Int)).length c0) := fun W' hk => cell_kept hx hk (by rw [add_block]; exact hn)
 refine ⟨ad, A0, c0, rfl, hcell, hl, fun W' hk => ?_⟩
 obtain ⟨ad2, A2, c2, e, hx2, _, hc2⟩ := at_L10 (h W' hk) (i : Int) (by omega) (by omega)
 injection e with e
 subst e
 rw [show ((i : Int)).toNat = i from by omega, hcell W' hk] at hx2
 injection hx2 with hx2
 injection hx2 with e1 e2 e3
 subst e1
 exact hc2
theorem spec_l2put.swap (W : World) (o : Obj) : (W.alloc o).drew = (W.drew).alloc o := rfl
theorem spec_l2put.step {c : Prop} [Decidable c] {A B E : Prop} (hc : c) (h : if c then A else B) : if c then A else E := by rw [if_pos hc] at h ⊢; exact h
set_option maxHeartbeats 8000000 in
set_option maxRecDepth 100000 in
theorem spec_l2put.calls (P0_ : Nat → Prop) (u9000_ : Value) (l0 : List Int) (A1_0 : Option Addr) (c1_0 : Nat) (l1_0 : List (List Int)) (r : List Int) (w0 w : World) (hB : Below w0.heap.size w0 w) (ho0 : Kd.R (Kd.int .u8) 5 w w0.heap.size P0_ u9000_ l0) (hr1_0 : ∀ W_, Kept w W_ (fun k_ => P0_ k_) → Kd.C (Kd.slice 5 (Kd.int .u8)) W_ A1_0 l1_0.length l1_0) (hc1_0 : l1_0.length ≤ c1_0) (h : spec_l2put.f l0 l1_0 = some r) :
  Calls Try.prog 77 #[u9000_, .agg #[.slice A1_0 l1_0.length c1_0]] w fun e w' => ∃ v0_ : Value, e = .returned (v0_) ∧ Kd.R (Kd.int .u8) 5 w' w0.heap.size (fun k_ => (P0_ k_ ∨ w.heap.size ≤ k_)) v0_ r ∧ Below w0.heap.size w0 w' ∧ Kept w w' (fun k_ => P0_ k_) := by
 have HO0 := ak (show Kd.R (Kd.int .u8) 5 w w0.heap.size (fun k_ => (P0_ k_ ∨ w.heap.size ≤ k_)) u9000_ l0 from Kd.R_mono ho0 (fun k_ hk => (.inl hk)))
 have HK := ak (Kept.refl w (fun k_ => P0_ k_))
 have HB := ak hB
 have HI := ak (spec_l2put.inner hr1_0)
 have hbig : l1_0.length ≤ 9223372036854775807 := (hr1_0 w (Kept.refl _ _)).2.1
 have HLM : Aside0 (l0.length + (spec_l2put.w l1_0).length + 1 < 140737488355328) := by
  unfold spec_l2put.f at h; split at h
  ·exact ⟨by assumption⟩
  ·cases h
 have hr : l0 ++ spec_l2put.w l1_0 ++ [0] = r := by
  unfold spec_l2put.f at h; rw [if_pos HLM.out] at h; exact Option.some.inj h
 subst hr
 clear hr1_0 hc1_0 h hB ho0
 go_enter Try.func77, Try.ntmps77
 go_wp2_with (((with_reducible refine gate_dst (N := 3) rfl ?_);refine bxe (N := 3) rfl ?_;intro gb101 hg w2 hbox hb;replace HB := b2 HB hb;have BK101 := ak (hbox);replace HK := ak (Kept.below (by repeat (first | (with_reducible first | exact HK.out | apply Kept.alloc | apply Kept.drewN | apply Kept.drew) | exact HK.out)) hb);have HO := ak (Kd.R_below HO0.out hb);clear HO0;clear hb hbox hg))
 go_loopg [0, 5] l1_0.length (fun gg s0 s5 w' => ∃ kk : Nat, kk ≤ l1_0.length ∧ l1_0.length - kk ≤ gg ∧ s5 = .int .i64 kk ∧ Aside0 (Kd.R (Kd.int .u8) 5 w' w0.heap.size (fun k_ => (P0_ k_ ∨ w.heap.size ≤ k_)) s0 (l0 ++ spec_l2put.w (l1_0.take kk))) ∧ Aside0 (w'.heap[gb101]? = some (.cells #[(.slice A1_0 l1_0.length c1_0)] 31 (0, 0))) ∧ Aside0 (Below w0.heap.size w0 w') ∧ Aside0 (Kept w w' (fun k_ => P0_ k_)))
 case atStart => exact ⟨0, Nat.zero_le _, by omega, rfl, ⟨by simpa [spec_l2put.w] using HO.out⟩, BK101, HB, HK⟩
 case round =>
  clear HO BK101 HB HK
  obtain ⟨kk, hkk, hg, rfl, HO, BK, HB, HK⟩ := hrel
  have hcz := ak ((blk_cell BK.out 0).trans rfl : wr.cell? ⟨gb101, 0, none⟩ = some (.slice A1_0 l1_0.length c1_0))
  have hfz := blk_frozen BK.out 0
  by_cases hlt : kk < l1_0.length
  ·obtain ⟨ad, A2, c2, rfl, hcell, hc2, hC⟩ := HI.out kk hlt
   have hx : Aside0 (l0 ++ spec_l2put.w (l1_0.take (kk + 1)) = l0 ++ spec_l2put.w (l1_0.take kk) ++ [((rd_L10 l1_0 (kk : Int)).length : Int) % 256] ++ rd_L10 l1_0 (kk : Int)) := ⟨by
    rw [List.take_succ_eq_append_getElem hlt, spec_l2put.w_snoc]; simp [rd_L10, List.getD_eq_getElem?_getD, hlt]⟩
   have HLL : Aside0 ((l0 ++ spec_l2put.w (l1_0.take kk)).length + 1 + (rd_L10 l1_0 (kk : Int)).length < 140737488355328) := ⟨by
    have h1 := congrArg List.length hx.out
    have h2 := spec_l2put.w_take l1_0 (kk + 1)
    have h3 := HLM.out
    simp only [List.length_append, List.length_singleton] at h1 ⊢
    omega⟩
   have HCE := ak hcell
   have HCC := ak hC
   have hcn := hcell wr HK.out
   have hczn := hcz.out
   clear hcell hC hcz HI
   generalize rd_L10 l1_0 (kk : Int) = x1 at hx HLL HCE HCC hc2 hcn
   generalize l0 ++ spec_l2put.w (l1_0.take kk) = acc at HO hx HLL
   have hltz : (kk : Int) < (l1_0.length : Int) := by omega
   have hkk0 : (0 : Int) ≤ (kk : Int) := by omega
   go_wp2
   go_region_held3 (fun w' => w'.cell? ⟨gb101, 0, none⟩ = some (.slice (some ad) l1_0.length c1_0) ∧ w'.cell? (ad.add kk) = some (.slice A2 x1.length c2)) (first | exact ⟨(blk_cell BK.out 0).trans rfl, HCE.out _ HK.out⟩ | go_keep)
    (first
     | (rw [spec_l2put.swap]; refine spec_l2put.step (by simp [Region.wanted]) (Kd.R_append_step (Kd.int .u8) (w0 := w0) w0.heap.size (by simp [Region.wanted]) (.tmp 13) (.tmp 21) 25 5 (.int .u8 0) 1 (by rfl) Try.underlying25 info5 rfl (by decide) (by omega) _ acc ((x1.length : Int) % 256) [.int .u8 ((x1.length : Int) % 256)] (fun k_ => (P0_ k_ ∨ w.heap.size ≤ k_)) (fun _ => False) (by rfl) (by rfl) rfl (fun _ hk => hk.elim) (fun k hk => .inr (Nat.le_trans HK.out.1 (Nat.le_trans (by simp) hk))) (rw_ HO.out) (bw HB.out) (below_size (bw HB.out)) (by have := HLL.out; omega) ?_); intro v1 w1 ho hb hg hat; have n0_ := ak (blk_grown (bk BK.out) hg (Kd.R_ne HO.out BK.out (by decide))); have n1_ := ak hb; have n2_ := ak ho; have n3_ := ak (Kept.of_grown (w := w) (S := fun k_ => P0_ k_) hg (by repeat (first | (with_reducible first | exact HK.out | apply Kept.alloc | apply Kept.drewN | apply Kept.drew) | exact HK.out)) (fun k hk => HO.out.1 k hk)); clear HB HO HK BK ho hb hg hat; have BK := n0_; have HB := n1_; have HO := n2_; have HK := n3_; clear n0_ n1_ n2_ n3_)
     | (refine spec_l2put.step (by simp [Region.wanted]) (Kd.R_append_rows_step (Kd.int .u8) (w0 := w0) w0.heap.size (by simp [Region.wanted]) (.tmp 22) (.tmp 27) 25 5 (.int .u8 0) 1 (by rfl) Try.underlying25 info5 rfl (by decide) (by omega) _ (acc ++ [(x1.length : Int) % 256]) x1 _ _ _ (fun k_ => (P0_ k_ ∨ w.heap.size ≤ k_)) (fun _ => False) (by rfl) (by rfl) (rw_ HO.out) (HCC.out _ (by repeat (first | (with_reducible first | exact HK.out | apply Kept.alloc | apply Kept.drewN | apply Kept.drew) | exact HK.out))) (fun _ _ h => h) (fun _ h => h.elim) (fun k hk => .inr (Nat.le_trans HK.out.1 (Nat.le_trans (by simp) hk))) (bw HB.out) (below_size (bw HB.out)) (by have := HLL.out; simp only [List.length_append, List.length_singleton]; omega) ?_); intro v1 w1 ho hb hg hat; have n0_ := ak (blk_grown (bk BK.out) hg (Kd.R_ne HO.out BK.out (by decide))); have n1_ := ak hb; have n2_ := ak ho; have n3_ := ak (Kept.of_grown (w := w) (S := fun k_ => P0_ k_) hg (by repeat (first | (with_reducible first | exact HK.out | apply Kept.alloc | apply Kept.drewN | apply Kept.drew) | exact HK.out)) (fun k hk => HO.out.1 k hk)); clear HB HO HK BK ho hb hg hat; have BK := n0_; have HB := n1_; have HO := n2_; have HK := n3_; clear n0_ n1_ n2_ n3_))
   go_wp2
   go_roundg (l1_0.length - (kk + 1))
   case measure => omega
   case rel => exact ⟨kk + 1, by omega, by omega, by go_num, ⟨by rw [hx.out]; exact HO.out⟩, BK, HB, HK⟩
  ·have : kk = l1_0.length := by omega
   subst this
   rw [List.take_of_length_le (Nat.le_refl _)] at HO
   have hczn := hcz.out
   clear hcz
   have hltz : ¬ (l1_0.length : Int) < (l1_0.length : Int) := by omega
   go_wp2_with (((with_reducible refine gate_builtin (b := .append) (xs := #[.tmp 29, .tmp 30]) rfl ?_);at_builtin;refine Kd.R_append (Kd.int .u8) (w0 := w0) w0.heap.size rfl (.tmp 29) (.tmp 30) 25 5 (.int .u8 0) 1 rfl Try.underlying25 info5 rfl (by decide) (by omega) _ (l0 ++ spec_l2put.w l1_0) 0 [.int .u8 0] (fun k_ => (P0_ k_ ∨ w.heap.size ≤ k_)) (fun _ => False) rfl rfl ?aP (fun _ hk => hk.elim) ?aF ?aO ?aB ?aS ?aL ?_;(case aP => exact rfl);(case aB => exact (bw HB.out));(case aF => exact (fun k hk => .inr (Nat.le_trans HK.out.1 (Nat.le_trans (by simp) hk))));(case aO => exact (rw_ HO.out));(case aS => exact (below_size (bw HB.out)));(case aL => have := HLM.out; simp only [List.length_append]; omega);intro v113 w14 ho hb hg hat;have n1_ := ak hb;have n2_ := ak ho;have n3_ := ak (Kept.of_grown (w := w) (S := fun k_ => P0_ k_) hg (by repeat (first | (with_reducible first | exact HK.out | apply Kept.alloc | apply Kept.drewN | apply Kept.drew) | exact HK.out)) (fun k hk => HO.out.1 k hk));clear HB HO HK ho hb hg hat;have HB := n1_;have HO := n2_;have HK := n3_;clear n1_ n2_ n3_))
   go_ret
   exact ⟨v113, rfl, by have := HO.out; simpa only [List.append_assoc] using this, HB.out, HK.out⟩

/-! ### spec_Put16: function 191 -/
def spec_Put16.f (l0 : List Int) (a1 : Int) : Option (List Int) := (some (([] : List Int) : List Int)).bind fun y101 => (if y101.length + l0.length < 140737488355328 then ((some (y101 ++ l0 : List Int)).bind fun y104 => (if a1 < 0 then (some y104) else (if a1 > 65535 then (some y104) else ((some (([(a1 / 256) % 256, (a1) % 256] : List Int) : List Int)).bind fun y107 => (if y104.length + y107.length < 140737488355328 then (some (y104 ++ y107)) else (none)))))) else (none))
set_option maxHeartbeats 8000000 in
set_option maxRecDepth 100000 in
theorem spec_Put16.calls (A0 : Option Addr) (c0 : Nat) (l0 : List Int) (a1 : Int) (r : List Int) (w : World) (hr0 : Kd.C (Kd.int .u8) w A0 l0.length l0) (hc0 : l0.length ≤ c0) (h : spec_Put16.f l0 a1 = some r) :
  Calls Try.prog 191 #[.slice A0 l0.length c0, .int .i64 a1] w fun e w' => ∃ v0_ : Value, e = .returned (v0_) ∧ Kd.R (Kd.int .u8) 5 w' w.heap.size (fun _ => True) v0_ r ∧ Below w.heap.size w w' := by
 have HR0 := ak hr0
 have HC0 := ak hc0
 clear hr0 hc0
 have HB := ak (Below.refl w.heap.size w)
 have H : ((some (([] : List Int) : List Int)).bind fun y101 => (if y101.length + l0.length < 140737488355328 then ((some (y101 ++ l0 : List Int)).bind fun y104 => (if a1 < 0 then (some y104) else (if a1 > 65535 then (some y104) else ((some (([(a1 / 256) % 256, (a1) % 256] : List Int) : List Int)).bind fun y107 => (if y104.length + y107.length < 140737488355328 then (some (y104 ++ y107)) else (none)))))) else (none))) = some r := h
 clear h
 replace H : ∃ y101 : List Int, y101 = (([] : List Int)) ∧ (if y101.length + l0.length < 140737488355328 then ((some (y101 ++ l0 : List Int)).bind fun y104 => (if a1 < 0 then (some y104) else (if a1 > 65535 then (some y104) else ((some (([(a1 / 256) % 256, (a1) % 256] : List Int) : List Int)).bind fun y107 => (if y104.length + y107.length < 140737488355328 then (some (y104 ++ y107)) else (none)))))) else (none)) = some r := ⟨_, rfl, H⟩
 obtain ⟨y101, hy101, H⟩ := H
 have Ny101 := ak hy101
 clear hy101
 by_cases c3 : y101.length + l0.length < 140737488355328
 ·rw [if_pos c3] at H
  have LMc3 := ak c3
  clear c3
  obtain ⟨y104, hy104⟩ : ∃ y_ : List Int, y_ = (y101 ++ l0) := ⟨_, rfl⟩
  (try with_reducible replace H := bnS H)
  (try rw [← hy104] at H)
  have Ny104 := ak hy104
  clear hy104
  replace H := ip H
  obtain ⟨c4b0, H⟩ | ⟨c4b0, H⟩ := H
  ·obtain rfl := Option.some.inj H
   go_enter Try.func191, Try.ntmps191
   go_wp2_with (first | ((with_reducible refine gate_dst (N := 6) rfl ?_);refine Kd.R_lit (Kd.int .u8) _ 5 ?hg (N := 6) ?hd (xs := ([] : List Int)) (inner := []) (ok := fun _ => True) (okp := fun _ => True) ?hr ?hp (fun _ hk => hk) trivial (Below.refl _ _) (Nat.le_refl _) (by simp) ?_;(case hd => rfl);(case hg => rfl);(case hr => first | (go_simp; done) | (go_simp; rfl));(case hp => exact (Reps.none _ _));intro v102 w5 ho6 hb hg_ hnew_;clear hg_ hnew_;(first | rw [← Ny101.out] at ho6 | (simp only [Int.reduceToNat] at ho6; rw [← Ny101.out] at ho6));have HO103 := ak (Kd.R_lower ho6 (below_size (bw HB.out)));replace HB := b2 HB hb;clear hb ho6) | ((with_reducible refine gate_builtin (b := .append) (xs := #[.tmp 6, .tmp 7]) rfl ?_);at_builtin;refine Kd.R_append_rows (Kd.int .u8) (w0 := w) w.heap.size rfl (.tmp 6) (.tmp 7) 25 5 (.int .u8 0) 1 rfl Try.underlying25 info5 rfl (by decide) (by omega) v102 y101 l0 _ _ _ (fun _ => True) (fun _ => False) rfl rfl ?aO ?aR (fun _ _ h => h) (fun _ h => h.elim) ?aF ?aB ?aS ?aL ?_;(case aR => exact cw HR0.out HB.out);(case aB => exact (bw HB.out));(case aF => exact (fun _ _ => trivial));(case aO => exact (rw_ HO103.out));(case aS => exact (below_size (bw HB.out)));(case aL => have := LMc3.out; omega);intro v105 w7 ho hb hg hat;rw [← Ny104.out] at ho;replace HB := ak (hb);have HO106 := ak (ho);clear HO103;clear ho hb hg hat))
   go_ret
   exact ⟨_, o1, rw_ HO106.out, bw HB.out⟩
  ·replace H := ig H
   obtain ⟨c8b0, H⟩ | ⟨c8b0, H⟩ := H
   ·obtain rfl := Option.some.inj H
    go_enter Try.func191, Try.ntmps191
    go_wp2_with (first | ((with_reducible refine gate_dst (N := 6) rfl ?_);refine Kd.R_lit (Kd.int .u8) _ 5 ?hg (N := 6) ?hd (xs := ([] : List Int)) (inner := []) (ok := fun _ => True) (okp := fun _ => True) ?hr ?hp (fun _ hk => hk) trivial (Below.refl _ _) (Nat.le_refl _) (by simp) ?_;(case hd => rfl);(case hg => rfl);(case hr => first | (go_simp; done) | (go_simp; rfl));(case hp => exact (Reps.none _ _));intro v102 w9 ho10 hb hg_ hnew_;clear hg_ hnew_;(first | rw [← Ny101.out] at ho10 | (simp only [Int.reduceToNat] at ho10; rw [← Ny101.out] at ho10));have HO103 := ak (Kd.R_lower ho10 (below_size (bw HB.out)));replace HB := b2 HB hb;clear hb ho10) | ((with_reducible refine gate_builtin (b := .append) (xs := #[.tmp 6, .tmp 7]) rfl ?_);at_builtin;refine Kd.R_append_rows (Kd.int .u8) (w0 := w) w.heap.size rfl (.tmp 6) (.tmp 7) 25 5 (.int .u8 0) 1 rfl Try.underlying25 info5 rfl (by decide) (by omega) v102 y101 l0 _ _ _ (fun _ => True) (fun _ => False) rfl rfl ?aO ?aR (fun _ _ h => h) (fun _ h => h.elim) ?aF ?aB ?aS ?aL ?_;(case aR => exact cw HR0.out HB.out);(case aB => exact (bw HB.out));(case aF => exact (fun _ _ => trivial));(case aO => exact (rw_ HO103.out));(case aS => exact (below_size (bw HB.out)));(case aL => have := LMc3.out; omega);intro v105 w11 ho hb hg hat;rw [← Ny104.out] at ho;replace HB := ak (hb);have HO106 := ak (ho);clear HO103;clear ho hb hg hat))
    go_ret
    exact ⟨_, o1, rw_ HO106.out, bw HB.out⟩
   ·obtain ⟨y107, hy107⟩ : ∃ y_ : List Int, y_ = (([(a1 / 256) % 256, (a1) % 256] : List Int)) := ⟨_, rfl⟩
    (try with_reducible replace H := bnS H)
    (try rw [← hy107] at H)
    have Ny107 := ak hy107
    clear hy107
    by_cases c12 : y104.length + y107.length < 140737488355328
    ·rw [if_pos c12] at H
     have LMc12 := ak c12
     clear c12
     obtain ⟨y110, hy110⟩ : ∃ y_ : List Int, y_ = (y104 ++ y107) := ⟨_, rfl⟩
     (try with_reducible replace H := bnS H)
     (try rw [← hy110] at H)
     have Ny110 := ak hy110
     clear hy110
     obtain rfl := Option.some.inj H
     go_enter Try.func191, Try.ntmps191
     go_wp2_with (first | ((with_reducible refine gate_dst (N := 6) rfl ?_);refine Kd.R_lit (Kd.int .u8) _ 5 ?hg (N := 6) ?hd (xs := ([] : List Int)) (inner := []) (ok := fun _ => True) (okp := fun _ => True) ?hr ?hp (fun _ hk => hk) trivial (Below.refl _ _) (Nat.le_refl _) (by simp) ?_;(case hd => rfl);(case hg => rfl);(case hr => first | (go_simp; done) | (go_simp; rfl));(case hp => exact (Reps.none _ _));intro v102 w13 ho14 hb hg_ hnew_;clear hg_ hnew_;(first | rw [← Ny101.out] at ho14 | (simp only [Int.reduceToNat] at ho14; rw [← Ny101.out] at ho14));have HO103 := ak (Kd.R_lower ho14 (below_size (bw HB.out)));replace HB := b2 HB hb;clear hb ho14) | ((with_reducible refine gate_builtin (b := .append) (xs := #[.tmp 6, .tmp 7]) rfl ?_);at_builtin;refine Kd.R_append_rows (Kd.int .u8) (w0 := w) w.heap.size rfl (.tmp 6) (.tmp 7) 25 5 (.int .u8 0) 1 rfl Try.underlying25 info5 rfl (by decide) (by omega) v102 y101 l0 _ _ _ (fun _ => True) (fun _ => False) rfl rfl ?aO ?aR (fun _ _ h => h) (fun _ h => h.elim) ?aF ?aB ?aS ?aL ?_;(case aR => exact cw HR0.out HB.out);(case aB => exact (bw HB.out));(case aF => exact (fun _ _ => trivial));(case aO => exact (rw_ HO103.out));(case aS => exact (below_size (bw HB.out)));(case aL => have := LMc3.out; omega);intro v105 w15 ho hb hg hat;rw [← Ny104.out] at ho;replace HB := ak (hb);have HO106 := ak (ho);clear HO103;clear ho hb hg hat) | ((with_reducible refine gate_dst (N := 22) rfl ?_);refine Kd.R_lit (Kd.int .u8) _ 5 ?hg (N := 22) ?hd (xs := ([(a1 / 256) % 256, (a1) % 256] : List Int)) (inner := [.int .u8 ((a1 / 256) % 256), .int .u8 ((a1) % 256)]) (ok := fun _ => True) (okp := fun _ => True) ?hr ?hp (fun _ hk => hk) trivial (Below.refl _ _) (Nat.le_refl _) (by simp) ?_;(case hd => rfl);(case hg => rfl);(case hr => first | (go_simp; done) | (go_simp; rfl));(case hp => exact (Reps.one (show Kd.M (Kd.int .u8) _ _ _ ((a1 / 256) % 256) [.int .u8 ((a1 / 256) % 256)] from rfl) (Reps.one (show Kd.M (Kd.int .u8) _ _ _ ((a1) % 256) [.int .u8 ((a1) % 256)] from rfl) (Reps.none _ _))));intro v108 w16 ho17 hb hg_ hnew_;clear hg_ hnew_;(first | rw [← Ny107.out] at ho17 | (simp only [Int.reduceToNat] at ho17; rw [← Ny107.out] at ho17));have HO109 := ak (Kd.R_lower (Kd.R_new' ho17 (Kd.R_lt (rw_ HO106.out))) (below_size (bw HB.out)));replace HO106 := ak (Kd.R_elder' (rw_ HO106.out) (Kd.R_base ho17) hb);replace HB := b2 HB hb;clear hb ho17;obtain ⟨Ao19, co19, eo19⟩ := Kd.R_slice HO109.out;subst eo19) | ((with_reducible refine gate_builtin (b := .append) (xs := #[.tmp 16, .tmp 22]) rfl ?_);at_builtin;refine Kd.R_append_rows (Kd.int .u8) (w0 := w) w.heap.size rfl (.tmp 16) (.tmp 22) 25 5 (.int .u8 0) 1 rfl Try.underlying25 info5 rfl (by decide) (by omega) v105 y104 y107 _ _ _ (fun k_ => some k_ ≠ (.slice Ao19 y107.length co19 : Value).ownBlock) (fun _ => False) rfl rfl ?aO ?aR (fun _ _ h => h) (fun _ h => h.elim) ?aF ?aB ?aS ?aL ?_;(case aR => repeat (first | exact (Kd.R_reads' HO109.out).2.2 | (with_reducible refine Kd.C_alloc ?_ _) | (with_reducible refine Kd.C_drewN ?_ _) | (with_reducible refine Kd.C_drew ?_)));(case aB => exact (bw HB.out));(case aF => exact (fun k_ hk => Kd.fresh' (Kd.R_lt (rw_ HO109.out)) k_ hk));(case aO => exact (rw_ (Kd.R_mono HO106.out (fun _ hk => hk.2))));(case aS => exact (below_size (bw HB.out)));(case aL => have := LMc12.out; omega);intro v111 w18 ho hb hg hat;rw [← Ny110.out] at ho;replace HO109 := ak (Kd.R_after (ok := (fun _ => True)) (rw_ HO109.out) hg hat);replace HB := ak (hb);have HO112 := ak (ho);clear HO106;clear ho hb hg hat))
     go_ret
     exact ⟨_, o1, by (with_reducible repeat (first | apply Kd.R_alloc | apply Kd.R_drewN | apply Kd.R_drew)); exact Kd.R_mono HO112.out (fun _ hk => trivial), bw HB.out⟩
    ·rw [if_neg c12] at H
     exact absurd H (by simp)
 ·rw [if_neg c3] at H
  exact absurd H (by simp)

/-! ### spec_Put32: function 206 -/
def spec_Put32.f (l0 : List Int) (a1 : Int) : Option (List Int) := (some (([] : List Int) : List Int)).bind fun y101 => (if y101.length + l0.length < 140737488355328 then ((some (y101 ++ l0 : List Int)).bind fun y104 => (if a1 < 0 then (some y104) else (if a1 ≥ 4294967296 then (some y104) else ((some (([(a1 / 16777216) % 256, (a1 / 65536) % 256, (a1 / 256) % 256, (a1) % 256] : List Int) : List Int)).bind fun y107 => (if y104.length + y107.length < 140737488355328 then (some (y104 ++ y107)) else (none)))))) else (none))
set_option maxHeartbeats 8000000 in
set_option maxRecDepth 100000 in
theorem spec_Put32.calls (A0 : Option Addr) (c0 : Nat) (l0 : List Int) (a1 : Int) (r : List Int) (w : World) (hr0 : Kd.C (Kd.int .u8) w A0 l0.length l0) (hc0 : l0.length ≤ c0) (h : spec_Put32.f l0 a1 = some r) :
  Calls Try.prog 206 #[.slice A0 l0.length c0, .int .i64 a1] w fun e w' => ∃ v0_ : Value, e = .returned (v0_) ∧ Kd.R (Kd.int .u8) 5 w' w.heap.size (fun _ => True) v0_ r ∧ Below w.heap.size w w' := by
 have HR0 := ak hr0
 have HC0 := ak hc0
 clear hr0 hc0
 have HB := ak (Below.refl w.heap.size w)
 have H : ((some (([] : List Int) : List Int)).bind fun y101 => (if y101.length + l0.length < 140737488355328 then ((some (y101 ++ l0 : List Int)).bind fun y104 => (if a1 < 0 then (some y104) else (if a1 ≥ 4294967296 then (some y104) else ((some (([(a1 / 16777216) % 256, (a1 / 65536) % 256, (a1 / 256) % 256, (a1) % 256] : List Int) : List Int)).bind fun y107 => (if y104.length + y107.length < 140737488355328 then (some (y104 ++ y107)) else (none)))))) else (none))) = some r := h
 clear h
 replace H : ∃ y101 : List Int, y101 = (([] : List Int)) ∧ (if y101.length + l0.length < 140737488355328 then ((some (y101 ++ l0 : List Int)).bind fun y104 => (if a1 < 0 then (some y104) else (if a1 ≥ 4294967296 then (some y104) else ((some (([(a1 / 16777216) % 256, (a1 / 65536) % 256, (a1 / 256) % 256, (a1) % 256] : List Int) : List Int)).bind fun y107 => (if y104.length + y107.length < 140737488355328 then (some (y104 ++ y107)) else (none)))))) else (none)) = some r := ⟨_, rfl, H⟩
 obtain ⟨y101, hy101, H⟩ := H
 have Ny101 := ak hy101
 clear hy101
 by_cases c3 : y101.length + l0.length < 140737488355328
 ·rw [if_pos c3] at H
  have LMc3 := ak c3
  clear c3
  obtain ⟨y104, hy104⟩ : ∃ y_ : List Int, y_ = (y101 ++ l0) := ⟨_, rfl⟩
  (try with_reducible replace H := bnS H)
  (try rw [← hy104] at H)
  have Ny104 := ak hy104
  clear hy104
  replace H := ip H
  obtain ⟨c4b0, H⟩ | ⟨c4b0, H⟩ := H
  ·obtain rfl := Option.some.inj H
   go_enter Try.func206, Try.ntmps206
   go_wp2_with (first | ((with_reducible refine gate_dst (N := 6) rfl ?_);refine Kd.R_lit (Kd.int .u8) _ 5 ?hg (N := 6) ?hd (xs := ([] : List Int)) (inner := []) (ok := fun _ => True) (okp := fun _ => True) ?hr ?hp (fun _ hk => hk) trivial (Below.refl _ _) (Nat.le_refl _) (by simp) ?_;(case hd => rfl);(case hg => rfl);(case hr => first | (go_simp; done) | (go_simp; rfl));(case hp => exact (Reps.none _ _));intro v102 w5 ho6 hb hg_ hnew_;clear hg_ hnew_;(first | rw [← Ny101.out] at ho6 | (simp only [Int.reduceToNat] at ho6; rw [← Ny101.out] at ho6));have HO103 := ak (Kd.R_lower ho6 (below_size (bw HB.out)));replace HB := b2 HB hb;clear hb ho6) | ((with_reducible refine gate_builtin (b := .append) (xs := #[.tmp 6, .tmp 7]) rfl ?_);at_builtin;refine Kd.R_append_rows (Kd.int .u8) (w0 := w) w.heap.size rfl (.tmp 6) (.tmp 7) 25 5 (.int .u8 0) 1 rfl Try.underlying25 info5 rfl (by decide) (by omega) v102 y101 l0 _ _ _ (fun _ => True) (fun _ => False) rfl rfl ?aO ?aR (fun _ _ h => h) (fun _ h => h.elim) ?aF ?aB ?aS ?aL ?_;(case aR => exact cw HR0.out HB.out);(case aB => exact (bw HB.out));(case aF => exact (fun _ _ => trivial));(case aO => exact (rw_ HO103.out));(case aS => exact (below_size (bw HB.out)));(case aL => have := LMc3.out; omega);intro v105 w7 ho hb hg hat;rw [← Ny104.out] at ho;replace HB := ak (hb);have HO106 := ak (ho);clear HO103;clear ho hb hg hat))
   go_ret
   exact ⟨_, o1, rw_ HO106.out, bw HB.out⟩
  ·replace H := ih H
   obtain ⟨c8b0, H⟩ | ⟨c8b0, H⟩ := H
   ·obtain rfl := Option.some.inj H
    go_enter Try.func206, Try.ntmps206
    go_wp2_with (first | ((with_reducible refine gate_dst (N := 6) rfl ?_);refine Kd.R_lit (Kd.int .u8) _ 5 ?hg (N := 6) ?hd (xs := ([] : List Int)) (inner := []) (ok := fun _ => True) (okp := fun _ => True) ?hr ?hp (fun _ hk => hk) trivial (Below.refl _ _) (Nat.le_refl _) (by simp) ?_;(case hd => rfl);(case hg => rfl);(case hr => first | (go_simp; done) | (go_simp; rfl));(case hp => exact (Reps.none _ _));intro v102 w9 ho10 hb hg_ hnew_;clear hg_ hnew_;(first | rw [← Ny101.out] at ho10 | (simp only [Int.reduceToNat] at ho10; rw [← Ny101.out] at ho10));have HO103 := ak (Kd.R_lower ho10 (below_size (bw HB.out)));replace HB := b2 HB hb;clear hb ho10) | ((with_reducible refine gate_builtin (b := .append) (xs := #[.tmp 6, .tmp 7]) rfl ?_);at_builtin;refine Kd.R_append_rows (Kd.int .u8) (w0 := w) w.heap.size rfl (.tmp 6) (.tmp 7) 25 5 (.int .u8 0) 1 rfl Try.underlying25 info5 rfl (by decide) (by omega) v102 y101 l0 _ _ _ (fun _ => True) (fun _ => False) rfl rfl ?aO ?aR (fun _ _ h => h) (fun _ h => h.elim) ?aF ?aB ?aS ?aL ?_;(case aR => exact cw HR0.out HB.out);(case aB => exact (bw HB.out));(case aF => exact (fun _ _ => trivial));(case aO => exact (rw_ HO103.out));(case aS => exact (below_size (bw HB.out)));(case aL => have := LMc3.out; omega);intro v105 w11 ho hb hg hat;rw [← Ny104.out] at ho;replace HB := ak (hb);have HO106 := ak (ho);clear HO103;clear ho hb hg hat))
    go_ret
    exact ⟨_, o1, rw_ HO106.out, bw HB.out⟩
   ·obtain ⟨y107, hy107⟩ : ∃ y_ : List Int, y_ = (([(a1 / 16777216) % 256, (a1 / 65536) % 256, (a1 / 256) % 256, (a1) % 256] : List Int)) := ⟨_, rfl⟩
    (try with_reducible replace H := bnS H)
    (try rw [← hy107] at H)
    have Ny107 := ak hy107
    clear hy107
    by_cases c12 : y104.length + y107.length < 140737488355328
    ·rw [if_pos c12] at H
     have LMc12 := ak c12
     clear c12
     obtain ⟨y110, hy110⟩ : ∃ y_ : List Int, y_ = (y104 ++ y107) := ⟨_, rfl⟩
     (try with_reducible replace H := bnS H)
     (try rw [← hy110] at H)
     have Ny110 := ak hy110
     clear hy110
     obtain rfl := Option.some.inj H
     go_enter Try.func206, Try.ntmps206
     go_wp2_with (first | ((with_reducible refine gate_dst (N := 6) rfl ?_);refine Kd.R_lit (Kd.int .u8) _ 5 ?hg (N := 6) ?hd (xs := ([] : List Int)) (inner := []) (ok := fun _ => True) (okp := fun _ => True) ?hr ?hp (fun _ hk => hk) trivial (Below.refl _ _) (Nat.le_refl _) (by simp) ?_;(case hd => rfl);(case hg => rfl);(case hr => first | (go_simp; done) | (go_simp; rfl));(case hp => exact (Reps.none _ _));intro v102 w13 ho14 hb hg_ hnew_;clear hg_ hnew_;(first | rw [← Ny101.out] at ho14 | (simp only [Int.reduceToNat] at ho14; rw [← Ny101.out] at ho14));have HO103 := ak (Kd.R_lower ho14 (below_size (bw HB.out)));replace HB := b2 HB hb;clear hb ho14) | ((with_reducible refine gate_builtin (b := .append) (xs := #[.tmp 6, .tmp 7]) rfl ?_);at_builtin;refine Kd.R_append_rows (Kd.int .u8) (w0 := w) w.heap.size rfl (.tmp 6) (.tmp 7) 25 5 (.int .u8 0) 1 rfl Try.underlying25 info5 rfl (by decide) (by omega) v102 y101 l0 _ _ _ (fun _ => True) (fun _ => False) rfl rfl ?aO ?aR (fun _ _ h => h) (fun _ h => h.elim) ?aF ?aB ?aS ?aL ?_;(case aR => exact cw HR0.out HB.out);(case aB => exact (bw HB.out));(case aF => exact (fun _ _ => trivial));(case aO => exact (rw_ HO103.out));(case aS => exact (below_size (bw HB.out)));(case aL => have := LMc3.out; omega);intro v105 w15 ho hb hg hat;rw [← Ny104.out] at ho;replace HB := ak (hb);have HO106 := ak (ho);clear HO103;clear ho hb hg hat) | ((with_reducible refine gate_dst (N := 28) rfl ?_);refine Kd.R_lit (Kd.int .u8) _ 5 ?hg (N := 28) ?hd (xs := ([(a1 / 16777216) % 256, (a1 / 65536) % 256, (a1 / 256) % 256, (a1) % 256] : List Int)) (inner := [.int .u8 ((a1 / 16777216) % 256), .int .u8 ((a1 / 65536) % 256), .int .u8 ((a1 / 256) % 256), .int .u8 ((a1) % 256)]) (ok := fun _ => True) (okp := fun _ => True) ?hr ?hp (fun _ hk => hk) trivial (Below.refl _ _) (Nat.le_refl _) (by simp) ?_;(case hd => rfl);(case hg => rfl);(case hr => first | (go_simp; done) | (go_simp; rfl));(case hp => exact (Reps.one (show Kd.M (Kd.int .u8) _ _ _ ((a1 / 16777216) % 256) [.int .u8 ((a1 / 16777216) % 256)] from rfl) (Reps.one (show Kd.M (Kd.int .u8) _ _ _ ((a1 / 65536) % 256) [.int .u8 ((a1 / 65536) % 256)] from rfl) (Reps.one (show Kd.M (Kd.int .u8) _ _ _ ((a1 / 256) % 256) [.int .u8 ((a1 / 256) % 256)] from rfl) (Reps.one (show Kd.M (Kd.int .u8) _ _ _ ((a1) % 256) [.int .u8 ((a1) % 256)] from rfl) (Reps.none _ _))))));intro v108 w16 ho17 hb hg_ hnew_;clear hg_ hnew_;(first | rw [← Ny107.out] at ho17 | (simp only [Int.reduceToNat] at ho17; rw [← Ny107.out] at ho17));have HO109 := ak (Kd.R_lower (Kd.R_new' ho17 (Kd.R_lt (rw_ HO106.out))) (below_size (bw HB.out)));replace HO106 := ak (Kd.R_elder' (rw_ HO106.out) (Kd.R_base ho17) hb);replace HB := b2 HB hb;clear hb ho17;obtain ⟨Ao19, co19, eo19⟩ := Kd.R_slice HO109.out;subst eo19) | ((with_reducible refine gate_builtin (b := .append) (xs := #[.tmp 16, .tmp 28]) rfl ?_);at_builtin;refine Kd.R_append_rows (Kd.int .u8) (w0 := w) w.heap.size rfl (.tmp 16) (.tmp 28) 25 5 (.int .u8 0) 1 rfl Try.underlying25 info5 rfl (by decide) (by omega) v105 y104 y107 _ _ _ (fun k_ => some k_ ≠ (.slice Ao19 y107.length co19 : Value).ownBlock) (fun _ => False) rfl rfl ?aO ?aR (fun _ _ h => h) (fun _ h => h.elim) ?aF ?aB ?aS ?aL ?_;(case aR => repeat (first | exact (Kd.R_reads' HO109.out).2.2 | (with_reducible refine Kd.C_alloc ?_ _) | (with_reducible refine Kd.C_drewN ?_ _) | (with_reducible refine Kd.C_drew ?_)));(case aB => exact (bw HB.out));(case aF => exact (fun k_ hk => Kd.fresh' (Kd.R_lt (rw_ HO109.out)) k_ hk));(case aO => exact (rw_ (Kd.R_mono HO106.out (fun _ hk => hk.2))));(case aS => exact (below_size (bw HB.out)));(case aL => have := LMc12.out; omega);intro v111 w18 ho hb hg hat;rw [← Ny110.out] at ho;replace HO109 := ak (Kd.R_after (ok := (fun _ => True)) (rw_ HO109.out) hg hat);replace HB := ak (hb);have HO112 := ak (ho);clear HO106;clear ho hb hg hat))
     go_ret
     exact ⟨_, o1, by (with_reducible repeat (first | apply Kd.R_alloc | apply Kd.R_drewN | apply Kd.R_drew)); exact Kd.R_mono HO112.out (fun _ hk => trivial), bw HB.out⟩
    ·rw [if_neg c12] at H
     exact absurd H (by simp)
 ·rw [if_neg c3] at H
  exact absurd H (by simp)

/-! ### spec_l3put: function 137 -/
def spec_l3put.f (l0_0 : List (List Int)) (a0_1 : Int) (a0_2 : Int) (a0_3 : Int) (l0_4 : List (List Int)) (l0_5 : List Int) (l0_6 : List Int) : Option (List Int) := if a0_1 = 1 then ((spec_Put32.f ([] : List Int) a0_3).bind fun t102 => (some t102)) else (if a0_1 = 6 then ((spec_l2put.f ([] : List Int) l0_4).bind fun t105 => (if 0 < (l0_6.length : Int) then ((spec_Put32.f t105 (rd l0_6 0)).bind fun t109 => (if 1 < (l0_6.length : Int) then ((spec_Put32.f t109 (rd l0_6 1)).bind fun t113 => (some t113)) else (none))) else (none))) else ((spec_l3named.f a0_1).bind fun t116 => (if t116 = true then ((spec_l2put.f ([] : List Int) l0_4).bind fun t117 => (some t117)) else ((some (([((l0_5.length : Int)) % 256] : List Int) : List Int)).bind fun y120 => (if y120.length + l0_5.length < 140737488355328 then (some (y120 ++ l0_5)) else (none))))))
def spec_l3put.T4 : Bool × List (List Nat × List Nat) := (true, [([], []), ([0], [0]), ([1], [1]), ([], []), ([3], [3]), ([4], [4]), ([5], [5]), ([2, 6, 2], [2, 6]), ([], []), ([8], [8]), ([9], [9]), ([10], [10]), ([7, 11, 7], [7, 11]), ([12, 12, 0, 1, 2, 3, 4, 5, 6, 7, 8, 9, 10, 11, 12], [12])])
def spec_l3put.B4 : List Nat := [0, 1, 3, 0, 8, 24, 56, 127, 0, 256, 768, 1792, 4095, 8191]
theorem spec_l3put.tab4 : rtab .any (opsOf Try.f137 4) = spec_l3put.T4 := by kernel_rfl
theorem spec_l3put.bits4 : waitsOk spec_l3put.T4.2 spec_l3put.B4 = true := by kernel_rfl
set_option maxHeartbeats 8000000 in
set_option maxRecDepth 100000 in
theorem spec_l3put.calls (A0_0 : Option Addr) (c0_0 : Nat) (l0_0 : List (List Int)) (a0_1 : Int) (a0_2 : Int) (a0_3 : Int) (A0_4 : Option Addr) (c0_4 : Nat) (l0_4 : List (List Int)) (A0_5 : Option Addr) (c0_5 : Nat) (l0_5 : List Int) (A0_6 : Option Addr) (c0_6 : Nat) (l0_6 : List Int) (r : List Int) (w : World) (hr0_0 : Kd.C (Kd.slice 5 (Kd.int .u8)) w A0_0 l0_0.length l0_0) (hc0_0 : l0_0.length ≤ c0_0) (hr0_4 : Kd.C (Kd.slice 5 (Kd.int .u8)) w A0_4 l0_4.length l0_4) (hc0_4 : l0_4.length ≤ c0_4) (hr0_5 : Kd.C (Kd.int .u8) w A0_5 l0_5.length l0_5) (hc0_5 : l0_5.length ≤ c0_5) (hr0_6 : Kd.C (Kd.int .i64) w A0_6 l0_6.length l0_6) (hc0_6 : l0_6.length ≤ c0_6) (h : spec_l3put.f l0_0 a0_1 a0_2 a0_3 l0_4 l0_5 l0_6 = some r) :
  Calls Try.prog 137 #[.agg #[.slice A0_0 l0_0.length c0_0, .int .i64 a0_1, .int .i64 a0_2, .int .i64 a0_3, .slice A0_4 l0_4.length c0_4, .slice A0_5 l0_5.length c0_5, .slice A0_6 l0_6.length c0_6]] w fun e w' => ∃ v0_ : Value, e = .returned (v0_) ∧ Kd.R (Kd.int .u8) 5 w' w.heap.size (fun _ => True) v0_ r ∧ Below w.heap.size w w' := by
 have hu33 := Try.underlying33
 have hu31 := Try.underlying31
 have HR0_0 := ak hr0_0
 have HC0_0 := ak hc0_0
 clear hr0_0 hc0_0
 have HR0_4 := ak hr0_4
 have HC0_4 := ak hc0_4
 clear hr0_4 hc0_4
 have HR0_5 := ak hr0_5
 have HC0_5 := ak hc0_5
 clear hr0_5 hc0_5
 have HR0_6 := ak hr0_6
 have HC0_6 := ak hc0_6
 clear hr0_6 hc0_6
 have HB := ak (Below.refl w.heap.size w)
 have H : (if a0_1 = 1 then ((spec_Put32.f ([] : List Int) a0_3).bind fun t102 => (some t102)) else (if a0_1 = 6 then ((spec_l2put.f ([] : List Int) l0_4).bind fun t105 => (if 0 < (l0_6.length : Int) then ((spec_Put32.f t105 (rd l0_6 0)).bind fun t109 => (if 1 < (l0_6.length : Int) then ((spec_Put32.f t109 (rd l0_6 1)).bind fun t113 => (some t113)) else (none))) else (none))) else ((spec_l3named.f a0_1).bind fun t116 => (if t116 = true then ((spec_l2put.f ([] : List Int) l0_4).bind fun t117 => (some t117)) else ((some (([((l0_5.length : Int)) % 256] : List Int) : List Int)).bind fun y120 => (if y120.length + l0_5.length < 140737488355328 then (some (y120 ++ l0_5)) else (none))))))) = some r := h
 clear h
 replace H := ie H
 obtain ⟨c2b0, c2b1, H⟩ | ⟨c2b0, c2b1, H⟩ := H
 ·replace H := bnd H
  obtain ⟨t102, A3, H⟩ := H
  obtain rfl := Option.some.inj H
  go_enter Try.func137, Try.ntmps137
  go_wp2_with (first | ((with_reducible refine gate_dst (N := 1) rfl ?_);refine bxd (N := 1) rfl HB ?_;clear HB;intro gb101 w4 hg HB BK101 GE101 hb;have GW101 := GE101;clear hb hg;obtain ⟨hcz5_0, hcz5_1, hcz5_2, hcz5_3, hcz5_4, hcz5_5, hcz5_6, hfz5_0, hfz5_1, hfz5_2, hfz5_3, hfz5_4, hfz5_5, hfz5_6⟩ := cells7 BK101.out) | ((with_reducible refine gate_callee (f := 206) rfl ?_);refine goesL_ (some 9) rfl rfl Try.func206 (by kernel_rfl) rfl #[.slice none 0 0, .int .i64 a0_3] rfl (by (try simp only [List.map_toArray, List.map_cons, List.map_nil]); first | done | rfl | (simp only [List.length_drop, List.length_take]; rfl)) ?_;(refine (spec_Put32.calls _ _ ([] : List Int) a0_3 t102 _ ?side1 ?side2 A3.out).mono ?_);(case side1 => exact Kd.C_nil _ _);(case side2 => exact Nat.le_refl _);rintro e w6 ⟨v103, rfl, ho0, hb⟩;refine ⟨_, rfl, ?_⟩;have HO104 := ak (Kd.R_lower ho0 (below_size bs));replace BK101 := b1 BK101 hb;replace HB := b2s bs hb;(try clear hb);(try clear ho0)))
  go_ret
  exact ⟨_, o1, rw_ HO104.out, bs⟩
 ·replace H := ie H
  obtain ⟨c7b0, c7b1, H⟩ | ⟨c7b0, c7b1, H⟩ := H
  ·replace H := bnd H
   obtain ⟨t105, A8, H⟩ := H
   replace H := ipN H
   obtain ⟨c9b0, H⟩ := H
   have c9b1 : decide (0 < l0_6.length) = true := decide_eq_true (by have := of_decide_eq_true c9b0; omega)
   replace H := bnd H
   obtain ⟨t109, A10, H⟩ := H
   replace H := ipN H
   obtain ⟨c11b0, H⟩ := H
   have c11b1 : decide (1 < l0_6.length) = true := decide_eq_true (by have := of_decide_eq_true c11b0; omega)
   replace H := bnd H
   obtain ⟨t113, A12, H⟩ := H
   obtain rfl := Option.some.inj H
   go_enter Try.func137, Try.ntmps137
   try go_wp2_with (((with_reducible refine gate_dst (N := 1) rfl ?_);refine bxd (N := 1) rfl HB ?_;clear HB;intro gb101 w13 hg HB BK101 GE101 hb;have GW101 := GE101;clear hb hg;obtain ⟨hcz14_0, hcz14_1, hcz14_2, hcz14_3, hcz14_4, hcz14_5, hcz14_6, hfz14_0, hfz14_1, hfz14_2, hfz14_3, hfz14_4, hfz14_5, hfz14_6⟩ := cells7 BK101.out))
   replace BK101 := ak (blk_drew BK101.out)
   replace HB := ak (below_drew1 HB.out)
   have p108 : 0 ≤ (0 : Int) := (by omega)
   have q108 : 0 < (l0_6.length : Int) := of_decide_eq_true (by first | (with_reducible assumption) | assumption)
   obtain ⟨ad108, e108, hx108_0⟩ := Kd.at_int HR0_6.out 0 p108 q108
   have hw108_0 := hx108_0
   (try rw [show ((0 : Int)).toNat = 0 from rfl] at hw108_0)
   (try rw [show 0 * 1 = 0 from rfl] at hw108_0)
   (try rw [Addr.add_zero'] at hw108_0)
   cases e108
   have qi108 : (0 < l0_6.length) = True := eq_true (by omega)
   (try rw [show ((0 : Int)).toNat = 0 from rfl] at hx108_0)
   (try rw [Addr.add_zero'] at hx108_0)
   replace hx108_0 := pw_cell_below HB.out hx108_0
   replace p108 := eq_true p108
   replace q108 := eq_true q108
   have p112 : 0 ≤ (1 : Int) := (by omega)
   have q112 : 1 < (l0_6.length : Int) := of_decide_eq_true (by first | (with_reducible assumption) | assumption)
   obtain ⟨ad112, e112, hx112_0⟩ := Kd.at_int HR0_6.out 1 p112 q112
   have hw112_0 := hx112_0
   (try rw [show ((1 : Int)).toNat = 1 from rfl] at hw112_0)
   (try rw [show 1 * 1 = 1 from rfl] at hw112_0)
   (try simp only [Nat.reduceMul, Nat.reduceEqDiff, Go.Addr.add, ↓reduceIte] at hw112_0)
   obtain rfl : ad108 = ad112 := (by injection e112)
   (try simp only [show (1 : Int).toNat = 1 from rfl, Nat.reduceMul, Nat.reduceEqDiff, Go.Addr.add, ↓reduceIte] at hx112_0)
   have qi112 : (1 < l0_6.length) = True := eq_true (by omega)
   (try rw [show ((1 : Int)).toNat = 1 from rfl] at hx112_0)
   replace hx112_0 := pw_cell_below HB.out hx112_0
   replace p112 := eq_true p112
   replace q112 := eq_true q112
   refine start_ (n := 14) (S := fun w' => w'.cell? ⟨gb101, 0, none⟩ = some (.slice A0_0 l0_0.length c0_0) ∧ w'.cell? ⟨gb101, 1, none⟩ = some (.int .i64 a0_1) ∧ w'.cell? ⟨gb101, 2, none⟩ = some (.int .i64 a0_2) ∧ w'.cell? ⟨gb101, 3, none⟩ = some (.int .i64 a0_3) ∧ w'.cell? ⟨gb101, 4, none⟩ = some (.slice A0_4 l0_4.length c0_4) ∧ w'.cell? ⟨gb101, 5, none⟩ = some (.slice A0_5 l0_5.length c0_5) ∧ w'.cell? ⟨gb101, 6, none⟩ = some (.slice (some ad108) l0_6.length c0_6) ∧ w'.cell? ad108 = some (.int .i64 (rd l0_6 0)) ∧ w'.cell? ⟨ad108.block, ad108.off + 1, none⟩ = some (.int .i64 (rd l0_6 1))) (ds := []) (bA 14 0) (by kernel_rfl) rfl rfl kq (fun hHeld => ?_); refine with_tabW spec_l3put.tab4 spec_l3put.bits4 (fun HT_ HW_ => ?_)
   generalize w13.drew = w15 at BK101 HB hx108_0 hx112_0 hHeld ⊢
   refine pu HT_ 0 ?_
   refine pu HT_ 3 ?_
   refine pu HT_ 8 ?_
   refine ta HT_ HW_ hHeld 1 ?_
   refine ta HT_ HW_ hHeld 4 ?_
   refine pu HT_ 5 ?_
   refine ta HT_ HW_ hHeld 6 ?_
   refine ta HT_ HW_ hHeld 9 ?_
   refine pu HT_ 10 ?_
   refine ta HT_ HW_ hHeld 11 ?_
   refine on HT_ 2 (fun K hK => ?_)
   refine goes_ Try.func77 (by kernel_rfl) rfl #[.slice none 0 0, .agg #[.slice A0_4 l0_4.length c0_4]] (by rfl) rfl rfl (by (try simp only [List.map_toArray, List.map_cons, List.map_nil]); first | done | rfl | (simp only [List.length_drop, List.length_take]; rfl)) ?_
   refine (spec_l2put.calls (fun k_ => some k_ = (.slice none 0 0 : Value).ownBlock) (.slice none 0 0) ([] : List Int) _ _ l0_4 t105 w _ ?side1 ?side2 ?side3 ?side4 A8.out).mono ?_
   (case side1 => repeat (first | (with_reducible first | exact HB.out | apply below_alloc | apply pw_below_drewN | apply below_drew1 | refine below_set ?_ GE101.out) | exact HB.out))
   (case side2 => exact Kd.R_nil _ _ _ _ _)
   (case side3 => exact Kd.C_kept_came (Kd.heap_slice 5 (Kd.heap_int .u8)) HR0_4.out bs (fun k_ hs_ => (fun e_ => by simp [Value.ownBlock] at e_) hs_))
   (case side4 => exact HC0_4.out)
   rintro e w16 ⟨v106, rfl, ho0, hb, hkp⟩
   refine ⟨_, rfl, ?_⟩
   replace BK101 := ak (blk_kept (bk BK101.out) hkp (fun hs_ => (fun e_ => by simp [Value.ownBlock] at e_) hs_))
   have HO107 := ak (Kd.R_mono (ok' := fun k_ => True) ho0 (fun k_ hk_ => trivial))
   replace HB := ak (hb)
   (try clear hb)
   (try clear hkp)
   (try clear ho0)
   obtain ⟨Ao17, co17, eo17⟩ := Kd.R_slice HO107.out
   (first | subst eo17 | (injection eo17 with f1_ f2_ f3_; have f4_ := f1_.symm; have f5_ := f3_.symm; clear f1_ f2_ f3_; subst f4_; subst f5_))
   refine hK.out _ _ ⟨(blk_cell BK101.out 0).trans rfl, (blk_cell BK101.out 1).trans rfl, (blk_cell BK101.out 2).trans rfl, (blk_cell BK101.out 3).trans rfl, (blk_cell BK101.out 4).trans rfl, (blk_cell BK101.out 5).trans rfl, (blk_cell BK101.out 6).trans rfl, (pw_cell_below HB.out hw108_0), (pw_cell_below HB.out hw112_0)⟩ (fun hHeld => ?_)
   clear hK K
   refine norm_ (a' := ?_) ?_ ?_; rotate_left; go_simp; rfl
   refine on HT_ 7 (fun K hK => ?_)
   refine gsG Try.func206 (spec_Put32.calls _ _ t105 (rd l0_6 0) t109 _ ?side1 ?side2 A10.out) ?_
   (case side1 => repeat (first | exact (Kd.R_reads' HO107.out).2.2 | (with_reducible refine Kd.C_alloc ?_ _) | (with_reducible refine Kd.C_drewN ?_ _) | (with_reducible refine Kd.C_drew ?_)))
   (case side2 => exact (Kd.R_reads' HO107.out).2.1)
   rintro e w18 ⟨v110, rfl, ho0, hb⟩
   refine ⟨_, rfl, ?_⟩
   have HO111 := ak (Kd.R_lower (Kd.R_new' ho0 (Kd.R_lt (rw_ HO107.out))) (below_size bs))
   replace HO107 := ak (Kd.R_elder' (rw_ HO107.out) (Kd.R_base ho0) hb)
   replace BK101 := b1 BK101 hb
   replace HB := b2s bs hb
   (try clear hb)
   (try clear ho0)
   obtain ⟨Ao19, co19, eo19⟩ := Kd.R_slice HO111.out
   (first | subst eo19 | (injection eo19 with f1_ f2_ f3_; have f4_ := f1_.symm; have f5_ := f3_.symm; clear f1_ f2_ f3_; subst f4_; subst f5_))
   refine hK.out _ _ ⟨(blk_cell BK101.out 0).trans rfl, (blk_cell BK101.out 1).trans rfl, (blk_cell BK101.out 2).trans rfl, (blk_cell BK101.out 3).trans rfl, (blk_cell BK101.out 4).trans rfl, (blk_cell BK101.out 5).trans rfl, (blk_cell BK101.out 6).trans rfl, (pw_cell_below HB.out hw108_0), (pw_cell_below HB.out hw112_0)⟩ (fun hHeld => ?_)
   clear hK K
   refine norm_ (a' := ?_) ?_ ?_; rotate_left; go_simp; rfl
   refine on HT_ 12 (fun K hK => ?_)
   refine gsG Try.func206 (spec_Put32.calls _ _ t109 (rd l0_6 1) t113 _ ?side1 ?side2 A12.out) ?_
   (case side1 => repeat (first | exact (Kd.R_reads' HO111.out).2.2 | (with_reducible refine Kd.C_alloc ?_ _) | (with_reducible refine Kd.C_drewN ?_ _) | (with_reducible refine Kd.C_drew ?_)))
   (case side2 => exact (Kd.R_reads' HO111.out).2.1)
   rintro e w20 ⟨v114, rfl, ho0, hb⟩
   refine ⟨_, rfl, ?_⟩
   have HO115 := ak (Kd.R_lower (Kd.R_new' (Kd.R_new' ho0 (Kd.R_lt (rw_ HO107.out))) (Kd.R_lt (rw_ HO111.out))) (below_size bs))
   replace HO107 := ak (Kd.R_elder' (rw_ HO107.out) (Kd.R_base ho0) hb)
   replace HO111 := ak (Kd.R_elder' (rw_ HO111.out) (Kd.R_base ho0) hb)
   replace BK101 := b1 BK101 hb
   replace HB := b2s bs hb
   refine hK.out _ _ kp (fun hHeld => ?_)
   (try clear hb)
   (try clear ho0)
   clear hK K
   refine norm_ (a' := ?_) ?_ ?_; rotate_left; go_simp; rfl
   refine pu HT_ 13 ?_
   refine done_ (done_of HT_.out (by kernel_rfl)) ?_
   try go_wp2
   go_ret
   exact ⟨_, o1, by (with_reducible repeat (first | apply Kd.R_alloc | apply Kd.R_drewN | apply Kd.R_drew)); exact Kd.R_mono HO115.out (fun _ hk => trivial), bs⟩
  ·replace H := bnd H
   obtain ⟨t116, A21, H⟩ := H
   replace H := ib H
   obtain ⟨rfl, H⟩ | ⟨rfl, H⟩ := H
   ·replace H := bnd H
    obtain ⟨t117, A23, H⟩ := H
    obtain rfl := Option.some.inj H
    go_enter Try.func137, Try.ntmps137
    go_wp2_with (first | ((with_reducible refine gate_dst (N := 1) rfl ?_);refine bxd (N := 1) rfl HB ?_;clear HB;intro gb101 w24 hg HB BK101 GE101 hb;have GW101 := GE101;clear hb hg;obtain ⟨hcz25_0, hcz25_1, hcz25_2, hcz25_3, hcz25_4, hcz25_5, hcz25_6, hfz25_0, hfz25_1, hfz25_2, hfz25_3, hfz25_4, hfz25_5, hfz25_6⟩ := cells7 BK101.out) | ((with_reducible refine gate_callee (f := 159) rfl ?_);refine glD 30 rfl rfl Try.func159 (spec_l3named.calls a0_1 true _ A21.out) (fun nd => ?_)) | ((with_reducible refine gate_callee (f := 77) rfl ?_);refine goesL_ (some 33) rfl rfl Try.func77 (by kernel_rfl) rfl #[.slice none 0 0, .agg #[.slice A0_4 l0_4.length c0_4]] rfl (by (try simp only [List.map_toArray, List.map_cons, List.map_nil]); first | done | rfl | (simp only [List.length_drop, List.length_take]; rfl)) ?_;(refine (spec_l2put.calls (fun k_ => some k_ = (.slice none 0 0 : Value).ownBlock) (.slice none 0 0) ([] : List Int) _ _ l0_4 t117 w _ ?side1 ?side2 ?side3 ?side4 A23.out).mono ?_);(case side1 => repeat (first | (with_reducible first | exact HB.out | apply below_alloc | apply pw_below_drewN | apply below_drew1 | refine below_set ?_ GE101.out) | exact HB.out));(case side2 => exact Kd.R_nil _ _ _ _ _);(case side3 => exact Kd.C_kept_came (Kd.heap_slice 5 (Kd.heap_int .u8)) HR0_4.out bs (fun k_ hs_ => (fun e_ => by simp [Value.ownBlock] at e_) hs_));(case side4 => exact HC0_4.out);rintro e w26 ⟨v118, rfl, ho0, hb, hkp⟩;refine ⟨_, rfl, ?_⟩;replace BK101 := ak (blk_kept (bk BK101.out) hkp (fun hs_ => (fun e_ => by simp [Value.ownBlock] at e_) hs_));have HO119 := ak (Kd.R_mono (ok' := fun k_ => True) ho0 (fun k_ hk_ => trivial));replace HB := ak (hb);(try clear hb);(try clear hkp);(try clear ho0)))
    go_ret
    exact ⟨_, o1, rw_ HO119.out, bs⟩
   ·obtain ⟨y120, hy120⟩ : ∃ y_ : List Int, y_ = (([((l0_5.length : Int)) % 256] : List Int)) := ⟨_, rfl⟩
    (try with_reducible replace H := bnS H)
    (try rw [← hy120] at H)
    have Ny120 := ak hy120
    clear hy120
    by_cases c27 : y120.length + l0_5.length < 140737488355328
    ·rw [if_pos c27] at H
     have LMc27 := ak c27
     clear c27
     obtain ⟨y123, hy123⟩ : ∃ y_ : List Int, y_ = (y120 ++ l0_5) := ⟨_, rfl⟩
     (try with_reducible replace H := bnS H)
     (try rw [← hy123] at H)
     have Ny123 := ak hy123
     clear hy123
     obtain rfl := Option.some.inj H
     go_enter Try.func137, Try.ntmps137
     go_wp2_with (first | ((with_reducible refine gate_dst (N := 1) rfl ?_);refine bxd (N := 1) rfl HB ?_;clear HB;intro gb101 w28 hg HB BK101 GE101 hb;have GW101 := GE101;clear hb hg;obtain ⟨hcz29_0, hcz29_1, hcz29_2, hcz29_3, hcz29_4, hcz29_5, hcz29_6, hfz29_0, hfz29_1, hfz29_2, hfz29_3, hfz29_4, hfz29_5, hfz29_6⟩ := cells7 BK101.out) | ((with_reducible refine gate_callee (f := 159) rfl ?_);refine glD 30 rfl rfl Try.func159 (spec_l3named.calls a0_1 false _ A21.out) (fun nd => ?_)) | ((with_reducible refine gate_dst (N := 38) rfl ?_);refine Kd.R_lit (Kd.int .u8) _ 5 ?hg (N := 38) ?hd (xs := ([((l0_5.length : Int)) % 256] : List Int)) (inner := [.int .u8 (((l0_5.length : Int)) % 256)]) (ok := fun _ => True) (okp := fun _ => True) ?hr ?hp (fun _ hk => hk) trivial (Below.refl _ _) (Nat.le_refl _) (by simp) ?_;(case hd => rfl);(case hg => rfl);(case hr => first | (go_simp; done) | (go_simp; rfl));(case hp => exact (Reps.one (show Kd.M (Kd.int .u8) _ _ _ (((l0_5.length : Int)) % 256) [.int .u8 (((l0_5.length : Int)) % 256)] from rfl) (Reps.none _ _)));intro v121 w30 ho31 hb hg_ hnew_;clear hg_ hnew_;(first | rw [← Ny120.out] at ho31 | (simp only [Int.reduceToNat] at ho31; rw [← Ny120.out] at ho31));have HO122 := ak (Kd.R_lower ho31 (below_size bs));replace BK101 := b1 BK101 hb;replace HB := b2s bs hb;clear hb ho31;obtain ⟨hcz32_0, hcz32_1, hcz32_2, hcz32_3, hcz32_4, hcz32_5, hcz32_6, hfz32_0, hfz32_1, hfz32_2, hfz32_3, hfz32_4, hfz32_5, hfz32_6⟩ := cells7 BK101.out) | ((with_reducible refine gate_builtin (b := .append) (xs := #[.tmp 38, .tmp 40]) rfl ?_);at_builtin;refine Kd.R_append_rows (Kd.int .u8) (w0 := w) w.heap.size rfl (.tmp 38) (.tmp 40) 25 5 (.int .u8 0) 1 rfl Try.underlying25 info5 rfl (by decide) (by omega) v121 y120 l0_5 _ _ _ (fun _ => True) (fun _ => False) rfl rfl ?aO ?aR (fun _ _ h => h) (fun _ h => h.elim) ?aF ?aB ?aS ?aL ?_;(case aR => exact cw HR0_5.out HB.out);(case aB => exact bs);(case aF => exact (fun _ _ => trivial));(case aO => exact (rw_ HO122.out));(case aS => exact (below_size bs));(case aL => have := LMc27.out; omega);intro v124 w33 ho hb hg hat;rw [← Ny123.out] at ho;replace BK101 := ak (blk_grown (bk BK101.out) hg (Kd.R_ne HO122.out BK101.out (by decide)));replace HB := ak (hb);have HO125 := ak (ho);clear HO122;clear ho hb hg hat))
     go_ret
     exact ⟨_, o1, rw_ HO125.out, bs⟩
    ·rw [if_neg c27] at H
     exact absurd H (by simp)

/-! ### spec_l3rr: function 193 -/
def spec_l3rr.f (l0 : List Int) (l1_0 : List (List Int)) (a1_1 : Int) (a1_2 : Int) (a1_3 : Int) (l1_4 : List (List Int)) (l1_5 : List Int) (l1_6 : List Int) (a2 : Int) : Option (List Int) := (spec_l3put.f l1_0 a1_1 a1_2 a1_3 l1_4 l1_5 l1_6).bind fun t102 => ((spec_l2put.f l0 l1_0).bind fun t105 => ((spec_Put16.f t105 a1_1).bind fun t108 => ((spec_Put16.f t108 a2).bind fun t111 => ((spec_Put32.f t111 a1_2).bind fun t114 => ((spec_Put16.f t114 (t102.length : Int)).bind fun t117 => (if t117.length + t102.length < 140737488355328 then (some (t117 ++ t102)) else (none)))))))
def spec_l3rr.T2 : Bool × List (List Nat × List Nat) := (true, [([], []), ([], []), ([1], [1]), ([0, 2], [0, 2]), ([], []), ([4], [4]), ([3, 5, 3], [3, 5]), ([], []), ([6, 7, 6], [6, 7]), ([], []), ([9], [9]), ([8, 10, 8], [8, 10]), ([11, 11, 0, 1, 2, 3, 4, 5, 6, 7, 8, 9, 10, 11], [0, 11])])
def spec_l3rr.B2 : List Nat := [0, 0, 2, 7, 0, 16, 63, 0, 255, 0, 512, 2047, 4095]
theorem spec_l3rr.tab2 : rtab .any (opsOf Try.f193 2) = spec_l3rr.T2 := by kernel_rfl
theorem spec_l3rr.bits2 : waitsOk spec_l3rr.T2.2 spec_l3rr.B2 = true := by kernel_rfl
set_option maxHeartbeats 8000000 in
set_option maxRecDepth 100000 in
theorem spec_l3rr.calls (P0_ : Nat → Prop) (u9000_ : Value) (l0 : List Int) (A1_0 : Option Addr) (c1_0 : Nat) (l1_0 : List (List Int)) (a1_1 : Int) (a1_2 : Int) (a1_3 : Int) (A1_4 : Option Addr) (c1_4 : Nat) (l1_4 : List (List Int)) (A1_5 : Option Addr) (c1_5 : Nat) (l1_5 : List Int) (A1_6 : Option Addr) (c1_6 : Nat) (l1_6 : List Int) (a2 : Int) (r : List Int) (w0 w : World) (hB : Below w0.heap.size w0 w) (ho0 : Kd.R (Kd.int .u8) 5 w w0.heap.size P0_ u9000_ l0) (hr1_0 : ∀ W_, Kept w W_ (fun k_ => P0_ k_) → Kd.C (Kd.slice 5 (Kd.int .u8)) W_ A1_0 l1_0.length l1_0) (hc1_0 : l1_0.length ≤ c1_0) (hr1_4 : ∀ W_, Kept w W_ (fun k_ => P0_ k_) → Kd.C (Kd.slice 5 (Kd.int .u8)) W_ A1_4 l1_4.length l1_4) (hc1_4 : l1_4.length ≤ c1_4) (hr1_5 : ∀ W_, Kept w W_ (fun k_ => P0_ k_) → Kd.C (Kd.int .u8) W_ A1_5 l1_5.length l1_5) (hc1_5 : l1_5.length ≤ c1_5) (hr1_6 : ∀ W_, Kept w W_ (fun k_ => P0_ k_) → Kd.C (Kd.int .i64) W_ A1_6 l1_6.length l1_6) (hc1_6 : l1_6.length ≤ c1_6) (h : spec_l3rr.f l0 l1_0 a1_1 a1_2 a1_3 l1_4 l1_5 l1_6 a2 = some r) :
  Calls Try.prog 193 #[u9000_, .agg #[.slice A1_0 l1_0.length c1_0, .int .i64 a1_1, .int .i64 a1_2, .int .i64 a1_3, .slice A1_4 l1_4.length c1_4, .slice A1_5 l1_5.length c1_5, .slice A1_6 l1_6.length c1_6], .int .i64 a2] w fun e w' => ∃ v0_ : Value, e = .returned (v0_) ∧ Kd.R (Kd.int .u8) 5 w' w0.heap.size (fun k_ => (P0_ k_ ∨ w.heap.size ≤ k_)) v0_ r ∧ Below w0.heap.size w0 w' ∧ Kept w w' (fun k_ => P0_ k_) := by
 have hu33 := Try.underlying33
 have hu31 := Try.underlying31
 have HO0 := ak (show Kd.R (Kd.int .u8) 5 w w0.heap.size (fun k_ => (P0_ k_ ∨ w.heap.size ≤ k_)) u9000_ l0 from Kd.R_mono ho0 (fun k_ hk => (.inl hk)))
 have HR1_0 := ak hr1_0
 have HC1_0 := ak hc1_0
 clear hr1_0 hc1_0
 have HR1_4 := ak hr1_4
 have HC1_4 := ak hc1_4
 clear hr1_4 hc1_4
 have HR1_5 := ak hr1_5
 have HC1_5 := ak hc1_5
 clear hr1_5 hc1_5
 have HR1_6 := ak hr1_6
 have HC1_6 := ak hc1_6
 clear hr1_6 hc1_6
 have HK := ak (Kept.refl w (fun k_ => P0_ k_))
 have HW0 := ak hB.size
 have HB := ak hB
 clear hB
 have H : ((spec_l3put.f l1_0 a1_1 a1_2 a1_3 l1_4 l1_5 l1_6).bind fun t102 => ((spec_l2put.f l0 l1_0).bind fun t105 => ((spec_Put16.f t105 a1_1).bind fun t108 => ((spec_Put16.f t108 a2).bind fun t111 => ((spec_Put32.f t111 a1_2).bind fun t114 => ((spec_Put16.f t114 (t102.length : Int)).bind fun t117 => (if t117.length + t102.length < 140737488355328 then (some (t117 ++ t102)) else (none)))))))) = some r := h
 clear h
 replace H := bnd H
 obtain ⟨t102, A4, H⟩ := H
 replace H := bnd H
 obtain ⟨t105, A5, H⟩ := H
 replace H := bnd H
 obtain ⟨t108, A6, H⟩ := H
 replace H := bnd H
 obtain ⟨t111, A7, H⟩ := H
 replace H := bnd H
 obtain ⟨t114, A8, H⟩ := H
 replace H := bnd H
 obtain ⟨t117, A9, H⟩ := H
 by_cases c10 : t117.length + t102.length < 140737488355328
 ·rw [if_pos c10] at H
  have LMc10 := ak c10
  clear c10
  obtain ⟨y120, hy120⟩ : ∃ y_ : List Int, y_ = (t117 ++ t102) := ⟨_, rfl⟩
  (try with_reducible replace H := bnS H)
  (try rw [← hy120] at H)
  have Ny120 := ak hy120
  clear hy120
  obtain rfl := Option.some.inj H
  go_enter Try.func193, Try.ntmps193
  try go_wp2_with (first | ((with_reducible refine gate_dst (N := 4) rfl ?_);refine bxe (N := 4) rfl ?_;intro gb101 hg w11 hbox hb;replace HO0 := ak (Kd.R_below (rw_ HO0.out) hb);have BK101 := ak (hbox);have GW101 := ak ((by rw [hg]; exact (by first | exact HK.out.1 | exact (show Kept w _ (fun k_ => P0_ k_) from by repeat (first | (with_reducible first | exact HK.out | apply Kept.alloc | apply Kept.drewN | apply Kept.drew) | exact HK.out)).1) : w.heap.size ≤ gb101));replace HK := ak (Kept.below (S := (fun k_ => P0_ k_)) (by repeat (first | (with_reducible first | exact HK.out | apply Kept.alloc | apply Kept.drewN | apply Kept.drew) | exact HK.out)) hb);have GE101 := ak ((by rw [hg]; exact (below_size (bw HB.out)) : w0.heap.size ≤ gb101));replace HB := b2 HB hb;clear hb hbox hg;obtain ⟨hcz12_0, hcz12_1, hcz12_2, hcz12_3, hcz12_4, hcz12_5, hcz12_6, hfz12_0, hfz12_1, hfz12_2, hfz12_3, hfz12_4, hfz12_5, hfz12_6⟩ := cells7 BK101.out) | ((with_reducible refine gate_callee (f := 137) rfl ?_);refine glG 9 rfl rfl Try.func137 (spec_l3put.calls _ _ l1_0 a1_1 a1_2 a1_3 _ _ l1_4 _ _ l1_5 _ _ l1_6 t102 _ ?side1 HC1_0.out ?side3 HC1_4.out ?side5 HC1_5.out ?side7 HC1_6.out A4.out) ?_;(case side1 => exact Kd.C_kept_now HR1_0.out (by repeat (first | (with_reducible first | exact HK.out | apply Kept.alloc | apply Kept.drewN | apply Kept.drew | refine Kept.setCell ?_ (.inr GW101.out) _) | exact HK.out)));(case side3 => exact Kd.C_kept_now HR1_4.out (by repeat (first | (with_reducible first | exact HK.out | apply Kept.alloc | apply Kept.drewN | apply Kept.drew | refine Kept.setCell ?_ (.inr GW101.out) _) | exact HK.out)));(case side5 => exact Kd.C_kept_now HR1_5.out (by repeat (first | (with_reducible first | exact HK.out | apply Kept.alloc | apply Kept.drewN | apply Kept.drew | refine Kept.setCell ?_ (.inr GW101.out) _) | exact HK.out)));(case side7 => exact Kd.C_kept_now HR1_6.out (by repeat (first | (with_reducible first | exact HK.out | apply Kept.alloc | apply Kept.drewN | apply Kept.drew | refine Kept.setCell ?_ (.inr GW101.out) _) | exact HK.out)));rintro e w13 ⟨v103, rfl, ho0, hb⟩;refine ⟨_, rfl, ?_⟩;have HO104 := ak (Kd.R_lower (Kd.R_new' (Kd.R_newM (M := fun k_ => (P0_ k_ ∨ w.heap.size ≤ k_)) ho0 (by first | exact HK.out.1 | exact (show Kept w _ (fun k_ => P0_ k_) from by repeat (first | (with_reducible first | exact HK.out | apply Kept.alloc | apply Kept.drewN | apply Kept.drew | refine Kept.setCell ?_ (.inr GW101.out) _) | exact HK.out)).1) (fun k_ h_ => .inr h_)) (Kd.R_lt (rw_ HO0.out))) (below_size bs));replace HO0 := ak (Kd.R_elder' (rw_ HO0.out) (Kd.R_base ho0) hb);replace BK101 := b1 BK101 hb;replace HK := ak (Kept.below (S := (fun k_ => P0_ k_)) (by repeat (first | (with_reducible first | exact HK.out | apply Kept.alloc | apply Kept.drewN | apply Kept.drew | refine Kept.setCell ?_ (.inr GW101.out) _) | exact HK.out)) hb);replace HB := b2s bs hb;(try clear hb);(try clear hb2);(try clear hk);(try clear hi);(try clear ho0)))
  replace HO0 := ak (Kd.R_drew HO0.out)
  replace HO104 := ak (Kd.R_drew HO104.out)
  replace BK101 := ak (blk_drew BK101.out)
  replace HK := ak (Kept.drew HK.out)
  replace HB := ak (below_drew1 HB.out)
  obtain ⟨Ao15, co15, eo15⟩ := Kd.R_slice HO0.out
  (first | subst eo15 | (injection eo15 with f1_ f2_ f3_; have f4_ := f1_.symm; have f5_ := f3_.symm; clear f1_ f2_ f3_; subst f4_; subst f5_))
  refine start_ (n := 13) (S := fun w' => w'.cell? ⟨gb101, 0, none⟩ = some (.slice A1_0 l1_0.length c1_0) ∧ w'.cell? ⟨gb101, 1, none⟩ = some (.int .i64 a1_1) ∧ w'.cell? ⟨gb101, 2, none⟩ = some (.int .i64 a1_2) ∧ w'.cell? ⟨gb101, 3, none⟩ = some (.int .i64 a1_3) ∧ w'.cell? ⟨gb101, 4, none⟩ = some (.slice A1_4 l1_4.length c1_4) ∧ w'.cell? ⟨gb101, 5, none⟩ = some (.slice A1_5 l1_5.length c1_5) ∧ w'.cell? ⟨gb101, 6, none⟩ = some (.slice A1_6 l1_6.length c1_6)) (ds := []) (bA 13 0) (by kernel_rfl) rfl rfl kq (fun hHeld => ?_); refine with_tabW spec_l3rr.tab2 spec_l3rr.bits2 (fun HT_ HW_ => ?_)
  generalize w13.drew = w14 at HO0 HO104 BK101 HK HB hHeld ⊢
  refine pu HT_ 0 ?_
  refine pu HT_ 1 ?_
  refine pu HT_ 4 ?_
  refine pu HT_ 7 ?_
  refine pu HT_ 9 ?_
  refine ta HT_ HW_ hHeld 2 ?_
  refine ta HT_ HW_ hHeld 5 ?_
  refine ta HT_ HW_ hHeld 10 ?_
  refine on HT_ 3 (fun K hK => ?_)
  refine gsG Try.func77 (spec_l2put.calls (fun k_ => some k_ = (.slice Ao15 l0.length co15 : Value).ownBlock) (.slice Ao15 l0.length co15) l0 _ _ l1_0 t105 w0 _ ?side1 ?side2 ?side3 HC1_0.out A5.out) ?_
  (case side1 => repeat (first | (with_reducible first | exact HB.out | apply below_alloc | apply pw_below_drewN | apply below_drew1 | refine below_set ?_ GE101.out) | exact HB.out))
  (case side2 => exact Kd.R_tight rfl HO0.out)
  (case side3 => exact Kd.C_kept_call HR1_0.out (by repeat (first | (with_reducible first | exact HK.out | apply Kept.alloc | apply Kept.drewN | apply Kept.drew | refine Kept.setCell ?_ (.inr GW101.out) _) | exact HK.out)) (fun k_ hs_ => (fun e_ => (HO0.out.1 k_ e_.symm).1) hs_))
  rintro e w16 ⟨v106, rfl, ho0, hb, hkp⟩
  refine ⟨_, rfl, ?_⟩
  replace BK101 := ak (blk_kept (bk BK101.out) hkp (fun hs_ => (fun e_ => (Kd.R_ne HO0.out BK101.out (by decide)) e_) hs_))
  have HO107 := ak (Kd.R_mono (ok' := fun k_ => (P0_ k_ ∨ w.heap.size ≤ k_) ∧ some k_ ≠ (v103 : Value).ownBlock) ho0 (fun k_ hk_ => ⟨Or.elim hk_ (fun hs_ => (HO0.out.1 k_ (hs_).symm).1) (fun hn_ => (.inr (Nat.le_trans (by first | exact HK.out.1 | exact (show Kept w _ (fun k_ => P0_ k_) from by repeat (first | (with_reducible first | exact HK.out | apply Kept.alloc | apply Kept.drewN | apply Kept.drew | refine Kept.setCell ?_ (.inr GW101.out) _) | exact HK.out)).1) hn_))), Or.elim hk_ (fun hs_ => fun e_ => (((HO104.out).1 k_ e_.symm).2) hs_) (fun hn_ => (Kd.fresh' (Kd.R_lt (rw_ HO104.out)) k_ hn_))⟩))
  replace HO104 := ak (Kd.R_mono (ok' := fun k_ => (P0_ k_ ∨ w.heap.size ≤ k_) ∧ some k_ ≠ (v106 : Value).ownBlock) (Kd.R_keptB (HO104.out) hkp (fun k_ hk_ hs_ => (hk_.2) hs_)) (fun k_ hk_ => ⟨hk_.1.1.1, fun e_ => Or.elim (ho0.1 k_ e_.symm) (fun hs_ => hk_.2.1 hs_) (fun hn_ => Nat.not_le.2 hk_.2.2 hn_)⟩))
  replace HK := ak (Kept.then_ (S := (fun k_ => P0_ k_)) (by repeat (first | (with_reducible first | exact HK.out | apply Kept.alloc | apply Kept.drewN | apply Kept.drew | refine Kept.setCell ?_ (.inr GW101.out) _) | exact HK.out)) hkp (fun k_ hs_ => (fun e_ => (HO0.out.1 k_ e_.symm).1) hs_))
  replace HB := ak (hb)
  clear HO0
  (try clear hb)
  (try clear hkp)
  (try clear ho0)
  obtain ⟨Ao17, co17, eo17⟩ := Kd.R_slice HO107.out
  (first | subst eo17 | (injection eo17 with f1_ f2_ f3_; have f4_ := f1_.symm; have f5_ := f3_.symm; clear f1_ f2_ f3_; subst f4_; subst f5_))
  refine hK.out _ _ ⟨(blk_cell BK101.out 0).trans rfl, (blk_cell BK101.out 1).trans rfl, (blk_cell BK101.out 2).trans rfl, (blk_cell BK101.out 3).trans rfl, (blk_cell BK101.out 4).trans rfl, (blk_cell BK101.out 5).trans rfl, (blk_cell BK101.out 6).trans rfl⟩ (fun hHeld => ?_)
  clear hK K
  refine norm_ (a' := ?_) ?_ ?_; rotate_left; go_simp; rfl
  refine on HT_ 6 (fun K hK => ?_)
  refine gsG Try.func191 (spec_Put16.calls _ _ t105 a1_1 t108 _ ?side1 ?side2 A6.out) ?_
  (case side1 => repeat (first | exact (Kd.R_reads' HO107.out).2.2 | (with_reducible refine Kd.C_alloc ?_ _) | (with_reducible refine Kd.C_drewN ?_ _) | (with_reducible refine Kd.C_drew ?_)))
  (case side2 => exact (Kd.R_reads' HO107.out).2.1)
  rintro e w18 ⟨v109, rfl, ho0, hb⟩
  refine ⟨_, rfl, ?_⟩
  have HO110 := ak (Kd.R_lower (Kd.R_new' (Kd.R_new' (Kd.R_newM (M := fun k_ => (P0_ k_ ∨ w.heap.size ≤ k_)) ho0 (by first | exact HK.out.1 | exact (show Kept w _ (fun k_ => P0_ k_) from by repeat (first | (with_reducible first | exact HK.out | apply Kept.alloc | apply Kept.drewN | apply Kept.drew | refine Kept.setCell ?_ (.inr GW101.out) _) | exact HK.out)).1) (fun k_ h_ => .inr h_)) (Kd.R_lt (rw_ HO104.out))) (Kd.R_lt (rw_ HO107.out))) (below_size bs))
  replace HO104 := ak (Kd.R_elder' (rw_ HO104.out) (Kd.R_base ho0) hb)
  replace HO107 := ak (Kd.R_elder' (rw_ HO107.out) (Kd.R_base ho0) hb)
  replace BK101 := b1 BK101 hb
  replace HK := ak (Kept.below (S := (fun k_ => P0_ k_)) (by repeat (first | (with_reducible first | exact HK.out | apply Kept.alloc | apply Kept.drewN | apply Kept.drew | refine Kept.setCell ?_ (.inr GW101.out) _) | exact HK.out)) hb)
  replace HB := b2s bs hb
  (try clear hb)
  (try clear hb2)
  (try clear hk)
  (try clear hi)
  (try clear ho0)
  obtain ⟨Ao19, co19, eo19⟩ := Kd.R_slice HO110.out
  (first | subst eo19 | (injection eo19 with f1_ f2_ f3_; have f4_ := f1_.symm; have f5_ := f3_.symm; clear f1_ f2_ f3_; subst f4_; subst f5_))
  refine hK.out _ _ ⟨(blk_cell BK101.out 0).trans rfl, (blk_cell BK101.out 1).trans rfl, (blk_cell BK101.out 2).trans rfl, (blk_cell BK101.out 3).trans rfl, (blk_cell BK101.out 4).trans rfl, (blk_cell BK101.out 5).trans rfl, (blk_cell BK101.out 6).trans rfl⟩ (fun hHeld => ?_)
  clear hK K
  refine norm_ (a' := ?_) ?_ ?_; rotate_left; go_simp; rfl
  refine on HT_ 8 (fun K hK => ?_)
  refine gsG Try.func191 (spec_Put16.calls _ _ t108 a2 t111 _ ?side1 ?side2 A7.out) ?_
  (case side1 => repeat (first | exact (Kd.R_reads' HO110.out).2.2 | (with_reducible refine Kd.C_alloc ?_ _) | (with_reducible refine Kd.C_drewN ?_ _) | (with_reducible refine Kd.C_drew ?_)))
  (case side2 => exact (Kd.R_reads' HO110.out).2.1)
  rintro e w20 ⟨v112, rfl, ho0, hb⟩
  refine ⟨_, rfl, ?_⟩
  have HO113 := ak (Kd.R_lower (Kd.R_new' (Kd.R_new' (Kd.R_new' (Kd.R_newM (M := fun k_ => (P0_ k_ ∨ w.heap.size ≤ k_)) ho0 (by first | exact HK.out.1 | exact (show Kept w _ (fun k_ => P0_ k_) from by repeat (first | (with_reducible first | exact HK.out | apply Kept.alloc | apply Kept.drewN | apply Kept.drew | refine Kept.setCell ?_ (.inr GW101.out) _) | exact HK.out)).1) (fun k_ h_ => .inr h_)) (Kd.R_lt (rw_ HO104.out))) (Kd.R_lt (rw_ HO107.out))) (Kd.R_lt (rw_ HO110.out))) (below_size bs))
  replace HO104 := ak (Kd.R_elder' (rw_ HO104.out) (Kd.R_base ho0) hb)
  replace HO107 := ak (Kd.R_elder' (rw_ HO107.out) (Kd.R_base ho0) hb)
  replace HO110 := ak (Kd.R_elder' (rw_ HO110.out) (Kd.R_base ho0) hb)
  replace BK101 := b1 BK101 hb
  replace HK := ak (Kept.below (S := (fun k_ => P0_ k_)) (by repeat (first | (with_reducible first | exact HK.out | apply Kept.alloc | apply Kept.drewN | apply Kept.drew | refine Kept.setCell ?_ (.inr GW101.out) _) | exact HK.out)) hb)
  replace HB := b2s bs hb
  (try clear hb)
  (try clear hb2)
  (try clear hk)
  (try clear hi)
  (try clear ho0)
  obtain ⟨Ao21, co21, eo21⟩ := Kd.R_slice HO113.out
  (first | subst eo21 | (injection eo21 with f1_ f2_ f3_; have f4_ := f1_.symm; have f5_ := f3_.symm; clear f1_ f2_ f3_; subst f4_; subst f5_))
  refine hK.out _ _ ⟨(blk_cell BK101.out 0).trans rfl, (blk_cell BK101.out 1).trans rfl, (blk_cell BK101.out 2).trans rfl, (blk_cell BK101.out 3).trans rfl, (blk_cell BK101.out 4).trans rfl, (blk_cell BK101.out 5).trans rfl, (blk_cell BK101.out 6).trans rfl⟩ (fun hHeld => ?_)
  clear hK K
  refine norm_ (a' := ?_) ?_ ?_; rotate_left; go_simp; rfl
  refine on HT_ 11 (fun K hK => ?_)
  refine gsG Try.func206 (spec_Put32.calls _ _ t111 a1_2 t114 _ ?side1 ?side2 A8.out) ?_
  (case side1 => repeat (first | exact (Kd.R_reads' HO113.out).2.2 | (with_reducible refine Kd.C_alloc ?_ _) | (with_reducible refine Kd.C_drewN ?_ _) | (with_reducible refine Kd.C_drew ?_)))
  (case side2 => exact (Kd.R_reads' HO113.out).2.1)
  rintro e w22 ⟨v115, rfl, ho0, hb⟩
  refine ⟨_, rfl, ?_⟩
  have HO116 := ak (Kd.R_lower (Kd.R_new' (Kd.R_new' (Kd.R_new' (Kd.R_new' (Kd.R_newM (M := fun k_ => (P0_ k_ ∨ w.heap.size ≤ k_)) ho0 (by first | exact HK.out.1 | exact (show Kept w _ (fun k_ => P0_ k_) from by repeat (first | (with_reducible first | exact HK.out | apply Kept.alloc | apply Kept.drewN | apply Kept.drew | refine Kept.setCell ?_ (.inr GW101.out) _) | exact HK.out)).1) (fun k_ h_ => .inr h_)) (Kd.R_lt (rw_ HO104.out))) (Kd.R_lt (rw_ HO107.out))) (Kd.R_lt (rw_ HO110.out))) (Kd.R_lt (rw_ HO113.out))) (below_size bs))
  replace HO104 := ak (Kd.R_elder' (rw_ HO104.out) (Kd.R_base ho0) hb)
  replace HO107 := ak (Kd.R_elder' (rw_ HO107.out) (Kd.R_base ho0) hb)
  replace HO110 := ak (Kd.R_elder' (rw_ HO110.out) (Kd.R_base ho0) hb)
  replace HO113 := ak (Kd.R_elder' (rw_ HO113.out) (Kd.R_base ho0) hb)
  replace BK101 := b1 BK101 hb
  replace HK := ak (Kept.below (S := (fun k_ => P0_ k_)) (by repeat (first | (with_reducible first | exact HK.out | apply Kept.alloc | apply Kept.drewN | apply Kept.drew | refine Kept.setCell ?_ (.inr GW101.out) _) | exact HK.out)) hb)
  replace HB := b2s bs hb
  refine hK.out _ _ kp (fun hHeld => ?_)
  (try clear hb)
  (try clear hb2)
  (try clear hk)
  (try clear hi)
  (try clear ho0)
  clear hK K
  refine norm_ (a' := ?_) ?_ ?_; rotate_left; go_simp; rfl
  refine pu HT_ 12 ?_
  refine done_ (done_of HT_.out (by kernel_rfl)) ?_
  obtain ⟨Ao23, co23, eo23⟩ := Kd.R_slice HO104.out
  subst eo23
  obtain ⟨Ao24, co24, eo24⟩ := Kd.R_slice HO116.out
  subst eo24
  try go_wp2_with (first | ((with_reducible refine gate_callee (f := 191) rfl ?_);refine glG 25 rfl rfl Try.func191 (spec_Put16.calls _ _ t114 (t102.length : Int) t117 _ ?side1 ?side2 A9.out) ?_;(case side1 => repeat (first | exact (Kd.R_reads' HO116.out).2.2 | (with_reducible refine Kd.C_alloc ?_ _) | (with_reducible refine Kd.C_drewN ?_ _) | (with_reducible refine Kd.C_drew ?_)));(case side2 => exact (Kd.R_reads' HO116.out).2.1);rintro e w25 ⟨v118, rfl, ho0, hb⟩;refine ⟨_, rfl, ?_⟩;have HO119 := ak (Kd.R_lower (Kd.R_new' (Kd.R_new' (Kd.R_new' (Kd.R_new' (Kd.R_new' (Kd.R_newM (M := fun k_ => (P0_ k_ ∨ w.heap.size ≤ k_)) ho0 (by first | exact HK.out.1 | exact (show Kept w _ (fun k_ => P0_ k_) from by repeat (first | (with_reducible first | exact HK.out | apply Kept.alloc | apply Kept.drewN | apply Kept.drew | refine Kept.setCell ?_ (.inr GW101.out) _) | exact HK.out)).1) (fun k_ h_ => .inr h_)) (Kd.R_lt (rw_ HO104.out))) (Kd.R_lt (rw_ HO107.out))) (Kd.R_lt (rw_ HO110.out))) (Kd.R_lt (rw_ HO113.out))) (Kd.R_lt (rw_ HO116.out))) (below_size bs));replace HO104 := ak (Kd.R_elder' (rw_ HO104.out) (Kd.R_base ho0) hb);replace HO107 := ak (Kd.R_elder' (rw_ HO107.out) (Kd.R_base ho0) hb);replace HO110 := ak (Kd.R_elder' (rw_ HO110.out) (Kd.R_base ho0) hb);replace HO113 := ak (Kd.R_elder' (rw_ HO113.out) (Kd.R_base ho0) hb);replace HO116 := ak (Kd.R_elder' (rw_ HO116.out) (Kd.R_base ho0) hb);replace BK101 := b1 BK101 hb;replace HK := ak (Kept.below (S := (fun k_ => P0_ k_)) (by repeat (first | (with_reducible first | exact HK.out | apply Kept.alloc | apply Kept.drewN | apply Kept.drew | refine Kept.setCell ?_ (.inr GW101.out) _) | exact HK.out)) hb);replace HB := b2s bs hb;(try clear hb);(try clear hb2);(try clear hk);(try clear hi);(try clear ho0)) | ((with_reducible refine gate_builtin (b := .append) (xs := #[.tmp 25, .tmp 26]) rfl ?_);at_builtin;refine Kd.R_append_rows (Kd.int .u8) (w0 := w0) w0.heap.size rfl (.tmp 25) (.tmp 26) 25 5 (.int .u8 0) 1 rfl Try.underlying25 info5 rfl (by decide) (by omega) v118 t117 t102 _ _ _ (fun k_ => (P0_ k_ ∨ w.heap.size ≤ k_) ∧ some k_ ≠ (.slice Ao23 t102.length co23 : Value).ownBlock ∧ some k_ ≠ (.slice Ao17 t105.length co17 : Value).ownBlock ∧ some k_ ≠ (.slice Ao19 t108.length co19 : Value).ownBlock ∧ some k_ ≠ (.slice Ao21 t111.length co21 : Value).ownBlock ∧ some k_ ≠ (.slice Ao24 t114.length co24 : Value).ownBlock) (fun _ => False) rfl rfl ?aO ?aR (fun _ _ h => h) (fun _ h => h.elim) ?aF ?aB ?aS ?aL ?_;(case aR => repeat (first | exact (Kd.R_reads' HO104.out).2.2 | (with_reducible refine Kd.C_alloc ?_ _) | (with_reducible refine Kd.C_drewN ?_ _) | (with_reducible refine Kd.C_drew ?_)));(case aB => exact bs);(case aF => exact (fun k_ hk => ⟨(.inr (Nat.le_trans (by first | exact HK.out.1 | exact (show Kept w _ (fun k_ => P0_ k_) from by repeat (first | (with_reducible first | exact HK.out | apply Kept.alloc | apply Kept.drewN | apply Kept.drew | refine Kept.setCell ?_ (.inr GW101.out) _) | exact HK.out)).1) hk)), Kd.fresh' (Kd.R_lt (rw_ HO104.out)) k_ hk, Kd.fresh' (Kd.R_lt (rw_ HO107.out)) k_ hk, Kd.fresh' (Kd.R_lt (rw_ HO110.out)) k_ hk, Kd.fresh' (Kd.R_lt (rw_ HO113.out)) k_ hk, Kd.fresh' (Kd.R_lt (rw_ HO116.out)) k_ hk⟩));(case aO => exact (rw_ (Kd.R_mono HO119.out (fun _ hk => ⟨hk.1.1.1.1.1.1, ⟨hk.1.1.1.1.2, ⟨hk.1.1.1.2, ⟨hk.1.1.2, ⟨hk.1.2, hk.2⟩⟩⟩⟩⟩))));(case aS => exact (below_size bs));(case aL => have := LMc10.out; omega);intro v121 w26 ho hb hg hat;rw [← Ny120.out] at ho;replace BK101 := ak (blk_grown (bk BK101.out) hg (Kd.R_ne HO119.out BK101.out (by decide)));replace HO104 := ak (Kd.R_after (ok := (fun k_ => (P0_ k_ ∨ w.heap.size ≤ k_) ∧ some k_ ≠ (.slice Ao17 t105.length co17 : Value).ownBlock ∧ some k_ ≠ (.slice Ao19 t108.length co19 : Value).ownBlock ∧ some k_ ≠ (.slice Ao21 t111.length co21 : Value).ownBlock ∧ some k_ ≠ (.slice Ao24 t114.length co24 : Value).ownBlock)) (rw_ (Kd.R_mono HO104.out (fun _ hk => ⟨⟨hk.1.1.1.1.1, ⟨hk.1.1.1.1.2, ⟨hk.1.1.1.2, ⟨hk.1.1.2, hk.1.2⟩⟩⟩⟩, hk.2⟩))) hg hat);replace HO107 := ak (Kd.R_after (ok := (fun k_ => (P0_ k_ ∨ w.heap.size ≤ k_) ∧ some k_ ≠ (.slice Ao23 t102.length co23 : Value).ownBlock ∧ some k_ ≠ (.slice Ao19 t108.length co19 : Value).ownBlock ∧ some k_ ≠ (.slice Ao21 t111.length co21 : Value).ownBlock ∧ some k_ ≠ (.slice Ao24 t114.length co24 : Value).ownBlock)) (rw_ (Kd.R_mono HO107.out (fun _ hk => ⟨⟨hk.1.1.1.1.1, ⟨hk.1.1.1.1.2, ⟨hk.1.1.1.2, ⟨hk.1.1.2, hk.1.2⟩⟩⟩⟩, hk.2⟩))) hg hat);replace HO110 := ak (Kd.R_after (ok := (fun k_ => (P0_ k_ ∨ w.heap.size ≤ k_) ∧ some k_ ≠ (.slice Ao23 t102.length co23 : Value).ownBlock ∧ some k_ ≠ (.slice Ao17 t105.length co17 : Value).ownBlock ∧ some k_ ≠ (.slice Ao21 t111.length co21 : Value).ownBlock ∧ some k_ ≠ (.slice Ao24 t114.length co24 : Value).ownBlock)) (rw_ (Kd.R_mono HO110.out (fun _ hk => ⟨⟨hk.1.1.1.1.1.1, ⟨hk.1.1.1.1.2, ⟨hk.1.1.1.2, ⟨hk.1.1.2, hk.1.2⟩⟩⟩⟩, hk.2⟩))) hg hat);replace HO113 := ak (Kd.R_after (ok := (fun k_ => (P0_ k_ ∨ w.heap.size ≤ k_) ∧ some k_ ≠ (.slice Ao23 t102.length co23 : Value).ownBlock ∧ some k_ ≠ (.slice Ao17 t105.length co17 : Value).ownBlock ∧ some k_ ≠ (.slice Ao19 t108.length co19 : Value).ownBlock ∧ some k_ ≠ (.slice Ao24 t114.length co24 : Value).ownBlock)) (rw_ (Kd.R_mono HO113.out (fun _ hk => ⟨⟨hk.1.1.1.1.1.1, ⟨hk.1.1.1.1.2, ⟨hk.1.1.1.2, ⟨hk.1.1.2, hk.1.2⟩⟩⟩⟩, hk.2⟩))) hg hat);replace HO116 := ak (Kd.R_after (ok := (fun k_ => (P0_ k_ ∨ w.heap.size ≤ k_) ∧ some k_ ≠ (.slice Ao23 t102.length co23 : Value).ownBlock ∧ some k_ ≠ (.slice Ao17 t105.length co17 : Value).ownBlock ∧ some k_ ≠ (.slice Ao19 t108.length co19 : Value).ownBlock ∧ some k_ ≠ (.slice Ao21 t111.length co21 : Value).ownBlock)) (rw_ (Kd.R_mono HO116.out (fun _ hk => ⟨⟨hk.1.1.1.1.1.1, ⟨hk.1.1.1.1.2, ⟨hk.1.1.1.2, ⟨hk.1.1.2, hk.1.2⟩⟩⟩⟩, hk.2⟩))) hg hat);replace HB := ak (hb);replace HK := ak (Kept.of_grown (S := (fun k_ => P0_ k_)) hg (by repeat (first | (with_reducible first | exact HK.out | apply Kept.alloc | apply Kept.drewN | apply Kept.drew | refine Kept.setCell ?_ (.inr GW101.out) _) | exact HK.out)) (fun k_ e_ => (HO119.out.1 k_ e_).1.1.1.1.1.1));have HO122 := ak (ho);clear HO119;clear ho hb hg hat))
  go_ret
  exact ⟨_, o1, by (with_reducible repeat (first | apply Kd.R_alloc | apply Kd.R_drewN | apply Kd.R_drew)); exact Kd.R_mono HO122.out (fun _ hk => hk.1), bs, by repeat (first | (with_reducible first | exact HK.out | apply Kept.alloc | apply Kept.drewN | apply Kept.drew | refine Kept.setCell ?_ (.inr GW101.out) _) | exact HK.out)⟩
 ·rw [if_neg c10] at H
  exact absurd H (by simp)

/-! ### spec_l4want: function 192 -/
def spec_l4want.f (l0 : List Int) (l1_0 : List (List Int)) (a1_1 : Int) (a1_2 : Int) (a1_3 : Int) (l1_4 : List (List Int)) (l1_5 : List Int) (l1_6 : List Int) (a1_7 : Int) (a1_8 : Bool) : Option (List Int) := if a1_8 = true then ((spec_l2put.f l0 l1_0).bind fun t105 => ((spec_Put16.f t105 a1_1).bind fun t108 => ((spec_Put16.f t108 a1_7).bind fun t111 => ((spec_Put32.f t111 0).bind fun t114 => ((spec_Put16.f t114 0).bind fun t117 => (some t117)))))) else ((spec_l3rr.f l0 l1_0 a1_1 a1_2 a1_3 l1_4 l1_5 l1_6 a1_7).bind fun t102 => (some t102))
def spec_l4want.T3 : Bool × List (List Nat × List Nat) := (true, [([], []), ([], []), ([1], [1]), ([2], [2]), ([0, 3], [0, 3]), ([], []), ([5], [5]), ([6], [6]), ([4, 7, 4], [4, 7]), ([], []), ([9], [9]), ([8, 10, 8], [8, 10]), ([11, 11], [11]), ([12, 12], [12]), ([13, 13, 0, 1, 2, 3, 4, 5, 6, 7, 8, 9, 10, 11, 12, 13], [13])])
def spec_l4want.B3 : List Nat := [0, 0, 2, 6, 15, 0, 32, 96, 255, 0, 512, 2047, 4095, 8191, 16383]
theorem spec_l4want.tab3 : rtab .any (opsOf Try.f192 3) = spec_l4want.T3 := by kernel_rfl
theorem spec_l4want.bits3 : waitsOk spec_l4want.T3.2 spec_l4want.B3 = true := by kernel_rfl
set_option maxHeartbeats 8000000 in
set_option maxRecDepth 100000 in
theorem spec_l4want.calls (P0_ : Nat → Prop) (u9000_ : Value) (l0 : List Int) (A1_0 : Option Addr) (c1_0 : Nat) (l1_0 : List (List Int)) (a1_1 : Int) (a1_2 : Int) (a1_3 : Int) (A1_4 : Option Addr) (c1_4 : Nat) (l1_4 : List (List Int)) (A1_5 : Option Addr) (c1_5 : Nat) (l1_5 : List Int) (A1_6 : Option Addr) (c1_6 : Nat) (l1_6 : List Int) (a1_7 : Int) (a1_8 : Bool) (r : List Int) (w0 w : World) (hB : Below w0.heap.size w0 w) (ho0 : Kd.R (Kd.int .u8) 5 w w0.heap.size P0_ u9000_ l0) (hr1_0 : ∀ W_, Kept w W_ (fun k_ => P0_ k_) → Kd.C (Kd.slice 5 (Kd.int .u8)) W_ A1_0 l1_0.length l1_0) (hc1_0 : l1_0.length ≤ c1_0) (hr1_4 : ∀ W_, Kept w W_ (fun k_ => P0_ k_) → Kd.C (Kd.slice 5 (Kd.int .u8)) W_ A1_4 l1_4.length l1_4) (hc1_4 : l1_4.length ≤ c1_4) (hr1_5 : ∀ W_, Kept w W_ (fun k_ => P0_ k_) → Kd.C (Kd.int .u8) W_ A1_5 l1_5.length l1_5) (hc1_5 : l1_5.length ≤ c1_5) (hr1_6 : ∀ W_, Kept w W_ (fun k_ => P0_ k_) → Kd.C (Kd.int .i64) W_ A1_6 l1_6.length l1_6) (hc1_6 : l1_6.length ≤ c1_6) (h : spec_l4want.f l0 l1_0 a1_1 a1_2 a1_3 l1_4 l1_5 l1_6 a1_7 a1_8 = some r) :
  Calls Try.prog 192 #[u9000_, .agg #[.slice A1_0 l1_0.length c1_0, .int .i64 a1_1, .int .i64 a1_2, .int .i64 a1_3, .slice A1_4 l1_4.length c1_4, .slice A1_5 l1_5.length c1_5, .slice A1_6 l1_6.length c1_6, .int .i64 a1_7, .bool a1_8]] w fun e w' => ∃ v0_ : Value, e = .returned (v0_) ∧ Kd.R (Kd.int .u8) 5 w' w0.heap.size (fun k_ => (P0_ k_ ∨ w.heap.size ≤ k_)) v0_ r ∧ Below w0.heap.size w0 w' ∧ Kept w w' (fun k_ => P0_ k_) := by
 have hu205 := Try.underlying205
 have hu33 := Try.underlying33
 have hu31 := Try.underlying31
 have HO0 := ak (show Kd.R (Kd.int .u8) 5 w w0.heap.size (fun k_ => (P0_ k_ ∨ w.heap.size ≤ k_)) u9000_ l0 from Kd.R_mono ho0 (fun k_ hk => (.inl hk)))
 have HR1_0 := ak hr1_0
 have HC1_0 := ak hc1_0
 clear hr1_0 hc1_0
 have HR1_4 := ak hr1_4
 have HC1_4 := ak hc1_4
 clear hr1_4 hc1_4
 have HR1_5 := ak hr1_5
 have HC1_5 := ak hc1_5
 clear hr1_5 hc1_5
 have HR1_6 := ak hr1_6
 have HC1_6 := ak hc1_6
 clear hr1_6 hc1_6
 have HK := ak (Kept.refl w (fun k_ => P0_ k_))
 have HW0 := ak hB.size
 have HB := ak hB
 clear hB
 have H : (if a1_8 = true then ((spec_l2put.f l0 l1_0).bind fun t105 => ((spec_Put16.f t105 a1_1).bind fun t108 => ((spec_Put16.f t108 a1_7).bind fun t111 => ((spec_Put32.f t111 0).bind fun t114 => ((spec_Put16.f t114 0).bind fun t117 => (some t117)))))) else ((spec_l3rr.f l0 l1_0 a1_1 a1_2 a1_3 l1_4 l1_5 l1_6 a1_7).bind fun t102 => (some t102))) = some r := h
 clear h
 replace H := ib H
 obtain ⟨rfl, H⟩ | ⟨rfl, H⟩ := H
 ·replace H := bnd H
  obtain ⟨t105, A4, H⟩ := H
  replace H := bnd H
  obtain ⟨t108, A5, H⟩ := H
  replace H := bnd H
  obtain ⟨t111, A6, H⟩ := H
  replace H := bnd H
  obtain ⟨t114, A7, H⟩ := H
  replace H := bnd H
  obtain ⟨t117, A8, H⟩ := H
  obtain rfl := Option.some.inj H
  go_enter Try.func192, Try.ntmps192
  try go_wp2_with (((with_reducible refine gate_dst (N := 3) rfl ?_);refine bxe (N := 3) rfl ?_;intro gb101 hg w9 hbox hb;replace HO0 := ak (Kd.R_below (rw_ HO0.out) hb);have BK101 := ak (hbox);have GW101 := ak ((by rw [hg]; exact (by first | exact HK.out.1 | exact (show Kept w _ (fun k_ => P0_ k_) from by repeat (first | (with_reducible first | exact HK.out | apply Kept.alloc | apply Kept.drewN | apply Kept.drew) | exact HK.out)).1) : w.heap.size ≤ gb101));replace HK := ak (Kept.below (S := (fun k_ => P0_ k_)) (by repeat (first | (with_reducible first | exact HK.out | apply Kept.alloc | apply Kept.drewN | apply Kept.drew) | exact HK.out)) hb);have GE101 := ak ((by rw [hg]; exact (below_size (bw HB.out)) : w0.heap.size ≤ gb101));replace HB := b2 HB hb;clear hb hbox hg;obtain ⟨hcz10_0, hcz10_1, hcz10_2, hcz10_3, hcz10_4, hcz10_5, hcz10_6, hcz10_7, hcz10_8, hfz10_0, hfz10_1, hfz10_2, hfz10_3, hfz10_4, hfz10_5, hfz10_6, hfz10_7, hfz10_8⟩ := cells9 BK101.out))
  replace HO0 := ak (Kd.R_drew HO0.out)
  replace BK101 := ak (blk_drew BK101.out)
  replace HK := ak (Kept.drew HK.out)
  replace HB := ak (below_drew1 HB.out)
  obtain ⟨Ao12, co12, eo12⟩ := Kd.R_slice HO0.out
  (first | subst eo12 | (injection eo12 with f1_ f2_ f3_; have f4_ := f1_.symm; have f5_ := f3_.symm; clear f1_ f2_ f3_; subst f4_; subst f5_))
  refine start_ (n := 15) (S := fun w' => w'.cell? ⟨gb101, 0, none⟩ = some (.slice A1_0 l1_0.length c1_0) ∧ w'.cell? ⟨gb101, 1, none⟩ = some (.int .i64 a1_1) ∧ w'.cell? ⟨gb101, 2, none⟩ = some (.int .i64 a1_2) ∧ w'.cell? ⟨gb101, 3, none⟩ = some (.int .i64 a1_3) ∧ w'.cell? ⟨gb101, 4, none⟩ = some (.slice A1_4 l1_4.length c1_4) ∧ w'.cell? ⟨gb101, 5, none⟩ = some (.slice A1_5 l1_5.length c1_5) ∧ w'.cell? ⟨gb101, 6, none⟩ = some (.slice A1_6 l1_6.length c1_6) ∧ w'.cell? ⟨gb101, 7, none⟩ = some (.int .i64 a1_7) ∧ w'.cell? ⟨gb101, 8, none⟩ = some (.bool true)) (ds := []) (bA 15 0) (by kernel_rfl) rfl rfl kq (fun hHeld => ?_); refine with_tabW spec_l4want.tab3 spec_l4want.bits3 (fun HT_ HW_ => ?_)
  generalize w9.drew = w11 at HO0 BK101 HK HB hHeld ⊢
  refine pu HT_ 0 ?_
  refine pu HT_ 1 ?_
  refine pu HT_ 2 ?_
  refine pu HT_ 5 ?_
  refine pu HT_ 6 ?_
  refine pu HT_ 9 ?_
  refine ta HT_ HW_ hHeld 3 ?_
  refine ta HT_ HW_ hHeld 7 ?_
  refine ta HT_ HW_ hHeld 10 ?_
  refine on HT_ 4 (fun K hK => ?_)
  refine gsG Try.func77 (spec_l2put.calls (fun k_ => some k_ = (.slice Ao12 l0.length co12 : Value).ownBlock) (.slice Ao12 l0.length co12) l0 _ _ l1_0 t105 w0 _ ?side1 ?side2 ?side3 HC1_0.out A4.out) ?_
  (case side1 => repeat (first | (with_reducible first | exact HB.out | apply below_alloc | apply pw_below_drewN | apply below_drew1 | refine below_set ?_ GE101.out) | exact HB.out))
  (case side2 => exact Kd.R_tight rfl HO0.out)
  (case side3 => exact Kd.C_kept_call HR1_0.out (by repeat (first | (with_reducible first | exact HK.out | apply Kept.alloc | apply Kept.drewN | apply Kept.drew | refine Kept.setCell ?_ (.inr GW101.out) _) | exact HK.out)) (fun k_ hs_ => (fun e_ => (HO0.out.1 k_ e_.symm)) hs_))
  rintro e w13 ⟨v106, rfl, ho0, hb, hkp⟩
  refine ⟨_, rfl, ?_⟩
  replace BK101 := ak (blk_kept (bk BK101.out) hkp (fun hs_ => (fun e_ => (Kd.R_ne HO0.out BK101.out (by decide)) e_) hs_))
  have HO107 := ak (Kd.R_mono (ok' := fun k_ => (P0_ k_ ∨ w.heap.size ≤ k_)) ho0 (fun k_ hk_ => Or.elim hk_ (fun hs_ => (HO0.out.1 k_ (hs_).symm)) (fun hn_ => (.inr (Nat.le_trans (by first | exact HK.out.1 | exact (show Kept w _ (fun k_ => P0_ k_) from by repeat (first | (with_reducible first | exact HK.out | apply Kept.alloc | apply Kept.drewN | apply Kept.drew | refine Kept.setCell ?_ (.inr GW101.out) _) | exact HK.out)).1) hn_)))))
  replace HK := ak (Kept.then_ (S := (fun k_ => P0_ k_)) (by repeat (first | (with_reducible first | exact HK.out | apply Kept.alloc | apply Kept.drewN | apply Kept.drew | refine Kept.setCell ?_ (.inr GW101.out) _) | exact HK.out)) hkp (fun k_ hs_ => (fun e_ => (HO0.out.1 k_ e_.symm)) hs_))
  replace HB := ak (hb)
  clear HO0
  (try clear hb)
  (try clear hkp)
  (try clear ho0)
  obtain ⟨Ao14, co14, eo14⟩ := Kd.R_slice HO107.out
  (first | subst eo14 | (injection eo14 with f1_ f2_ f3_; have f4_ := f1_.symm; have f5_ := f3_.symm; clear f1_ f2_ f3_; subst f4_; subst f5_))
  refine hK.out _ _ ⟨(blk_cell BK101.out 0).trans rfl, (blk_cell BK101.out 1).trans rfl, (blk_cell BK101.out 2).trans rfl, (blk_cell BK101.out 3).trans rfl, (blk_cell BK101.out 4).trans rfl, (blk_cell BK101.out 5).trans rfl, (blk_cell BK101.out 6).trans rfl, (blk_cell BK101.out 7).trans rfl, (blk_cell BK101.out 8).trans rfl⟩ (fun hHeld => ?_)
  clear hK K
  refine norm_ (a' := ?_) ?_ ?_; rotate_left; go_simp; rfl
  refine on HT_ 8 (fun K hK => ?_)
  refine gsG Try.func191 (spec_Put16.calls _ _ t105 a1_1 t108 _ ?side1 ?side2 A5.out) ?_
  (case side1 => repeat (first | exact (Kd.R_reads' HO107.out).2.2 | (with_reducible refine Kd.C_alloc ?_ _) | (with_reducible refine Kd.C_drewN ?_ _) | (with_reducible refine Kd.C_drew ?_)))
  (case side2 => exact (Kd.R_reads' HO107.out).2.1)
  rintro e w15 ⟨v109, rfl, ho0, hb⟩
  refine ⟨_, rfl, ?_⟩
  have HO110 := ak (Kd.R_lower (Kd.R_new' (Kd.R_newM (M := fun k_ => (P0_ k_ ∨ w.heap.size ≤ k_)) ho0 (by first | exact HK.out.1 | exact (show Kept w _ (fun k_ => P0_ k_) from by repeat (first | (with_reducible first | exact HK.out | apply Kept.alloc | apply Kept.drewN | apply Kept.drew | refine Kept.setCell ?_ (.inr GW101.out) _) | exact HK.out)).1) (fun k_ h_ => .inr h_)) (Kd.R_lt (rw_ HO107.out))) (below_size bs))
  replace HO107 := ak (Kd.R_elder' (rw_ HO107.out) (Kd.R_base ho0) hb)
  replace BK101 := b1 BK101 hb
  replace HK := ak (Kept.below (S := (fun k_ => P0_ k_)) (by repeat (first | (with_reducible first | exact HK.out | apply Kept.alloc | apply Kept.drewN | apply Kept.drew | refine Kept.setCell ?_ (.inr GW101.out) _) | exact HK.out)) hb)
  replace HB := b2s bs hb
  (try clear hb)
  (try clear hk)
  (try clear ho0)
  obtain ⟨Ao16, co16, eo16⟩ := Kd.R_slice HO110.out
  (first | subst eo16 | (injection eo16 with f1_ f2_ f3_; have f4_ := f1_.symm; have f5_ := f3_.symm; clear f1_ f2_ f3_; subst f4_; subst f5_))
  refine hK.out _ _ ⟨(blk_cell BK101.out 0).trans rfl, (blk_cell BK101.out 1).trans rfl, (blk_cell BK101.out 2).trans rfl, (blk_cell BK101.out 3).trans rfl, (blk_cell BK101.out 4).trans rfl, (blk_cell BK101.out 5).trans rfl, (blk_cell BK101.out 6).trans rfl, (blk_cell BK101.out 7).trans rfl, (blk_cell BK101.out 8).trans rfl⟩ (fun hHeld => ?_)
  clear hK K
  refine norm_ (a' := ?_) ?_ ?_; rotate_left; go_simp; rfl
  refine on HT_ 11 (fun K hK => ?_)
  refine gsG Try.func191 (spec_Put16.calls _ _ t108 a1_7 t111 _ ?side1 ?side2 A6.out) ?_
  (case side1 => repeat (first | exact (Kd.R_reads' HO110.out).2.2 | (with_reducible refine Kd.C_alloc ?_ _) | (with_reducible refine Kd.C_drewN ?_ _) | (with_reducible refine Kd.C_drew ?_)))
  (case side2 => exact (Kd.R_reads' HO110.out).2.1)
  rintro e w17 ⟨v112, rfl, ho0, hb⟩
  refine ⟨_, rfl, ?_⟩
  have HO113 := ak (Kd.R_lower (Kd.R_new' (Kd.R_new' (Kd.R_newM (M := fun k_ => (P0_ k_ ∨ w.heap.size ≤ k_)) ho0 (by first | exact HK.out.1 | exact (show Kept w _ (fun k_ => P0_ k_) from by repeat (first | (with_reducible first | exact HK.out | apply Kept.alloc | apply Kept.drewN | apply Kept.drew | refine Kept.setCell ?_ (.inr GW101.out) _) | exact HK.out)).1) (fun k_ h_ => .inr h_)) (Kd.R_lt (rw_ HO107.out))) (Kd.R_lt (rw_ HO110.out))) (below_size bs))
  replace HO107 := ak (Kd.R_elder' (rw_ HO107.out) (Kd.R_base ho0) hb)
  replace HO110 := ak (Kd.R_elder' (rw_ HO110.out) (Kd.R_base ho0) hb)
  replace BK101 := b1 BK101 hb
  replace HK := ak (Kept.below (S := (fun k_ => P0_ k_)) (by repeat (first | (with_reducible first | exact HK.out | apply Kept.alloc | apply Kept.drewN | apply Kept.drew | refine Kept.setCell ?_ (.inr GW101.out) _) | exact HK.out)) hb)
  replace HB := b2s bs hb
  (try clear hb)
  (try clear hk)
  (try clear ho0)
  obtain ⟨Ao18, co18, eo18⟩ := Kd.R_slice HO113.out
  (first | subst eo18 | (injection eo18 with f1_ f2_ f3_; have f4_ := f1_.symm; have f5_ := f3_.symm; clear f1_ f2_ f3_; subst f4_; subst f5_))
  refine hK.out _ _ ⟨(blk_cell BK101.out 0).trans rfl, (blk_cell BK101.out 1).trans rfl, (blk_cell BK101.out 2).trans rfl, (blk_cell BK101.out 3).trans rfl, (blk_cell BK101.out 4).trans rfl, (blk_cell BK101.out 5).trans rfl, (blk_cell BK101.out 6).trans rfl, (blk_cell BK101.out 7).trans rfl, (blk_cell BK101.out 8).trans rfl⟩ (fun hHeld => ?_)
  clear hK K
  refine norm_ (a' := ?_) ?_ ?_; rotate_left; go_simp; rfl
  refine on HT_ 12 (fun K hK => ?_)
  refine gsG Try.func206 (spec_Put32.calls _ _ t111 0 t114 _ ?side1 ?side2 A7.out) ?_
  (case side1 => repeat (first | exact (Kd.R_reads' HO113.out).2.2 | (with_reducible refine Kd.C_alloc ?_ _) | (with_reducible refine Kd.C_drewN ?_ _) | (with_reducible refine Kd.C_drew ?_)))
  (case side2 => exact (Kd.R_reads' HO113.out).2.1)
  rintro e w19 ⟨v115, rfl, ho0, hb⟩
  refine ⟨_, rfl, ?_⟩
  have HO116 := ak (Kd.R_lower (Kd.R_new' (Kd.R_new' (Kd.R_new' (Kd.R_newM (M := fun k_ => (P0_ k_ ∨ w.heap.size ≤ k_)) ho0 (by first | exact HK.out.1 | exact (show Kept w _ (fun k_ => P0_ k_) from by repeat (first | (with_reducible first | exact HK.out | apply Kept.alloc | apply Kept.drewN | apply Kept.drew | refine Kept.setCell ?_ (.inr GW101.out) _) | exact HK.out)).1) (fun k_ h_ => .inr h_)) (Kd.R_lt (rw_ HO107.out))) (Kd.R_lt (rw_ HO110.out))) (Kd.R_lt (rw_ HO113.out))) (below_size bs))
  replace HO107 := ak (Kd.R_elder' (rw_ HO107.out) (Kd.R_base ho0) hb)
  replace HO110 := ak (Kd.R_elder' (rw_ HO110.out) (Kd.R_base ho0) hb)
  replace HO113 := ak (Kd.R_elder' (rw_ HO113.out) (Kd.R_base ho0) hb)
  replace BK101 := b1 BK101 hb
  replace HK := ak (Kept.below (S := (fun k_ => P0_ k_)) (by repeat (first | (with_reducible first | exact HK.out | apply Kept.alloc | apply Kept.drewN | apply Kept.drew | refine Kept.setCell ?_ (.inr GW101.out) _) | exact HK.out)) hb)
  replace HB := b2s bs hb
  (try clear hb)
  (try clear hk)
  (try clear ho0)
  obtain ⟨Ao20, co20, eo20⟩ := Kd.R_slice HO116.out
  (first | subst eo20 | (injection eo20 with f1_ f2_ f3_; have f4_ := f1_.symm; have f5_ := f3_.symm; clear f1_ f2_ f3_; subst f4_; subst f5_))
  refine hK.out _ _ ⟨(blk_cell BK101.out 0).trans rfl, (blk_cell BK101.out 1).trans rfl, (blk_cell BK101.out 2).trans rfl, (blk_cell BK101.out 3).trans rfl, (blk_cell BK101.out 4).trans rfl, (blk_cell BK101.out 5).trans rfl, (blk_cell BK101.out 6).trans rfl, (blk_cell BK101.out 7).trans rfl, (blk_cell BK101.out 8).trans rfl⟩ (fun hHeld => ?_)
  clear hK K
  refine norm_ (a' := ?_) ?_ ?_; rotate_left; go_simp; rfl
  refine on HT_ 13 (fun K hK => ?_)
  refine gsG Try.func191 (spec_Put16.calls _ _ t114 0 t117 _ ?side1 ?side2 A8.out) ?_
  (case side1 => repeat (first | exact (Kd.R_reads' HO116.out).2.2 | (with_reducible refine Kd.C_alloc ?_ _) | (with_reducible refine Kd.C_drewN ?_ _) | (with_reducible refine Kd.C_drew ?_)))
  (case side2 => exact (Kd.R_reads' HO116.out).2.1)
  rintro e w21 ⟨v118, rfl, ho0, hb⟩
  refine ⟨_, rfl, ?_⟩
  have HO119 := ak (Kd.R_lower (Kd.R_new' (Kd.R_new' (Kd.R_new' (Kd.R_new' (Kd.R_newM (M := fun k_ => (P0_ k_ ∨ w.heap.size ≤ k_)) ho0 (by first | exact HK.out.1 | exact (show Kept w _ (fun k_ => P0_ k_) from by repeat (first | (with_reducible first | exact HK.out | apply Kept.alloc | apply Kept.drewN | apply Kept.drew | refine Kept.setCell ?_ (.inr GW101.out) _) | exact HK.out)).1) (fun k_ h_ => .inr h_)) (Kd.R_lt (rw_ HO107.out))) (Kd.R_lt (rw_ HO110.out))) (Kd.R_lt (rw_ HO113.out))) (Kd.R_lt (rw_ HO116.out))) (below_size bs))
  replace HO107 := ak (Kd.R_elder' (rw_ HO107.out) (Kd.R_base ho0) hb)
  replace HO110 := ak (Kd.R_elder' (rw_ HO110.out) (Kd.R_base ho0) hb)
  replace HO113 := ak (Kd.R_elder' (rw_ HO113.out) (Kd.R_base ho0) hb)
  replace HO116 := ak (Kd.R_elder' (rw_ HO116.out) (Kd.R_base ho0) hb)
  replace BK101 := b1 BK101 hb
  replace HK := ak (Kept.below (S := (fun k_ => P0_ k_)) (by repeat (first | (with_reducible first | exact HK.out | apply Kept.alloc | apply Kept.drewN | apply Kept.drew | refine Kept.setCell ?_ (.inr GW101.out) _) | exact HK.out)) hb)
  replace HB := b2s bs hb
  refine hK.out _ _ kp (fun hHeld => ?_)
  (try clear hb)
  (try clear hk)
  (try clear ho0)
  clear hK K
  refine norm_ (a' := ?_) ?_ ?_; rotate_left; go_simp; rfl
  refine pu HT_ 14 ?_
  refine done_ (done_of HT_.out (by kernel_rfl)) ?_
  try go_wp2
  go_ret
  exact ⟨_, o1, by (with_reducible repeat (first | apply Kd.R_alloc | apply Kd.R_drewN | apply Kd.R_drew)); exact Kd.R_mono HO119.out (fun _ hk => hk.1.1.1.1.1), bs, by repeat (first | (with_reducible first | exact HK.out | apply Kept.alloc | apply Kept.drewN | apply Kept.drew | refine Kept.setCell ?_ (.inr GW101.out) _) | exact HK.out)⟩
 ·replace H := bnd H
  obtain ⟨t102, A22, H⟩ := H
  obtain rfl := Option.some.inj H
  go_enter Try.func192, Try.ntmps192
  go_wp2_with (first | ((with_reducible refine gate_dst (N := 3) rfl ?_);refine bxe (N := 3) rfl ?_;intro gb101 hg w23 hbox hb;replace HO0 := ak (Kd.R_below (rw_ HO0.out) hb);have BK101 := ak (hbox);have GW101 := ak ((by rw [hg]; exact (by first | exact HK.out.1 | exact (show Kept w _ (fun k_ => P0_ k_) from by repeat (first | (with_reducible first | exact HK.out | apply Kept.alloc | apply Kept.drewN | apply Kept.drew) | exact HK.out)).1) : w.heap.size ≤ gb101));replace HK := ak (Kept.below (S := (fun k_ => P0_ k_)) (by repeat (first | (with_reducible first | exact HK.out | apply Kept.alloc | apply Kept.drewN | apply Kept.drew) | exact HK.out)) hb);have GE101 := ak ((by rw [hg]; exact (below_size (bw HB.out)) : w0.heap.size ≤ gb101));replace HB := b2 HB hb;clear hb hbox hg;obtain ⟨hcz24_0, hcz24_1, hcz24_2, hcz24_3, hcz24_4, hcz24_5, hcz24_6, hcz24_7, hcz24_8, hfz24_0, hfz24_1, hfz24_2, hfz24_3, hfz24_4, hfz24_5, hfz24_6, hfz24_7, hfz24_8⟩ := cells9 BK101.out;obtain ⟨Ao25, co25, eo25⟩ := Kd.R_slice HO0.out;subst eo25) | ((with_reducible refine gate_callee (f := 193) rfl ?_);refine glG 13 rfl rfl Try.func193 (spec_l3rr.calls (fun k_ => some k_ = (.slice Ao25 l0.length co25 : Value).ownBlock) (.slice Ao25 l0.length co25) l0 _ _ l1_0 a1_1 a1_2 a1_3 _ _ l1_4 _ _ l1_5 _ _ l1_6 a1_7 t102 w0 _ ?side1 ?side2 ?side3 HC1_0.out ?side5 HC1_4.out ?side7 HC1_5.out ?side9 HC1_6.out A22.out) ?_;(case side1 => repeat (first | (with_reducible first | exact HB.out | apply below_alloc | apply pw_below_drewN | apply below_drew1 | refine below_set ?_ GE101.out) | exact HB.out));(case side2 => exact Kd.R_tight rfl HO0.out);(case side3 => exact Kd.C_kept_call HR1_0.out (by repeat (first | (with_reducible first | exact HK.out | apply Kept.alloc | apply Kept.drewN | apply Kept.drew | refine Kept.setCell ?_ (.inr GW101.out) _) | exact HK.out)) (fun k_ hs_ => (fun e_ => (HO0.out.1 k_ e_.symm)) hs_));(case side5 => exact Kd.C_kept_call HR1_4.out (by repeat (first | (with_reducible first | exact HK.out | apply Kept.alloc | apply Kept.drewN | apply Kept.drew | refine Kept.setCell ?_ (.inr GW101.out) _) | exact HK.out)) (fun k_ hs_ => (fun e_ => (HO0.out.1 k_ e_.symm)) hs_));(case side7 => exact Kd.C_kept_call HR1_5.out (by repeat (first | (with_reducible first | exact HK.out | apply Kept.alloc | apply Kept.drewN | apply Kept.drew | refine Kept.setCell ?_ (.inr GW101.out) _) | exact HK.out)) (fun k_ hs_ => (fun e_ => (HO0.out.1 k_ e_.symm)) hs_));(case side9 => exact Kd.C_kept_call HR1_6.out (by repeat (first | (with_reducible first | exact HK.out | apply Kept.alloc | apply Kept.drewN | apply Kept.drew | refine Kept.setCell ?_ (.inr GW101.out) _) | exact HK.out)) (fun k_ hs_ => (fun e_ => (HO0.out.1 k_ e_.symm)) hs_));rintro e w26 ⟨v103, rfl, ho0, hb, hkp⟩;refine ⟨_, rfl, ?_⟩;replace BK101 := ak (blk_kept (bk BK101.out) hkp (fun hs_ => (fun e_ => (Kd.R_ne HO0.out BK101.out (by decide)) e_) hs_));have HO104 := ak (Kd.R_mono (ok' := fun k_ => (P0_ k_ ∨ w.heap.size ≤ k_)) ho0 (fun k_ hk_ => Or.elim hk_ (fun hs_ => (HO0.out.1 k_ (hs_).symm)) (fun hn_ => (.inr (Nat.le_trans (by first | exact HK.out.1 | exact (show Kept w _ (fun k_ => P0_ k_) from by repeat (first | (with_reducible first | exact HK.out | apply Kept.alloc | apply Kept.drewN | apply Kept.drew | refine Kept.setCell ?_ (.inr GW101.out) _) | exact HK.out)).1) hn_)))));replace HK := ak (Kept.then_ (S := (fun k_ => P0_ k_)) (by repeat (first | (with_reducible first | exact HK.out | apply Kept.alloc | apply Kept.drewN | apply Kept.drew | refine Kept.setCell ?_ (.inr GW101.out) _) | exact HK.out)) hkp (fun k_ hs_ => (fun e_ => (HO0.out.1 k_ e_.symm)) hs_));replace HB := ak (hb);clear HO0;(try clear hb);(try clear hkp);(try clear ho0)))
  go_ret
  exact ⟨_, o1, rw_ HO104.out, bs, by repeat (first | (with_reducible first | exact HK.out | apply Kept.alloc | apply Kept.drewN | apply Kept.drew | refine Kept.setCell ?_ (.inr GW101.out) _) | exact HK.out)⟩

/-! ### spec_l4bytes: function 127 -/
mutual
def spec_l4bytes.j0 : Nat → Int → Int → Bool → Int → Bool → Int → List (S200) → List (S33) → List (S33) → List (S33) → List (S205) → List (S205) → Option (List Int)
 | 0, _, _, _, _, _, _, _, _, _, _, _, _ => none
 | k + 1, x3, x102000, x102001, x102002, x102003, x102004, x102005, x102006, x102007, x102008, x102009, x102010 => if x102003 = true then (spec_l4bytes.j1 k (wrap64 (x3 + 1024)) x102000 x102001 x102002 x102003 x102004 x102005 x102006 x102007 x102008 x102009 x102010) else (spec_l4bytes.j1 k x3 x102000 x102001 x102002 x102003 x102004 x102005 x102006 x102007 x102008 x102009 x102010)
def spec_l4bytes.j1 : Nat → Int → Int → Bool → Int → Bool → Int → List (S200) → List (S33) → List (S33) → List (S33) → List (S205) → List (S205) → Option (List Int)
 | 0, _, _, _, _, _, _, _, _, _, _, _, _ => none
 | k + 1, x3, x102000, x102001, x102002, x102003, x102004, x102005, x102006, x102007, x102008, x102009, x102010 => if x102002 = 5 then (spec_l4bytes.j2 k x3 (x102009.length : Int) (x102010.length : Int) x102000 x102001 x102002 x102003 x102004 x102005 x102006 x102007 x102008 x102009 x102010) else (spec_l4bytes.j2 k x3 (x102006.length : Int) (x102007.length : Int) x102000 x102001 x102002 x102003 x102004 x102005 x102006 x102007 x102008 x102009 x102010)
def spec_l4bytes.j2 : Nat → Int → Int → Int → Int → Bool → Int → Bool → Int → List (S200) → List (S33) → List (S33) → List (S33) → List (S205) → List (S205) → Option (List Int)
 | 0, _, _, _, _, _, _, _, _, _, _, _, _, _, _ => none
 | k + 1, x3, x4, x5, x102000, x102001, x102002, x102003, x102004, x102005, x102006, x102007, x102008, x102009, x102010 => (spec_Put16.f ([] : List Int) x102000).bind fun t102 => ((spec_Put16.f t102 x3).bind fun t105 => ((spec_Put16.f t105 1).bind fun t108 => ((spec_Put16.f t108 x4).bind fun t111 => ((spec_Put16.f t111 x5).bind fun t114 => ((spec_Put16.f t114 (x102008.length : Int)).bind fun t117 => (if 0 < (x102005.length : Int) then ((spec_l2put.f t117 ((rd_T200 x102005 0).f0.f0)).bind fun t121 => ((spec_Put16.f t121 ((rd_T200 x102005 0).f1)).bind fun t125 => ((spec_Put16.f t125 1).bind fun t128 => (spec_l4bytes.l0 k t128 0 x102000 x102001 x102002 x102003 x102004 x102005 x102006 x102007 x102008 x102009 x102010)))) else (none)))))))
def spec_l4bytes.l0 : Nat → List Int → Int → Int → Bool → Int → Bool → Int → List (S200) → List (S33) → List (S33) → List (S33) → List (S205) → List (S205) → Option (List Int)
 | 0, _, _, _, _, _, _, _, _, _, _, _, _, _ => none
 | k + 1, x6, x7, x102000, x102001, x102002, x102003, x102004, x102005, x102006, x102007, x102008, x102009, x102010 => if x7 < (x102009.length : Int) then (if 0 ≤ x7 then ((spec_l4want.f x6 ((rd_T205 x102009 x7).f0.f0.f0) ((rd_T205 x102009 x7).f0.f1) ((rd_T205 x102009 x7).f0.f2) ((rd_T205 x102009 x7).f0.f3) ((rd_T205 x102009 x7).f0.f4.f0) ((rd_T205 x102009 x7).f0.f5) ((rd_T205 x102009 x7).f0.f6) ((rd_T205 x102009 x7).f1) ((rd_T205 x102009 x7).f2)).bind fun t132 => (spec_l4bytes.l0 k t132 (wrap64 (x7 + 1)) x102000 x102001 x102002 x102003 x102004 x102005 x102006 x102007 x102008 x102009 x102010)) else (none)) else (spec_l4bytes.l1 k x6 0 x102000 x102001 x102002 x102003 x102004 x102005 x102006 x102007 x102008 x102009 x102010)
def spec_l4bytes.l1 : Nat → List Int → Int → Int → Bool → Int → Bool → Int → List (S200) → List (S33) → List (S33) → List (S33) → List (S205) → List (S205) → Option (List Int)
 | 0, _, _, _, _, _, _, _, _, _, _, _, _, _ => none
 | k + 1, x6, x8, x102000, x102001, x102002, x102003, x102004, x102005, x102006, x102007, x102008, x102009, x102010 => if x8 < (x102010.length : Int) then (if 0 ≤ x8 then ((spec_l4want.f x6 ((rd_T205 x102010 x8).f0.f0.f0) ((rd_T205 x102010 x8).f0.f1) ((rd_T205 x102010 x8).f0.f2) ((rd_T205 x102010 x8).f0.f3) ((rd_T205 x102010 x8).f0.f4.f0) ((rd_T205 x102010 x8).f0.f5) ((rd_T205 x102010 x8).f0.f6) ((rd_T205 x102010 x8).f1) ((rd_T205 x102010 x8).f2)).bind fun t136 => (spec_l4bytes.l1 k t136 (wrap64 (x8 + 1)) x102000 x102001 x102002 x102003 x102004 x102005 x102006 x102007 x102008 x102009 x102010)) else (none)) else ((some (([] : List (S33)) : List (S33))).bind fun y139 => (if y139.length + x102006.length < 1172812402961 then ((some (y139 ++ x102006 : List (S33))).bind fun y142 => (if y142.length + x102007.length < 1172812402961 then ((some (y142 ++ x102007 : List (S33))).bind fun y145 => (if y145.length + x102008.length < 1172812402961 then (spec_l4bytes.l2 k x6 (y145 ++ x102008) 0) else (none))) else (none))) else (none)))
def spec_l4bytes.l2 : Nat → List Int → List (S33) → Int → Option (List Int)
 | 0, _, _, _ => none
 | k + 1, x6, x9, x10 => if x10 < (x9.length : Int) then (if 0 ≤ x10 then ((spec_l3rr.f x6 ((rd_T33 x9 x10).f0.f0) ((rd_T33 x9 x10).f1) ((rd_T33 x9 x10).f2) ((rd_T33 x9 x10).f3) ((rd_T33 x9 x10).f4.f0) ((rd_T33 x9 x10).f5) ((rd_T33 x9 x10).f6) 1).bind fun t152 => (spec_l4bytes.l2 k t152 x9 (wrap64 (x10 + 1)))) else (none)) else (some x6)
end
def spec_l4bytes.f (k : Nat) (a0_0 : Int) (a0_1 : Bool) (a0_2 : Int) (a0_3 : Bool) (a0_4 : Int) (l0_5 : List (S200)) (l0_6 : List (S33)) (l0_7 : List (S33)) (l0_8 : List (S33)) (l0_9 : List (S205)) (l0_10 : List (S205)) : Option (List Int) := if a0_1 = true then (spec_l4bytes.j0 k (wrap64 ((wrap64 ((wrap64 (a0_2 * 2048)) + a0_4)) + 32768)) a0_0 a0_1 a0_2 a0_3 a0_4 l0_5 l0_6 l0_7 l0_8 l0_9 l0_10) else (spec_l4bytes.j0 k (wrap64 ((wrap64 (a0_2 * 2048)) + a0_4)) a0_0 a0_1 a0_2 a0_3 a0_4 l0_5 l0_6 l0_7 l0_8 l0_9 l0_10)
def spec_l4bytes.T6 : Bool × List (List Nat × List Nat) := (true, [([], []), ([0], [0]), ([1], [1]), ([], []), ([3], [3]), ([4], [4]), ([2, 0, 1, 2], [2]), ([5, 6, 0, 1, 2, 3, 4, 5, 6], [5])])
def spec_l4bytes.B6 : List Nat := [0, 1, 3, 0, 8, 24, 7, 127]
theorem spec_l4bytes.tab6 : rtab .any (opsOf Try.f127 6) = spec_l4bytes.T6 := by kernel_rfl
theorem spec_l4bytes.bits6 : waitsOk spec_l4bytes.T6.2 spec_l4bytes.B6 = true := by kernel_rfl
def spec_l4bytes.T10 : Bool × List (List Nat × List Nat) := (true, [([], []), ([0], [0]), ([1], [1]), ([], []), ([2, 3, 2], [2, 3]), ([4, 4], [4]), ([], []), ([5, 6, 5], [5, 6]), ([], []), ([7, 8, 7], [7, 8]), ([], []), ([10], [10]), ([11], [11]), ([9, 12, 9], [9, 12]), ([13, 13, 0, 1, 2, 3, 4, 5, 6, 7, 8, 9, 10, 11, 12, 13], [13])])
def spec_l4bytes.B10 : List Nat := [0, 1, 3, 0, 15, 31, 0, 127, 0, 511, 0, 1024, 3072, 8191, 16383]
theorem spec_l4bytes.tab10 : rtab .any (opsOf Try.f127 10) = spec_l4bytes.T10 := by kernel_rfl
theorem spec_l4bytes.bits10 : waitsOk spec_l4bytes.T10.2 spec_l4bytes.B10 = true := by kernel_rfl
def spec_l4bytes.T11 : Bool × List (List Nat × List Nat) := (true, [([], []), ([], []), ([1], [1]), ([2], [2]), ([3], [3]), ([4], [4]), ([0, 5], [0, 5]), ([], []), ([7], [7]), ([8], [8]), ([9], [9]), ([10], [10]), ([6, 11, 6], [6, 11]), ([12, 12], [12]), ([13, 13, 0, 1, 2, 3, 4, 5, 6, 7, 8, 9, 10, 11, 12, 13], [0, 13])])
def spec_l4bytes.B11 : List Nat := [0, 0, 2, 6, 14, 30, 63, 0, 128, 384, 896, 1920, 4095, 8191, 16383]
theorem spec_l4bytes.tab11 : rtab .any (opsOf Try.f127 11) = spec_l4bytes.T11 := by kernel_rfl
theorem spec_l4bytes.bits11 : waitsOk spec_l4bytes.T11.2 spec_l4bytes.B11 = true := by kernel_rfl
def spec_l4bytes.T20 : Bool × List (List Nat × List Nat) := (true, [([], []), ([], []), ([1], [1]), ([0, 2], [0, 2]), ([], []), ([4], [4]), ([3, 5, 3], [3, 5]), ([], []), ([7], [7]), ([6, 8, 6], [6, 8]), ([9, 9, 0, 1, 2, 3, 4, 5, 6, 7, 8, 9], [9])])
def spec_l4bytes.B20 : List Nat := [0, 0, 2, 7, 0, 16, 63, 0, 128, 511, 1023]
theorem spec_l4bytes.tab20 : rtab .any (opsOf Try.f127 20) = spec_l4bytes.T20 := by kernel_rfl
theorem spec_l4bytes.bits20 : waitsOk spec_l4bytes.T20.2 spec_l4bytes.B20 = true := by kernel_rfl
set_option maxHeartbeats 8000000 in
set_option maxRecDepth 100000 in
theorem spec_l4bytes.calls (k : Nat) (a0_0 : Int) (a0_1 : Bool) (a0_2 : Int) (a0_3 : Bool) (a0_4 : Int) (A0_5 : Option Addr) (c0_5 : Nat) (l0_5 : List (S200)) (P0_6_ : Nat → Prop) (A0_6 : Option Addr) (c0_6 : Nat) (l0_6 : List (S33)) (P0_7_ : Nat → Prop) (A0_7 : Option Addr) (c0_7 : Nat) (l0_7 : List (S33)) (P0_8_ : Nat → Prop) (A0_8 : Option Addr) (c0_8 : Nat) (l0_8 : List (S33)) (A0_9 : Option Addr) (c0_9 : Nat) (l0_9 : List (S205)) (A0_10 : Option Addr) (c0_10 : Nat) (l0_10 : List (S205)) (r : List Int) (w : World) (hr0_5 : Kd.C k200 w A0_5 l0_5.length l0_5) (hc0_5 : l0_5.length ≤ c0_5) (hs0_6 : Kd.V k33 33 w w.heap.size (fun k_ => P0_6_ k_) (.slice A0_6 l0_6.length c0_6) l0_6) (hs0_7 : Kd.V k33 33 w w.heap.size (fun k_ => P0_7_ k_) (.slice A0_7 l0_7.length c0_7) l0_7) (hs0_8 : Kd.V k33 33 w w.heap.size (fun k_ => P0_8_ k_) (.slice A0_8 l0_8.length c0_8) l0_8) (hr0_9 : Kd.C k205 w A0_9 l0_9.length l0_9) (hc0_9 : l0_9.length ≤ c0_9) (hr0_10 : Kd.C k205 w A0_10 l0_10.length l0_10) (hc0_10 : l0_10.length ≤ c0_10) (h : spec_l4bytes.f k a0_0 a0_1 a0_2 a0_3 a0_4 l0_5 l0_6 l0_7 l0_8 l0_9 l0_10 = some r) :
  Calls Try.prog 127 #[.agg #[.int .i64 a0_0, .bool a0_1, .int .i64 a0_2, .bool a0_3, .int .i64 a0_4, .slice A0_5 l0_5.length c0_5, .slice A0_6 l0_6.length c0_6, .slice A0_7 l0_7.length c0_7, .slice A0_8 l0_8.length c0_8, .slice A0_9 l0_9.length c0_9, .slice A0_10 l0_10.length c0_10]] w fun e w' => ∃ v0_ : Value, e = .returned (v0_) ∧ Kd.R (Kd.int .u8) 5 w' w.heap.size (fun k_ => (w.heap.size ≤ k_)) v0_ r ∧ Below w.heap.size w w' := by
 have hu92 := Try.underlying92
 have hu31 := Try.underlying31
 have hu205 := Try.underlying205
 have hu33 := Try.underlying33
 have HR0_5 := ak hr0_5
 have HC0_5 := ak hc0_5
 clear hr0_5 hc0_5
 have HO0_6 := ak (show Kd.V k33 33 w w.heap.size (fun k_ => ((P0_6_ k_ ∨ P0_7_ k_ ∨ P0_8_ k_) ∨ w.heap.size ≤ k_)) (.slice A0_6 l0_6.length c0_6) l0_6 from Kd.V_mono hs0_6 (fun k_ hk => .inl (.inl hk)))
 have HO0_7 := ak (show Kd.V k33 33 w w.heap.size (fun k_ => ((P0_6_ k_ ∨ P0_7_ k_ ∨ P0_8_ k_) ∨ w.heap.size ≤ k_)) (.slice A0_7 l0_7.length c0_7) l0_7 from Kd.V_mono hs0_7 (fun k_ hk => .inl (.inr (.inl hk))))
 have HO0_8 := ak (show Kd.V k33 33 w w.heap.size (fun k_ => ((P0_6_ k_ ∨ P0_7_ k_ ∨ P0_8_ k_) ∨ w.heap.size ≤ k_)) (.slice A0_8 l0_8.length c0_8) l0_8 from Kd.V_mono hs0_8 (fun k_ hk => .inl (.inr (.inr hk))))
 have HR0_9 := ak hr0_9
 have HC0_9 := ak hc0_9
 clear hr0_9 hc0_9
 have HR0_10 := ak hr0_10
 have HC0_10 := ak hc0_10
 clear hr0_10 hc0_10
 have HB := ak (Below.refl w.heap.size w)
 have H : (if a0_1 = true then (spec_l4bytes.j0 k (wrap64 ((wrap64 ((wrap64 (a0_2 * 2048)) + a0_4)) + 32768)) a0_0 a0_1 a0_2 a0_3 a0_4 l0_5 l0_6 l0_7 l0_8 l0_9 l0_10) else (spec_l4bytes.j0 k (wrap64 ((wrap64 (a0_2 * 2048)) + a0_4)) a0_0 a0_1 a0_2 a0_3 a0_4 l0_5 l0_6 l0_7 l0_8 l0_9 l0_10)) = some r := h
 clear h
 have HC2 := ak H
 clear H
 go_enter Try.func127, Try.ntmps127
 go_upto_if 18 with (((with_reducible refine gate_dst (N := 1) rfl ?_);refine bxe (N := 1) rfl ?_;intro gb101 hg w3 hbox hb;replace HO0_6 := ak (Kd.V_below (Kd.V_elderB (vw HO0_6.out) gb101 (Nat.le_of_eq hg.symm)) hb);replace HO0_7 := ak (Kd.V_below (Kd.V_elderB (vw HO0_7.out) gb101 (Nat.le_of_eq hg.symm)) hb);replace HO0_8 := ak (Kd.V_below (Kd.V_elderB (vw HO0_8.out) gb101 (Nat.le_of_eq hg.symm)) hb);have BK101 := ak (hbox);have GW101 := b3 hg HB;have GE101 := GW101;replace HB := b2 HB hb;clear hb hbox hg;obtain ⟨hcz4_0, hcz4_1, hcz4_2, hcz4_3, hcz4_4, hcz4_5, hcz4_6, hcz4_7, hcz4_8, hcz4_9, hcz4_10, hfz4_0, hfz4_1, hfz4_2, hfz4_3, hfz4_4, hfz4_5, hfz4_6, hfz4_7, hfz4_8, hfz4_9, hfz4_10⟩ := cells11 BK101.out))
 (try simp only [Act.put, List.setIfInBounds_toArray, List.set_cons_zero, List.set_cons_succ])
 go_cut [3] (fun v3 wc => ∃ (kq : Nat) (x3_1 : Int), v3 = .int .i64 x3_1 ∧ Aside0 (spec_l4bytes.j0 kq x3_1 a0_0 a0_1 a0_2 a0_3 a0_4 l0_5 l0_6 l0_7 l0_8 l0_9 l0_10 = some r) ∧ Aside0 (kq ≤ k) ∧ Aside0 (Kd.V k33 33 wc w.heap.size (fun k_ => ((P0_6_ k_ ∨ P0_7_ k_ ∨ P0_8_ k_) ∨ w.heap.size ≤ k_) ∧ k_ ≠ gb101) (.slice A0_6 l0_6.length c0_6) l0_6) ∧ Aside0 (Kd.V k33 33 wc w.heap.size (fun k_ => ((P0_6_ k_ ∨ P0_7_ k_ ∨ P0_8_ k_) ∨ w.heap.size ≤ k_) ∧ k_ ≠ gb101) (.slice A0_7 l0_7.length c0_7) l0_7) ∧ Aside0 (Kd.V k33 33 wc w.heap.size (fun k_ => ((P0_6_ k_ ∨ P0_7_ k_ ∨ P0_8_ k_) ∨ w.heap.size ≤ k_) ∧ k_ ≠ gb101) (.slice A0_8 l0_8.length c0_8) l0_8) ∧ Aside0 (wc.heap[gb101]? = some (.cells #[.int .i64 a0_0, .bool a0_1, .int .i64 a0_2, .bool a0_3, .int .i64 a0_4, (.slice A0_5 l0_5.length c0_5), (.slice A0_6 l0_6.length c0_6), (.slice A0_7 l0_7.length c0_7), (.slice A0_8 l0_8.length c0_8), (.slice A0_9 l0_9.length c0_9), (.slice A0_10 l0_10.length c0_10)] 92 (0, 0))) ∧ Aside0 (Below w.heap.size w wc))
 case first =>
  have H := HC2.out
  clear HC2
  replace H := ib H
  obtain ⟨rfl, H⟩ | ⟨rfl, H⟩ := H
  ·have H' := ak H
   clear H
   go_wp2
   go_meet
   case rel => exact ⟨_, (wrap64 ((wrap64 ((wrap64 (a0_2 * 2048)) + a0_4)) + 32768)), o2, H', ⟨o3⟩, ⟨by (with_reducible repeat (first | apply Kd.V_alloc | apply Kd.V_drewN | apply Kd.V_drew)); exact HO0_6.out⟩, ⟨by (with_reducible repeat (first | apply Kd.V_alloc | apply Kd.V_drewN | apply Kd.V_drew)); exact HO0_7.out⟩, ⟨by (with_reducible repeat (first | apply Kd.V_alloc | apply Kd.V_drewN | apply Kd.V_drew)); exact HO0_8.out⟩, ⟨bk BK101.out⟩, ⟨bs⟩⟩
  ·have H' := ak H
   clear H
   go_wp2
   go_meet
   case rel => exact ⟨_, (wrap64 ((wrap64 (a0_2 * 2048)) + a0_4)), o2, H', ⟨o3⟩, ⟨by (with_reducible repeat (first | apply Kd.V_alloc | apply Kd.V_drewN | apply Kd.V_drew)); exact HO0_6.out⟩, ⟨by (with_reducible repeat (first | apply Kd.V_alloc | apply Kd.V_drewN | apply Kd.V_drew)); exact HO0_7.out⟩, ⟨by (with_reducible repeat (first | apply Kd.V_alloc | apply Kd.V_drewN | apply Kd.V_drew)); exact HO0_8.out⟩, ⟨bk BK101.out⟩, ⟨bs⟩⟩
 case rest =>
  clear HC2
  (try clear hcz4_0)
  (try clear hcz4_1)
  (try clear hcz4_10)
  (try clear hcz4_2)
  (try clear hcz4_3)
  (try clear hcz4_4)
  (try clear hcz4_5)
  (try clear hcz4_6)
  (try clear hcz4_7)
  (try clear hcz4_8)
  (try clear hcz4_9)
  (try clear hfz4_0)
  (try clear hfz4_1)
  (try clear hfz4_10)
  (try clear hfz4_2)
  (try clear hfz4_3)
  (try clear hfz4_4)
  (try clear hfz4_5)
  (try clear hfz4_6)
  (try clear hfz4_7)
  (try clear hfz4_8)
  (try clear hfz4_9)
  obtain ⟨kq, x3_1, rfl, HA, HJ1, HO_102006, HO_102007, HO_102008, BK101, HB⟩ := hcut
  cases kq with
  | zero => exact absurd HA.out (by simp [spec_l4bytes.j0])
  | succ kj1 =>
   have H := HA.out
   clear HA
   simp only [spec_l4bytes.j0] at H
   have HC6 := ak H
   clear H
   obtain ⟨hcz7_0, hcz7_1, hcz7_2, hcz7_3, hcz7_4, hcz7_5, hcz7_6, hcz7_7, hcz7_8, hcz7_9, hcz7_10, hfz7_0, hfz7_1, hfz7_2, hfz7_3, hfz7_4, hfz7_5, hfz7_6, hfz7_7, hfz7_8, hfz7_9, hfz7_10⟩ := cells11 BK101.out
   go_upto_if 22 with (fail)
   go_cut [3] (fun v3 wc => ∃ (kq : Nat) (x3_5 : Int), v3 = .int .i64 x3_5 ∧ Aside0 (spec_l4bytes.j1 kq x3_5 a0_0 a0_1 a0_2 a0_3 a0_4 l0_5 l0_6 l0_7 l0_8 l0_9 l0_10 = some r) ∧ Aside0 (kq ≤ kj1) ∧ Aside0 (Kd.V k33 33 wc w.heap.size (fun k_ => ((P0_6_ k_ ∨ P0_7_ k_ ∨ P0_8_ k_) ∨ w.heap.size ≤ k_) ∧ k_ ≠ gb101) (.slice A0_6 l0_6.length c0_6) l0_6) ∧ Aside0 (Kd.V k33 33 wc w.heap.size (fun k_ => ((P0_6_ k_ ∨ P0_7_ k_ ∨ P0_8_ k_) ∨ w.heap.size ≤ k_) ∧ k_ ≠ gb101) (.slice A0_7 l0_7.length c0_7) l0_7) ∧ Aside0 (Kd.V k33 33 wc w.heap.size (fun k_ => ((P0_6_ k_ ∨ P0_7_ k_ ∨ P0_8_ k_) ∨ w.heap.size ≤ k_) ∧ k_ ≠ gb101) (.slice A0_8 l0_8.length c0_8) l0_8) ∧ Aside0 (wc.heap[gb101]? = some (.cells #[.int .i64 a0_0, .bool a0_1, .int .i64 a0_2, .bool a0_3, .int .i64 a0_4, (.slice A0_5 l0_5.length c0_5), (.slice A0_6 l0_6.length c0_6), (.slice A0_7 l0_7.length c0_7), (.slice A0_8 l0_8.length c0_8), (.slice A0_9 l0_9.length c0_9), (.slice A0_10 l0_10.length c0_10)] 92 (0, 0))) ∧ Aside0 (Below w.heap.size w wc))
   case first =>
    have H := HC6.out
    clear HC6
    replace H := ib H
    obtain ⟨rfl, H⟩ | ⟨rfl, H⟩ := H
    ·have H' := ak H
     clear H
     go_wp2
     go_meet
     case rel => exact ⟨_, (wrap64 (x3_1 + 1024)), o2, H', ⟨by have := HJ1.out; first | omega | exact Nat.le_refl _⟩, ⟨by (with_reducible repeat (first | apply Kd.V_alloc | apply Kd.V_drewN | apply Kd.V_drew)); exact HO_102006.out⟩, ⟨by (with_reducible repeat (first | apply Kd.V_alloc | apply Kd.V_drewN | apply Kd.V_drew)); exact HO_102007.out⟩, ⟨by (with_reducible repeat (first | apply Kd.V_alloc | apply Kd.V_drewN | apply Kd.V_drew)); exact HO_102008.out⟩, ⟨bk BK101.out⟩, ⟨bs⟩⟩
    ·have H' := ak H
     clear H
     go_wp2
     go_meet
     case rel => exact ⟨_, (x3_1), o2, H', ⟨by have := HJ1.out; first | omega | exact Nat.le_refl _⟩, ⟨by (with_reducible repeat (first | apply Kd.V_alloc | apply Kd.V_drewN | apply Kd.V_drew)); exact HO_102006.out⟩, ⟨by (with_reducible repeat (first | apply Kd.V_alloc | apply Kd.V_drewN | apply Kd.V_drew)); exact HO_102007.out⟩, ⟨by (with_reducible repeat (first | apply Kd.V_alloc | apply Kd.V_drewN | apply Kd.V_drew)); exact HO_102008.out⟩, ⟨bk BK101.out⟩, ⟨bs⟩⟩
   case rest =>
    clear HC6
    (try clear hcz4_0)
    (try clear hcz4_1)
    (try clear hcz4_10)
    (try clear hcz4_2)
    (try clear hcz4_3)
    (try clear hcz4_4)
    (try clear hcz4_5)
    (try clear hcz4_6)
    (try clear hcz4_7)
    (try clear hcz4_8)
    (try clear hcz4_9)
    (try clear hcz7_0)
    (try clear hcz7_1)
    (try clear hcz7_10)
    (try clear hcz7_2)
    (try clear hcz7_3)
    (try clear hcz7_4)
    (try clear hcz7_5)
    (try clear hcz7_6)
    (try clear hcz7_7)
    (try clear hcz7_8)
    (try clear hcz7_9)
    (try clear hfz4_0)
    (try clear hfz4_1)
    (try clear hfz4_10)
    (try clear hfz4_2)
    (try clear hfz4_3)
    (try clear hfz4_4)
    (try clear hfz4_5)
    (try clear hfz4_6)
    (try clear hfz4_7)
    (try clear hfz4_8)
    (try clear hfz4_9)
    (try clear hfz7_0)
    (try clear hfz7_1)
    (try clear hfz7_10)
    (try clear hfz7_2)
    (try clear hfz7_3)
    (try clear hfz7_4)
    (try clear hfz7_5)
    (try clear hfz7_6)
    (try clear hfz7_7)
    (try clear hfz7_8)
    (try clear hfz7_9)
    obtain ⟨kq, x3_5, rfl, HA, HJ5, HO_102006, HO_102007, HO_102008, BK101, HB⟩ := hcut
    cases kq with
    | zero => exact absurd HA.out (by simp [spec_l4bytes.j1])
    | succ kj5 =>
     have H := HA.out
     clear HA
     simp only [spec_l4bytes.j1] at H
     have HC9 := ak H
     clear H
     try go_wp2
     replace HO_102006 := ak (Kd.V_drew HO_102006.out)
     replace HO_102007 := ak (Kd.V_drew HO_102007.out)
     replace HO_102008 := ak (Kd.V_drew HO_102008.out)
     replace BK101 := ak (blk_drew BK101.out)
     replace HB := ak (below_drew1 HB.out)
     refine start_ (n := 8) (S := fun w' => w'.cell? ⟨gb101, 0, none⟩ = some (.int .i64 a0_0) ∧ w'.cell? ⟨gb101, 1, none⟩ = some (.bool a0_1) ∧ w'.cell? ⟨gb101, 2, none⟩ = some (.int .i64 a0_2) ∧ w'.cell? ⟨gb101, 3, none⟩ = some (.bool a0_3) ∧ w'.cell? ⟨gb101, 4, none⟩ = some (.int .i64 a0_4) ∧ w'.cell? ⟨gb101, 5, none⟩ = some (.slice A0_5 l0_5.length c0_5) ∧ w'.cell? ⟨gb101, 6, none⟩ = some (.slice A0_6 l0_6.length c0_6) ∧ w'.cell? ⟨gb101, 7, none⟩ = some (.slice A0_7 l0_7.length c0_7) ∧ w'.cell? ⟨gb101, 8, none⟩ = some (.slice A0_8 l0_8.length c0_8) ∧ w'.cell? ⟨gb101, 9, none⟩ = some (.slice A0_9 l0_9.length c0_9) ∧ w'.cell? ⟨gb101, 10, none⟩ = some (.slice A0_10 l0_10.length c0_10)) (ds := []) (bA 8 0) (by kernel_rfl) rfl rfl kq (fun hHeld => ?_); refine with_tabW spec_l4bytes.tab6 spec_l4bytes.bits6 (fun HT_ HW_ => ?_)
     generalize wc.drew = w10 at HO_102006 HO_102007 HO_102008 BK101 HB hHeld ⊢
     refine pu HT_ 0 ?_
     refine pu HT_ 3 ?_
     refine ta HT_ HW_ hHeld 1 ?_
     refine pu HT_ 2 ?_
     refine pu HT_ 6 ?_
     refine ta HT_ HW_ hHeld 4 ?_
     refine pu HT_ 5 ?_
     refine pu HT_ 7 ?_
     refine done_ (done_of HT_.out (by kernel_rfl)) ?_
     obtain ⟨hcz11_0, hcz11_1, hcz11_2, hcz11_3, hcz11_4, hcz11_5, hcz11_6, hcz11_7, hcz11_8, hcz11_9, hcz11_10, hfz11_0, hfz11_1, hfz11_2, hfz11_3, hfz11_4, hfz11_5, hfz11_6, hfz11_7, hfz11_8, hfz11_9, hfz11_10⟩ := cells11 BK101.out
     go_upto_if 33 with (fail)
     go_cut [4, 5] (fun v4 v5 wc => ∃ (kq : Nat) (x4_8 : Int) (x5_8 : Int), v4 = .int .i64 x4_8 ∧ v5 = .int .i64 x5_8 ∧ Aside0 (spec_l4bytes.j2 kq x3_5 x4_8 x5_8 a0_0 a0_1 a0_2 a0_3 a0_4 l0_5 l0_6 l0_7 l0_8 l0_9 l0_10 = some r) ∧ Aside0 (kq ≤ kj5) ∧ Aside0 (Kd.V k33 33 wc w.heap.size (fun k_ => ((P0_6_ k_ ∨ P0_7_ k_ ∨ P0_8_ k_) ∨ w.heap.size ≤ k_) ∧ k_ ≠ gb101) (.slice A0_6 l0_6.length c0_6) l0_6) ∧ Aside0 (Kd.V k33 33 wc w.heap.size (fun k_ => ((P0_6_ k_ ∨ P0_7_ k_ ∨ P0_8_ k_) ∨ w.heap.size ≤ k_) ∧ k_ ≠ gb101) (.slice A0_7 l0_7.length c0_7) l0_7) ∧ Aside0 (Kd.V k33 33 wc w.heap.size (fun k_ => ((P0_6_ k_ ∨ P0_7_ k_ ∨ P0_8_ k_) ∨ w.heap.size ≤ k_) ∧ k_ ≠ gb101) (.slice A0_8 l0_8.length c0_8) l0_8) ∧ Aside0 (wc.heap[gb101]? = some (.cells #[.int .i64 a0_0, .bool a0_1, .int .i64 a0_2, .bool a0_3, .int .i64 a0_4, (.slice A0_5 l0_5.length c0_5), (.slice A0_6 l0_6.length c0_6), (.slice A0_7 l0_7.length c0_7), (.slice A0_8 l0_8.length c0_8), (.slice A0_9 l0_9.length c0_9), (.slice A0_10 l0_10.length c0_10)] 92 (0, 0))) ∧ Aside0 (Below w.heap.size w wc))
     case first =>
      have H := HC9.out
      clear HC9
      replace H := ie H
      obtain ⟨c12b0, c12b1, H⟩ | ⟨c12b0, c12b1, H⟩ := H
      ·(first | rw [c12b0] | (simp only [i64_w, i32_w]; rw [c12b0]) | skip)
       have H' := ak H
       clear H
       obtain ⟨hcz13_0, hcz13_1, hcz13_2, hcz13_3, hcz13_4, hcz13_5, hcz13_6, hcz13_7, hcz13_8, hcz13_9, hcz13_10, hfz13_0, hfz13_1, hfz13_2, hfz13_3, hfz13_4, hfz13_5, hfz13_6, hfz13_7, hfz13_8, hfz13_9, hfz13_10⟩ := cells11 BK101.out
       go_wp2
       go_meet
       case rel => exact ⟨_, ((l0_9.length : Int)), ((l0_10.length : Int)), o2, o2, H', ⟨by have := HJ1.out; have := HJ5.out; first | omega | exact Nat.le_refl _⟩, ⟨by (with_reducible repeat (first | apply Kd.V_alloc | apply Kd.V_drewN | apply Kd.V_drew)); exact HO_102006.out⟩, ⟨by (with_reducible repeat (first | apply Kd.V_alloc | apply Kd.V_drewN | apply Kd.V_drew)); exact HO_102007.out⟩, ⟨by (with_reducible repeat (first | apply Kd.V_alloc | apply Kd.V_drewN | apply Kd.V_drew)); exact HO_102008.out⟩, ⟨bk BK101.out⟩, ⟨bs⟩⟩
      ·(first | rw [c12b0] | (simp only [i64_w, i32_w]; rw [c12b0]) | skip)
       have H' := ak H
       clear H
       go_wp2
       go_meet
       case rel => exact ⟨_, ((l0_6.length : Int)), ((l0_7.length : Int)), o2, o2, H', ⟨by have := HJ1.out; have := HJ5.out; first | omega | exact Nat.le_refl _⟩, ⟨by (with_reducible repeat (first | apply Kd.V_alloc | apply Kd.V_drewN | apply Kd.V_drew)); exact HO_102006.out⟩, ⟨by (with_reducible repeat (first | apply Kd.V_alloc | apply Kd.V_drewN | apply Kd.V_drew)); exact HO_102007.out⟩, ⟨by (with_reducible repeat (first | apply Kd.V_alloc | apply Kd.V_drewN | apply Kd.V_drew)); exact HO_102008.out⟩, ⟨bk BK101.out⟩, ⟨bs⟩⟩
     case rest =>
      clear HC9
      (try clear hcz11_0)
      (try clear hcz11_1)
      (try clear hcz11_10)
      (try clear hcz11_2)
      (try clear hcz11_3)
      (try clear hcz11_4)
      (try clear hcz11_5)
      (try clear hcz11_6)
      (try clear hcz11_7)
      (try clear hcz11_8)
      (try clear hcz11_9)
      (try clear hcz4_0)
      (try clear hcz4_1)
      (try clear hcz4_10)
      (try clear hcz4_2)
      (try clear hcz4_3)
      (try clear hcz4_4)
      (try clear hcz4_5)
      (try clear hcz4_6)
      (try clear hcz4_7)
      (try clear hcz4_8)
      (try clear hcz4_9)
      (try clear hcz7_0)
      (try clear hcz7_1)
      (try clear hcz7_10)
      (try clear hcz7_2)
      (try clear hcz7_3)
      (try clear hcz7_4)
      (try clear hcz7_5)
      (try clear hcz7_6)
      (try clear hcz7_7)
      (try clear hcz7_8)
      (try clear hcz7_9)
      (try clear hfz11_0)
      (try clear hfz11_1)
      (try clear hfz11_10)
      (try clear hfz11_2)
      (try clear hfz11_3)
      (try clear hfz11_4)
      (try clear hfz11_5)
      (try clear hfz11_6)
      (try clear hfz11_7)
      (try clear hfz11_8)
      (try clear hfz11_9)
      (try clear hfz4_0)
      (try clear hfz4_1)
      (try clear hfz4_10)
      (try clear hfz4_2)
      (try clear hfz4_3)
      (try clear hfz4_4)
      (try clear hfz4_5)
      (try clear hfz4_6)
      (try clear hfz4_7)
      (try clear hfz4_8)
      (try clear hfz4_9)
      (try clear hfz7_0)
      (try clear hfz7_1)
      (try clear hfz7_10)
      (try clear hfz7_2)
      (try clear hfz7_3)
      (try clear hfz7_4)
      (try clear hfz7_5)
      (try clear hfz7_6)
      (try clear hfz7_7)
      (try clear hfz7_8)
      (try clear hfz7_9)
      obtain ⟨kq, x4_8, x5_8, rfl, rfl, HA, HJ8, HO_102006, HO_102007, HO_102008, BK101, HB⟩ := hcut
      cases kq with
      | zero => exact absurd HA.out (by simp [spec_l4bytes.j2])
      | succ kj8 =>
       have H := HA.out
       clear HA
       simp only [spec_l4bytes.j2] at H
       replace H := bnd H
       obtain ⟨t102, A14, H⟩ := H
       replace H := bnd H
       obtain ⟨t105, A15, H⟩ := H
       replace H := bnd H
       obtain ⟨t108, A16, H⟩ := H
       replace H := bnd H
       obtain ⟨t111, A17, H⟩ := H
       replace H := bnd H
       obtain ⟨t114, A18, H⟩ := H
       replace H := bnd H
       obtain ⟨t117, A19, H⟩ := H
       replace H := ipN H
       obtain ⟨c20b0, H⟩ := H
       have c20b1 : decide (0 < l0_5.length) = true := decide_eq_true (by have := of_decide_eq_true c20b0; omega)
       replace H := bnd H
       obtain ⟨t121, A21, H⟩ := H
       replace H := bnd H
       obtain ⟨t125, A22, H⟩ := H
       replace H := bnd H
       obtain ⟨t128, A23, H⟩ := H
       have H' := ak H
       clear H
       try go_wp2
       replace HO_102006 := ak (Kd.V_drew HO_102006.out)
       replace HO_102007 := ak (Kd.V_drew HO_102007.out)
       replace HO_102008 := ak (Kd.V_drew HO_102008.out)
       replace BK101 := ak (blk_drew BK101.out)
       replace HB := ak (below_drew1 HB.out)
       refine start_ (n := 15) (S := fun w' => w'.cell? ⟨gb101, 0, none⟩ = some (.int .i64 a0_0) ∧ w'.cell? ⟨gb101, 1, none⟩ = some (.bool a0_1) ∧ w'.cell? ⟨gb101, 2, none⟩ = some (.int .i64 a0_2) ∧ w'.cell? ⟨gb101, 3, none⟩ = some (.bool a0_3) ∧ w'.cell? ⟨gb101, 4, none⟩ = some (.int .i64 a0_4) ∧ w'.cell? ⟨gb101, 5, none⟩ = some (.slice A0_5 l0_5.length c0_5) ∧ w'.cell? ⟨gb101, 6, none⟩ = some (.slice A0_6 l0_6.length c0_6) ∧ w'.cell? ⟨gb101, 7, none⟩ = some (.slice A0_7 l0_7.length c0_7) ∧ w'.cell? ⟨gb101, 8, none⟩ = some (.slice A0_8 l0_8.length c0_8) ∧ w'.cell? ⟨gb101, 9, none⟩ = some (.slice A0_9 l0_9.length c0_9) ∧ w'.cell? ⟨gb101, 10, none⟩ = some (.slice A0_10 l0_10.length c0_10)) (ds := []) (bA 15 0) (by kernel_rfl) rfl rfl kq (fun hHeld => ?_); refine with_tabW spec_l4bytes.tab10 spec_l4bytes.bits10 (fun HT_ HW_ => ?_)
       generalize wc.drew = w24 at HO_102006 HO_102007 HO_102008 BK101 HB hHeld ⊢
       refine pu HT_ 0 ?_
       refine pu HT_ 3 ?_
       refine pu HT_ 6 ?_
       refine pu HT_ 8 ?_
       refine pu HT_ 10 ?_
       refine ta HT_ HW_ hHeld 1 ?_
       refine ta HT_ HW_ hHeld 11 ?_
       refine pu HT_ 12 ?_
       refine on HT_ 2 (fun K hK => ?_)
       refine goes_ Try.func191 (by kernel_rfl) rfl #[.slice none 0 0, .int .i64 a0_0] (by rfl) rfl rfl (by (try simp only [List.map_toArray, List.map_cons, List.map_nil]); first | done | rfl | (simp only [List.length_drop, List.length_take]; rfl)) ?_
       refine (spec_Put16.calls _ _ ([] : List Int) a0_0 t102 _ ?side1 ?side2 A14.out).mono ?_
       (case side1 => exact Kd.C_nil _ _)
       (case side2 => exact Nat.le_refl _)
       rintro e w25 ⟨v103, rfl, ho0, hb⟩
       refine ⟨_, rfl, ?_⟩
       replace HO_102006 := ak (Kd.V_elder' (vw HO_102006.out) (Kd.R_base ho0) hb)
       replace HO_102007 := ak (Kd.V_elder' (vw HO_102007.out) (Kd.R_base ho0) hb)
       replace HO_102008 := ak (Kd.V_elder' (vw HO_102008.out) (Kd.R_base ho0) hb)
       have HO104 := ak (Kd.R_lower (Kd.R_newM (M := fun k_ => (w.heap.size ≤ k_)) ho0 (below_size bs) (fun k_ h_ => h_)) (below_size bs))
       replace BK101 := b1 BK101 hb
       replace HB := b2s bs hb
       (try clear hb)
       (try clear hk)
       (try clear ho0)
       obtain ⟨Ao26, co26, eo26⟩ := Kd.R_slice HO104.out
       (first | subst eo26 | (injection eo26 with f1_ f2_ f3_; have f4_ := f1_.symm; have f5_ := f3_.symm; clear f1_ f2_ f3_; subst f4_; subst f5_))
       refine hK.out _ _ ⟨(blk_cell BK101.out 0).trans rfl, (blk_cell BK101.out 1).trans rfl, (blk_cell BK101.out 2).trans rfl, (blk_cell BK101.out 3).trans rfl, (blk_cell BK101.out 4).trans rfl, (blk_cell BK101.out 5).trans rfl, (blk_cell BK101.out 6).trans rfl, (blk_cell BK101.out 7).trans rfl, (blk_cell BK101.out 8).trans rfl, (blk_cell BK101.out 9).trans rfl, (blk_cell BK101.out 10).trans rfl⟩ (fun hHeld => ?_)
       clear hK K
       refine norm_ (a' := ?_) ?_ ?_; rotate_left; go_simp; rfl
       refine on HT_ 4 (fun K hK => ?_)
       refine gsG Try.func191 (spec_Put16.calls _ _ t102 x3_5 t105 _ ?side1 ?side2 A15.out) ?_
       (case side1 => repeat (first | exact (Kd.R_reads' HO104.out).2.2 | (with_reducible refine Kd.C_alloc ?_ _) | (with_reducible refine Kd.C_drewN ?_ _) | (with_reducible refine Kd.C_drew ?_)))
       (case side2 => exact (Kd.R_reads' HO104.out).2.1)
       rintro e w27 ⟨v106, rfl, ho0, hb⟩
       refine ⟨_, rfl, ?_⟩
       replace HO_102006 := ak (Kd.V_elder' (vw HO_102006.out) (Kd.R_base ho0) hb)
       replace HO_102007 := ak (Kd.V_elder' (vw HO_102007.out) (Kd.R_base ho0) hb)
       replace HO_102008 := ak (Kd.V_elder' (vw HO_102008.out) (Kd.R_base ho0) hb)
       have HO107 := ak (Kd.R_lower (Kd.R_new' (Kd.R_newM (M := fun k_ => (w.heap.size ≤ k_)) ho0 (below_size bs) (fun k_ h_ => h_)) (Kd.R_lt (rw_ HO104.out))) (below_size bs))
       replace HO104 := ak (Kd.R_elder' (rw_ HO104.out) (Kd.R_base ho0) hb)
       replace BK101 := b1 BK101 hb
       replace HB := b2s bs hb
       (try clear hb)
       (try clear hk)
       (try clear ho0)
       obtain ⟨Ao28, co28, eo28⟩ := Kd.R_slice HO107.out
       (first | subst eo28 | (injection eo28 with f1_ f2_ f3_; have f4_ := f1_.symm; have f5_ := f3_.symm; clear f1_ f2_ f3_; subst f4_; subst f5_))
       refine hK.out _ _ ⟨(blk_cell BK101.out 0).trans rfl, (blk_cell BK101.out 1).trans rfl, (blk_cell BK101.out 2).trans rfl, (blk_cell BK101.out 3).trans rfl, (blk_cell BK101.out 4).trans rfl, (blk_cell BK101.out 5).trans rfl, (blk_cell BK101.out 6).trans rfl, (blk_cell BK101.out 7).trans rfl, (blk_cell BK101.out 8).trans rfl, (blk_cell BK101.out 9).trans rfl, (blk_cell BK101.out 10).trans rfl⟩ (fun hHeld => ?_)
       clear hK K
       refine norm_ (a' := ?_) ?_ ?_; rotate_left; go_simp; rfl
       refine on HT_ 5 (fun K hK => ?_)
       refine gsG Try.func191 (spec_Put16.calls _ _ t105 1 t108 _ ?side1 ?side2 A16.out) ?_
       (case side1 => repeat (first | exact (Kd.R_reads' HO107.out).2.2 | (with_reducible refine Kd.C_alloc ?_ _) | (with_reducible refine Kd.C_drewN ?_ _) | (with_reducible refine Kd.C_drew ?_)))
       (case side2 => exact (Kd.R_reads' HO107.out).2.1)
       rintro e w29 ⟨v109, rfl, ho0, hb⟩
       refine ⟨_, rfl, ?_⟩
       replace HO_102006 := ak (Kd.V_elder' (vw HO_102006.out) (Kd.R_base ho0) hb)
       replace HO_102007 := ak (Kd.V_elder' (vw HO_102007.out) (Kd.R_base ho0) hb)
       replace HO_102008 := ak (Kd.V_elder' (vw HO_102008.out) (Kd.R_base ho0) hb)
       have HO110 := ak (Kd.R_lower (Kd.R_new' (Kd.R_new' (Kd.R_newM (M := fun k_ => (w.heap.size ≤ k_)) ho0 (below_size bs) (fun k_ h_ => h_)) (Kd.R_lt (rw_ HO104.out))) (Kd.R_lt (rw_ HO107.out))) (below_size bs))
       replace HO104 := ak (Kd.R_elder' (rw_ HO104.out) (Kd.R_base ho0) hb)
       replace HO107 := ak (Kd.R_elder' (rw_ HO107.out) (Kd.R_base ho0) hb)
       replace BK101 := b1 BK101 hb
       replace HB := b2s bs hb
       (try clear hb)
       (try clear hk)
       (try clear ho0)
       obtain ⟨Ao30, co30, eo30⟩ := Kd.R_slice HO110.out
       (first | subst eo30 | (injection eo30 with f1_ f2_ f3_; have f4_ := f1_.symm; have f5_ := f3_.symm; clear f1_ f2_ f3_; subst f4_; subst f5_))
       refine hK.out _ _ ⟨(blk_cell BK101.out 0).trans rfl, (blk_cell BK101.out 1).trans rfl, (blk_cell BK101.out 2).trans rfl, (blk_cell BK101.out 3).trans rfl, (blk_cell BK101.out 4).trans rfl, (blk_cell BK101.out 5).trans rfl, (blk_cell BK101.out 6).trans rfl, (blk_cell BK101.out 7).trans rfl, (blk_cell BK101.out 8).trans rfl, (blk_cell BK101.out 9).trans rfl, (blk_cell BK101.out 10).trans rfl⟩ (fun hHeld => ?_)
       clear hK K
       refine norm_ (a' := ?_) ?_ ?_; rotate_left; go_simp; rfl
       refine on HT_ 7 (fun K hK => ?_)
       refine gsG Try.func191 (spec_Put16.calls _ _ t108 x4_8 t111 _ ?side1 ?side2 A17.out) ?_
       (case side1 => repeat (first | exact (Kd.R_reads' HO110.out).2.2 | (with_reducible refine Kd.C_alloc ?_ _) | (with_reducible refine Kd.C_drewN ?_ _) | (with_reducible refine Kd.C_drew ?_)))
       (case side2 => exact (Kd.R_reads' HO110.out).2.1)
       rintro e w31 ⟨v112, rfl, ho0, hb⟩
       refine ⟨_, rfl, ?_⟩
       replace HO_102006 := ak (Kd.V_elder' (vw HO_102006.out) (Kd.R_base ho0) hb)
       replace HO_102007 := ak (Kd.V_elder' (vw HO_102007.out) (Kd.R_base ho0) hb)
       replace HO_102008 := ak (Kd.V_elder' (vw HO_102008.out) (Kd.R_base ho0) hb)
       have HO113 := ak (Kd.R_lower (Kd.R_new' (Kd.R_new' (Kd.R_new' (Kd.R_newM (M := fun k_ => (w.heap.size ≤ k_)) ho0 (below_size bs) (fun k_ h_ => h_)) (Kd.R_lt (rw_ HO104.out))) (Kd.R_lt (rw_ HO107.out))) (Kd.R_lt (rw_ HO110.out))) (below_size bs))
       replace HO104 := ak (Kd.R_elder' (rw_ HO104.out) (Kd.R_base ho0) hb)
       replace HO107 := ak (Kd.R_elder' (rw_ HO107.out) (Kd.R_base ho0) hb)
       replace HO110 := ak (Kd.R_elder' (rw_ HO110.out) (Kd.R_base ho0) hb)
       replace BK101 := b1 BK101 hb
       replace HB := b2s bs hb
       (try clear hb)
       (try clear hk)
       (try clear ho0)
       obtain ⟨Ao32, co32, eo32⟩ := Kd.R_slice HO113.out
       (first | subst eo32 | (injection eo32 with f1_ f2_ f3_; have f4_ := f1_.symm; have f5_ := f3_.symm; clear f1_ f2_ f3_; subst f4_; subst f5_))
       refine hK.out _ _ ⟨(blk_cell BK101.out 0).trans rfl, (blk_cell BK101.out 1).trans rfl, (blk_cell BK101.out 2).trans rfl, (blk_cell BK101.out 3).trans rfl, (blk_cell BK101.out 4).trans rfl, (blk_cell BK101.out 5).trans rfl, (blk_cell BK101.out 6).trans rfl, (blk_cell BK101.out 7).trans rfl, (blk_cell BK101.out 8).trans rfl, (blk_cell BK101.out 9).trans rfl, (blk_cell BK101.out 10).trans rfl⟩ (fun hHeld => ?_)
       clear hK K
       refine norm_ (a' := ?_) ?_ ?_; rotate_left; go_simp; rfl
       refine on HT_ 9 (fun K hK => ?_)
       refine gsG Try.func191 (spec_Put16.calls _ _ t111 x5_8 t114 _ ?side1 ?side2 A18.out) ?_
       (case side1 => repeat (first | exact (Kd.R_reads' HO113.out).2.2 | (with_reducible refine Kd.C_alloc ?_ _) | (with_reducible refine Kd.C_drewN ?_ _) | (with_reducible refine Kd.C_drew ?_)))
       (case side2 => exact (Kd.R_reads' HO113.out).2.1)
       rintro e w33 ⟨v115, rfl, ho0, hb⟩
       refine ⟨_, rfl, ?_⟩
       replace HO_102006 := ak (Kd.V_elder' (vw HO_102006.out) (Kd.R_base ho0) hb)
       replace HO_102007 := ak (Kd.V_elder' (vw HO_102007.out) (Kd.R_base ho0) hb)
       replace HO_102008 := ak (Kd.V_elder' (vw HO_102008.out) (Kd.R_base ho0) hb)
       have HO116 := ak (Kd.R_lower (Kd.R_new' (Kd.R_new' (Kd.R_new' (Kd.R_new' (Kd.R_newM (M := fun k_ => (w.heap.size ≤ k_)) ho0 (below_size bs) (fun k_ h_ => h_)) (Kd.R_lt (rw_ HO104.out))) (Kd.R_lt (rw_ HO107.out))) (Kd.R_lt (rw_ HO110.out))) (Kd.R_lt (rw_ HO113.out))) (below_size bs))
       replace HO104 := ak (Kd.R_elder' (rw_ HO104.out) (Kd.R_base ho0) hb)
       replace HO107 := ak (Kd.R_elder' (rw_ HO107.out) (Kd.R_base ho0) hb)
       replace HO110 := ak (Kd.R_elder' (rw_ HO110.out) (Kd.R_base ho0) hb)
       replace HO113 := ak (Kd.R_elder' (rw_ HO113.out) (Kd.R_base ho0) hb)
       replace BK101 := b1 BK101 hb
       replace HB := b2s bs hb
       (try clear hb)
       (try clear hk)
       (try clear ho0)
       obtain ⟨Ao34, co34, eo34⟩ := Kd.R_slice HO116.out
       (first | subst eo34 | (injection eo34 with f1_ f2_ f3_; have f4_ := f1_.symm; have f5_ := f3_.symm; clear f1_ f2_ f3_; subst f4_; subst f5_))
       refine hK.out _ _ ⟨(blk_cell BK101.out 0).trans rfl, (blk_cell BK101.out 1).trans rfl, (blk_cell BK101.out 2).trans rfl, (blk_cell BK101.out 3).trans rfl, (blk_cell BK101.out 4).trans rfl, (blk_cell BK101.out 5).trans rfl, (blk_cell BK101.out 6).trans rfl, (blk_cell BK101.out 7).trans rfl, (blk_cell BK101.out 8).trans rfl, (blk_cell BK101.out 9).trans rfl, (blk_cell BK101.out 10).trans rfl⟩ (fun hHeld => ?_)
       clear hK K
       refine norm_ (a' := ?_) ?_ ?_; rotate_left; go_simp; rfl
       refine on HT_ 13 (fun K hK => ?_)
       refine gsG Try.func191 (spec_Put16.calls _ _ t114 (l0_8.length : Int) t117 _ ?side1 ?side2 A19.out) ?_
       (case side1 => repeat (first | exact (Kd.R_reads' HO116.out).2.2 | (with_reducible refine Kd.C_alloc ?_ _) | (with_reducible refine Kd.C_drewN ?_ _) | (with_reducible refine Kd.C_drew ?_)))
       (case side2 => exact (Kd.R_reads' HO116.out).2.1)
       rintro e w35 ⟨v118, rfl, ho0, hb⟩
       refine ⟨_, rfl, ?_⟩
       replace HO_102006 := ak (Kd.V_elder' (vw HO_102006.out) (Kd.R_base ho0) hb)
       replace HO_102007 := ak (Kd.V_elder' (vw HO_102007.out) (Kd.R_base ho0) hb)
       replace HO_102008 := ak (Kd.V_elder' (vw HO_102008.out) (Kd.R_base ho0) hb)
       have HO119 := ak (Kd.R_lower (Kd.R_new' (Kd.R_new' (Kd.R_new' (Kd.R_new' (Kd.R_new' (Kd.R_newM (M := fun k_ => (w.heap.size ≤ k_)) ho0 (below_size bs) (fun k_ h_ => h_)) (Kd.R_lt (rw_ HO104.out))) (Kd.R_lt (rw_ HO107.out))) (Kd.R_lt (rw_ HO110.out))) (Kd.R_lt (rw_ HO113.out))) (Kd.R_lt (rw_ HO116.out))) (below_size bs))
       replace HO104 := ak (Kd.R_elder' (rw_ HO104.out) (Kd.R_base ho0) hb)
       replace HO107 := ak (Kd.R_elder' (rw_ HO107.out) (Kd.R_base ho0) hb)
       replace HO110 := ak (Kd.R_elder' (rw_ HO110.out) (Kd.R_base ho0) hb)
       replace HO113 := ak (Kd.R_elder' (rw_ HO113.out) (Kd.R_base ho0) hb)
       replace HO116 := ak (Kd.R_elder' (rw_ HO116.out) (Kd.R_base ho0) hb)
       replace BK101 := b1 BK101 hb
       replace HB := b2s bs hb
       refine hK.out _ _ kp (fun hHeld => ?_)
       (try clear hb)
       (try clear hk)
       (try clear ho0)
       clear hK K
       refine norm_ (a' := ?_) ?_ ?_; rotate_left; go_simp; rfl
       refine pu HT_ 14 ?_
       refine done_ (done_of HT_.out (by kernel_rfl)) ?_
       try go_wp2
       replace HO_102006 := ak (Kd.V_drew HO_102006.out)
       replace HO_102007 := ak (Kd.V_drew HO_102007.out)
       replace HO_102008 := ak (Kd.V_drew HO_102008.out)
       replace HO104 := ak (Kd.R_drew HO104.out)
       replace HO107 := ak (Kd.R_drew HO107.out)
       replace HO110 := ak (Kd.R_drew HO110.out)
       replace HO113 := ak (Kd.R_drew HO113.out)
       replace HO116 := ak (Kd.R_drew HO116.out)
       replace HO119 := ak (Kd.R_drew HO119.out)
       replace BK101 := ak (blk_drew BK101.out)
       replace HB := ak (below_drew1 HB.out)
       have p120 : 0 ≤ (0 : Int) := (by omega)
       have q120 : 0 < (l0_5.length : Int) := of_decide_eq_true (by first | (with_reducible assumption) | assumption)
       obtain ⟨ad120, A120_0, c120_0, e120, hx120_0, hx120_1, hl120_0, hi120_0⟩ := at_T200 HR0_5.out 0 p120 q120
       have hw120_1 := hx120_1
       (try rw [show ((0 : Int)).toNat = 0 from rfl] at hw120_1)
       (try rw [show 0 * 2 = 0 from rfl] at hw120_1)
       (try rw [Addr.add_zero'] at hw120_1)
       have hw120_0 := hx120_0
       (try rw [show ((0 : Int)).toNat = 0 from rfl] at hw120_0)
       (try rw [show 0 * 2 = 0 from rfl] at hw120_0)
       (try rw [Addr.add_zero'] at hw120_0)
       cases e120
       have qi120 : (0 < l0_5.length) = True := eq_true (by omega)
       (try rw [show ((0 : Int)).toNat = 0 from rfl] at hx120_0)
       (try rw [show 0 * 2 = 0 from rfl] at hx120_0)
       (try rw [Addr.add_zero'] at hx120_0)
       (try rw [show ((0 : Int)).toNat = 0 from rfl] at hx120_1)
       (try rw [show 0 * 2 = 0 from rfl] at hx120_1)
       (try rw [Addr.add_zero'] at hx120_1)
       replace hx120_0 := pw_cell_below HB.out hx120_0
       replace hx120_1 := pw_cell_below HB.out hx120_1
       have HR120_0 := ak hi120_0
       have HC120_0 := ak hl120_0
       clear hi120_0 hl120_0
       replace p120 := eq_true p120
       replace q120 := eq_true q120
       have p124 : 0 ≤ (0 : Int) := (by omega)
       have q124 : 0 < (l0_5.length : Int) := of_decide_eq_true (by first | (with_reducible assumption) | assumption)
       obtain ⟨ad124, A124_0, c124_0, e124, hx124_0, hx124_1, hl124_0, hi124_0⟩ := at_T200 HR0_5.out 0 p124 q124
       have hw124_1 := hx124_1
       (try rw [show ((0 : Int)).toNat = 0 from rfl] at hw124_1)
       (try rw [show 0 * 2 = 0 from rfl] at hw124_1)
       (try rw [Addr.add_zero'] at hw124_1)
       have hw124_0 := hx124_0
       (try rw [show ((0 : Int)).toNat = 0 from rfl] at hw124_0)
       (try rw [show 0 * 2 = 0 from rfl] at hw124_0)
       (try rw [Addr.add_zero'] at hw124_0)
       obtain rfl : ad120 = ad124 := (by injection e124)
       have qi124 : (0 < l0_5.length) = True := eq_true (by omega)
       (try rw [show ((0 : Int)).toNat = 0 from rfl] at hx124_0)
       (try rw [show 0 * 2 = 0 from rfl] at hx124_0)
       (try rw [Addr.add_zero'] at hx124_0)
       (try rw [show ((0 : Int)).toNat = 0 from rfl] at hx124_1)
       (try rw [show 0 * 2 = 0 from rfl] at hx124_1)
       (try rw [Addr.add_zero'] at hx124_1)
       replace hx124_0 := pw_cell_below HB.out hx124_0
       replace hx124_1 := pw_cell_below HB.out hx124_1
       have HR124_0 := ak hi124_0
       have HC124_0 := ak hl124_0
       clear hi124_0 hl124_0
       replace p124 := eq_true p124
       replace q124 := eq_true q124
       have ea_ := Option.some.inj (hx120_0.symm.trans hx124_0)
       injection ea_ with ea_ en_ ec_
       subst ea_
       subst ec_
       clear en_
       obtain ⟨Ao37, co37, eo37⟩ := Kd.R_slice HO119.out
       (first | subst eo37 | (injection eo37 with f1_ f2_ f3_; have f4_ := f1_.symm; have f5_ := f3_.symm; clear f1_ f2_ f3_; subst f4_; subst f5_))
       refine start_ (n := 15) (S := fun w' => w'.cell? ⟨gb101, 0, none⟩ = some (.int .i64 a0_0) ∧ w'.cell? ⟨gb101, 1, none⟩ = some (.bool a0_1) ∧ w'.cell? ⟨gb101, 2, none⟩ = some (.int .i64 a0_2) ∧ w'.cell? ⟨gb101, 3, none⟩ = some (.bool a0_3) ∧ w'.cell? ⟨gb101, 4, none⟩ = some (.int .i64 a0_4) ∧ w'.cell? ⟨gb101, 5, none⟩ = some (.slice (some ad120) l0_5.length c0_5) ∧ w'.cell? ⟨gb101, 6, none⟩ = some (.slice A0_6 l0_6.length c0_6) ∧ w'.cell? ⟨gb101, 7, none⟩ = some (.slice A0_7 l0_7.length c0_7) ∧ w'.cell? ⟨gb101, 8, none⟩ = some (.slice A0_8 l0_8.length c0_8) ∧ w'.cell? ⟨gb101, 9, none⟩ = some (.slice A0_9 l0_9.length c0_9) ∧ w'.cell? ⟨gb101, 10, none⟩ = some (.slice A0_10 l0_10.length c0_10) ∧ w'.cell? ad120 = some (.slice A120_0 ((rd_T200 l0_5 0).f0.f0).length c120_0) ∧ w'.cell? ⟨ad120.block, ad120.off + 1, none⟩ = some (.int .i64 ((rd_T200 l0_5 0).f1)) ∧ w'.cell? ad120 = some (.slice A120_0 ((rd_T200 l0_5 0).f0.f0).length c120_0) ∧ w'.cell? ⟨ad120.block, ad120.off + 1, none⟩ = some (.int .i64 ((rd_T200 l0_5 0).f1))) (ds := []) (bA 15 0) (by kernel_rfl) rfl rfl kq (fun hHeld => ?_); refine with_tabW spec_l4bytes.tab11 spec_l4bytes.bits11 (fun HT_ HW_ => ?_)
       generalize w35.drew = w36 at HO_102006 HO_102007 HO_102008 HO104 HO107 HO110 HO113 HO116 HO119 BK101 HB HR120_0 HR124_0 hx120_0 hx120_1 hx124_0 hx124_1 hHeld ⊢
       refine pu HT_ 0 ?_
       refine pu HT_ 1 ?_
       refine pu HT_ 7 ?_
       refine ta HT_ HW_ hHeld 2 ?_
       refine pu HT_ 3 ?_
       refine pu HT_ 4 ?_
       refine ta HT_ HW_ hHeld 5 ?_
       refine ta HT_ HW_ hHeld 8 ?_
       refine pu HT_ 9 ?_
       refine pu HT_ 10 ?_
       refine ta HT_ HW_ hHeld 11 ?_
       refine on HT_ 6 (fun K hK => ?_)
       refine gsG Try.func77 (spec_l2put.calls (fun k_ => some k_ = (.slice Ao37 t117.length co37 : Value).ownBlock) (.slice Ao37 t117.length co37) t117 _ _ ((rd_T200 l0_5 0).f0.f0) t121 w _ ?side1 ?side2 ?side3 HC120_0.out A21.out) ?_
       (case side1 => repeat (first | (with_reducible first | exact HB.out | apply below_alloc | apply pw_below_drewN | apply below_drew1 | refine below_set ?_ GE101.out) | exact HB.out))
       (case side2 => exact Kd.R_tight rfl HO119.out)
       (case side3 => exact Kd.C_kept_came (Kd.heap_slice 5 (Kd.heap_int .u8)) HR120_0.out bs (fun k_ hs_ => (fun e_ => Kd.R_base HO119.out k_ e_.symm) hs_))
       rintro e w38 ⟨v122, rfl, ho0, hb, hkp⟩
       refine ⟨_, rfl, ?_⟩
       replace HO_102006 := ak (Kd.V_mono (ok' := fun k_ => ((P0_6_ k_ ∨ P0_7_ k_ ∨ P0_8_ k_) ∨ w.heap.size ≤ k_) ∧ some k_ ≠ (.slice Ao26 t102.length co26 : Value).ownBlock ∧ some k_ ≠ (.slice Ao28 t105.length co28 : Value).ownBlock ∧ some k_ ≠ (.slice Ao30 t108.length co30 : Value).ownBlock ∧ some k_ ≠ (.slice Ao32 t111.length co32 : Value).ownBlock ∧ some k_ ≠ (.slice Ao34 t114.length co34 : Value).ownBlock ∧ k_ ≠ gb101 ∧ some k_ ≠ (v122 : Value).ownBlock) (Kd.V_keptB (HO_102006.out) hkp (fun k_ hk_ hs_ => (hk_.2) hs_)) (fun k_ hk_ => ⟨hk_.1.1.1.1.1.1.1.1, hk_.1.1.1.1.1.1.2, hk_.1.1.1.1.1.2, hk_.1.1.1.1.2, hk_.1.1.1.2, hk_.1.1.2, hk_.1.1.1.1.1.1.1.2, fun e_ => Or.elim (ho0.1 k_ e_.symm) (fun hs_ => hk_.2.1 hs_) (fun hn_ => Nat.not_le.2 hk_.2.2 hn_)⟩))
       replace HO_102007 := ak (Kd.V_mono (ok' := fun k_ => ((P0_6_ k_ ∨ P0_7_ k_ ∨ P0_8_ k_) ∨ w.heap.size ≤ k_) ∧ some k_ ≠ (.slice Ao26 t102.length co26 : Value).ownBlock ∧ some k_ ≠ (.slice Ao28 t105.length co28 : Value).ownBlock ∧ some k_ ≠ (.slice Ao30 t108.length co30 : Value).ownBlock ∧ some k_ ≠ (.slice Ao32 t111.length co32 : Value).ownBlock ∧ some k_ ≠ (.slice Ao34 t114.length co34 : Value).ownBlock ∧ k_ ≠ gb101 ∧ some k_ ≠ (v122 : Value).ownBlock) (Kd.V_keptB (HO_102007.out) hkp (fun k_ hk_ hs_ => (hk_.2) hs_)) (fun k_ hk_ => ⟨hk_.1.1.1.1.1.1.1.1, hk_.1.1.1.1.1.1.2, hk_.1.1.1.1.1.2, hk_.1.1.1.1.2, hk_.1.1.1.2, hk_.1.1.2, hk_.1.1.1.1.1.1.1.2, fun e_ => Or.elim (ho0.1 k_ e_.symm) (fun hs_ => hk_.2.1 hs_) (fun hn_ => Nat.not_le.2 hk_.2.2 hn_)⟩))
       replace HO_102008 := ak (Kd.V_mono (ok' := fun k_ => ((P0_6_ k_ ∨ P0_7_ k_ ∨ P0_8_ k_) ∨ w.heap.size ≤ k_) ∧ some k_ ≠ (.slice Ao26 t102.length co26 : Value).ownBlock ∧ some k_ ≠ (.slice Ao28 t105.length co28 : Value).ownBlock ∧ some k_ ≠ (.slice Ao30 t108.length co30 : Value).ownBlock ∧ some k_ ≠ (.slice Ao32 t111.length co32 : Value).ownBlock ∧ some k_ ≠ (.slice Ao34 t114.length co34 : Value).ownBlock ∧ k_ ≠ gb101 ∧ some k_ ≠ (v122 : Value).ownBlock) (Kd.V_keptB (HO_102008.out) hkp (fun k_ hk_ hs_ => (hk_.2) hs_)) (fun k_ hk_ => ⟨hk_.1.1.1.1.1.1.1.1, hk_.1.1.1.1.1.1.2, hk_.1.1.1.1.1.2, hk_.1.1.1.1.2, hk_.1.1.1.2, hk_.1.1.2, hk_.1.1.1.1.1.1.1.2, fun e_ => Or.elim (ho0.1 k_ e_.symm) (fun hs_ => hk_.2.1 hs_) (fun hn_ => Nat.not_le.2 hk_.2.2 hn_)⟩))
       replace BK101 := ak (blk_kept (bk BK101.out) hkp (fun hs_ => (fun e_ => (Kd.R_ne HO119.out BK101.out (by decide)) e_) hs_))
       have HO123 := ak (Kd.R_mono (ok' := fun k_ => (w.heap.size ≤ k_) ∧ some k_ ≠ (.slice Ao26 t102.length co26 : Value).ownBlock ∧ some k_ ≠ (.slice Ao28 t105.length co28 : Value).ownBlock ∧ some k_ ≠ (.slice Ao30 t108.length co30 : Value).ownBlock ∧ some k_ ≠ (.slice Ao32 t111.length co32 : Value).ownBlock ∧ some k_ ≠ (.slice Ao34 t114.length co34 : Value).ownBlock) ho0 (fun k_ hk_ => ⟨Or.elim hk_ (fun hs_ => (HO119.out.1 k_ (hs_).symm).1.1.1.1.1.1) (fun hn_ => (Nat.le_trans (below_size bs) hn_)), Or.elim hk_ (fun hs_ => fun e_ => (((HO104.out).1 k_ e_.symm).2) hs_) (fun hn_ => (Kd.fresh' (Kd.R_lt (rw_ HO104.out)) k_ hn_)), Or.elim hk_ (fun hs_ => fun e_ => (((HO107.out).1 k_ e_.symm).2) hs_) (fun hn_ => (Kd.fresh' (Kd.R_lt (rw_ HO107.out)) k_ hn_)), Or.elim hk_ (fun hs_ => fun e_ => (((HO110.out).1 k_ e_.symm).2) hs_) (fun hn_ => (Kd.fresh' (Kd.R_lt (rw_ HO110.out)) k_ hn_)), Or.elim hk_ (fun hs_ => fun e_ => (((HO113.out).1 k_ e_.symm).2) hs_) (fun hn_ => (Kd.fresh' (Kd.R_lt (rw_ HO113.out)) k_ hn_)), Or.elim hk_ (fun hs_ => fun e_ => (((HO116.out).1 k_ e_.symm).2) hs_) (fun hn_ => (Kd.fresh' (Kd.R_lt (rw_ HO116.out)) k_ hn_))⟩))
       replace HO104 := ak (Kd.R_mono (ok' := fun k_ => (w.heap.size ≤ k_) ∧ some k_ ≠ (.slice Ao28 t105.length co28 : Value).ownBlock ∧ some k_ ≠ (.slice Ao30 t108.length co30 : Value).ownBlock ∧ some k_ ≠ (.slice Ao32 t111.length co32 : Value).ownBlock ∧ some k_ ≠ (.slice Ao34 t114.length co34 : Value).ownBlock ∧ some k_ ≠ (v122 : Value).ownBlock) (Kd.R_keptB (HO104.out) hkp (fun k_ hk_ hs_ => (hk_.2) hs_)) (fun k_ hk_ => ⟨hk_.1.1.1.1.1.1.1, hk_.1.1.1.1.1.2, hk_.1.1.1.1.2, hk_.1.1.1.2, hk_.1.1.2, fun e_ => Or.elim (ho0.1 k_ e_.symm) (fun hs_ => hk_.2.1 hs_) (fun hn_ => Nat.not_le.2 hk_.2.2 hn_)⟩))
       replace HO107 := ak (Kd.R_mono (ok' := fun k_ => (w.heap.size ≤ k_) ∧ some k_ ≠ (.slice Ao26 t102.length co26 : Value).ownBlock ∧ some k_ ≠ (.slice Ao30 t108.length co30 : Value).ownBlock ∧ some k_ ≠ (.slice Ao32 t111.length co32 : Value).ownBlock ∧ some k_ ≠ (.slice Ao34 t114.length co34 : Value).ownBlock ∧ some k_ ≠ (v122 : Value).ownBlock) (Kd.R_keptB (HO107.out) hkp (fun k_ hk_ hs_ => (hk_.2) hs_)) (fun k_ hk_ => ⟨hk_.1.1.1.1.1.1.1, hk_.1.1.1.1.1.2, hk_.1.1.1.1.2, hk_.1.1.1.2, hk_.1.1.2, fun e_ => Or.elim (ho0.1 k_ e_.symm) (fun hs_ => hk_.2.1 hs_) (fun hn_ => Nat.not_le.2 hk_.2.2 hn_)⟩))
       replace HO110 := ak (Kd.R_mono (ok' := fun k_ => (w.heap.size ≤ k_) ∧ some k_ ≠ (.slice Ao26 t102.length co26 : Value).ownBlock ∧ some k_ ≠ (.slice Ao28 t105.length co28 : Value).ownBlock ∧ some k_ ≠ (.slice Ao32 t111.length co32 : Value).ownBlock ∧ some k_ ≠ (.slice Ao34 t114.length co34 : Value).ownBlock ∧ some k_ ≠ (v122 : Value).ownBlock) (Kd.R_keptB (HO110.out) hkp (fun k_ hk_ hs_ => (hk_.2) hs_)) (fun k_ hk_ => ⟨hk_.1.1.1.1.1.1.1, hk_.1.1.1.1.1.2, hk_.1.1.1.1.2, hk_.1.1.1.2, hk_.1.1.2, fun e_ => Or.elim (ho0.1 k_ e_.symm) (fun hs_ => hk_.2.1 hs_) (fun hn_ => Nat.not_le.2 hk_.2.2 hn_)⟩))
       replace HO113 := ak (Kd.R_mono (ok' := fun k_ => (w.heap.size ≤ k_) ∧ some k_ ≠ (.slice Ao26 t102.length co26 : Value).ownBlock ∧ some k_ ≠ (.slice Ao28 t105.length co28 : Value).ownBlock ∧ some k_ ≠ (.slice Ao30 t108.length co30 : Value).ownBlock ∧ some k_ ≠ (.slice Ao34 t114.length co34 : Value).ownBlock ∧ some k_ ≠ (v122 : Value).ownBlock) (Kd.R_keptB (HO113.out) hkp (fun k_ hk_ hs_ => (hk_.2) hs_)) (fun k_ hk_ => ⟨hk_.1.1.1.1.1.1.1, hk_.1.1.1.1.1.2, hk_.1.1.1.1.2, hk_.1.1.1.2, hk_.1.1.2, fun e_ => Or.elim (ho0.1 k_ e_.symm) (fun hs_ => hk_.2.1 hs_) (fun hn_ => Nat.not_le.2 hk_.2.2 hn_)⟩))
       replace HO116 := ak (Kd.R_mono (ok' := fun k_ => (w.heap.size ≤ k_) ∧ some k_ ≠ (.slice Ao26 t102.length co26 : Value).ownBlock ∧ some k_ ≠ (.slice Ao28 t105.length co28 : Value).ownBlock ∧ some k_ ≠ (.slice Ao30 t108.length co30 : Value).ownBlock ∧ some k_ ≠ (.slice Ao32 t111.length co32 : Value).ownBlock ∧ some k_ ≠ (v122 : Value).ownBlock) (Kd.R_keptB (HO116.out) hkp (fun k_ hk_ hs_ => (hk_.2) hs_)) (fun k_ hk_ => ⟨hk_.1.1.1.1.1.1.1, hk_.1.1.1.1.1.2, hk_.1.1.1.1.2, hk_.1.1.1.2, hk_.1.1.2, fun e_ => Or.elim (ho0.1 k_ e_.symm) (fun hs_ => hk_.2.1 hs_) (fun hn_ => Nat.not_le.2 hk_.2.2 hn_)⟩))
       replace HB := ak (hb)
       clear HO119
       (try clear hb)
       (try clear hkp)
       (try clear ho0)
       obtain ⟨Ao39, co39, eo39⟩ := Kd.R_slice HO123.out
       (first | subst eo39 | (injection eo39 with f1_ f2_ f3_; have f4_ := f1_.symm; have f5_ := f3_.symm; clear f1_ f2_ f3_; subst f4_; subst f5_))
       refine hK.out _ _ ⟨(blk_cell BK101.out 0).trans rfl, (blk_cell BK101.out 1).trans rfl, (blk_cell BK101.out 2).trans rfl, (blk_cell BK101.out 3).trans rfl, (blk_cell BK101.out 4).trans rfl, (blk_cell BK101.out 5).trans rfl, (blk_cell BK101.out 6).trans rfl, (blk_cell BK101.out 7).trans rfl, (blk_cell BK101.out 8).trans rfl, (blk_cell BK101.out 9).trans rfl, (blk_cell BK101.out 10).trans rfl, (pw_cell_below HB.out hw120_0), (pw_cell_below HB.out hw120_1), (pw_cell_below HB.out hw124_0), (pw_cell_below HB.out hw124_1)⟩ (fun hHeld => ?_)
       clear hK K
       refine norm_ (a' := ?_) ?_ ?_; rotate_left; go_simp; rfl
       refine on HT_ 12 (fun K hK => ?_)
       refine gsG Try.func191 (spec_Put16.calls _ _ t121 ((rd_T200 l0_5 0).f1) t125 _ ?side1 ?side2 A22.out) ?_
       (case side1 => repeat (first | exact (Kd.R_reads' HO123.out).2.2 | (with_reducible refine Kd.C_alloc ?_ _) | (with_reducible refine Kd.C_drewN ?_ _) | (with_reducible refine Kd.C_drew ?_)))
       (case side2 => exact (Kd.R_reads' HO123.out).2.1)
       rintro e w40 ⟨v126, rfl, ho0, hb⟩
       refine ⟨_, rfl, ?_⟩
       replace HO_102006 := ak (Kd.V_elder' (vw HO_102006.out) (Kd.R_base ho0) hb)
       replace HO_102007 := ak (Kd.V_elder' (vw HO_102007.out) (Kd.R_base ho0) hb)
       replace HO_102008 := ak (Kd.V_elder' (vw HO_102008.out) (Kd.R_base ho0) hb)
       have HO127 := ak (Kd.R_lower (Kd.R_new' (Kd.R_new' (Kd.R_new' (Kd.R_new' (Kd.R_new' (Kd.R_new' (Kd.R_newM (M := fun k_ => (w.heap.size ≤ k_)) ho0 (below_size bs) (fun k_ h_ => h_)) (Kd.R_lt (rw_ HO104.out))) (Kd.R_lt (rw_ HO107.out))) (Kd.R_lt (rw_ HO110.out))) (Kd.R_lt (rw_ HO113.out))) (Kd.R_lt (rw_ HO116.out))) (Kd.R_lt (rw_ HO123.out))) (below_size bs))
       replace HO104 := ak (Kd.R_elder' (rw_ HO104.out) (Kd.R_base ho0) hb)
       replace HO107 := ak (Kd.R_elder' (rw_ HO107.out) (Kd.R_base ho0) hb)
       replace HO110 := ak (Kd.R_elder' (rw_ HO110.out) (Kd.R_base ho0) hb)
       replace HO113 := ak (Kd.R_elder' (rw_ HO113.out) (Kd.R_base ho0) hb)
       replace HO116 := ak (Kd.R_elder' (rw_ HO116.out) (Kd.R_base ho0) hb)
       replace HO123 := ak (Kd.R_elder' (rw_ HO123.out) (Kd.R_base ho0) hb)
       replace BK101 := b1 BK101 hb
       replace HB := b2s bs hb
       (try clear hb)
       (try clear hk)
       (try clear ho0)
       obtain ⟨Ao41, co41, eo41⟩ := Kd.R_slice HO127.out
       (first | subst eo41 | (injection eo41 with f1_ f2_ f3_; have f4_ := f1_.symm; have f5_ := f3_.symm; clear f1_ f2_ f3_; subst f4_; subst f5_))
       refine hK.out _ _ ⟨(blk_cell BK101.out 0).trans rfl, (blk_cell BK101.out 1).trans rfl, (blk_cell BK101.out 2).trans rfl, (blk_cell BK101.out 3).trans rfl, (blk_cell BK101.out 4).trans rfl, (blk_cell BK101.out 5).trans rfl, (blk_cell BK101.out 6).trans rfl, (blk_cell BK101.out 7).trans rfl, (blk_cell BK101.out 8).trans rfl, (blk_cell BK101.out 9).trans rfl, (blk_cell BK101.out 10).trans rfl, (pw_cell_below HB.out hw120_0), (pw_cell_below HB.out hw120_1), (pw_cell_below HB.out hw124_0), (pw_cell_below HB.out hw124_1)⟩ (fun hHeld => ?_)
       clear hK K
       refine norm_ (a' := ?_) ?_ ?_; rotate_left; go_simp; rfl
       refine on HT_ 13 (fun K hK => ?_)
       refine gsG Try.func191 (spec_Put16.calls _ _ t125 1 t128 _ ?side1 ?side2 A23.out) ?_
       (case side1 => repeat (first | exact (Kd.R_reads' HO127.out).2.2 | (with_reducible refine Kd.C_alloc ?_ _) | (with_reducible refine Kd.C_drewN ?_ _) | (with_reducible refine Kd.C_drew ?_)))
       (case side2 => exact (Kd.R_reads' HO127.out).2.1)
       rintro e w42 ⟨v129, rfl, ho0, hb⟩
       refine ⟨_, rfl, ?_⟩
       replace HO_102006 := ak (Kd.V_elder' (vw HO_102006.out) (Kd.R_base ho0) hb)
       replace HO_102007 := ak (Kd.V_elder' (vw HO_102007.out) (Kd.R_base ho0) hb)
       replace HO_102008 := ak (Kd.V_elder' (vw HO_102008.out) (Kd.R_base ho0) hb)
       have HO130 := ak (Kd.R_lower (Kd.R_new' (Kd.R_new' (Kd.R_new' (Kd.R_new' (Kd.R_new' (Kd.R_new' (Kd.R_new' (Kd.R_newM (M := fun k_ => (w.heap.size ≤ k_)) ho0 (below_size bs) (fun k_ h_ => h_)) (Kd.R_lt (rw_ HO104.out))) (Kd.R_lt (rw_ HO107.out))) (Kd.R_lt (rw_ HO110.out))) (Kd.R_lt (rw_ HO113.out))) (Kd.R_lt (rw_ HO116.out))) (Kd.R_lt (rw_ HO123.out))) (Kd.R_lt (rw_ HO127.out))) (below_size bs))
       replace HO104 := ak (Kd.R_elder' (rw_ HO104.out) (Kd.R_base ho0) hb)
       replace HO107 := ak (Kd.R_elder' (rw_ HO107.out) (Kd.R_base ho0) hb)
       replace HO110 := ak (Kd.R_elder' (rw_ HO110.out) (Kd.R_base ho0) hb)
       replace HO113 := ak (Kd.R_elder' (rw_ HO113.out) (Kd.R_base ho0) hb)
       replace HO116 := ak (Kd.R_elder' (rw_ HO116.out) (Kd.R_base ho0) hb)
       replace HO123 := ak (Kd.R_elder' (rw_ HO123.out) (Kd.R_base ho0) hb)
       replace HO127 := ak (Kd.R_elder' (rw_ HO127.out) (Kd.R_base ho0) hb)
       replace BK101 := b1 BK101 hb
       replace HB := b2s bs hb
       refine hK.out _ _ kp (fun hHeld => ?_)
       (try clear hb)
       (try clear hk)
       (try clear ho0)
       clear hK K
       refine norm_ (a' := ?_) ?_ ?_; rotate_left; go_simp; rfl
       refine pu HT_ 14 ?_
       refine done_ (done_of HT_.out (by kernel_rfl)) ?_
       try go_wp2
       go_loopg [6, 7] kj8 (fun kq v6 v7 w' => ∃ (x6_4 : List Int) (x7_4 : Int), v7 = .int .i64 x7_4 ∧ Aside0 (spec_l4bytes.l0 kq x6_4 x7_4 a0_0 a0_1 a0_2 a0_3 a0_4 l0_5 l0_6 l0_7 l0_8 l0_9 l0_10 = some r) ∧ Aside0 (kq ≤ kj8) ∧ Aside0 (Kd.R (Kd.int .u8) 5 w' w.heap.size (fun k_ => (w.heap.size ≤ k_)) v6 x6_4) ∧ Aside0 (Kd.V k33 33 w' w.heap.size (fun k_ => ((P0_6_ k_ ∨ P0_7_ k_ ∨ P0_8_ k_) ∨ w.heap.size ≤ k_) ∧ some k_ ≠ (v6 : Value).ownBlock ∧ k_ ≠ gb101) (.slice A0_6 l0_6.length c0_6) l0_6) ∧ Aside0 (Kd.V k33 33 w' w.heap.size (fun k_ => ((P0_6_ k_ ∨ P0_7_ k_ ∨ P0_8_ k_) ∨ w.heap.size ≤ k_) ∧ some k_ ≠ (v6 : Value).ownBlock ∧ k_ ≠ gb101) (.slice A0_7 l0_7.length c0_7) l0_7) ∧ Aside0 (Kd.V k33 33 w' w.heap.size (fun k_ => ((P0_6_ k_ ∨ P0_7_ k_ ∨ P0_8_ k_) ∨ w.heap.size ≤ k_) ∧ some k_ ≠ (v6 : Value).ownBlock ∧ k_ ≠ gb101) (.slice A0_8 l0_8.length c0_8) l0_8) ∧ Aside0 (w'.heap[gb101]? = some (.cells #[.int .i64 a0_0, .bool a0_1, .int .i64 a0_2, .bool a0_3, .int .i64 a0_4, (.slice (some ad120) l0_5.length c0_5), (.slice A0_6 l0_6.length c0_6), (.slice A0_7 l0_7.length c0_7), (.slice A0_8 l0_8.length c0_8), (.slice A0_9 l0_9.length c0_9), (.slice A0_10 l0_10.length c0_10)] 92 (0, 0))) ∧ Aside0 (Below w.heap.size w w'))
       case atStart => exact ⟨(t128), (0), o2, H', ⟨Nat.le_refl _⟩, ⟨by (with_reducible repeat (first | apply Kd.R_alloc | apply Kd.R_drewN | apply Kd.R_drew)); exact Kd.R_mono HO130.out (fun _ hk => hk.1.1.1.1.1.1.1.1)⟩, ⟨by (with_reducible repeat (first | apply Kd.V_alloc | apply Kd.V_drewN | apply Kd.V_drew)); exact Kd.V_mono HO_102006.out (fun _ hk => ⟨hk.1.1.1, ⟨hk.2, hk.1.1.2.2.2.2.2.2.1⟩⟩)⟩, ⟨by (with_reducible repeat (first | apply Kd.V_alloc | apply Kd.V_drewN | apply Kd.V_drew)); exact Kd.V_mono HO_102007.out (fun _ hk => ⟨hk.1.1.1, ⟨hk.2, hk.1.1.2.2.2.2.2.2.1⟩⟩)⟩, ⟨by (with_reducible repeat (first | apply Kd.V_alloc | apply Kd.V_drewN | apply Kd.V_drew)); exact Kd.V_mono HO_102008.out (fun _ hk => ⟨hk.1.1.1, ⟨hk.2, hk.1.1.2.2.2.2.2.2.1⟩⟩)⟩, ⟨bk BK101.out⟩, ⟨bs⟩⟩
       case round =>
        clear H'
        (try clear hx120_0)
        (try clear hx120_1)
        (try clear hx124_0)
        (try clear hx124_1)
        (try clear p120)
        (try clear p124)
        (try clear q120)
        (try clear q124)
        obtain ⟨x6_4, x7_4, rfl, HA, HK4, HO_6, HO_102006, HO_102007, HO_102008, BK101, HB⟩ := hrel
        cases gk with
        | zero => exact absurd HA.out (by simp [spec_l4bytes.l0])
        | succ k4 =>
         have H := HA.out
         clear HA
         simp only [spec_l4bytes.l0] at H
         replace H := ip H
         obtain ⟨c43b0, H⟩ | ⟨c43b0, H⟩ := H
         ·replace H := ipN H
          obtain ⟨c44b0, H⟩ := H
          replace H := bnd H
          obtain ⟨t132, A45, H⟩ := H
          have H' := ak H
          clear H
          obtain ⟨hcz46_0, hcz46_1, hcz46_2, hcz46_3, hcz46_4, hcz46_5, hcz46_6, hcz46_7, hcz46_8, hcz46_9, hcz46_10, hfz46_0, hfz46_1, hfz46_2, hfz46_3, hfz46_4, hfz46_5, hfz46_6, hfz46_7, hfz46_8, hfz46_9, hfz46_10⟩ := cells11 BK101.out
          obtain ⟨ad131, A131_0, c131_0, A131_4, c131_4, A131_5, c131_5, A131_6, c131_6, rfl, hx131_0, hx131_1, hx131_2, hx131_3, hx131_4, hx131_5, hx131_6, hx131_7, hx131_8, HC131_0, HR131_0, HC131_4, HR131_4, HC131_5, HR131_5, HC131_6, HR131_6, p131, q131⟩ := el_T205 HR0_9 HB x7_4
          obtain ⟨Ao47, co47, eo47⟩ := Kd.R_slice HO_6.out
          subst eo47
          go_wp2_with (((with_reducible refine gate_callee (f := 192) rfl ?_);refine glG 81 rfl rfl Try.func192 (spec_l4want.calls (fun k_ => some k_ = (.slice Ao47 x6_4.length co47 : Value).ownBlock) (.slice Ao47 x6_4.length co47) x6_4 _ _ ((rd_T205 l0_9 x7_4).f0.f0.f0) ((rd_T205 l0_9 x7_4).f0.f1) ((rd_T205 l0_9 x7_4).f0.f2) ((rd_T205 l0_9 x7_4).f0.f3) _ _ ((rd_T205 l0_9 x7_4).f0.f4.f0) _ _ ((rd_T205 l0_9 x7_4).f0.f5) _ _ ((rd_T205 l0_9 x7_4).f0.f6) ((rd_T205 l0_9 x7_4).f1) ((rd_T205 l0_9 x7_4).f2) t132 w _ ?side1 ?side2 ?side3 HC131_0.out ?side5 HC131_4.out ?side7 HC131_5.out ?side9 HC131_6.out A45.out) ?_;(case side1 => repeat (first | (with_reducible first | exact HB.out | apply below_alloc | apply pw_below_drewN | apply below_drew1 | refine below_set ?_ GE101.out) | exact HB.out));(case side2 => exact Kd.R_tight rfl HO_6.out);(case side3 => exact Kd.C_kept_came (Kd.heap_slice 5 (Kd.heap_int .u8)) HR131_0.out bs (fun k_ hs_ => (fun e_ => Kd.R_base HO_6.out k_ e_.symm) hs_));(case side5 => exact Kd.C_kept_came (Kd.heap_slice 5 (Kd.heap_int .u8)) HR131_4.out bs (fun k_ hs_ => (fun e_ => Kd.R_base HO_6.out k_ e_.symm) hs_));(case side7 => exact Kd.C_kept_came (Kd.heap_int .u8) HR131_5.out bs (fun k_ hs_ => (fun e_ => Kd.R_base HO_6.out k_ e_.symm) hs_));(case side9 => exact Kd.C_kept_came (Kd.heap_int .i64) HR131_6.out bs (fun k_ hs_ => (fun e_ => Kd.R_base HO_6.out k_ e_.symm) hs_));rintro e w48 ⟨v133, rfl, ho0, hb, hkp⟩;refine ⟨_, rfl, ?_⟩;replace HO_102006 := ak (Kd.V_mono (ok' := fun k_ => ((P0_6_ k_ ∨ P0_7_ k_ ∨ P0_8_ k_) ∨ w.heap.size ≤ k_) ∧ k_ ≠ gb101 ∧ some k_ ≠ (v133 : Value).ownBlock) (Kd.V_keptB (HO_102006.out) hkp (fun k_ hk_ hs_ => (hk_.2.1) hs_)) (fun k_ hk_ => ⟨hk_.1.1, hk_.1.2.2, fun e_ => Or.elim (ho0.1 k_ e_.symm) (fun hs_ => hk_.2.1 hs_) (fun hn_ => Nat.not_le.2 hk_.2.2 hn_)⟩));replace HO_102007 := ak (Kd.V_mono (ok' := fun k_ => ((P0_6_ k_ ∨ P0_7_ k_ ∨ P0_8_ k_) ∨ w.heap.size ≤ k_) ∧ k_ ≠ gb101 ∧ some k_ ≠ (v133 : Value).ownBlock) (Kd.V_keptB (HO_102007.out) hkp (fun k_ hk_ hs_ => (hk_.2.1) hs_)) (fun k_ hk_ => ⟨hk_.1.1, hk_.1.2.2, fun e_ => Or.elim (ho0.1 k_ e_.symm) (fun hs_ => hk_.2.1 hs_) (fun hn_ => Nat.not_le.2 hk_.2.2 hn_)⟩));replace HO_102008 := ak (Kd.V_mono (ok' := fun k_ => ((P0_6_ k_ ∨ P0_7_ k_ ∨ P0_8_ k_) ∨ w.heap.size ≤ k_) ∧ k_ ≠ gb101 ∧ some k_ ≠ (v133 : Value).ownBlock) (Kd.V_keptB (HO_102008.out) hkp (fun k_ hk_ hs_ => (hk_.2.1) hs_)) (fun k_ hk_ => ⟨hk_.1.1, hk_.1.2.2, fun e_ => Or.elim (ho0.1 k_ e_.symm) (fun hs_ => hk_.2.1 hs_) (fun hn_ => Nat.not_le.2 hk_.2.2 hn_)⟩));replace BK101 := ak (blk_kept (bk BK101.out) hkp (fun hs_ => (fun e_ => (Kd.R_ne HO_6.out BK101.out (by decide)) e_) hs_));have HO134 := ak (Kd.R_mono (ok' := fun k_ => (w.heap.size ≤ k_)) ho0 (fun k_ hk_ => Or.elim hk_ (fun hs_ => (HO_6.out.1 k_ (hs_).symm)) (fun hn_ => (Nat.le_trans (below_size bs) hn_))));replace HB := ak (hb);clear HO_6;(try clear hb);(try clear hkp);(try clear ho0)))
          go_roundg k4
          case measure => have := HJ1.out; have := HJ5.out; have := HJ8.out; have := HK4.out; omega
          case rel => exact ⟨(t132), (wrap64 (x7_4 + 1)), o2, H', ⟨by have := HJ1.out; have := HJ5.out; have := HJ8.out; have := HK4.out; omega⟩, ⟨rw_ HO134.out⟩, ⟨by (with_reducible repeat (first | apply Kd.V_alloc | apply Kd.V_drewN | apply Kd.V_drew)); exact Kd.V_mono HO_102006.out (fun _ hk => ⟨hk.1, ⟨hk.2.2, hk.2.1⟩⟩)⟩, ⟨by (with_reducible repeat (first | apply Kd.V_alloc | apply Kd.V_drewN | apply Kd.V_drew)); exact Kd.V_mono HO_102007.out (fun _ hk => ⟨hk.1, ⟨hk.2.2, hk.2.1⟩⟩)⟩, ⟨by (with_reducible repeat (first | apply Kd.V_alloc | apply Kd.V_drewN | apply Kd.V_drew)); exact Kd.V_mono HO_102008.out (fun _ hk => ⟨hk.1, ⟨hk.2.2, hk.2.1⟩⟩)⟩, ⟨bk BK101.out⟩, ⟨bs⟩⟩
         ·have H' := ak H
          clear H
          obtain ⟨hcz49_0, hcz49_1, hcz49_2, hcz49_3, hcz49_4, hcz49_5, hcz49_6, hcz49_7, hcz49_8, hcz49_9, hcz49_10, hfz49_0, hfz49_1, hfz49_2, hfz49_3, hfz49_4, hfz49_5, hfz49_6, hfz49_7, hfz49_8, hfz49_9, hfz49_10⟩ := cells11 BK101.out
          go_wp2
          go_loopg [6, 8] k4 (fun kq v6 v8 w' => ∃ (x6_5 : List Int) (x8_5 : Int), v8 = .int .i64 x8_5 ∧ Aside0 (spec_l4bytes.l1 kq x6_5 x8_5 a0_0 a0_1 a0_2 a0_3 a0_4 l0_5 l0_6 l0_7 l0_8 l0_9 l0_10 = some r) ∧ Aside0 (kq ≤ k4) ∧ Aside0 (Kd.R (Kd.int .u8) 5 w' w.heap.size (fun k_ => (w.heap.size ≤ k_)) v6 x6_5) ∧ Aside0 (Kd.V k33 33 w' w.heap.size (fun k_ => ((P0_6_ k_ ∨ P0_7_ k_ ∨ P0_8_ k_) ∨ w.heap.size ≤ k_) ∧ some k_ ≠ (v6 : Value).ownBlock ∧ k_ ≠ gb101) (.slice A0_6 l0_6.length c0_6) l0_6) ∧ Aside0 (Kd.V k33 33 w' w.heap.size (fun k_ => ((P0_6_ k_ ∨ P0_7_ k_ ∨ P0_8_ k_) ∨ w.heap.size ≤ k_) ∧ some k_ ≠ (v6 : Value).ownBlock ∧ k_ ≠ gb101) (.slice A0_7 l0_7.length c0_7) l0_7) ∧ Aside0 (Kd.V k33 33 w' w.heap.size (fun k_ => ((P0_6_ k_ ∨ P0_7_ k_ ∨ P0_8_ k_) ∨ w.heap.size ≤ k_) ∧ some k_ ≠ (v6 : Value).ownBlock ∧ k_ ≠ gb101) (.slice A0_8 l0_8.length c0_8) l0_8) ∧ Aside0 (w'.heap[gb101]? = some (.cells #[.int .i64 a0_0, .bool a0_1, .int .i64 a0_2, .bool a0_3, .int .i64 a0_4, (.slice (some ad120) l0_5.length c0_5), (.slice A0_6 l0_6.length c0_6), (.slice A0_7 l0_7.length c0_7), (.slice A0_8 l0_8.length c0_8), (.slice A0_9 l0_9.length c0_9), (.slice A0_10 l0_10.length c0_10)] 92 (0, 0))) ∧ Aside0 (Below w.heap.size w w'))
          case atStart => exact ⟨(x6_4), (0), o2, H', ⟨Nat.le_refl _⟩, ⟨rw_ HO_6.out⟩, ⟨by (with_reducible repeat (first | apply Kd.V_alloc | apply Kd.V_drewN | apply Kd.V_drew)); exact HO_102006.out⟩, ⟨by (with_reducible repeat (first | apply Kd.V_alloc | apply Kd.V_drewN | apply Kd.V_drew)); exact HO_102007.out⟩, ⟨by (with_reducible repeat (first | apply Kd.V_alloc | apply Kd.V_drewN | apply Kd.V_drew)); exact HO_102008.out⟩, ⟨bk BK101.out⟩, ⟨bs⟩⟩
          case round =>
           clear H'
           (try clear c43b0)
           (try clear hcz49_0)
           (try clear hcz49_1)
           (try clear hcz49_10)
           (try clear hcz49_2)
           (try clear hcz49_3)
           (try clear hcz49_4)
           (try clear hcz49_5)
           (try clear hcz49_6)
           (try clear hcz49_7)
           (try clear hcz49_8)
           (try clear hcz49_9)
           (try clear hfz49_0)
           (try clear hfz49_1)
           (try clear hfz49_10)
           (try clear hfz49_2)
           (try clear hfz49_3)
           (try clear hfz49_4)
           (try clear hfz49_5)
           (try clear hfz49_6)
           (try clear hfz49_7)
           (try clear hfz49_8)
           (try clear hfz49_9)
           (try clear hx120_0)
           (try clear hx120_1)
           (try clear hx124_0)
           (try clear hx124_1)
           (try clear p120)
           (try clear p124)
           (try clear q120)
           (try clear q124)
           obtain ⟨x6_5, x8_5, rfl, HA, HK5, HO_6, HO_102006, HO_102007, HO_102008, BK101, HB⟩ := hrel
           cases gk with
           | zero => exact absurd HA.out (by simp [spec_l4bytes.l1])
           | succ k5 =>
            have H := HA.out
            clear HA
            simp only [spec_l4bytes.l1] at H
            replace H := ip H
            obtain ⟨c50b0, H⟩ | ⟨c50b0, H⟩ := H
            ·replace H := ipN H
             obtain ⟨c51b0, H⟩ := H
             replace H := bnd H
             obtain ⟨t136, A52, H⟩ := H
             have H' := ak H
             clear H
             obtain ⟨hcz53_0, hcz53_1, hcz53_2, hcz53_3, hcz53_4, hcz53_5, hcz53_6, hcz53_7, hcz53_8, hcz53_9, hcz53_10, hfz53_0, hfz53_1, hfz53_2, hfz53_3, hfz53_4, hfz53_5, hfz53_6, hfz53_7, hfz53_8, hfz53_9, hfz53_10⟩ := cells11 BK101.out
             obtain ⟨ad135, A135_0, c135_0, A135_4, c135_4, A135_5, c135_5, A135_6, c135_6, rfl, hx135_0, hx135_1, hx135_2, hx135_3, hx135_4, hx135_5, hx135_6, hx135_7, hx135_8, HC135_0, HR135_0, HC135_4, HR135_4, HC135_5, HR135_5, HC135_6, HR135_6, p135, q135⟩ := el_T205 HR0_10 HB x8_5
             obtain ⟨Ao54, co54, eo54⟩ := Kd.R_slice HO_6.out
             subst eo54
             go_wp2_with (((with_reducible refine gate_callee (f := 192) rfl ?_);refine glG 95 rfl rfl Try.func192 (spec_l4want.calls (fun k_ => some k_ = (.slice Ao54 x6_5.length co54 : Value).ownBlock) (.slice Ao54 x6_5.length co54) x6_5 _ _ ((rd_T205 l0_10 x8_5).f0.f0.f0) ((rd_T205 l0_10 x8_5).f0.f1) ((rd_T205 l0_10 x8_5).f0.f2) ((rd_T205 l0_10 x8_5).f0.f3) _ _ ((rd_T205 l0_10 x8_5).f0.f4.f0) _ _ ((rd_T205 l0_10 x8_5).f0.f5) _ _ ((rd_T205 l0_10 x8_5).f0.f6) ((rd_T205 l0_10 x8_5).f1) ((rd_T205 l0_10 x8_5).f2) t136 w _ ?side1 ?side2 ?side3 HC135_0.out ?side5 HC135_4.out ?side7 HC135_5.out ?side9 HC135_6.out A52.out) ?_;(case side1 => repeat (first | (with_reducible first | exact HB.out | apply below_alloc | apply pw_below_drewN | apply below_drew1 | refine below_set ?_ GE101.out) | exact HB.out));(case side2 => exact Kd.R_tight rfl HO_6.out);(case side3 => exact Kd.C_kept_came (Kd.heap_slice 5 (Kd.heap_int .u8)) HR135_0.out bs (fun k_ hs_ => (fun e_ => Kd.R_base HO_6.out k_ e_.symm) hs_));(case side5 => exact Kd.C_kept_came (Kd.heap_slice 5 (Kd.heap_int .u8)) HR135_4.out bs (fun k_ hs_ => (fun e_ => Kd.R_base HO_6.out k_ e_.symm) hs_));(case side7 => exact Kd.C_kept_came (Kd.heap_int .u8) HR135_5.out bs (fun k_ hs_ => (fun e_ => Kd.R_base HO_6.out k_ e_.symm) hs_));(case side9 => exact Kd.C_kept_came (Kd.heap_int .i64) HR135_6.out bs (fun k_ hs_ => (fun e_ => Kd.R_base HO_6.out k_ e_.symm) hs_));rintro e w55 ⟨v137, rfl, ho0, hb, hkp⟩;refine ⟨_, rfl, ?_⟩;replace HO_102006 := ak (Kd.V_mono (ok' := fun k_ => ((P0_6_ k_ ∨ P0_7_ k_ ∨ P0_8_ k_) ∨ w.heap.size ≤ k_) ∧ k_ ≠ gb101 ∧ some k_ ≠ (v137 : Value).ownBlock) (Kd.V_keptB (HO_102006.out) hkp (fun k_ hk_ hs_ => (hk_.2.1) hs_)) (fun k_ hk_ => ⟨hk_.1.1, hk_.1.2.2, fun e_ => Or.elim (ho0.1 k_ e_.symm) (fun hs_ => hk_.2.1 hs_) (fun hn_ => Nat.not_le.2 hk_.2.2 hn_)⟩));replace HO_102007 := ak (Kd.V_mono (ok' := fun k_ => ((P0_6_ k_ ∨ P0_7_ k_ ∨ P0_8_ k_) ∨ w.heap.size ≤ k_) ∧ k_ ≠ gb101 ∧ some k_ ≠ (v137 : Value).ownBlock) (Kd.V_keptB (HO_102007.out) hkp (fun k_ hk_ hs_ => (hk_.2.1) hs_)) (fun k_ hk_ => ⟨hk_.1.1, hk_.1.2.2, fun e_ => Or.elim (ho0.1 k_ e_.symm) (fun hs_ => hk_.2.1 hs_) (fun hn_ => Nat.not_le.2 hk_.2.2 hn_)⟩));replace HO_102008 := ak (Kd.V_mono (ok' := fun k_ => ((P0_6_ k_ ∨ P0_7_ k_ ∨ P0_8_ k_) ∨ w.heap.size ≤ k_) ∧ k_ ≠ gb101 ∧ some k_ ≠ (v137 : Value).ownBlock) (Kd.V_keptB (HO_102008.out) hkp (fun k_ hk_ hs_ => (hk_.2.1) hs_)) (fun k_ hk_ => ⟨hk_.1.1, hk_.1.2.2, fun e_ => Or.elim (ho0.1 k_ e_.symm) (fun hs_ => hk_.2.1 hs_) (fun hn_ => Nat.not_le.2 hk_.2.2 hn_)⟩));replace BK101 := ak (blk_kept (bk BK101.out) hkp (fun hs_ => (fun e_ => (Kd.R_ne HO_6.out BK101.out (by decide)) e_) hs_));have HO138 := ak (Kd.R_mono (ok' := fun k_ => (w.heap.size ≤ k_)) ho0 (fun k_ hk_ => Or.elim hk_ (fun hs_ => (HO_6.out.1 k_ (hs_).symm)) (fun hn_ => (Nat.le_trans (below_size bs) hn_))));replace HB := ak (hb);clear HO_6;(try clear hb);(try clear hkp);(try clear ho0)))
             go_roundg k5
             case measure => have := HJ1.out; have := HJ5.out; have := HJ8.out; have := HK4.out; have := HK5.out; omega
             case rel => exact ⟨(t136), (wrap64 (x8_5 + 1)), o2, H', ⟨by have := HJ1.out; have := HJ5.out; have := HJ8.out; have := HK4.out; have := HK5.out; omega⟩, ⟨rw_ HO138.out⟩, ⟨by (with_reducible repeat (first | apply Kd.V_alloc | apply Kd.V_drewN | apply Kd.V_drew)); exact Kd.V_mono HO_102006.out (fun _ hk => ⟨hk.1, ⟨hk.2.2, hk.2.1⟩⟩)⟩, ⟨by (with_reducible repeat (first | apply Kd.V_alloc | apply Kd.V_drewN | apply Kd.V_drew)); exact Kd.V_mono HO_102007.out (fun _ hk => ⟨hk.1, ⟨hk.2.2, hk.2.1⟩⟩)⟩, ⟨by (with_reducible repeat (first | apply Kd.V_alloc | apply Kd.V_drewN | apply Kd.V_drew)); exact Kd.V_mono HO_102008.out (fun _ hk => ⟨hk.1, ⟨hk.2.2, hk.2.1⟩⟩)⟩, ⟨bk BK101.out⟩, ⟨bs⟩⟩
            ·replace H : ∃ y139 : List (S33), y139 = (([] : List (S33))) ∧ (if y139.length + l0_6.length < 1172812402961 then ((some (y139 ++ l0_6 : List (S33))).bind fun y142 => (if y142.length + l0_7.length < 1172812402961 then ((some (y142 ++ l0_7 : List (S33))).bind fun y145 => (if y145.length + l0_8.length < 1172812402961 then (spec_l4bytes.l2 k5 x6_5 (y145 ++ l0_8) 0) else (none))) else (none))) else (none)) = some r := ⟨_, rfl, H⟩
             obtain ⟨y139, hy139, H⟩ := H
             have Ny139 := ak hy139
             clear hy139
             by_cases c56 : y139.length + l0_6.length < 1172812402961
             ·rw [if_pos c56] at H
              have LMc56 := ak c56
              clear c56
              obtain ⟨y142, hy142⟩ : ∃ y_ : List (S33), y_ = (y139 ++ l0_6) := ⟨_, rfl⟩
              (try with_reducible replace H := bnS H)
              (try rw [← hy142] at H)
              have Ny142 := ak hy142
              clear hy142
              by_cases c57 : y142.length + l0_7.length < 1172812402961
              ·rw [if_pos c57] at H
               have LMc57 := ak c57
               clear c57
               obtain ⟨y145, hy145⟩ : ∃ y_ : List (S33), y_ = (y142 ++ l0_7) := ⟨_, rfl⟩
               (try with_reducible replace H := bnS H)
               (try rw [← hy145] at H)
               have Ny145 := ak hy145
               clear hy145
               by_cases c58 : y145.length + l0_8.length < 1172812402961
               ·rw [if_pos c58] at H
                have LMc58 := ak c58
                clear c58
                obtain ⟨y148, hy148⟩ : ∃ y_ : List (S33), y_ = (y145 ++ l0_8) := ⟨_, rfl⟩
                (try with_reducible replace H := bnS H)
                (try rw [← hy148] at H)
                have Ny148 := ak hy148
                clear hy148
                have H' := ak H
                clear H
                obtain ⟨hcz59_0, hcz59_1, hcz59_2, hcz59_3, hcz59_4, hcz59_5, hcz59_6, hcz59_7, hcz59_8, hcz59_9, hcz59_10, hfz59_0, hfz59_1, hfz59_2, hfz59_3, hfz59_4, hfz59_5, hfz59_6, hfz59_7, hfz59_8, hfz59_9, hfz59_10⟩ := cells11 BK101.out
                try go_wp2
                replace HO_6 := ak (Kd.R_drew HO_6.out)
                replace HO_102006 := ak (Kd.V_drew HO_102006.out)
                replace HO_102007 := ak (Kd.V_drew HO_102007.out)
                replace HO_102008 := ak (Kd.V_drew HO_102008.out)
                replace BK101 := ak (blk_drew BK101.out)
                replace HB := ak (below_drew1 HB.out)
                refine start_ (n := 11) (S := fun w' => w'.cell? ⟨gb101, 0, none⟩ = some (.int .i64 a0_0) ∧ w'.cell? ⟨gb101, 1, none⟩ = some (.bool a0_1) ∧ w'.cell? ⟨gb101, 2, none⟩ = some (.int .i64 a0_2) ∧ w'.cell? ⟨gb101, 3, none⟩ = some (.bool a0_3) ∧ w'.cell? ⟨gb101, 4, none⟩ = some (.int .i64 a0_4) ∧ w'.cell? ⟨gb101, 5, none⟩ = some (.slice (some ad120) l0_5.length c0_5) ∧ w'.cell? ⟨gb101, 6, none⟩ = some (.slice A0_6 l0_6.length c0_6) ∧ w'.cell? ⟨gb101, 7, none⟩ = some (.slice A0_7 l0_7.length c0_7) ∧ w'.cell? ⟨gb101, 8, none⟩ = some (.slice A0_8 l0_8.length c0_8) ∧ w'.cell? ⟨gb101, 9, none⟩ = some (.slice A0_9 l0_9.length c0_9) ∧ w'.cell? ⟨gb101, 10, none⟩ = some (.slice A0_10 l0_10.length c0_10)) (ds := []) (bA 11 0) (by kernel_rfl) rfl rfl kq (fun hHeld => ?_); refine with_tabW spec_l4bytes.tab20 spec_l4bytes.bits20 (fun HT_ HW_ => ?_)
                generalize wr.drew = w60 at HO_6 HO_102006 HO_102007 HO_102008 BK101 HB hHeld ⊢
                refine pu HT_ 1 ?_
                refine pu HT_ 4 ?_
                refine pu HT_ 7 ?_
                refine ta HT_ HW_ hHeld 2 ?_
                refine ta HT_ HW_ hHeld 5 ?_
                refine ta HT_ HW_ hHeld 8 ?_
                refine on HT_ 0 (fun K hK => ?_)
                refine Kd.N_lit_step k33 _ 33 ?hg (N' := 96) ?hd (xs := ([] : List (S33))) (inner := []) (ok := (fun k_ => ((P0_6_ k_ ∨ P0_7_ k_ ∨ P0_8_ k_) ∨ w.heap.size ≤ k_) ∧ some k_ ≠ (u6 : Value).ownBlock ∧ k_ ≠ gb101)) (okp := (fun k_ => ((P0_6_ k_ ∨ P0_7_ k_ ∨ P0_8_ k_) ∨ w.heap.size ≤ k_) ∧ some k_ ≠ (u6 : Value).ownBlock ∧ k_ ≠ gb101)) ?hr ?hp (fun _ hk => hk) ((show ∀ k_, w60.heap.size ≤ k_ → (fun k_ => ((P0_6_ k_ ∨ P0_7_ k_ ∨ P0_8_ k_) ∨ w.heap.size ≤ k_) ∧ some k_ ≠ (u6 : Value).ownBlock ∧ k_ ≠ gb101) k_ from fun k_ hk => ⟨(.inr (Nat.le_trans (below_size bs) hk)), Kd.fresh' (Kd.R_lt (rw_ HO_6.out)) k_ hk, Kd.freshB (g := gb101) (o := .cells #[.int .i64 a0_0, .bool a0_1, .int .i64 a0_2, .bool a0_3, .int .i64 a0_4, .slice (some ad120) l0_5.length c0_5, .slice A0_6 l0_6.length c0_6, .slice A0_7 l0_7.length c0_7, .slice A0_8 l0_8.length c0_8, .slice A0_9 l0_9.length c0_9, .slice A0_10 l0_10.length c0_10] 92 (0, 0)) (bk BK101.out) k_ hk⟩) _ (Nat.le_refl _)) (Below.refl _ _) (Nat.le_refl _) (by simp) ?_; (case hd => rfl); (case hg => rfl); (case hr => first | (go_simp; done) | (go_simp; rfl)); (case hp => exact (Reps.none _ _))
                intro v140 w61 ho62 hb hg_ hnew_
                clear hg_ hnew_
                (first | rw [← Ny139.out] at ho62 | (simp only [Int.reduceToNat] at ho62; rw [← Ny139.out] at ho62))
                replace HO_6 := ak (Kd.R_below (rw_ HO_6.out) hb)
                replace HO_102006 := ak (Kd.V_elder' (vw HO_102006.out) (Kd.N_base ho62) hb)
                replace HO_102007 := ak (Kd.V_elder' (vw HO_102007.out) (Kd.N_base ho62) hb)
                replace HO_102008 := ak (Kd.V_elder' (vw HO_102008.out) (Kd.N_base ho62) hb)
                have HO141 := ak (Kd.N_lower ho62 (below_size bs))
                replace BK101 := b1 BK101 hb
                replace HB := b2s bs hb
                clear hb ho62
                refine hK.out _ _ ⟨(blk_cell BK101.out 0).trans rfl, (blk_cell BK101.out 1).trans rfl, (blk_cell BK101.out 2).trans rfl, (blk_cell BK101.out 3).trans rfl, (blk_cell BK101.out 4).trans rfl, (blk_cell BK101.out 5).trans rfl, (blk_cell BK101.out 6).trans rfl, (blk_cell BK101.out 7).trans rfl, (blk_cell BK101.out 8).trans rfl, (blk_cell BK101.out 9).trans rfl, (blk_cell BK101.out 10).trans rfl⟩ (fun hHeld => ?_)
                clear hK K
                refine norm_ (a' := ?_) ?_ ?_; rotate_left; go_simp; rfl
                refine on HT_ 3 (fun K hK => ?_)
                refine Kd.N_append_rows_step k33 (w0 := w) w.heap.size (by rfl) (.tmp 96) (.tmp 98) 57 33 (.agg #[(.slice none 0 0), (.int .i64 0), (.int .i64 0), (.int .i64 0), (.slice none 0 0), (.slice none 0 0), (.slice none 0 0)]) 120 rfl Try.underlying57 info33 rfl (by decide) (by omega) v140 y139 l0_6 _ _ _ (fun k_ => ((P0_6_ k_ ∨ P0_7_ k_ ∨ P0_8_ k_) ∨ w.heap.size ≤ k_) ∧ some k_ ≠ (u6 : Value).ownBlock ∧ k_ ≠ gb101) (fun k_ => ((fun k_ => ((P0_6_ k_ ∨ P0_7_ k_ ∨ P0_8_ k_) ∨ w.heap.size ≤ k_) ∧ some k_ ≠ (u6 : Value).ownBlock ∧ k_ ≠ gb101)) k_ ∧ some k_ ≠ (v140 : Value).ownBlock) rfl rfl ?aO ?aR (fun _ hk => hk) ?aF ?aB ?aS ?aL ?_
                (case aR => exact (by skip; exact Kd.V_F (Kd.V_mono (ok' := (fun k_ => ((fun k_ => ((P0_6_ k_ ∨ P0_7_ k_ ∨ P0_8_ k_) ∨ w.heap.size ≤ k_) ∧ some k_ ≠ (u6 : Value).ownBlock ∧ k_ ≠ gb101)) k_ ∧ some k_ ≠ (v140 : Value).ownBlock)) (HO_102006.out) (fun k_ hk => ⟨⟨hk.1.1, ⟨hk.1.2.1, hk.1.2.2⟩⟩, hk.2⟩))))
                (case aB => exact bs)
                (case aF => exact (fun k_ hk => ⟨(.inr (Nat.le_trans (below_size bs) hk)), Kd.fresh' (Kd.R_lt (rw_ HO_6.out)) k_ hk, Kd.freshB (g := gb101) (o := .cells #[.int .i64 a0_0, .bool a0_1, .int .i64 a0_2, .bool a0_3, .int .i64 a0_4, .slice (some ad120) l0_5.length c0_5, .slice A0_6 l0_6.length c0_6, .slice A0_7 l0_7.length c0_7, .slice A0_8 l0_8.length c0_8, .slice A0_9 l0_9.length c0_9, .slice A0_10 l0_10.length c0_10] 92 (0, 0)) (bk BK101.out) k_ hk⟩))
                (case aO => exact (nw HO141.out))
                (case aS => exact (below_size bs))
                (case aL => have := LMc56.out; omega)
                intro v143 w63 ho hb hg hat
                rw [← Ny142.out] at ho
                replace HO_6 := ak (Kd.R_over' (rw_ HO_6.out) (Kd.N_typed (nw HO141.out)) (by decide) hg)
                replace HO_102006 := ak (Kd.V_afterv (ok := (fun k_ => ((P0_6_ k_ ∨ P0_7_ k_ ∨ P0_8_ k_) ∨ w.heap.size ≤ k_) ∧ some k_ ≠ (u6 : Value).ownBlock ∧ k_ ≠ gb101)) (vw HO_102006.out) hg hat)
                replace HO_102007 := ak (Kd.V_afterv (ok := (fun k_ => ((P0_6_ k_ ∨ P0_7_ k_ ∨ P0_8_ k_) ∨ w.heap.size ≤ k_) ∧ some k_ ≠ (u6 : Value).ownBlock ∧ k_ ≠ gb101)) (vw HO_102007.out) hg hat)
                replace HO_102008 := ak (Kd.V_afterv (ok := (fun k_ => ((P0_6_ k_ ∨ P0_7_ k_ ∨ P0_8_ k_) ∨ w.heap.size ≤ k_) ∧ some k_ ≠ (u6 : Value).ownBlock ∧ k_ ≠ gb101)) (vw HO_102008.out) hg hat)
                replace BK101 := ak (blk_grown (bk BK101.out) hg (Kd.N_ne HO141.out BK101.out (by decide)))
                replace HB := ak (hb)
                have HO144 := ak (ho)
                clear HO141 ho hb hg hat
                refine hK.out _ _ ⟨(blk_cell BK101.out 0).trans rfl, (blk_cell BK101.out 1).trans rfl, (blk_cell BK101.out 2).trans rfl, (blk_cell BK101.out 3).trans rfl, (blk_cell BK101.out 4).trans rfl, (blk_cell BK101.out 5).trans rfl, (blk_cell BK101.out 6).trans rfl, (blk_cell BK101.out 7).trans rfl, (blk_cell BK101.out 8).trans rfl, (blk_cell BK101.out 9).trans rfl, (blk_cell BK101.out 10).trans rfl⟩ (fun hHeld => ?_)
                clear hK K
                refine norm_ (a' := ?_) ?_ ?_; rotate_left; go_simp; rfl
                refine on HT_ 6 (fun K hK => ?_)
                refine Kd.N_append_rows_step k33 (w0 := w) w.heap.size (by rfl) (.tmp 99) (.tmp 101) 57 33 (.agg #[(.slice none 0 0), (.int .i64 0), (.int .i64 0), (.int .i64 0), (.slice none 0 0), (.slice none 0 0), (.slice none 0 0)]) 120 rfl Try.underlying57 info33 rfl (by decide) (by omega) v143 y142 l0_7 _ _ _ (fun k_ => ((P0_6_ k_ ∨ P0_7_ k_ ∨ P0_8_ k_) ∨ w.heap.size ≤ k_) ∧ some k_ ≠ (u6 : Value).ownBlock ∧ k_ ≠ gb101) (fun k_ => ((fun k_ => ((P0_6_ k_ ∨ P0_7_ k_ ∨ P0_8_ k_) ∨ w.heap.size ≤ k_) ∧ some k_ ≠ (u6 : Value).ownBlock ∧ k_ ≠ gb101)) k_ ∧ some k_ ≠ (v143 : Value).ownBlock) rfl rfl ?aO ?aR (fun _ hk => hk) ?aF ?aB ?aS ?aL ?_
                (case aR => exact (by skip; exact Kd.V_F (Kd.V_mono (ok' := (fun k_ => ((fun k_ => ((P0_6_ k_ ∨ P0_7_ k_ ∨ P0_8_ k_) ∨ w.heap.size ≤ k_) ∧ some k_ ≠ (u6 : Value).ownBlock ∧ k_ ≠ gb101)) k_ ∧ some k_ ≠ (v143 : Value).ownBlock)) (HO_102007.out) (fun k_ hk => ⟨⟨hk.1.1, ⟨hk.1.2.1, hk.1.2.2⟩⟩, hk.2⟩))))
                (case aB => exact bs)
                (case aF => exact (fun k_ hk => ⟨(.inr (Nat.le_trans (below_size bs) hk)), Kd.fresh' (Kd.R_lt (rw_ HO_6.out)) k_ hk, Kd.freshB (g := gb101) (o := .cells #[.int .i64 a0_0, .bool a0_1, .int .i64 a0_2, .bool a0_3, .int .i64 a0_4, .slice (some ad120) l0_5.length c0_5, .slice A0_6 l0_6.length c0_6, .slice A0_7 l0_7.length c0_7, .slice A0_8 l0_8.length c0_8, .slice A0_9 l0_9.length c0_9, .slice A0_10 l0_10.length c0_10] 92 (0, 0)) (bk BK101.out) k_ hk⟩))
                (case aO => exact (nw HO144.out))
                (case aS => exact (below_size bs))
                (case aL => have := LMc57.out; omega)
                intro v146 w64 ho hb hg hat
                rw [← Ny145.out] at ho
                replace HO_6 := ak (Kd.R_over' (rw_ HO_6.out) (Kd.N_typed (nw HO144.out)) (by decide) hg)
                replace HO_102006 := ak (Kd.V_afterv (ok := (fun k_ => ((P0_6_ k_ ∨ P0_7_ k_ ∨ P0_8_ k_) ∨ w.heap.size ≤ k_) ∧ some k_ ≠ (u6 : Value).ownBlock ∧ k_ ≠ gb101)) (vw HO_102006.out) hg hat)
                replace HO_102007 := ak (Kd.V_afterv (ok := (fun k_ => ((P0_6_ k_ ∨ P0_7_ k_ ∨ P0_8_ k_) ∨ w.heap.size ≤ k_) ∧ some k_ ≠ (u6 : Value).ownBlock ∧ k_ ≠ gb101)) (vw HO_102007.out) hg hat)
                replace HO_102008 := ak (Kd.V_afterv (ok := (fun k_ => ((P0_6_ k_ ∨ P0_7_ k_ ∨ P0_8_ k_) ∨ w.heap.size ≤ k_) ∧ some k_ ≠ (u6 : Value).ownBlock ∧ k_ ≠ gb101)) (vw HO_102008.out) hg hat)
                replace BK101 := ak (blk_grown (bk BK101.out) hg (Kd.N_ne HO144.out BK101.out (by decide)))
                replace HB := ak (hb)
                have HO147 := ak (ho)
                clear HO144 ho hb hg hat
                refine hK.out _ _ ⟨(blk_cell BK101.out 0).trans rfl, (blk_cell BK101.out 1).trans rfl, (blk_cell BK101.out 2).trans rfl, (blk_cell BK101.out 3).trans rfl, (blk_cell BK101.out 4).trans rfl, (blk_cell BK101.out 5).trans rfl, (blk_cell BK101.out 6).trans rfl, (blk_cell BK101.out 7).trans rfl, (blk_cell BK101.out 8).trans rfl, (blk_cell BK101.out 9).trans rfl, (blk_cell BK101.out 10).trans rfl⟩ (fun hHeld => ?_)
                clear hK K
                refine norm_ (a' := ?_) ?_ ?_; rotate_left; go_simp; rfl
                refine on HT_ 9 (fun K hK => ?_)
                refine Kd.N_append_rows_step k33 (w0 := w) w.heap.size (by rfl) (.tmp 102) (.tmp 104) 57 33 (.agg #[(.slice none 0 0), (.int .i64 0), (.int .i64 0), (.int .i64 0), (.slice none 0 0), (.slice none 0 0), (.slice none 0 0)]) 120 rfl Try.underlying57 info33 rfl (by decide) (by omega) v146 y145 l0_8 _ _ _ (fun k_ => ((P0_6_ k_ ∨ P0_7_ k_ ∨ P0_8_ k_) ∨ w.heap.size ≤ k_) ∧ some k_ ≠ (u6 : Value).ownBlock ∧ k_ ≠ gb101) (fun k_ => ((fun k_ => ((P0_6_ k_ ∨ P0_7_ k_ ∨ P0_8_ k_) ∨ w.heap.size ≤ k_) ∧ some k_ ≠ (u6 : Value).ownBlock ∧ k_ ≠ gb101)) k_ ∧ some k_ ≠ (v146 : Value).ownBlock) rfl rfl ?aO ?aR (fun _ hk => hk) ?aF ?aB ?aS ?aL ?_
                (case aR => exact (by skip; exact Kd.V_F (Kd.V_mono (ok' := (fun k_ => ((fun k_ => ((P0_6_ k_ ∨ P0_7_ k_ ∨ P0_8_ k_) ∨ w.heap.size ≤ k_) ∧ some k_ ≠ (u6 : Value).ownBlock ∧ k_ ≠ gb101)) k_ ∧ some k_ ≠ (v146 : Value).ownBlock)) (HO_102008.out) (fun k_ hk => ⟨⟨hk.1.1, ⟨hk.1.2.1, hk.1.2.2⟩⟩, hk.2⟩))))
                (case aB => exact bs)
                (case aF => exact (fun k_ hk => ⟨(.inr (Nat.le_trans (below_size bs) hk)), Kd.fresh' (Kd.R_lt (rw_ HO_6.out)) k_ hk, Kd.freshB (g := gb101) (o := .cells #[.int .i64 a0_0, .bool a0_1, .int .i64 a0_2, .bool a0_3, .int .i64 a0_4, .slice (some ad120) l0_5.length c0_5, .slice A0_6 l0_6.length c0_6, .slice A0_7 l0_7.length c0_7, .slice A0_8 l0_8.length c0_8, .slice A0_9 l0_9.length c0_9, .slice A0_10 l0_10.length c0_10] 92 (0, 0)) (bk BK101.out) k_ hk⟩))
                (case aO => exact (nw HO147.out))
                (case aS => exact (below_size bs))
                (case aL => have := LMc58.out; omega)
                intro v149 w65 ho hb hg hat
                rw [← Ny148.out] at ho
                replace HO_6 := ak (Kd.R_over' (rw_ HO_6.out) (Kd.N_typed (nw HO147.out)) (by decide) hg)
                replace HO_102006 := ak (Kd.V_afterv (ok := (fun k_ => ((P0_6_ k_ ∨ P0_7_ k_ ∨ P0_8_ k_) ∨ w.heap.size ≤ k_) ∧ some k_ ≠ (u6 : Value).ownBlock ∧ k_ ≠ gb101)) (vw HO_102006.out) hg hat)
                replace HO_102007 := ak (Kd.V_afterv (ok := (fun k_ => ((P0_6_ k_ ∨ P0_7_ k_ ∨ P0_8_ k_) ∨ w.heap.size ≤ k_) ∧ some k_ ≠ (u6 : Value).ownBlock ∧ k_ ≠ gb101)) (vw HO_102007.out) hg hat)
                replace HO_102008 := ak (Kd.V_afterv (ok := (fun k_ => ((P0_6_ k_ ∨ P0_7_ k_ ∨ P0_8_ k_) ∨ w.heap.size ≤ k_) ∧ some k_ ≠ (u6 : Value).ownBlock ∧ k_ ≠ gb101)) (vw HO_102008.out) hg hat)
                replace BK101 := ak (blk_grown (bk BK101.out) hg (Kd.N_ne HO147.out BK101.out (by decide)))
                replace HB := ak (hb)
                have HO150 := ak (ho)
                clear HO147 ho hb hg hat
                refine hK.out _ _ ⟨(blk_cell BK101.out 0).trans rfl, (blk_cell BK101.out 1).trans rfl, (blk_cell BK101.out 2).trans rfl, (blk_cell BK101.out 3).trans rfl, (blk_cell BK101.out 4).trans rfl, (blk_cell BK101.out 5).trans rfl, (blk_cell BK101.out 6).trans rfl, (blk_cell BK101.out 7).trans rfl, (blk_cell BK101.out 8).trans rfl, (blk_cell BK101.out 9).trans rfl, (blk_cell BK101.out 10).trans rfl⟩ (fun hHeld => ?_)
                clear hK K
                refine norm_ (a' := ?_) ?_ ?_; rotate_left; go_simp; rfl
                refine pu HT_ 10 ?_
                refine done_ (done_of HT_.out (by kernel_rfl)) ?_
                try go_wp2
                go_loopg [6, 10] k5 (fun kq v6 v10 w' => ∃ (x6_6 : List Int) (x10_6 : Int), v10 = .int .i64 x10_6 ∧ Aside0 (spec_l4bytes.l2 kq x6_6 y148 x10_6 = some r) ∧ Aside0 (kq ≤ k5) ∧ Aside0 (Kd.R (Kd.int .u8) 5 w' w.heap.size (fun k_ => (w.heap.size ≤ k_)) v6 x6_6) ∧ Aside0 (Kd.N k33 33 w' w.heap.size (fun k_ => ((P0_6_ k_ ∨ P0_7_ k_ ∨ P0_8_ k_) ∨ w.heap.size ≤ k_) ∧ some k_ ≠ (v6 : Value).ownBlock ∧ k_ ≠ gb101) v149 y148) ∧ Aside0 (Kd.V k33 33 w' w.heap.size (fun k_ => ((P0_6_ k_ ∨ P0_7_ k_ ∨ P0_8_ k_) ∨ w.heap.size ≤ k_) ∧ some k_ ≠ (v6 : Value).ownBlock ∧ some k_ ≠ (v149 : Value).ownBlock ∧ k_ ≠ gb101) (.slice A0_6 l0_6.length c0_6) l0_6) ∧ Aside0 (Kd.V k33 33 w' w.heap.size (fun k_ => ((P0_6_ k_ ∨ P0_7_ k_ ∨ P0_8_ k_) ∨ w.heap.size ≤ k_) ∧ some k_ ≠ (v6 : Value).ownBlock ∧ some k_ ≠ (v149 : Value).ownBlock ∧ k_ ≠ gb101) (.slice A0_7 l0_7.length c0_7) l0_7) ∧ Aside0 (Kd.V k33 33 w' w.heap.size (fun k_ => ((P0_6_ k_ ∨ P0_7_ k_ ∨ P0_8_ k_) ∨ w.heap.size ≤ k_) ∧ some k_ ≠ (v6 : Value).ownBlock ∧ some k_ ≠ (v149 : Value).ownBlock ∧ k_ ≠ gb101) (.slice A0_8 l0_8.length c0_8) l0_8) ∧ Aside0 (w'.heap[gb101]? = some (.cells #[.int .i64 a0_0, .bool a0_1, .int .i64 a0_2, .bool a0_3, .int .i64 a0_4, (.slice (some ad120) l0_5.length c0_5), (.slice A0_6 l0_6.length c0_6), (.slice A0_7 l0_7.length c0_7), (.slice A0_8 l0_8.length c0_8), (.slice A0_9 l0_9.length c0_9), (.slice A0_10 l0_10.length c0_10)] 92 (0, 0))) ∧ Aside0 (Below w.heap.size w w'))
                case atStart => exact ⟨(x6_5), (0), o2, H', ⟨Nat.le_refl _⟩, ⟨rw_ HO_6.out⟩, ⟨by (with_reducible repeat (first | apply Kd.N_alloc | apply Kd.N_drewN | apply Kd.N_drew)); exact HO150.out⟩, ⟨by (with_reducible repeat (first | apply Kd.V_alloc | apply Kd.V_drewN | apply Kd.V_drew)); exact Kd.V_mono HO_102006.out (fun _ hk => ⟨hk.1.1, ⟨hk.1.2.1, ⟨hk.2, hk.1.2.2⟩⟩⟩)⟩, ⟨by (with_reducible repeat (first | apply Kd.V_alloc | apply Kd.V_drewN | apply Kd.V_drew)); exact Kd.V_mono HO_102007.out (fun _ hk => ⟨hk.1.1, ⟨hk.1.2.1, ⟨hk.2, hk.1.2.2⟩⟩⟩)⟩, ⟨by (with_reducible repeat (first | apply Kd.V_alloc | apply Kd.V_drewN | apply Kd.V_drew)); exact Kd.V_mono HO_102008.out (fun _ hk => ⟨hk.1.1, ⟨hk.1.2.1, ⟨hk.2, hk.1.2.2⟩⟩⟩)⟩, ⟨bk BK101.out⟩, ⟨bs⟩⟩
                case round =>
                 clear H'
                 (try clear c43b0)
                 (try clear c50b0)
                 (try clear c56)
                 (try clear c57)
                 (try clear c58)
                 (try clear hcz49_0)
                 (try clear hcz49_1)
                 (try clear hcz49_10)
                 (try clear hcz49_2)
                 (try clear hcz49_3)
                 (try clear hcz49_4)
                 (try clear hcz49_5)
                 (try clear hcz49_6)
                 (try clear hcz49_7)
                 (try clear hcz49_8)
                 (try clear hcz49_9)
                 (try clear hcz59_0)
                 (try clear hcz59_1)
                 (try clear hcz59_10)
                 (try clear hcz59_2)
                 (try clear hcz59_3)
                 (try clear hcz59_4)
                 (try clear hcz59_5)
                 (try clear hcz59_6)
                 (try clear hcz59_7)
                 (try clear hcz59_8)
                 (try clear hcz59_9)
                 (try clear hfz49_0)
                 (try clear hfz49_1)
                 (try clear hfz49_10)
                 (try clear hfz49_2)
                 (try clear hfz49_3)
                 (try clear hfz49_4)
                 (try clear hfz49_5)
                 (try clear hfz49_6)
                 (try clear hfz49_7)
                 (try clear hfz49_8)
                 (try clear hfz49_9)
                 (try clear hfz59_0)
                 (try clear hfz59_1)
                 (try clear hfz59_10)
                 (try clear hfz59_2)
                 (try clear hfz59_3)
                 (try clear hfz59_4)
                 (try clear hfz59_5)
                 (try clear hfz59_6)
                 (try clear hfz59_7)
                 (try clear hfz59_8)
                 (try clear hfz59_9)
                 (try clear hx120_0)
                 (try clear hx120_1)
                 (try clear hx124_0)
                 (try clear hx124_1)
                 (try clear p120)
                 (try clear p124)
                 (try clear q120)
                 (try clear q124)
                 obtain ⟨x6_6, x10_6, rfl, HA, HK6, HO_6, HO_9, HO_102006, HO_102007, HO_102008, BK101, HB⟩ := hrel
                 cases gk with
                 | zero => exact absurd HA.out (by simp [spec_l4bytes.l2])
                 | succ k6 =>
                  have H := HA.out
                  clear HA
                  simp only [spec_l4bytes.l2] at H
                  replace H := ip H
                  obtain ⟨c66b0, H⟩ | ⟨c66b0, H⟩ := H
                  ·replace H := ipN H
                   obtain ⟨c67b0, H⟩ := H
                   replace H := bnd H
                   obtain ⟨t152, A68, H⟩ := H
                   have H' := ak H
                   clear H
                   obtain ⟨Ao69, co69, eo69⟩ := Kd.N_slice HO_9.out
                   subst eo69
                   have p151 : 0 ≤ (x10_6 : Int) := of_decide_eq_true (by first | (with_reducible assumption) | assumption)
                   have q151 : x10_6 < (y148.length : Int) := of_decide_eq_true (by first | (with_reducible assumption) | assumption)
                   obtain ⟨ad151, A151_0, c151_0, A151_4, c151_4, A151_5, c151_5, A151_6, c151_6, e151, hx151_0, hx151_1, hx151_2, hx151_3, hx151_4, hx151_5, hx151_6, hl151_0, hi151_0, hl151_4, hi151_4, hl151_5, hi151_5, hl151_6, hi151_6⟩ := at_T33 (Kd.N_reads' HO_9.out).2.2 x10_6 p151 q151
                   cases e151
                   obtain ⟨ce151, hce151, hMe151, hcc151⟩ := Kd.N_get HO_9.out z33 x10_6 p151 (by first | exact q151 | exact of_decide_eq_true (by first | (with_reducible assumption) | assumption) | (have e_ := (Kd.N_reads' HO_9.out).1; omega))
                   obtain ⟨ua151_0, uc151_0, ua151_4, uc151_4, ua151_5, uc151_5, ua151_6, uc151_6, rfl, ul151_0, ge151_0, ul151_4, ge151_4, ul151_5, ge151_5, ul151_6, ge151_6⟩ := k33_openF hMe151
                   have hv151_0 := hcc151 0 _ rfl
                   rw [Nat.add_zero] at hv151_0
                   replace hv151_0 := Option.some.inj (hv151_0.symm.trans hx151_0)
                   injection hv151_0 with hva_ hvn_ hvc_
                   rw [hva_] at ge151_0
                   rw [hvc_] at ul151_0
                   have HL151_0 := ak (show Kd.V (Kd.slice 5 (Kd.int .u8)) 25 _ w.heap.size _ _ ((rd_T33 y148 x10_6).f0.f0) from Kd.V_mk ul151_0 ge151_0)
                   clear hva_ hvn_ hvc_ ge151_0 ul151_0
                   have hv151_4 := hcc151 4 _ rfl
                   rw [add_field _ _ 4 (by omega)] at hv151_4
                   replace hv151_4 := Option.some.inj (hv151_4.symm.trans hx151_4)
                   injection hv151_4 with hva_ hvn_ hvc_
                   rw [hva_] at ge151_4
                   rw [hvc_] at ul151_4
                   have HL151_4 := ak (show Kd.V (Kd.slice 5 (Kd.int .u8)) 25 _ w.heap.size _ _ ((rd_T33 y148 x10_6).f4.f0) from Kd.V_mk ul151_4 ge151_4)
                   clear hva_ hvn_ hvc_ ge151_4 ul151_4
                   have hv151_5 := hcc151 5 _ rfl
                   rw [add_field _ _ 5 (by omega)] at hv151_5
                   replace hv151_5 := Option.some.inj (hv151_5.symm.trans hx151_5)
                   injection hv151_5 with hva_ hvn_ hvc_
                   rw [hva_] at ge151_5
                   rw [hvc_] at ul151_5
                   have HL151_5 := ak (show Kd.V (Kd.int .u8) 5 _ w.heap.size _ _ ((rd_T33 y148 x10_6).f5) from Kd.V_mk ul151_5 ge151_5)
                   clear hva_ hvn_ hvc_ ge151_5 ul151_5
                   have hv151_6 := hcc151 6 _ rfl
                   rw [add_field _ _ 6 (by omega)] at hv151_6
                   replace hv151_6 := Option.some.inj (hv151_6.symm.trans hx151_6)
                   injection hv151_6 with hva_ hvn_ hvc_
                   rw [hva_] at ge151_6
                   rw [hvc_] at ul151_6
                   have HL151_6 := ak (show Kd.V (Kd.int .i64) 3 _ w.heap.size _ _ ((rd_T33 y148 x10_6).f6) from Kd.V_mk ul151_6 ge151_6)
                   clear hva_ hvn_ hvc_ ge151_6 ul151_6 hcc151 hce151
                   have HR151_0 := ak hi151_0
                   have HC151_0 := ak hl151_0
                   clear hi151_0 hl151_0
                   have HR151_4 := ak hi151_4
                   have HC151_4 := ak hl151_4
                   clear hi151_4 hl151_4
                   have HR151_5 := ak hi151_5
                   have HC151_5 := ak hl151_5
                   clear hi151_5 hl151_5
                   have HR151_6 := ak hi151_6
                   have HC151_6 := ak hl151_6
                   clear hi151_6 hl151_6
                   replace p151 := eq_true p151
                   replace q151 := eq_true q151
                   obtain ⟨Ao70, co70, eo70⟩ := Kd.R_slice HO_6.out
                   subst eo70
                   go_wp2_with (((with_reducible refine gate_callee (f := 193) rfl ?_);refine glG 117 rfl rfl Try.func193 (spec_l3rr.calls (fun k_ => some k_ = (.slice Ao70 x6_6.length co70 : Value).ownBlock) (.slice Ao70 x6_6.length co70) x6_6 _ _ ((rd_T33 y148 x10_6).f0.f0) ((rd_T33 y148 x10_6).f1) ((rd_T33 y148 x10_6).f2) ((rd_T33 y148 x10_6).f3) _ _ ((rd_T33 y148 x10_6).f4.f0) _ _ ((rd_T33 y148 x10_6).f5) _ _ ((rd_T33 y148 x10_6).f6) 1 t152 w _ ?side1 ?side2 ?side3 HC151_0.out ?side5 HC151_4.out ?side7 HC151_5.out ?side9 HC151_6.out A68.out) ?_;(case side1 => repeat (first | (with_reducible first | exact HB.out | apply below_alloc | apply pw_below_drewN | apply below_drew1 | refine below_set ?_ GE101.out) | exact HB.out));(case side2 => exact Kd.R_tight rfl HO_6.out);(case side3 => exact Kd.C_kept_ownV (HL151_0.out) (fun k_ hk_ hs_ => (hk_.1.2.1) hs_));(case side5 => exact Kd.C_kept_ownV (HL151_4.out) (fun k_ hk_ hs_ => (hk_.1.2.1) hs_));(case side7 => exact Kd.C_kept_ownV (HL151_5.out) (fun k_ hk_ hs_ => (hk_.1.2.1) hs_));(case side9 => exact Kd.C_kept_ownV (HL151_6.out) (fun k_ hk_ hs_ => (hk_.1.2.1) hs_));rintro e w71 ⟨v153, rfl, ho0, hb, hkp⟩;refine ⟨_, rfl, ?_⟩;replace HO_9 := ak (Kd.N_mono (ok' := fun k_ => ((P0_6_ k_ ∨ P0_7_ k_ ∨ P0_8_ k_) ∨ w.heap.size ≤ k_) ∧ k_ ≠ gb101 ∧ some k_ ≠ (v153 : Value).ownBlock) (Kd.N_keptB (HO_9.out) hkp (fun k_ hk_ hs_ => (hk_.2.1) hs_)) (fun k_ hk_ => ⟨hk_.1.1, hk_.1.2.2, fun e_ => Or.elim (ho0.1 k_ e_.symm) (fun hs_ => hk_.2.1 hs_) (fun hn_ => Nat.not_le.2 hk_.2.2 hn_)⟩));replace HO_102006 := ak (Kd.V_mono (ok' := fun k_ => ((P0_6_ k_ ∨ P0_7_ k_ ∨ P0_8_ k_) ∨ w.heap.size ≤ k_) ∧ some k_ ≠ (.slice (some ad151) y148.length co69 : Value).ownBlock ∧ k_ ≠ gb101 ∧ some k_ ≠ (v153 : Value).ownBlock) (Kd.V_keptB (HO_102006.out) hkp (fun k_ hk_ hs_ => (hk_.2.1) hs_)) (fun k_ hk_ => ⟨hk_.1.1, hk_.1.2.2.1, hk_.1.2.2.2, fun e_ => Or.elim (ho0.1 k_ e_.symm) (fun hs_ => hk_.2.1 hs_) (fun hn_ => Nat.not_le.2 hk_.2.2 hn_)⟩));replace HO_102007 := ak (Kd.V_mono (ok' := fun k_ => ((P0_6_ k_ ∨ P0_7_ k_ ∨ P0_8_ k_) ∨ w.heap.size ≤ k_) ∧ some k_ ≠ (.slice (some ad151) y148.length co69 : Value).ownBlock ∧ k_ ≠ gb101 ∧ some k_ ≠ (v153 : Value).ownBlock) (Kd.V_keptB (HO_102007.out) hkp (fun k_ hk_ hs_ => (hk_.2.1) hs_)) (fun k_ hk_ => ⟨hk_.1.1, hk_.1.2.2.1, hk_.1.2.2.2, fun e_ => Or.elim (ho0.1 k_ e_.symm) (fun hs_ => hk_.2.1 hs_) (fun hn_ => Nat.not_le.2 hk_.2.2 hn_)⟩));replace HO_102008 := ak (Kd.V_mono (ok' := fun k_ => ((P0_6_ k_ ∨ P0_7_ k_ ∨ P0_8_ k_) ∨ w.heap.size ≤ k_) ∧ some k_ ≠ (.slice (some ad151) y148.length co69 : Value).ownBlock ∧ k_ ≠ gb101 ∧ some k_ ≠ (v153 : Value).ownBlock) (Kd.V_keptB (HO_102008.out) hkp (fun k_ hk_ hs_ => (hk_.2.1) hs_)) (fun k_ hk_ => ⟨hk_.1.1, hk_.1.2.2.1, hk_.1.2.2.2, fun e_ => Or.elim (ho0.1 k_ e_.symm) (fun hs_ => hk_.2.1 hs_) (fun hn_ => Nat.not_le.2 hk_.2.2 hn_)⟩));replace BK101 := ak (blk_kept (bk BK101.out) hkp (fun hs_ => (fun e_ => (Kd.R_ne HO_6.out BK101.out (by decide)) e_) hs_));have HO154 := ak (Kd.R_mono (ok' := fun k_ => (w.heap.size ≤ k_)) ho0 (fun k_ hk_ => Or.elim hk_ (fun hs_ => (HO_6.out.1 k_ (hs_).symm)) (fun hn_ => (Nat.le_trans (below_size bs) hn_))));replace HB := ak (hb);clear HO_6 HL151_0 HL151_4 HL151_5 HL151_6;(try clear hb);(try clear hkp);(try clear ho0)))
                   go_roundg k6
                   case measure => have := HJ1.out; have := HJ5.out; have := HJ8.out; have := HK4.out; have := HK5.out; have := HK6.out; omega
                   case rel => exact ⟨(t152), (wrap64 (x10_6 + 1)), o2, H', ⟨by have := HJ1.out; have := HJ5.out; have := HJ8.out; have := HK4.out; have := HK5.out; have := HK6.out; omega⟩, ⟨rw_ HO154.out⟩, ⟨by (with_reducible repeat (first | apply Kd.N_alloc | apply Kd.N_drewN | apply Kd.N_drew)); exact Kd.N_mono HO_9.out (fun _ hk => ⟨hk.1, ⟨hk.2.2, hk.2.1⟩⟩)⟩, ⟨by (with_reducible repeat (first | apply Kd.V_alloc | apply Kd.V_drewN | apply Kd.V_drew)); exact Kd.V_mono HO_102006.out (fun _ hk => ⟨hk.1, ⟨hk.2.2.2, ⟨hk.2.1, hk.2.2.1⟩⟩⟩)⟩, ⟨by (with_reducible repeat (first | apply Kd.V_alloc | apply Kd.V_drewN | apply Kd.V_drew)); exact Kd.V_mono HO_102007.out (fun _ hk => ⟨hk.1, ⟨hk.2.2.2, ⟨hk.2.1, hk.2.2.1⟩⟩⟩)⟩, ⟨by (with_reducible repeat (first | apply Kd.V_alloc | apply Kd.V_drewN | apply Kd.V_drew)); exact Kd.V_mono HO_102008.out (fun _ hk => ⟨hk.1, ⟨hk.2.2.2, ⟨hk.2.1, hk.2.2.1⟩⟩⟩)⟩, ⟨bk BK101.out⟩, ⟨bs⟩⟩
                  ·obtain rfl := Option.some.inj H
                   obtain ⟨Ao72, co72, eo72⟩ := Kd.N_slice HO_9.out
                   subst eo72
                   go_wp2
                   go_ret
                   exact ⟨_, o1, rw_ HO_6.out, bs⟩
               ·rw [if_neg c58] at H
                exact absurd H (by simp)
              ·rw [if_neg c57] at H
               exact absurd H (by simp)
             ·rw [if_neg c56] at H
              exact absurd H (by simp)

/-! ### spec_MsgOk: function 54 -/
def spec_MsgOk.f (k : Nat) (a0_0 : Int) (a0_1 : Bool) (a0_2 : Int) (a0_3 : Bool) (a0_4 : Int) (l0_5 : List (S200)) (l0_6 : List (S33)) (l0_7 : List (S33)) (l0_8 : List (S33)) (l0_9 : List (S205)) (l0_10 : List (S205)) : Option (Bool) := (spec_l4may.f k a0_0 a0_1 a0_2 a0_3 a0_4 l0_5 l0_6 l0_7 l0_8 l0_9 l0_10).bind fun t102 => (if t102 = true then ((spec_l4bytes.f k a0_0 a0_1 a0_2 a0_3 a0_4 l0_5 l0_6 l0_7 l0_8 l0_9 l0_10).bind fun t103 => (some (decide ((t103.length : Int) ≤ 512)))) else (some false))
set_option maxHeartbeats 8000000 in
set_option maxRecDepth 100000 in
theorem spec_MsgOk.calls (k : Nat) (a0_0 : Int) (a0_1 : Bool) (a0_2 : Int) (a0_3 : Bool) (a0_4 : Int) (A0_5 : Option Addr) (c0_5 : Nat) (l0_5 : List (S200)) (A0_6 : Option Addr) (c0_6 : Nat) (l0_6 : List (S33)) (A0_7 : Option Addr) (c0_7 : Nat) (l0_7 : List (S33)) (A0_8 : Option Addr) (c0_8 : Nat) (l0_8 : List (S33)) (A0_9 : Option Addr) (c0_9 : Nat) (l0_9 : List (S205)) (A0_10 : Option Addr) (c0_10 : Nat) (l0_10 : List (S205)) (r : Bool) (w : World) (hr0_5 : Kd.C k200 w A0_5 l0_5.length l0_5) (hc0_5 : l0_5.length ≤ c0_5) (hr0_6 : Kd.C k33 w A0_6 l0_6.length l0_6) (hc0_6 : l0_6.length ≤ c0_6) (hr0_7 : Kd.C k33 w A0_7 l0_7.length l0_7) (hc0_7 : l0_7.length ≤ c0_7) (hr0_8 : Kd.C k33 w A0_8 l0_8.length l0_8) (hc0_8 : l0_8.length ≤ c0_8) (hr0_9 : Kd.C k205 w A0_9 l0_9.length l0_9) (hc0_9 : l0_9.length ≤ c0_9) (hr0_10 : Kd.C k205 w A0_10 l0_10.length l0_10) (hc0_10 : l0_10.length ≤ c0_10) (h : spec_MsgOk.f k a0_0 a0_1 a0_2 a0_3 a0_4 l0_5 l0_6 l0_7 l0_8 l0_9 l0_10 = some r) :
  Calls Try.prog 54 #[.agg #[.int .i64 a0_0, .bool a0_1, .int .i64 a0_2, .bool a0_3, .int .i64 a0_4, .slice A0_5 l0_5.length c0_5, .slice A0_6 l0_6.length c0_6, .slice A0_7 l0_7.length c0_7, .slice A0_8 l0_8.length c0_8, .slice A0_9 l0_9.length c0_9, .slice A0_10 l0_10.length c0_10]] w fun e w' => e = .returned (.bool r) ∧ Below w.heap.size w w' := by
 have hu92 := Try.underlying92
 have HR0_5 := ak hr0_5
 have HC0_5 := ak hc0_5
 clear hr0_5 hc0_5
 have HR0_6 := ak hr0_6
 have HC0_6 := ak hc0_6
 clear hr0_6 hc0_6
 have HR0_7 := ak hr0_7
 have HC0_7 := ak hc0_7
 clear hr0_7 hc0_7
 have HR0_8 := ak hr0_8
 have HC0_8 := ak hc0_8
 clear hr0_8 hc0_8
 have HR0_9 := ak hr0_9
 have HC0_9 := ak hc0_9
 clear hr0_9 hc0_9
 have HR0_10 := ak hr0_10
 have HC0_10 := ak hc0_10
 clear hr0_10 hc0_10
 have HB := ak (Below.refl w.heap.size w)
 have H : ((spec_l4may.f k a0_0 a0_1 a0_2 a0_3 a0_4 l0_5 l0_6 l0_7 l0_8 l0_9 l0_10).bind fun t102 => (if t102 = true then ((spec_l4bytes.f k a0_0 a0_1 a0_2 a0_3 a0_4 l0_5 l0_6 l0_7 l0_8 l0_9 l0_10).bind fun t103 => (some (decide ((t103.length : Int) ≤ 512)))) else (some false))) = some r := h
 clear h
 replace H := bnd H
 obtain ⟨t102, A2, H⟩ := H
 replace H := ib H
 obtain ⟨rfl, H⟩ | ⟨rfl, H⟩ := H
 ·replace H := bnd H
  obtain ⟨t103, A4, H⟩ := H
  obtain rfl := Option.some.inj H
  go_enter Try.func54, Try.ntmps54
  go_wp2_with (first | ((with_reducible refine gate_dst (N := 1) rfl ?_);(try (refine gate_guard (by rfl) ?_; dsimp only));refine bxd (N := 1) rfl HB ?_;clear HB;intro gb101 w5 hg HB BK101 GE101 hb;have GW101 := GE101;clear hb hg;obtain ⟨hcz6_0, hcz6_1, hcz6_2, hcz6_3, hcz6_4, hcz6_5, hcz6_6, hcz6_7, hcz6_8, hcz6_9, hcz6_10, hfz6_0, hfz6_1, hfz6_2, hfz6_3, hfz6_4, hfz6_5, hfz6_6, hfz6_7, hfz6_8, hfz6_9, hfz6_10⟩ := cells11 BK101.out) | ((with_reducible refine gate_callee (f := 126) rfl ?_);refine glB 4 rfl rfl Try.func126 (spec_l4may.calls k a0_0 a0_1 a0_2 a0_3 a0_4 _ _ l0_5 _ _ l0_6 _ _ l0_7 _ _ l0_8 _ _ l0_9 _ _ l0_10 true _ (cv HR0_5 HB) HC0_5.out (cv HR0_6 HB) HC0_6.out (cv HR0_7 HB) HC0_7.out (cv HR0_8 HB) HC0_8.out (cv HR0_9 HB) HC0_9.out (cv HR0_10 HB) HC0_10.out A2.out) (fun w7 hb => ?_);replace BK101 := b1 BK101 hb;replace HB := b2s bs hb;(try clear hb);obtain ⟨hcz8_0, hcz8_1, hcz8_2, hcz8_3, hcz8_4, hcz8_5, hcz8_6, hcz8_7, hcz8_8, hcz8_9, hcz8_10, hfz8_0, hfz8_1, hfz8_2, hfz8_3, hfz8_4, hfz8_5, hfz8_6, hfz8_7, hfz8_8, hfz8_9, hfz8_10⟩ := cells11 BK101.out) | (go_at_call 127;(with_reducible refine (spec_l4bytes.calls k a0_0 a0_1 a0_2 a0_3 a0_4 _ _ l0_5 (fun k_ => k_ < w.heap.size) _ _ l0_6 (fun k_ => k_ < w.heap.size) _ _ l0_7 (fun k_ => k_ < w.heap.size) _ _ l0_8 _ _ l0_9 _ _ l0_10 t103 _ (cv HR0_5 HB) HC0_5.out ?side3 ?side4 ?side5 (cv HR0_9 HB) HC0_9.out (cv HR0_10 HB) HC0_10.out A4.out).mono ?_);(case side3 => exact Kd.V_mk HC0_6.out (Kd.F_below (Kd.C_F k33_heap HR0_6.out) bs));(case side4 => exact Kd.V_mk HC0_7.out (Kd.F_below (Kd.C_F k33_heap HR0_7.out) bs));(case side5 => exact Kd.V_mk HC0_8.out (Kd.F_below (Kd.C_F k33_heap HR0_8.out) bs));rintro e w9 ⟨v104, rfl, ho0, hb⟩;have HO105 := ak (Kd.R_lower (Kd.R_mono (ok' := fun k_ => True) ho0 (fun _ hk_ => trivial)) (below_size bs));replace BK101 := b1 BK101 hb;replace HB := b2s bs hb;(try clear hb);(try clear ho0);obtain ⟨Ao10, co10, eo10⟩ := Kd.R_slice HO105.out;subst eo10))
  go_ret
  exact ⟨o1, bs⟩
 ·obtain rfl := Option.some.inj H
  go_enter Try.func54, Try.ntmps54
  go_wp2_with (first | ((with_reducible refine gate_dst (N := 1) rfl ?_);(try (refine gate_guard (by rfl) ?_; dsimp only));refine bxd (N := 1) rfl HB ?_;clear HB;intro gb101 w11 hg HB BK101 GE101 hb;have GW101 := GE101;clear hb hg;obtain ⟨hcz12_0, hcz12_1, hcz12_2, hcz12_3, hcz12_4, hcz12_5, hcz12_6, hcz12_7, hcz12_8, hcz12_9, hcz12_10, hfz12_0, hfz12_1, hfz12_2, hfz12_3, hfz12_4, hfz12_5, hfz12_6, hfz12_7, hfz12_8, hfz12_9, hfz12_10⟩ := cells11 BK101.out) | ((with_reducible refine gate_callee (f := 126) rfl ?_);refine glB 4 rfl rfl Try.func126 (spec_l4may.calls k a0_0 a0_1 a0_2 a0_3 a0_4 _ _ l0_5 _ _ l0_6 _ _ l0_7 _ _ l0_8 _ _ l0_9 _ _ l0_10 false _ (cv HR0_5 HB) HC0_5.out (cv HR0_6 HB) HC0_6.out (cv HR0_7 HB) HC0_7.out (cv HR0_8 HB) HC0_8.out (cv HR0_9 HB) HC0_9.out (cv HR0_10 HB) HC0_10.out A2.out) (fun w13 hb => ?_);replace BK101 := b1 BK101 hb;replace HB := b2s bs hb;(try clear hb)))
  go_ret
  exact ⟨o1, bs⟩

/-! ### laws_toByteS: function 26 -/
def laws_toByteS.l0 : Nat → List Int → List Int → Int → Option (List Int)
 | 0, _, _, _ => none
 | k + 1, x0, x3, x4 => if x4 < (x0.length : Int) then (if 0 ≤ x4 then (if x4 < (x3.length : Int) then (laws_toByteS.l0 k x0 (x3.set (x4 : Int).toNat (rd x0 x4)) (wrap64 (x4 + 1))) else (none)) else (none)) else (some x3)
def laws_toByteS.f (k : Nat) (l0 : List Int) : Option (List Int) := if 0 ≤ (l0.length : Int) then (if ((l0.length : Int) : Int).toNat ≤ 281474976710656 then (laws_toByteS.l0 k l0 (List.replicate ((l0.length : Int) : Int).toNat 0) 0) else (none)) else (none)
set_option maxHeartbeats 8000000 in
set_option maxRecDepth 100000 in
theorem laws_toByteS.calls (k : Nat) (A0 : Option Addr) (c0 : Nat) (l0 : List Int) (r : List Int) (w : World) (hr0 : Kd.C (Kd.int .u8) w A0 l0.length l0) (hc0 : l0.length ≤ c0) (h : laws_toByteS.f k l0 = some r) :
  Calls Try.prog 26 #[.slice A0 l0.length c0] w fun e w' => ∃ v0_ : Value, e = .returned (v0_) ∧ Kd.R (Kd.int .u8) 5 w' w.heap.size (fun _ => True) v0_ r ∧ Below w.heap.size w w' := by
 have HR0 := ak hr0
 have HC0 := ak hc0
 clear hr0 hc0
 have HB := ak (Below.refl w.heap.size w)
 have H : (if 0 ≤ (l0.length : Int) then (if ((l0.length : Int) : Int).toNat ≤ 281474976710656 then (laws_toByteS.l0 k l0 (List.replicate ((l0.length : Int) : Int).toNat 0) 0) else (none)) else (none)) = some r := h
 clear h
 replace H := ipE H
 obtain ⟨c2b0, c2b1, H⟩ := H
 replace H := ipE H
 obtain ⟨c3b0, c3b1, H⟩ := H
 obtain ⟨y101, hy101⟩ : ∃ y_ : List Int, y_ = (List.replicate ((l0.length : Int) : Int).toNat 0) := ⟨_, rfl⟩
 (try with_reducible replace H := bnS H)
 (try rw [← hy101] at H)
 have Ny101 := ak hy101
 clear hy101
 have H' := ak H
 clear H
 go_enter Try.func26, Try.ntmps26
 go_wp2_with (((with_reducible refine gate_dst (N := 7) rfl ?_);refine Kd.R_make (Kd.int .u8) _ 5 rfl (N := 7) rfl 25 _ _ rfl (l0.length : Int) rfl rfl Try.underlying25 (.int .u8 0) 1 info5 rfl (by decide) (by omega) 0 (ok := fun _ => True) (okp := fun _ => True) rfl (fun _ hk => hk) trivial (of_decide_eq_true (by first | (with_reducible assumption) | assumption)) (Nat.le_trans (Nat.mul_le_mul_right _ (of_decide_eq_true (by first | (with_reducible assumption) | assumption) : (l0.length : Int).toNat ≤ 281474976710656)) (by omega)) (Below.refl _ _) (Nat.le_refl _) ?_;intro v102 w4 ho5 hb hg_ hnew_;clear hg_ hnew_;(first | rw [← Ny101.out] at ho5 | (simp only [Int.reduceToNat] at ho5; rw [← Ny101.out] at ho5));have HO103 := ak (Kd.R_lower ho5 (below_size (bw HB.out)));replace HB := b2 HB hb;clear hb ho5))
 go_loopg [4] k (fun kq v4 w' => ∃ (x3_1 : List Int) (x4_1 : Int), v4 = .int .i64 x4_1 ∧ Aside0 (laws_toByteS.l0 kq l0 x3_1 x4_1 = some r) ∧ Aside0 (kq ≤ k) ∧ Aside0 (Kd.R (Kd.int .u8) 5 w' w.heap.size (fun _ => True) v102 x3_1) ∧ Aside0 (Below w.heap.size w w'))
 case atStart => exact ⟨(y101), (0), o2, H', ⟨Nat.le_refl _⟩, ⟨rw_ HO103.out⟩, ⟨bw HB.out⟩⟩
 case round =>
  clear H'
  (try clear c2b0)
  (try clear c2b1)
  (try clear c3b0)
  (try clear c3b1)
  obtain ⟨x3_1, x4_1, rfl, HA, HK1, HO_3, HB⟩ := hrel
  cases gk with
  | zero => exact absurd HA.out (by simp [laws_toByteS.l0])
  | succ k1 =>
   have H := HA.out
   clear HA
   simp only [laws_toByteS.l0] at H
   replace H := ip H
   obtain ⟨c6b0, H⟩ | ⟨c6b0, H⟩ := H
   ·replace H := ipN H
    obtain ⟨c7b0, H⟩ := H
    replace H := ipN H
    obtain ⟨c8b0, H⟩ := H
    obtain ⟨y105, hy105⟩ : ∃ y_ : List Int, y_ = (x3_1.set (x4_1 : Int).toNat (rd l0 x4_1)) := ⟨_, rfl⟩
    (try with_reducible replace H := bnS H)
    (try rw [← hy105] at H)
    have Ny105 := ak hy105
    clear hy105
    have H' := ak H
    clear H
    obtain ⟨ad104, rfl, hx104_0, p104, q104⟩ := el_int HR0 HB x4_1
    have p9 : 0 ≤ (x4_1 : Int) := of_decide_eq_true (by first | (with_reducible assumption) | assumption)
    have q9 : (x4_1 : Int) < ((x3_1.length : Int) : Int) := of_decide_eq_true (by first | (with_reducible assumption) | assumption)
    obtain ⟨go9, co9, eo9, gb9, gl9, cl9, HG9⟩ := Kd.R_form HO_3.out (by omega)
    (first | cases eo9 | (injection eo9 with ea_ en_ ec_; (first | subst ea_ | (injection ea_ with ea_; subst ea_)); subst ec_; clear en_))
    have GB9 := ak gb9
    have GG9 := ak HG9
    clear gb9 gl9 HG9
    obtain ⟨hx9_0, hf9_0⟩ := Kd.R_celln 0 HO_3.out (x4_1 : Int) p9 q9
    replace p9 := eq_true p9
    replace q9 := eq_true q9
    have HP10 := Kd.R_putg HO_3.out (x4_1 : Int) (rd l0 x4_1)
    go_wp2_with (((with_reducible refine gate_store (t := 5) (p := 20) rfl ?_);refine store_event (t := 5) (p := 20) (v := ?vo_w11) (w1 := (wr.setCell ⟨go9, (x4_1 : Int).toNat, none⟩ (.int .u8 (rd l0 x4_1)))) ?hg ?ho ?hn ?hr ?_;(case ho => rfl);(case hg => rfl);(case hn => rfl);(case hr => first | (go_simp; done) | (go_simp; rfl));intro w11 hw;have hg : wr.grownBy w11 (some go9) := (by rw [hw]; exact HP10.2);have hp_ : Kd.R (Kd.int .u8) 5 w11 w.heap.size (fun _ => True) (.slice (some ⟨go9, 0, none⟩) x3_1.length co9) y105 := (by rw [hw, Ny105.out]; exact HP10.1);clear HP10;replace HO_3 := ak (hp_);replace HB := ak ((by rw [hw]; exact below_set (HB.out) GB9.out : Below w.heap.size w w11));clear hg hw hp_))
    go_roundg k1
    case measure => have := HK1.out; omega
    case rel => exact ⟨(y105), (wrap64 (x4_1 + 1)), o2, H', ⟨by have := HK1.out; omega⟩, ⟨rw_ HO_3.out⟩, ⟨bw HB.out⟩⟩
   ·obtain rfl := Option.some.inj H
    go_wp2
    go_ret
    exact ⟨_, o1, rw_ HO_3.out, bw HB.out⟩

/-! ### laws_toByteSS: function 107 -/
def laws_toByteSS.l0 : Nat → List (List Int) → List (List Int) → Int → Option ((List (List Int)))
 | 0, _, _, _ => none
 | k + 1, x0, x3, x4 => if x4 < (x0.length : Int) then (if 0 ≤ x4 then ((laws_toByteS.f k (rd_L10 x0 x4)).bind fun t105 => (if x4 < (x3.length : Int) then (laws_toByteSS.l0 k x0 (x3.set (x4 : Int).toNat t105) (wrap64 (x4 + 1))) else (none))) else (none)) else (some x3)
def laws_toByteSS.f (k : Nat) (l0 : List (List Int)) : Option ((List (List Int))) := if 0 ≤ (l0.length : Int) then (if ((l0.length : Int) : Int).toNat ≤ 11728124029610 then (laws_toByteSS.l0 k l0 (List.replicate ((l0.length : Int) : Int).toNat []) 0) else (none)) else (none)
set_option maxHeartbeats 8000000 in
set_option maxRecDepth 100000 in
theorem laws_toByteSS.calls (k : Nat) (A0 : Option Addr) (c0 : Nat) (l0 : List (List Int)) (r : List (List Int)) (w : World) (hr0 : Kd.C (Kd.slice 5 (Kd.int .u8)) w A0 l0.length l0) (hc0 : l0.length ≤ c0) (h : laws_toByteSS.f k l0 = some r) :
  Calls Try.prog 107 #[.slice A0 l0.length c0] w fun e w' => ∃ v0_ : Value, e = .returned (v0_) ∧ Kd.S (Kd.slice 5 (Kd.int .u8)) 25 w' w.heap.size (fun _ => True) v0_ r ∧ Below w.heap.size w w' := by
 have HR0 := ak hr0
 have HC0 := ak hc0
 clear hr0 hc0
 have HB := ak (Below.refl w.heap.size w)
 have H : (if 0 ≤ (l0.length : Int) then (if ((l0.length : Int) : Int).toNat ≤ 11728124029610 then (laws_toByteSS.l0 k l0 (List.replicate ((l0.length : Int) : Int).toNat []) 0) else (none)) else (none)) = some r := h
 clear h
 replace H := ipE H
 obtain ⟨c2b0, c2b1, H⟩ := H
 replace H := ipE H
 obtain ⟨c3b0, c3b1, H⟩ := H
 obtain ⟨y101, hy101⟩ : ∃ y_ : List (List Int), y_ = (List.replicate ((l0.length : Int) : Int).toNat []) := ⟨_, rfl⟩
 (try with_reducible replace H := bnS H)
 (try rw [← hy101] at H)
 have Ny101 := ak hy101
 clear hy101
 have H' := ak H
 clear H
 go_enter Try.func107, Try.ntmps107
 go_wp2_with (((with_reducible refine gate_dst (N := 7) rfl ?_);refine Kd.S_make (Kd.slice 5 (Kd.int .u8)) _ 25 rfl (N := 7) rfl 22 _ _ rfl (l0.length : Int) rfl rfl Try.underlying22 (.slice none 0 0) 24 info25 rfl (by decide) (by omega) [] (ok := fun _ => True) (okp := fun _ => True) ⟨_, rfl, Kd.R_nil _ _ _ _ _⟩ (fun _ hk => hk) trivial (of_decide_eq_true (by first | (with_reducible assumption) | assumption)) (Nat.le_trans (Nat.mul_le_mul_right _ (of_decide_eq_true (by first | (with_reducible assumption) | assumption) : (l0.length : Int).toNat ≤ 11728124029610)) (by omega)) (Below.refl _ _) (Nat.le_refl _) ?_;intro v102 w4 ho5 hb hg_ hnew_;clear hg_ hnew_;(first | rw [← Ny101.out] at ho5 | (simp only [Int.reduceToNat] at ho5; rw [← Ny101.out] at ho5));have HO103 := ak (Kd.S_lower ho5 (below_size (bw HB.out)));replace HB := b2 HB hb;clear hb ho5))
 go_loopg [4] k (fun kq v4 w' => ∃ (x3_1 : List (List Int)) (x4_1 : Int), v4 = .int .i64 x4_1 ∧ Aside0 (laws_toByteSS.l0 kq l0 x3_1 x4_1 = some r) ∧ Aside0 (kq ≤ k) ∧ Aside0 (Kd.S (Kd.slice 5 (Kd.int .u8)) 25 w' w.heap.size (fun _ => True) v102 x3_1) ∧ Aside0 (Below w.heap.size w w'))
 case atStart => exact ⟨(y101), (0), o2, H', ⟨Nat.le_refl _⟩, ⟨sw HO103.out⟩, ⟨bw HB.out⟩⟩
 case round =>
  clear H'
  (try clear c2b0)
  (try clear c2b1)
  (try clear c3b0)
  (try clear c3b1)
  obtain ⟨x3_1, x4_1, rfl, HA, HK1, HO_3, HB⟩ := hrel
  cases gk with
  | zero => exact absurd HA.out (by simp [laws_toByteSS.l0])
  | succ k1 =>
   have H := HA.out
   clear HA
   simp only [laws_toByteSS.l0] at H
   replace H := ip H
   obtain ⟨c6b0, H⟩ | ⟨c6b0, H⟩ := H
   ·replace H := ipN H
    obtain ⟨c7b0, H⟩ := H
    replace H := bnd H
    obtain ⟨t105, A8, H⟩ := H
    replace H := ipN H
    obtain ⟨c9b0, H⟩ := H
    obtain ⟨y108, hy108⟩ : ∃ y_ : List (List Int), y_ = (x3_1.set (x4_1 : Int).toNat t105) := ⟨_, rfl⟩
    (try with_reducible replace H := bnS H)
    (try rw [← hy108] at H)
    have Ny108 := ak hy108
    clear hy108
    have H' := ak H
    clear H
    obtain ⟨ad104, A104_0, c104_0, rfl, hx104_0, HC104_0, HR104_0, p104, q104⟩ := el_L10 HR0 HB x4_1
    go_wp2_with (first | ((with_reducible refine gate_callee (f := 26) rfl ?_);refine glG 20 rfl rfl Try.func26 (laws_toByteS.calls k1 _ _ (rd_L10 l0 x4_1) t105 _ (cv HR104_0 HB) HC104_0.out A8.out) ?_;rintro e w11 ⟨v106, rfl, ho0, hb⟩;refine ⟨_, rfl, ?_⟩;replace HO_3 := ak (Kd.S_elder' (sw HO_3.out) (Kd.R_base ho0) hb);have HO107 := ak (Kd.R_lower ho0 (below_size (bw HB.out)));replace HB := b2 HB hb;(try clear hb);(try clear ho0);have p10 : 0 ≤ (x4_1 : Int) := of_decide_eq_true (by first | (with_reducible assumption) | assumption);have q10 : (x4_1 : Int) < ((x3_1.length : Int) : Int) := of_decide_eq_true (by first | (with_reducible assumption) | assumption);obtain ⟨go10, co10, eo10, gb10, gl10, cl10, HG10⟩ := Kd.S_form HO_3.out (by omega);(first | cases eo10 | (injection eo10 with ea_ en_ ec_; (first | subst ea_ | (injection ea_ with ea_; subst ea_)); subst ec_; clear en_));have GB10 := ak gb10;have GG10 := ak HG10;clear gb10 gl10 HG10;obtain ⟨_, ce10, hcl10, hM10, hcc10, hfr10, _, _⟩ := Kd.S_elem HO_3.out [] (x4_1 : Int) p10 q10;obtain ⟨ve10_0, rfl, ge10_0⟩ := hM10;have hx10_0 := hcc10 0 _ rfl;have hf10_0 := hfr10 0;(try simp only [show ((Kd.slice 5 (Kd.int .u8))).sz = 1 from rfl, Nat.mul_one, Nat.add_zero] at hx10_0);(try simp only [show ((Kd.slice 5 (Kd.int .u8))).sz = 1 from rfl, Nat.mul_one, Nat.add_zero] at hf10_0);(try clear hcl10);(try clear hcc10);(try clear hfr10);(try clear hM10);replace p10 := eq_true p10;replace q10 := eq_true q10;have n_ := ak (Kd.S_mono (ok' := (fun k_ => some k_ ≠ (v106 : Value).ownBlock)) HO_3.out (fun k_ hk => hk.2));clear HO_3;have HO_3 := n_;clear n_;have HX12 := ak (show Kd.S (Kd.slice 5 (Kd.int .u8)) 25 w11 w.heap.size (fun k_ => ((fun _ => True)) k_ ∧ ¬ ((fun k_ => some k_ = (v106 : Value).ownBlock)) k_) (.slice (some ⟨go10, 0, none⟩) x3_1.length co10) x3_1 from (sw (Kd.S_mono HO_3.out (fun k_ hk => ⟨trivial, fun e_ => hk e_⟩))));obtain ⟨oki12, ce12, hcl12, hM12, hcc12, hfr12, hoki12, hH12⟩ := Kd.S_elem HX12.out [] (x4_1 : Int) (of_decide_eq_true (by first | (with_reducible assumption) | assumption)) (by have h_ : (x4_1 : Int) < ((x3_1.length : Int) : Int) := of_decide_eq_true (by first | (with_reducible assumption) | assumption); first | exact h_ | (have e_ := (Kd.S_reads' HO_3.out).1; omega) | simpa using h_);obtain ⟨ve12_0, rfl, ge12_0⟩ := hM12;have HP12 := Kd.S_seg hH12 (of_decide_eq_true (by first | (with_reducible assumption) | assumption)) (by have h_ : (x4_1 : Int) < ((x3_1.length : Int) : Int) := of_decide_eq_true (by first | (with_reducible assumption) | assumption); first | exact h_ | (have e_ := (Kd.S_reads' HO_3.out).1; omega) | simpa using h_) (seg := [v106]) (j := 0) (show 1 ≤ 1 from by decide) (x' := t105) (Kd.M_row (Kd.R_mono (Kd.R_tight rfl (Kd.R_mono (ok' := fun k_ => ((fun _ => True)) k_ ∧ k_ ≠ go10) (Kd.R_apart' (HO107.out) (Kd.S_typed HO_3.out) (by decide)) (fun k_ hk => ⟨trivial, fun e_ => (hk.2) (by rw [e_]; rfl)⟩))) (fun _ h_ => Or.inr (h_)))) (fun _ hk => hk) (fun k_ hk_ => ((Kd.R_mono (ok' := fun k_ => ((fun _ => True)) k_ ∧ k_ ≠ go10) (Kd.R_apart' (HO107.out) (Kd.S_typed HO_3.out) (by decide)) (fun k_ hk => ⟨trivial, fun e_ => (hk.2) (by rw [e_]; rfl)⟩))).1 k_ hk_.symm);have hx12_0 := hcc12 0 _ rfl;(try simp only [show ((Kd.slice 5 (Kd.int .u8))).sz = 1 from rfl, Nat.mul_one, Nat.add_zero] at hx12_0);have hf12_0 := hfr12 0;(try simp only [show ((Kd.slice 5 (Kd.int .u8))).sz = 1 from rfl, Nat.mul_one, Nat.add_zero] at hf12_0);(try clear hcl12);(try clear hcc12);(try clear hfr12);(try clear hM12);(try clear hoki12);(try clear hH12);(try simp only [show ((Kd.slice 5 (Kd.int .u8))).sz = 1 from rfl, Nat.mul_one, Nat.add_zero] at HP12)) | ((with_reducible refine gate_store (t := 25) (p := 21) rfl ?_);refine store_event (t := 25) (p := 21) (v := ?vo_w13) (w1 := (w11.setCell ⟨go10, (x4_1 : Int).toNat, none⟩ (v106))) ?hg ?ho ?hn ?hr ?_;(case ho => rfl);(case hg => rfl);(case hn => rfl);(case hr => first | (go_simp; done) | (go_simp; rfl) | ((first | (obtain ⟨A_, c_, e_⟩ := Kd.R_slice HO107.out; rw [e_]) | (obtain ⟨A_, c_, e_⟩ := Kd.S_slice HO107.out; rw [e_])); first | (go_simp; done) | (go_simp; rfl)));intro w13 hw;have hg : w11.grownBy w13 (some go10) := (by rw [hw]; exact HP12.2);have hp_ : Kd.S (Kd.slice 5 (Kd.int .u8)) 25 w13 w.heap.size (fun _ => True) (.slice (some ⟨go10, 0, none⟩) x3_1.length co10) y108 := (by rw [hw, Ny108.out]; exact HP12.1);clear HP12;replace HO_3 := ak (hp_);replace HB := ak ((by rw [hw]; exact below_set (HB.out) GB10.out : Below w.heap.size w w13));clear HO107;clear hg hw hp_))
    go_roundg k1
    case measure => have := HK1.out; omega
    case rel => exact ⟨(y108), (wrap64 (x4_1 + 1)), o2, H', ⟨by have := HK1.out; omega⟩, ⟨sw HO_3.out⟩, ⟨bw HB.out⟩⟩
   ·obtain rfl := Option.some.inj H
    go_wp2
    go_ret
    exact ⟨_, o1, sw HO_3.out, bw HB.out⟩

/-! ### laws_toName: function 41 -/
def laws_toName.f (k : Nat) (l0_0 : List (List Int)) : Option ((List (List Int))) := (laws_toByteSS.f k l0_0).bind fun t104 => (some t104)
set_option maxHeartbeats 8000000 in
set_option maxRecDepth 100000 in
theorem laws_toName.calls (k : Nat) (A0_0 : Option Addr) (c0_0 : Nat) (l0_0 : List (List Int)) (r : List (List Int)) (w : World) (hr0_0 : Kd.C (Kd.slice 5 (Kd.int .u8)) w A0_0 l0_0.length l0_0) (hc0_0 : l0_0.length ≤ c0_0) (h : laws_toName.f k l0_0 = some r) :
  Calls Try.prog 41 #[.agg #[.slice A0_0 l0_0.length c0_0]] w fun e w' => ∃ v0_ : Value, e = .returned (.agg #[v0_]) ∧ Kd.S (Kd.slice 5 (Kd.int .u8)) 25 w' w.heap.size (fun _ => True) v0_ r ∧ Below w.heap.size w w' := by
 have hu24 := Try.underlying24
 have hu31 := Try.underlying31
 have HR0_0 := ak hr0_0
 have HC0_0 := ak hc0_0
 clear hr0_0 hc0_0
 have HB := ak (Below.refl w.heap.size w)
 have H : ((laws_toByteSS.f k l0_0).bind fun t104 => (some t104)) = some r := h
 clear h
 replace H := bnd H
 obtain ⟨t104, A2, H⟩ := H
 obtain rfl := Option.some.inj H
 go_enter Try.func41, Try.ntmps41
 go_wp2_with (first | ((with_reducible refine gate_dst (N := 1) rfl ?_);refine bxd (N := 1) rfl HB ?_;clear HB;intro gb101 w3 hg HB BK101 GE101 hb;have GW101 := GE101;clear hb hg) | ((with_reducible refine gate_dst (N := 2) rfl ?_);refine bxe (N := 2) rfl ?_;intro gb102 hg w4 hbox hb;have BK102 := ak (hbox);have GW102 := b3s hg bs;have GE102 := GW102;replace HB := b2s bs hb;have NB101_102 := b4 hg BK101;have NB102_101 := b5 hg BK101;replace BK101 := b1 BK101 hb;clear hb hbox hg) | ((with_reducible refine gate_dst (N := 3) rfl ?_);refine bxe (N := 3) rfl ?_;intro gb103 hg w5 hbox hb;have BK103 := ak (hbox);have GW103 := b3s hg bs;have GE103 := GW103;replace HB := b2s bs hb;have NB101_103 := b4 hg BK101;have NB103_101 := b5 hg BK101;replace BK101 := b1 BK101 hb;have NB102_103 := b4 hg BK102;have NB103_102 := b5 hg BK102;replace BK102 := b1 BK102 hb;clear hb hbox hg;have hnb6 := NB101_102.out;have hnc6 := NB102_101.out;have hnb7 := NB101_103.out;have hnc7 := NB103_101.out;obtain ⟨hcz8_0, hfz8_0⟩ := cells1 BK101.out) | ((with_reducible refine gate_callee (f := 107) rfl ?_);refine glG 6 rfl rfl Try.func107 (laws_toByteSS.calls k _ _ l0_0 t104 _ (cv HR0_0 HB) HC0_0.out A2.out) ?_;rintro e w9 ⟨v105, rfl, ho0, hb⟩;refine ⟨_, rfl, ?_⟩;have HO106 := ak (Kd.S_lower ho0 (below_size bs));replace BK101 := b1 BK101 hb;replace BK102 := b1 BK102 hb;replace BK103 := b1 BK103 hb;replace HB := b2s bs hb;(try clear hb);(try clear ho0);obtain ⟨Ao10, co10, eo10⟩ := Kd.S_slice HO106.out;subst eo10;have hnb11 := NB103_102.out;have hnc11 := NB102_103.out;obtain ⟨hcz12_0, hfz12_0⟩ := cells1 BK103.out;obtain ⟨hcz13_0, hfz13_0⟩ := cells1 BK102.out))
 refine bodyPost_ret (results_cell_row rfl _ _ gb102 31 #[.slice Ao10 t104.length co10] (0, 0) _ rfl (by (with_reducible repeat (first | refine blk_drewN ?_ _ | refine blk_drew ?_ | refine blk_alloc ?_ _)); refine blk_put (cs := #[.slice none 0 0]) ?_ 0 _ rfl; (with_reducible repeat (first | refine blk_drewN ?_ _ | refine blk_drew ?_ | refine blk_alloc ?_ _)); refine blk_far ?_ NB102_103.out _; (with_reducible repeat (first | refine blk_drewN ?_ _ | refine blk_drew ?_ | refine blk_alloc ?_ _)); exact BK102.out) Try.underlying31 rfl (by kernel_rfl)) rfl ?_
 exact ⟨_, o1, by (with_reducible repeat (first | apply Kd.S_alloc | apply Kd.S_drewN | apply Kd.S_drew)); exact Kd.S_mono (Kd.S_far (p := ⟨gb102, 0, none⟩) (Kd.S_far (p := ⟨gb103, 0, none⟩) (Kd.S_types (Kd.S_types HO106.out BK103.out (by decide)) BK102.out (by decide)) (fun _ hk => hk.1.2) (.slice Ao10 t104.length co10)) (fun _ hk => hk.2) (.slice Ao10 t104.length co10)) (fun _ hk => trivial), bs⟩

/-! ### laws_toIntS: function 62 -/
def laws_toIntS.l0 : Nat → List Int → List Int → Int → Option (List Int)
 | 0, _, _, _ => none
 | k + 1, x0, x3, x4 => if x4 < (x0.length : Int) then (if 0 ≤ x4 then (if x4 < (x3.length : Int) then (laws_toIntS.l0 k x0 (x3.set (x4 : Int).toNat (rd x0 x4)) (wrap64 (x4 + 1))) else (none)) else (none)) else (some x3)
def laws_toIntS.f (k : Nat) (l0 : List Int) : Option (List Int) := if 0 ≤ (l0.length : Int) then (if ((l0.length : Int) : Int).toNat ≤ 35184372088832 then (laws_toIntS.l0 k l0 (List.replicate ((l0.length : Int) : Int).toNat 0) 0) else (none)) else (none)
set_option maxHeartbeats 8000000 in
set_option maxRecDepth 100000 in
theorem laws_toIntS.calls (k : Nat) (A0 : Option Addr) (c0 : Nat) (l0 : List Int) (r : List Int) (w : World) (hr0 : Kd.C (Kd.int .i64) w A0 l0.length l0) (hc0 : l0.length ≤ c0) (h : laws_toIntS.f k l0 = some r) :
  Calls Try.prog 62 #[.slice A0 l0.length c0] w fun e w' => ∃ v0_ : Value, e = .returned (v0_) ∧ Kd.R (Kd.int .i64) 3 w' w.heap.size (fun _ => True) v0_ r ∧ Below w.heap.size w w' := by
 have HR0 := ak hr0
 have HC0 := ak hc0
 clear hr0 hc0
 have HB := ak (Below.refl w.heap.size w)
 have H : (if 0 ≤ (l0.length : Int) then (if ((l0.length : Int) : Int).toNat ≤ 35184372088832 then (laws_toIntS.l0 k l0 (List.replicate ((l0.length : Int) : Int).toNat 0) 0) else (none)) else (none)) = some r := h
 clear h
 replace H := ipE H
 obtain ⟨c2b0, c2b1, H⟩ := H
 replace H := ipE H
 obtain ⟨c3b0, c3b1, H⟩ := H
 obtain ⟨y101, hy101⟩ : ∃ y_ : List Int, y_ = (List.replicate ((l0.length : Int) : Int).toNat 0) := ⟨_, rfl⟩
 (try with_reducible replace H := bnS H)
 (try rw [← hy101] at H)
 have Ny101 := ak hy101
 clear hy101
 have H' := ak H
 clear H
 go_enter Try.func62, Try.ntmps62
 go_wp2_with (((with_reducible refine gate_dst (N := 7) rfl ?_);refine Kd.R_make (Kd.int .i64) _ 3 rfl (N := 7) rfl 26 _ _ rfl (l0.length : Int) rfl rfl Try.underlying26 (.int .i64 0) 8 info3 rfl (by decide) (by omega) 0 (ok := fun _ => True) (okp := fun _ => True) rfl (fun _ hk => hk) trivial (of_decide_eq_true (by first | (with_reducible assumption) | assumption)) (Nat.le_trans (Nat.mul_le_mul_right _ (of_decide_eq_true (by first | (with_reducible assumption) | assumption) : (l0.length : Int).toNat ≤ 35184372088832)) (by omega)) (Below.refl _ _) (Nat.le_refl _) ?_;intro v102 w4 ho5 hb hg_ hnew_;clear hg_ hnew_;(first | rw [← Ny101.out] at ho5 | (simp only [Int.reduceToNat] at ho5; rw [← Ny101.out] at ho5));have HO103 := ak (Kd.R_lower ho5 (below_size (bw HB.out)));replace HB := b2 HB hb;clear hb ho5))
 go_loopg [4] k (fun kq v4 w' => ∃ (x3_1 : List Int) (x4_1 : Int), v4 = .int .i64 x4_1 ∧ Aside0 (laws_toIntS.l0 kq l0 x3_1 x4_1 = some r) ∧ Aside0 (kq ≤ k) ∧ Aside0 (Kd.R (Kd.int .i64) 3 w' w.heap.size (fun _ => True) v102 x3_1) ∧ Aside0 (Below w.heap.size w w'))
 case atStart => exact ⟨(y101), (0), o2, H', ⟨Nat.le_refl _⟩, ⟨rw_ HO103.out⟩, ⟨bw HB.out⟩⟩
 case round =>
  clear H'
  (try clear c2b0)
  (try clear c2b1)
  (try clear c3b0)
  (try clear c3b1)
  obtain ⟨x3_1, x4_1, rfl, HA, HK1, HO_3, HB⟩ := hrel
  cases gk with
  | zero => exact absurd HA.out (by simp [laws_toIntS.l0])
  | succ k1 =>
   have H := HA.out
   clear HA
   simp only [laws_toIntS.l0] at H
   replace H := ip H
   obtain ⟨c6b0, H⟩ | ⟨c6b0, H⟩ := H
   ·replace H := ipN H
    obtain ⟨c7b0, H⟩ := H
    replace H := ipN H
    obtain ⟨c8b0, H⟩ := H
    obtain ⟨y105, hy105⟩ : ∃ y_ : List Int, y_ = (x3_1.set (x4_1 : Int).toNat (rd l0 x4_1)) := ⟨_, rfl⟩
    (try with_reducible replace H := bnS H)
    (try rw [← hy105] at H)
    have Ny105 := ak hy105
    clear hy105
    have H' := ak H
    clear H
    obtain ⟨ad104, rfl, hx104_0, p104, q104⟩ := el_int HR0 HB x4_1
    have p9 : 0 ≤ (x4_1 : Int) := of_decide_eq_true (by first | (with_reducible assumption) | assumption)
    have q9 : (x4_1 : Int) < ((x3_1.length : Int) : Int) := of_decide_eq_true (by first | (with_reducible assumption) | assumption)
    obtain ⟨go9, co9, eo9, gb9, gl9, cl9, HG9⟩ := Kd.R_form HO_3.out (by omega)
    (first | cases eo9 | (injection eo9 with ea_ en_ ec_; (first | subst ea_ | (injection ea_ with ea_; subst ea_)); subst ec_; clear en_))
    have GB9 := ak gb9
    have GG9 := ak HG9
    clear gb9 gl9 HG9
    obtain ⟨hx9_0, hf9_0⟩ := Kd.R_celln 0 HO_3.out (x4_1 : Int) p9 q9
    replace p9 := eq_true p9
    replace q9 := eq_true q9
    have HP10 := Kd.R_putg HO_3.out (x4_1 : Int) (rd l0 x4_1)
    go_wp2_with (((with_reducible refine gate_store (t := 3) (p := 20) rfl ?_);refine store_event (t := 3) (p := 20) (v := ?vo_w11) (w1 := (wr.setCell ⟨go9, (x4_1 : Int).toNat, none⟩ (.int .i64 (rd l0 x4_1)))) ?hg ?ho ?hn ?hr ?_;(case ho => rfl);(case hg => rfl);(case hn => rfl);(case hr => first | (go_simp; done) | (go_simp; rfl));intro w11 hw;have hg : wr.grownBy w11 (some go9) := (by rw [hw]; exact HP10.2);have hp_ : Kd.R (Kd.int .i64) 3 w11 w.heap.size (fun _ => True) (.slice (some ⟨go9, 0, none⟩) x3_1.length co9) y105 := (by rw [hw, Ny105.out]; exact HP10.1);clear HP10;replace HO_3 := ak (hp_);replace HB := ak ((by rw [hw]; exact below_set (HB.out) GB9.out : Below w.heap.size w w11));clear hg hw hp_))
    go_roundg k1
    case measure => have := HK1.out; omega
    case rel => exact ⟨(y105), (wrap64 (x4_1 + 1)), o2, H', ⟨by have := HK1.out; omega⟩, ⟨rw_ HO_3.out⟩, ⟨bw HB.out⟩⟩
   ·obtain rfl := Option.some.inj H
    go_wp2
    go_ret
    exact ⟨_, o1, rw_ HO_3.out, bw HB.out⟩

/-! ### laws_toRr: function 15 -/
def laws_toRr.f (k : Nat) (l0_0 : List (List Int)) (a0_1 : Int) (a0_2 : Int) (a0_3 : Int) (l0_4 : List (List Int)) (l0_5 : List Int) (l0_6 : List Int) : Option ((List (List Int)) × Int × Int × Int × (List (List Int)) × List Int × List Int) := (laws_toName.f k l0_0).bind fun t104 => ((laws_toName.f k l0_4).bind fun t107 => ((laws_toByteS.f k l0_5).bind fun t110 => ((laws_toIntS.f k l0_6).bind fun t113 => (some (t104, a0_1, a0_2, a0_3, t107, t110, t113)))))
set_option maxHeartbeats 8000000 in
set_option maxRecDepth 100000 in
theorem laws_toRr.calls (k : Nat) (A0_0 : Option Addr) (c0_0 : Nat) (l0_0 : List (List Int)) (a0_1 : Int) (a0_2 : Int) (a0_3 : Int) (A0_4 : Option Addr) (c0_4 : Nat) (l0_4 : List (List Int)) (A0_5 : Option Addr) (c0_5 : Nat) (l0_5 : List Int) (A0_6 : Option Addr) (c0_6 : Nat) (l0_6 : List Int) (r1 : List (List Int)) (r2 : Int) (r3 : Int) (r4 : Int) (r5 : List (List Int)) (r6 : List Int) (r7 : List Int) (w : World) (hr0_0 : Kd.C (Kd.slice 5 (Kd.int .u8)) w A0_0 l0_0.length l0_0) (hc0_0 : l0_0.length ≤ c0_0) (hr0_4 : Kd.C (Kd.slice 5 (Kd.int .u8)) w A0_4 l0_4.length l0_4) (hc0_4 : l0_4.length ≤ c0_4) (hr0_5 : Kd.C (Kd.int .u8) w A0_5 l0_5.length l0_5) (hc0_5 : l0_5.length ≤ c0_5) (hr0_6 : Kd.C (Kd.int .i64) w A0_6 l0_6.length l0_6) (hc0_6 : l0_6.length ≤ c0_6) (h : laws_toRr.f k l0_0 a0_1 a0_2 a0_3 l0_4 l0_5 l0_6 = some (r1, r2, r3, r4, r5, r6, r7)) :
  Calls Try.prog 15 #[.agg #[.slice A0_0 l0_0.length c0_0, .int .i64 a0_1, .int .i64 a0_2, .int .i64 a0_3, .slice A0_4 l0_4.length c0_4, .slice A0_5 l0_5.length c0_5, .slice A0_6 l0_6.length c0_6]] w fun e w' => ∃ v0_ v4_ v5_ v6_ : Value, e = .returned (.agg #[v0_, .int .i64 r2, .int .i64 r3, .int .i64 r4, v4_, v5_, v6_]) ∧ Kd.S (Kd.slice 5 (Kd.int .u8)) 25 w' w.heap.size (fun k_ => some k_ ≠ (v4_ : Value).ownBlock ∧ some k_ ≠ (v5_ : Value).ownBlock) v0_ r1 ∧ Kd.S (Kd.slice 5 (Kd.int .u8)) 25 w' w.heap.size (fun k_ => some k_ ≠ (v0_ : Value).ownBlock ∧ some k_ ≠ (v5_ : Value).ownBlock) v4_ r5 ∧ Kd.R (Kd.int .u8) 5 w' w.heap.size (fun _ => True) v5_ r6 ∧ Kd.R (Kd.int .i64) 3 w' w.heap.size (fun _ => True) v6_ r7 ∧ Below w.heap.size w w' := by
 have hu28 := Try.underlying28
 have hu33 := Try.underlying33
 have hu24 := Try.underlying24
 have hu31 := Try.underlying31
 have HR0_0 := ak hr0_0
 have HC0_0 := ak hc0_0
 clear hr0_0 hc0_0
 have HR0_4 := ak hr0_4
 have HC0_4 := ak hc0_4
 clear hr0_4 hc0_4
 have HR0_5 := ak hr0_5
 have HC0_5 := ak hc0_5
 clear hr0_5 hc0_5
 have HR0_6 := ak hr0_6
 have HC0_6 := ak hc0_6
 clear hr0_6 hc0_6
 have HB := ak (Below.refl w.heap.size w)
 have H : ((laws_toName.f k l0_0).bind fun t104 => ((laws_toName.f k l0_4).bind fun t107 => ((laws_toByteS.f k l0_5).bind fun t110 => ((laws_toIntS.f k l0_6).bind fun t113 => (some (t104, a0_1, a0_2, a0_3, t107, t110, t113)))))) = some (r1, r2, r3, r4, r5, r6, r7) := h
 clear h
 replace H := bnd H
 obtain ⟨t104, A2, H⟩ := H
 replace H := bnd H
 obtain ⟨t107, A3, H⟩ := H
 replace H := bnd H
 obtain ⟨t110, A4, H⟩ := H
 replace H := bnd H
 obtain ⟨t113, A5, H⟩ := H
 simp only [Option.some.injEq, Prod.mk.injEq] at H
 obtain ⟨rfl, rfl, rfl, rfl, rfl, rfl, rfl⟩ := H
 go_enter Try.func15, Try.ntmps15
 go_wp2_with (first | ((with_reducible refine gate_dst (N := 1) rfl ?_);refine bxd (N := 1) rfl HB ?_;clear HB;intro gb101 w6 hg HB BK101 GE101 hb;have GW101 := GE101;clear hb hg) | ((with_reducible refine gate_dst (N := 2) rfl ?_);refine bxe (N := 2) rfl ?_;intro gb102 hg w7 hbox hb;have BK102 := ak (hbox);have GW102 := b3s hg bs;have GE102 := GW102;replace HB := b2s bs hb;have NB101_102 := b4 hg BK101;have NB102_101 := b5 hg BK101;replace BK101 := b1 BK101 hb;clear hb hbox hg) | ((with_reducible refine gate_dst (N := 3) rfl ?_);refine bxe (N := 3) rfl ?_;intro gb103 hg w8 hbox hb;have BK103 := ak (hbox);have GW103 := b3s hg bs;have GE103 := GW103;replace HB := b2s bs hb;have NB101_103 := b4 hg BK101;have NB103_101 := b5 hg BK101;replace BK101 := b1 BK101 hb;have NB102_103 := b4 hg BK102;have NB103_102 := b5 hg BK102;replace BK102 := b1 BK102 hb;clear hb hbox hg;have hnb9 := NB101_102.out;have hnc9 := NB102_101.out;have hnb10 := NB101_103.out;have hnc10 := NB103_101.out;obtain ⟨hcz11_0, hcz11_1, hcz11_2, hcz11_3, hcz11_4, hcz11_5, hcz11_6, hfz11_0, hfz11_1, hfz11_2, hfz11_3, hfz11_4, hfz11_5, hfz11_6⟩ := cells7 BK101.out) | ((with_reducible refine gate_callee (f := 41) rfl ?_);refine glG 6 rfl rfl Try.func41 (laws_toName.calls k _ _ l0_0 t104 _ (cv HR0_0 HB) HC0_0.out A2.out) ?_;rintro e w12 ⟨v105, rfl, ho0, hb⟩;refine ⟨_, rfl, ?_⟩;have HO106 := ak (Kd.S_lower ho0 (below_size bs));replace BK101 := b1 BK101 hb;replace BK102 := b1 BK102 hb;replace BK103 := b1 BK103 hb;replace HB := b2s bs hb;(try clear hb);(try clear ho0);obtain ⟨Ao13, co13, eo13⟩ := Kd.S_slice HO106.out;subst eo13;have hnb14 := NB103_102.out;have hnc14 := NB102_103.out;obtain ⟨hcz15_0, hcz15_1, hcz15_2, hcz15_3, hcz15_4, hcz15_5, hcz15_6, hfz15_0, hfz15_1, hfz15_2, hfz15_3, hfz15_4, hfz15_5, hfz15_6⟩ := cells7 BK103.out;obtain ⟨hcz16_0, hcz16_1, hcz16_2, hcz16_3, hcz16_4, hcz16_5, hcz16_6, hfz16_0, hfz16_1, hfz16_2, hfz16_3, hfz16_4, hfz16_5, hfz16_6⟩ := cells7 BK101.out) | ((with_reducible refine gate_callee (f := 41) rfl ?_);refine glG 19 rfl rfl Try.func41 (laws_toName.calls k _ _ l0_4 t107 _ (Kd.C_below HR0_4.out bs) HC0_4.out A3.out) ?_;rintro e w17 ⟨v108, rfl, ho0, hb⟩;refine ⟨_, rfl, ?_⟩;have HO109 := ak (Kd.S_lower (Kd.S_new' ho0 (Kd.S_lt (by (with_reducible repeat (first | apply Kd.S_alloc | apply Kd.S_drewN | apply Kd.S_drew)); exact (Kd.S_mono (Kd.S_far (p := ⟨gb103, 3, none⟩) (Kd.S_far (p := ⟨gb103, 2, none⟩) (Kd.S_far (p := ⟨gb103, 1, none⟩) (Kd.S_far (p := ⟨gb103, 0, none⟩) (Kd.S_types HO106.out BK103.out (by decide)) (fun _ hk => hk.2) (.slice Ao13 t104.length co13)) (fun _ hk => hk.2) (.int .i64 a0_1)) (fun _ hk => hk.2) (.int .i64 a0_2)) (fun _ hk => hk.2) (.int .i64 a0_3)) (fun _ h_ => h_.1))))) (below_size bs));replace HO106 := ak (Kd.S_elder' (by (with_reducible repeat (first | apply Kd.S_alloc | apply Kd.S_drewN | apply Kd.S_drew)); exact (Kd.S_mono (Kd.S_far (p := ⟨gb103, 3, none⟩) (Kd.S_far (p := ⟨gb103, 2, none⟩) (Kd.S_far (p := ⟨gb103, 1, none⟩) (Kd.S_far (p := ⟨gb103, 0, none⟩) (Kd.S_types HO106.out BK103.out (by decide)) (fun _ hk => hk.2) (.slice Ao13 t104.length co13)) (fun _ hk => hk.2) (.int .i64 a0_1)) (fun _ hk => hk.2) (.int .i64 a0_2)) (fun _ hk => hk.2) (.int .i64 a0_3)) (fun _ h_ => h_.1))) (Kd.S_base ho0) hb);replace BK101 := ak (blk_below (g := gb101) (o := .cells #[.slice A0_0 l0_0.length c0_0, .int .i64 a0_1, .int .i64 a0_2, .int .i64 a0_3, .slice A0_4 l0_4.length c0_4, .slice A0_5 l0_5.length c0_5, .slice A0_6 l0_6.length c0_6] 28 (0, 0)) (by (with_reducible repeat (first | refine blk_drewN ?_ _ | refine blk_drew ?_ | refine blk_alloc ?_ _)); refine blk_far ?_ NB101_103.out _; (with_reducible repeat (first | refine blk_drewN ?_ _ | refine blk_drew ?_ | refine blk_alloc ?_ _)); refine blk_far ?_ NB101_103.out _; (with_reducible repeat (first | refine blk_drewN ?_ _ | refine blk_drew ?_ | refine blk_alloc ?_ _)); refine blk_far ?_ NB101_103.out _; (with_reducible repeat (first | refine blk_drewN ?_ _ | refine blk_drew ?_ | refine blk_alloc ?_ _)); refine blk_far ?_ NB101_103.out _; (with_reducible repeat (first | refine blk_drewN ?_ _ | refine blk_drew ?_ | refine blk_alloc ?_ _)); exact BK101.out) hb);replace BK102 := ak (blk_below (g := gb102) (o := .cells #[.slice none 0 0, .int .i64 0, .int .i64 0, .int .i64 0, .slice none 0 0, .slice none 0 0, .slice none 0 0] 33 (0, 0)) (by (with_reducible repeat (first | refine blk_drewN ?_ _ | refine blk_drew ?_ | refine blk_alloc ?_ _)); refine blk_far ?_ NB102_103.out _; (with_reducible repeat (first | refine blk_drewN ?_ _ | refine blk_drew ?_ | refine blk_alloc ?_ _)); refine blk_far ?_ NB102_103.out _; (with_reducible repeat (first | refine blk_drewN ?_ _ | refine blk_drew ?_ | refine blk_alloc ?_ _)); refine blk_far ?_ NB102_103.out _; (with_reducible repeat (first | refine blk_drewN ?_ _ | refine blk_drew ?_ | refine blk_alloc ?_ _)); refine blk_far ?_ NB102_103.out _; (with_reducible repeat (first | refine blk_drewN ?_ _ | refine blk_drew ?_ | refine blk_alloc ?_ _)); exact BK102.out) hb);replace BK103 := ak (blk_below (g := gb103) (o := .cells #[.slice Ao13 t104.length co13, .int .i64 a0_1, .int .i64 a0_2, .int .i64 a0_3, .slice none 0 0, .slice none 0 0, .slice none 0 0] 33 (0, 0)) (by (with_reducible repeat (first | refine blk_drewN ?_ _ | refine blk_drew ?_ | refine blk_alloc ?_ _)); refine blk_put (cs := #[.slice Ao13 t104.length co13, .int .i64 a0_1, .int .i64 a0_2, .int .i64 0, .slice none 0 0, .slice none 0 0, .slice none 0 0]) ?_ 3 _ rfl; (with_reducible repeat (first | refine blk_drewN ?_ _ | refine blk_drew ?_ | refine blk_alloc ?_ _)); refine blk_put (cs := #[.slice Ao13 t104.length co13, .int .i64 a0_1, .int .i64 0, .int .i64 0, .slice none 0 0, .slice none 0 0, .slice none 0 0]) ?_ 2 _ rfl; (with_reducible repeat (first | refine blk_drewN ?_ _ | refine blk_drew ?_ | refine blk_alloc ?_ _)); refine blk_put (cs := #[.slice Ao13 t104.length co13, .int .i64 0, .int .i64 0, .int .i64 0, .slice none 0 0, .slice none 0 0, .slice none 0 0]) ?_ 1 _ rfl; (with_reducible repeat (first | refine blk_drewN ?_ _ | refine blk_drew ?_ | refine blk_alloc ?_ _)); refine blk_put (cs := #[.slice none 0 0, .int .i64 0, .int .i64 0, .int .i64 0, .slice none 0 0, .slice none 0 0, .slice none 0 0]) ?_ 0 _ rfl; (with_reducible repeat (first | refine blk_drewN ?_ _ | refine blk_drew ?_ | refine blk_alloc ?_ _)); exact BK103.out) hb);replace HB := b2s bs hb;(try clear hb);(try clear ho0);obtain ⟨Ao18, co18, eo18⟩ := Kd.S_slice HO109.out;subst eo18;obtain ⟨hcz19_0, hcz19_1, hcz19_2, hcz19_3, hcz19_4, hcz19_5, hcz19_6, hfz19_0, hfz19_1, hfz19_2, hfz19_3, hfz19_4, hfz19_5, hfz19_6⟩ := cells7 BK103.out;obtain ⟨hcz20_0, hcz20_1, hcz20_2, hcz20_3, hcz20_4, hcz20_5, hcz20_6, hfz20_0, hfz20_1, hfz20_2, hfz20_3, hfz20_4, hfz20_5, hfz20_6⟩ := cells7 BK101.out) | ((with_reducible refine gate_callee (f := 26) rfl ?_);refine glG 23 rfl rfl Try.func26 (laws_toByteS.calls k _ _ l0_5 t110 _ (Kd.C_below HR0_5.out bs) HC0_5.out A4.out) ?_;rintro e w21 ⟨v111, rfl, ho0, hb⟩;refine ⟨_, rfl, ?_⟩;replace HO106 := ak (Kd.S_elder' (by (with_reducible repeat (first | apply Kd.S_alloc | apply Kd.S_drewN | apply Kd.S_drew)); exact (Kd.S_mono (Kd.S_far (p := ⟨gb103, 4, none⟩) (Kd.S_types HO106.out BK103.out (by decide)) (fun _ hk => hk.2) (.slice Ao18 t107.length co18)) (fun _ h_ => h_.1))) (Kd.R_base ho0) hb);replace HO109 := ak (Kd.S_elder' (by (with_reducible repeat (first | apply Kd.S_alloc | apply Kd.S_drewN | apply Kd.S_drew)); exact (Kd.S_mono (Kd.S_far (p := ⟨gb103, 4, none⟩) (Kd.S_types HO109.out BK103.out (by decide)) (fun _ hk => hk.2) (.slice Ao18 t107.length co18)) (fun _ h_ => h_.1))) (Kd.R_base ho0) hb);have HO112 := ak (Kd.R_lower ho0 (below_size bs));replace BK101 := ak (blk_below (g := gb101) (o := .cells #[.slice A0_0 l0_0.length c0_0, .int .i64 a0_1, .int .i64 a0_2, .int .i64 a0_3, .slice A0_4 l0_4.length c0_4, .slice A0_5 l0_5.length c0_5, .slice A0_6 l0_6.length c0_6] 28 (0, 0)) (by (with_reducible repeat (first | refine blk_drewN ?_ _ | refine blk_drew ?_ | refine blk_alloc ?_ _)); refine blk_far ?_ NB101_103.out _; (with_reducible repeat (first | refine blk_drewN ?_ _ | refine blk_drew ?_ | refine blk_alloc ?_ _)); exact BK101.out) hb);replace BK102 := ak (blk_below (g := gb102) (o := .cells #[.slice none 0 0, .int .i64 0, .int .i64 0, .int .i64 0, .slice none 0 0, .slice none 0 0, .slice none 0 0] 33 (0, 0)) (by (with_reducible repeat (first | refine blk_drewN ?_ _ | refine blk_drew ?_ | refine blk_alloc ?_ _)); refine blk_far ?_ NB102_103.out _; (with_reducible repeat (first | refine blk_drewN ?_ _ | refine blk_drew ?_ | refine blk_alloc ?_ _)); exact BK102.out) hb);replace BK103 := ak (blk_below (g := gb103) (o := .cells #[.slice Ao13 t104.length co13, .int .i64 a0_1, .int .i64 a0_2, .int .i64 a0_3, .slice Ao18 t107.length co18, .slice none 0 0, .slice none 0 0] 33 (0, 0)) (by (with_reducible repeat (first | refine blk_drewN ?_ _ | refine blk_drew ?_ | refine blk_alloc ?_ _)); refine blk_put (cs := #[.slice Ao13 t104.length co13, .int .i64 a0_1, .int .i64 a0_2, .int .i64 a0_3, .slice none 0 0, .slice none 0 0, .slice none 0 0]) ?_ 4 _ rfl; (with_reducible repeat (first | refine blk_drewN ?_ _ | refine blk_drew ?_ | refine blk_alloc ?_ _)); exact BK103.out) hb);replace HB := b2s bs hb;(try clear hb);(try clear ho0);obtain ⟨Ao22, co22, eo22⟩ := Kd.R_slice HO112.out;subst eo22;obtain ⟨hcz23_0, hcz23_1, hcz23_2, hcz23_3, hcz23_4, hcz23_5, hcz23_6, hfz23_0, hfz23_1, hfz23_2, hfz23_3, hfz23_4, hfz23_5, hfz23_6⟩ := cells7 BK103.out;obtain ⟨hcz24_0, hcz24_1, hcz24_2, hcz24_3, hcz24_4, hcz24_5, hcz24_6, hfz24_0, hfz24_1, hfz24_2, hfz24_3, hfz24_4, hfz24_5, hfz24_6⟩ := cells7 BK101.out) | ((with_reducible refine gate_callee (f := 62) rfl ?_);refine glG 27 rfl rfl Try.func62 (laws_toIntS.calls k _ _ l0_6 t113 _ (Kd.C_below HR0_6.out bs) HC0_6.out A5.out) ?_;rintro e w25 ⟨v114, rfl, ho0, hb⟩;refine ⟨_, rfl, ?_⟩;replace HO106 := ak (Kd.S_below (by (with_reducible repeat (first | apply Kd.S_alloc | apply Kd.S_drewN | apply Kd.S_drew)); exact (Kd.S_mono (Kd.S_far (p := ⟨gb103, 5, none⟩) (Kd.S_types HO106.out BK103.out (by decide)) (fun _ hk => hk.2) (.slice Ao22 t110.length co22)) (fun _ h_ => h_.1))) hb);replace HO109 := ak (Kd.S_below (by (with_reducible repeat (first | apply Kd.S_alloc | apply Kd.S_drewN | apply Kd.S_drew)); exact (Kd.S_mono (Kd.S_far (p := ⟨gb103, 5, none⟩) (Kd.S_types HO109.out BK103.out (by decide)) (fun _ hk => hk.2) (.slice Ao22 t110.length co22)) (fun _ h_ => h_.1))) hb);replace HO112 := ak (Kd.R_below (by (with_reducible repeat (first | apply Kd.R_alloc | apply Kd.R_drewN | apply Kd.R_drew)); exact (Kd.R_mono (Kd.R_far (p := ⟨gb103, 5, none⟩) (Kd.R_types HO112.out BK103.out (by decide)) (fun _ hk => hk.2) (.slice Ao22 t110.length co22)) (fun _ h_ => h_.1))) hb);have HO115 := ak (Kd.R_lower ho0 (below_size bs));replace BK101 := ak (blk_below (g := gb101) (o := .cells #[.slice A0_0 l0_0.length c0_0, .int .i64 a0_1, .int .i64 a0_2, .int .i64 a0_3, .slice A0_4 l0_4.length c0_4, .slice A0_5 l0_5.length c0_5, .slice A0_6 l0_6.length c0_6] 28 (0, 0)) (by (with_reducible repeat (first | refine blk_drewN ?_ _ | refine blk_drew ?_ | refine blk_alloc ?_ _)); refine blk_far ?_ NB101_103.out _; (with_reducible repeat (first | refine blk_drewN ?_ _ | refine blk_drew ?_ | refine blk_alloc ?_ _)); exact BK101.out) hb);replace BK102 := ak (blk_below (g := gb102) (o := .cells #[.slice none 0 0, .int .i64 0, .int .i64 0, .int .i64 0, .slice none 0 0, .slice none 0 0, .slice none 0 0] 33 (0, 0)) (by (with_reducible repeat (first | refine blk_drewN ?_ _ | refine blk_drew ?_ | refine blk_alloc ?_ _)); refine blk_far ?_ NB102_103.out _; (with_reducible repeat (first | refine blk_drewN ?_ _ | refine blk_drew ?_ | refine blk_alloc ?_ _)); exact BK102.out) hb);replace BK103 := ak (blk_below (g := gb103) (o := .cells #[.slice Ao13 t104.length co13, .int .i64 a0_1, .int .i64 a0_2, .int .i64 a0_3, .slice Ao18 t107.length co18, .slice Ao22 t110.length co22, .slice none 0 0] 33 (0, 0)) (by (with_reducible repeat (first | refine blk_drewN ?_ _ | refine blk_drew ?_ | refine blk_alloc ?_ _)); refine blk_put (cs := #[.slice Ao13 t104.length co13, .int .i64 a0_1, .int .i64 a0_2, .int .i64 a0_3, .slice Ao18 t107.length co18, .slice none 0 0, .slice none 0 0]) ?_ 5 _ rfl; (with_reducible repeat (first | refine blk_drewN ?_ _ | refine blk_drew ?_ | refine blk_alloc ?_ _)); exact BK103.out) hb);replace HB := b2s bs hb;(try clear hb);(try clear ho0);obtain ⟨Ao26, co26, eo26⟩ := Kd.R_slice HO115.out;subst eo26;obtain ⟨hcz27_0, hcz27_1, hcz27_2, hcz27_3, hcz27_4, hcz27_5, hcz27_6, hfz27_0, hfz27_1, hfz27_2, hfz27_3, hfz27_4, hfz27_5, hfz27_6⟩ := cells7 BK103.out;obtain ⟨hcz28_0, hcz28_1, hcz28_2, hcz28_3, hcz28_4, hcz28_5, hcz28_6, hfz28_0, hfz28_1, hfz28_2, hfz28_3, hfz28_4, hfz28_5, hfz28_6⟩ := cells7 BK102.out))
 refine bodyPost_ret (results_cell_row rfl _ _ gb102 33 #[.slice Ao13 t104.length co13, .int .i64 a0_1, .int .i64 a0_2, .int .i64 a0_3, .slice Ao18 t107.length co18, .slice Ao22 t110.length co22, .slice Ao26 t113.length co26] (0, 0) _ rfl (by (with_reducible repeat (first | refine blk_drewN ?_ _ | refine blk_drew ?_ | refine blk_alloc ?_ _)); refine blk_put (cs := #[.slice Ao13 t104.length co13, .int .i64 a0_1, .int .i64 a0_2, .int .i64 a0_3, .slice Ao18 t107.length co18, .slice Ao22 t110.length co22, .slice none 0 0]) ?_ 6 _ rfl; (with_reducible repeat (first | refine blk_drewN ?_ _ | refine blk_drew ?_ | refine blk_alloc ?_ _)); refine blk_put (cs := #[.slice Ao13 t104.length co13, .int .i64 a0_1, .int .i64 a0_2, .int .i64 a0_3, .slice Ao18 t107.length co18, .slice none 0 0, .slice none 0 0]) ?_ 5 _ rfl; (with_reducible repeat (first | refine blk_drewN ?_ _ | refine blk_drew ?_ | refine blk_alloc ?_ _)); refine blk_put (cs := #[.slice Ao13 t104.length co13, .int .i64 a0_1, .int .i64 a0_2, .int .i64 a0_3, .slice none 0 0, .slice none 0 0, .slice none 0 0]) ?_ 4 _ rfl; (with_reducible repeat (first | refine blk_drewN ?_ _ | refine blk_drew ?_ | refine blk_alloc ?_ _)); refine blk_put (cs := #[.slice Ao13 t104.length co13, .int .i64 a0_1, .int .i64 a0_2, .int .i64 0, .slice none 0 0, .slice none 0 0, .slice none 0 0]) ?_ 3 _ rfl; (with_reducible repeat (first | refine blk_drewN ?_ _ | refine blk_drew ?_ | refine blk_alloc ?_ _)); refine blk_put (cs := #[.slice Ao13 t104.length co13, .int .i64 a0_1, .int .i64 0, .int .i64 0, .slice none 0 0, .slice none 0 0, .slice none 0 0]) ?_ 2 _ rfl; (with_reducible repeat (first | refine blk_drewN ?_ _ | refine blk_drew ?_ | refine blk_alloc ?_ _)); refine blk_put (cs := #[.slice Ao13 t104.length co13, .int .i64 0, .int .i64 0, .int .i64 0, .slice none 0 0, .slice none 0 0, .slice none 0 0]) ?_ 1 _ rfl; (with_reducible repeat (first | refine blk_drewN ?_ _ | refine blk_drew ?_ | refine blk_alloc ?_ _)); refine blk_put (cs := #[.slice none 0 0, .int .i64 0, .int .i64 0, .int .i64 0, .slice none 0 0, .slice none 0 0, .slice none 0 0]) ?_ 0 _ rfl; (with_reducible repeat (first | refine blk_drewN ?_ _ | refine blk_drew ?_ | refine blk_alloc ?_ _)); refine blk_far ?_ NB102_103.out _; (with_reducible repeat (first | refine blk_drewN ?_ _ | refine blk_drew ?_ | refine blk_alloc ?_ _)); exact BK102.out) Try.underlying33 rfl (by kernel_rfl)) rfl ?_
 exact ⟨_, _, _, _, o1, by (with_reducible repeat (first | apply Kd.S_alloc | apply Kd.S_drewN | apply Kd.S_drew)); exact Kd.S_mono (Kd.S_far (p := ⟨gb102, 6, none⟩) (Kd.S_far (p := ⟨gb102, 5, none⟩) (Kd.S_far (p := ⟨gb102, 4, none⟩) (Kd.S_far (p := ⟨gb102, 3, none⟩) (Kd.S_far (p := ⟨gb102, 2, none⟩) (Kd.S_far (p := ⟨gb102, 1, none⟩) (Kd.S_far (p := ⟨gb102, 0, none⟩) (Kd.S_far (p := ⟨gb103, 6, none⟩) (Kd.S_types (Kd.S_types HO106.out BK103.out (by decide)) BK102.out (by decide)) (fun _ hk => hk.1.2) (.slice Ao26 t113.length co26)) (fun _ hk => hk.2) (.slice Ao13 t104.length co13)) (fun _ hk => hk.2) (.int .i64 a0_1)) (fun _ hk => hk.2) (.int .i64 a0_2)) (fun _ hk => hk.2) (.int .i64 a0_3)) (fun _ hk => hk.2) (.slice Ao18 t107.length co18)) (fun _ hk => hk.2) (.slice Ao22 t110.length co22)) (fun _ hk => hk.2) (.slice Ao26 t113.length co26)) (fun _ hk => ⟨hk.1.1.1.2, hk.1.1.2⟩), by (with_reducible repeat (first | apply Kd.S_alloc | apply Kd.S_drewN | apply Kd.S_drew)); exact Kd.S_mono (Kd.S_far (p := ⟨gb102, 6, none⟩) (Kd.S_far (p := ⟨gb102, 5, none⟩) (Kd.S_far (p := ⟨gb102, 4, none⟩) (Kd.S_far (p := ⟨gb102, 3, none⟩) (Kd.S_far (p := ⟨gb102, 2, none⟩) (Kd.S_far (p := ⟨gb102, 1, none⟩) (Kd.S_far (p := ⟨gb102, 0, none⟩) (Kd.S_far (p := ⟨gb103, 6, none⟩) (Kd.S_types (Kd.S_types HO109.out BK103.out (by decide)) BK102.out (by decide)) (fun _ hk => hk.1.2) (.slice Ao26 t113.length co26)) (fun _ hk => hk.2) (.slice Ao13 t104.length co13)) (fun _ hk => hk.2) (.int .i64 a0_1)) (fun _ hk => hk.2) (.int .i64 a0_2)) (fun _ hk => hk.2) (.int .i64 a0_3)) (fun _ hk => hk.2) (.slice Ao18 t107.length co18)) (fun _ hk => hk.2) (.slice Ao22 t110.length co22)) (fun _ hk => hk.2) (.slice Ao26 t113.length co26)) (fun _ hk => ⟨hk.1.1.1.2, hk.1.1.2⟩), by (with_reducible repeat (first | apply Kd.R_alloc | apply Kd.R_drewN | apply Kd.R_drew)); exact Kd.R_mono (Kd.R_far (p := ⟨gb102, 6, none⟩) (Kd.R_far (p := ⟨gb102, 5, none⟩) (Kd.R_far (p := ⟨gb102, 4, none⟩) (Kd.R_far (p := ⟨gb102, 3, none⟩) (Kd.R_far (p := ⟨gb102, 2, none⟩) (Kd.R_far (p := ⟨gb102, 1, none⟩) (Kd.R_far (p := ⟨gb102, 0, none⟩) (Kd.R_far (p := ⟨gb103, 6, none⟩) (Kd.R_types (Kd.R_types HO112.out BK103.out (by decide)) BK102.out (by decide)) (fun _ hk => hk.1.2) (.slice Ao26 t113.length co26)) (fun _ hk => hk.2) (.slice Ao13 t104.length co13)) (fun _ hk => hk.2) (.int .i64 a0_1)) (fun _ hk => hk.2) (.int .i64 a0_2)) (fun _ hk => hk.2) (.int .i64 a0_3)) (fun _ hk => hk.2) (.slice Ao18 t107.length co18)) (fun _ hk => hk.2) (.slice Ao22 t110.length co22)) (fun _ hk => hk.2) (.slice Ao26 t113.length co26)) (fun _ hk => trivial), by (with_reducible repeat (first | apply Kd.R_alloc | apply Kd.R_drewN | apply Kd.R_drew)); exact Kd.R_mono (Kd.R_far (p := ⟨gb102, 6, none⟩) (Kd.R_far (p := ⟨gb102, 5, none⟩) (Kd.R_far (p := ⟨gb102, 4, none⟩) (Kd.R_far (p := ⟨gb102, 3, none⟩) (Kd.R_far (p := ⟨gb102, 2, none⟩) (Kd.R_far (p := ⟨gb102, 1, none⟩) (Kd.R_far (p := ⟨gb102, 0, none⟩) (Kd.R_far (p := ⟨gb103, 6, none⟩) (Kd.R_types (Kd.R_types HO115.out BK103.out (by decide)) BK102.out (by decide)) (fun _ hk => hk.1.2) (.slice Ao26 t113.length co26)) (fun _ hk => hk.2) (.slice Ao13 t104.length co13)) (fun _ hk => hk.2) (.int .i64 a0_1)) (fun _ hk => hk.2) (.int .i64 a0_2)) (fun _ hk => hk.2) (.int .i64 a0_3)) (fun _ hk => hk.2) (.slice Ao18 t107.length co18)) (fun _ hk => hk.2) (.slice Ao22 t110.length co22)) (fun _ hk => hk.2) (.slice Ao26 t113.length co26)) (fun _ hk => trivial), bs⟩

/-! ### laws_toRrS: function 99 -/
def laws_toRrS.l0 : Nat → List (S28) → List (S33) → Int → Option ((List (S33)))
 | 0, _, _, _ => none
 | k + 1, x0, x3, x4 => if x4 < (x0.length : Int) then (if 0 ≤ x4 then ((laws_toRr.f k ((rd_T28 x0 x4).f0.f0) ((rd_T28 x0 x4).f1) ((rd_T28 x0 x4).f2) ((rd_T28 x0 x4).f3) ((rd_T28 x0 x4).f4.f0) ((rd_T28 x0 x4).f5) ((rd_T28 x0 x4).f6)).bind fun bt105 => (if x4 < (x3.length : Int) then (laws_toRrS.l0 k x0 (x3.set (x4 : Int).toNat (⟨(⟨bt105.1⟩ : S31), bt105.2.1, bt105.2.2.1, bt105.2.2.2.1, (⟨bt105.2.2.2.2.1⟩ : S31), bt105.2.2.2.2.2.1, bt105.2.2.2.2.2.2⟩ : S33)) (wrap64 (x4 + 1))) else (none))) else (none)) else (some x3)
def laws_toRrS.f (k : Nat) (l0 : List (S28)) : Option ((List (S33))) := if 0 ≤ (l0.length : Int) then (if ((l0.length : Int) : Int).toNat ≤ 2345624805922 then (laws_toRrS.l0 k l0 (List.replicate ((l0.length : Int) : Int).toNat z33) 0) else (none)) else (none)
set_option maxHeartbeats 8000000 in
set_option maxRecDepth 100000 in
theorem laws_toRrS.calls (k : Nat) (A0 : Option Addr) (c0 : Nat) (l0 : List (S28)) (r : List (S33)) (w : World) (hr0 : Kd.C k28 w A0 l0.length l0) (hc0 : l0.length ≤ c0) (h : laws_toRrS.f k l0 = some r) :
  Calls Try.prog 99 #[.slice A0 l0.length c0] w fun e w' => ∃ v0_ : Value, e = .returned (v0_) ∧ Kd.R k33 33 w' w.heap.size (fun _ => True) v0_ r ∧ Below w.heap.size w w' := by
 have hu28 := Try.underlying28
 have hu33 := Try.underlying33
 have HR0 := ak hr0
 have HC0 := ak hc0
 clear hr0 hc0
 have HB := ak (Below.refl w.heap.size w)
 have H : (if 0 ≤ (l0.length : Int) then (if ((l0.length : Int) : Int).toNat ≤ 2345624805922 then (laws_toRrS.l0 k l0 (List.replicate ((l0.length : Int) : Int).toNat z33) 0) else (none)) else (none)) = some r := h
 clear h
 replace H := ipE H
 obtain ⟨c2b0, c2b1, H⟩ := H
 replace H := ipE H
 obtain ⟨c3b0, c3b1, H⟩ := H
 obtain ⟨y101, hy101⟩ : ∃ y_ : List (S33), y_ = (List.replicate ((l0.length : Int) : Int).toNat z33) := ⟨_, rfl⟩
 (try with_reducible replace H := bnS H)
 (try rw [← hy101] at H)
 have Ny101 := ak hy101
 clear hy101
 have H' := ak H
 clear H
 go_enter Try.func99, Try.ntmps99
 go_wp2_with (((with_reducible refine gate_dst (N := 7) rfl ?_);refine Kd.R_make k33 _ 33 rfl (N := 7) rfl 57 _ _ rfl (l0.length : Int) rfl rfl Try.underlying57 (.agg #[(.slice none 0 0), (.int .i64 0), (.int .i64 0), (.int .i64 0), (.slice none 0 0), (.slice none 0 0), (.slice none 0 0)]) 120 info33 rfl (by decide) (by omega) z33 (ok := fun _ => True) (okp := fun _ => True) (k33_mkM _ _ _ z33 (Kd.R_nil _ _ _ _ _) (Kd.R_nil _ _ _ _ _) (Kd.R_nil _ _ _ _ _) (Kd.R_nil _ _ _ _ _)) (fun _ hk => hk) trivial (of_decide_eq_true (by first | (with_reducible assumption) | assumption)) (Nat.le_trans (Nat.mul_le_mul_right _ (of_decide_eq_true (by first | (with_reducible assumption) | assumption) : (l0.length : Int).toNat ≤ 2345624805922)) (by omega)) (Below.refl _ _) (Nat.le_refl _) ?_;intro v102 w4 ho5 hb hg_ hnew_;clear hg_ hnew_;(first | rw [← Ny101.out] at ho5 | (simp only [Int.reduceToNat] at ho5; rw [← Ny101.out] at ho5));have HO103 := ak (Kd.R_lower ho5 (below_size (bw HB.out)));replace HB := b2 HB hb;clear hb ho5))
 go_loopg [4] k (fun kq v4 w' => ∃ (x3_1 : List (S33)) (x4_1 : Int), v4 = .int .i64 x4_1 ∧ Aside0 (laws_toRrS.l0 kq l0 x3_1 x4_1 = some r) ∧ Aside0 (kq ≤ k) ∧ Aside0 (Kd.R k33 33 w' w.heap.size (fun _ => True) v102 x3_1) ∧ Aside0 (Below w.heap.size w w'))
 case atStart => exact ⟨(y101), (0), o2, H', ⟨Nat.le_refl _⟩, ⟨rw_ HO103.out⟩, ⟨bw HB.out⟩⟩
 case round =>
  clear H'
  (try clear c2b0)
  (try clear c2b1)
  (try clear c3b0)
  (try clear c3b1)
  obtain ⟨x3_1, x4_1, rfl, HA, HK1, HO_3, HB⟩ := hrel
  cases gk with
  | zero => exact absurd HA.out (by simp [laws_toRrS.l0])
  | succ k1 =>
   have H := HA.out
   clear HA
   simp only [laws_toRrS.l0] at H
   replace H := ip H
   obtain ⟨c6b0, H⟩ | ⟨c6b0, H⟩ := H
   ·replace H := ipN H
    obtain ⟨c7b0, H⟩ := H
    replace H := Option.bind_eq_some_iff.mp H
    obtain ⟨⟨t105, t108, t109, t110, t111, t114, t117⟩, A80, H⟩ := H
    replace H : (if x4_1 < (x3_1.length : Int) then (laws_toRrS.l0 k1 l0 (x3_1.set (x4_1 : Int).toNat (⟨(⟨t105⟩ : S31), t108, t109, t110, (⟨t111⟩ : S31), t114, t117⟩ : S33)) (wrap64 (x4_1 + 1))) else (none)) = some r := H
    have A8 := ak A80
    clear A80
    replace H := ipN H
    obtain ⟨c9b0, H⟩ := H
    obtain ⟨y120, hy120⟩ : ∃ y_ : List (S33), y_ = (x3_1.set (x4_1 : Int).toNat (⟨(⟨t105⟩ : S31), t108, t109, t110, (⟨t111⟩ : S31), t114, t117⟩ : S33)) := ⟨_, rfl⟩
    (try with_reducible replace H := bnS H)
    (try rw [← hy120] at H)
    have Ny120 := ak hy120
    clear hy120
    have H' := ak H
    clear H
    obtain ⟨ad104, A104_0, c104_0, A104_4, c104_4, A104_5, c104_5, A104_6, c104_6, rfl, hx104_0, hx104_1, hx104_2, hx104_3, hx104_4, hx104_5, hx104_6, HC104_0, HR104_0, HC104_4, HR104_4, HC104_5, HR104_5, HC104_6, HR104_6, p104, q104⟩ := el_T28 HR0 HB x4_1
    go_wp2_with (first | ((with_reducible refine gate_callee (f := 15) rfl ?_);refine glG 20 rfl rfl Try.func15 (laws_toRr.calls k1 _ _ ((rd_T28 l0 x4_1).f0.f0) ((rd_T28 l0 x4_1).f1) ((rd_T28 l0 x4_1).f2) ((rd_T28 l0 x4_1).f3) _ _ ((rd_T28 l0 x4_1).f4.f0) _ _ ((rd_T28 l0 x4_1).f5) _ _ ((rd_T28 l0 x4_1).f6) t105 t108 t109 t110 t111 t114 t117 _ (cv HR104_0 HB) HC104_0.out (cv HR104_4 HB) HC104_4.out (cv HR104_5 HB) HC104_5.out (cv HR104_6 HB) HC104_6.out A8.out) ?_;rintro e w11 ⟨v106, v112, v115, v118, rfl, ho0, ho1, ho2, ho3, hb⟩;refine ⟨_, rfl, ?_⟩;replace HO_3 := ak (Kd.R_mono (Kd.R_told (Kd.R_told (Kd.R_told (Kd.R_told (Kd.R_old (rw_ HO_3.out) hb) (Kd.S_base ho0)) (Kd.S_base ho1)) (Kd.R_base ho2)) (Kd.R_base ho3)) (fun _ h_ => h_.1));have HO107 := ak (Kd.S_lower ho0 (below_size (bw HB.out)));have HO113 := ak (Kd.S_lower ho1 (below_size (bw HB.out)));have HO116 := ak (Kd.R_lower ho2 (below_size (bw HB.out)));have HO119 := ak (Kd.R_lower ho3 (below_size (bw HB.out)));replace HB := b2 HB hb;(try clear hb);(try clear ho0);(try clear ho1);(try clear ho2);(try clear ho3);have p10 : 0 ≤ (x4_1 : Int) := of_decide_eq_true (by first | (with_reducible assumption) | assumption);have q10 : (x4_1 : Int) < ((x3_1.length : Int) : Int) := of_decide_eq_true (by first | (with_reducible assumption) | assumption);obtain ⟨go10, co10, eo10, gb10, gl10, cl10, HG10⟩ := Kd.R_form HO_3.out (by omega);(first | cases eo10 | (injection eo10 with ea_ en_ ec_; (first | subst ea_ | (injection ea_ with ea_; subst ea_)); subst ec_; clear en_));have GB10 := ak gb10;have GG10 := ak HG10;clear gb10 gl10 HG10;obtain ⟨ce10, hcl10, hM10, hcc10, hfr10⟩ := Kd.R_elem HO_3.out z33 (x4_1 : Int) p10 q10;obtain ⟨ve10_0, ve10_4, ve10_5, ve10_6, rfl, ge10_0, ge10_4, ge10_5, ge10_6⟩ := k33_openM hM10;have hx10_0 : w11.cell? ⟨go10, (x4_1 : Int).toNat * 7, none⟩ = some (ve10_0) := hcc10 0 _ rfl;have hx10_1 : w11.cell? ⟨go10, (x4_1 : Int).toNat * 7 + 1, none⟩ = some (.int .i64 ((rd_T33 x3_1 x4_1).f1)) := hcc10 1 _ rfl;have hx10_2 : w11.cell? ⟨go10, (x4_1 : Int).toNat * 7 + 2, none⟩ = some (.int .i64 ((rd_T33 x3_1 x4_1).f2)) := hcc10 2 _ rfl;have hx10_3 : w11.cell? ⟨go10, (x4_1 : Int).toNat * 7 + 3, none⟩ = some (.int .i64 ((rd_T33 x3_1 x4_1).f3)) := hcc10 3 _ rfl;have hx10_4 : w11.cell? ⟨go10, (x4_1 : Int).toNat * 7 + 4, none⟩ = some (ve10_4) := hcc10 4 _ rfl;have hx10_5 : w11.cell? ⟨go10, (x4_1 : Int).toNat * 7 + 5, none⟩ = some (ve10_5) := hcc10 5 _ rfl;have hx10_6 : w11.cell? ⟨go10, (x4_1 : Int).toNat * 7 + 6, none⟩ = some (ve10_6) := hcc10 6 _ rfl;have hf10_0 : w11.frozen? ⟨go10, (x4_1 : Int).toNat * 7, none⟩ = false := hfr10 0;have hf10_1 : w11.frozen? ⟨go10, (x4_1 : Int).toNat * 7 + 1, none⟩ = false := hfr10 1;have hf10_2 : w11.frozen? ⟨go10, (x4_1 : Int).toNat * 7 + 2, none⟩ = false := hfr10 2;have hf10_3 : w11.frozen? ⟨go10, (x4_1 : Int).toNat * 7 + 3, none⟩ = false := hfr10 3;have hf10_4 : w11.frozen? ⟨go10, (x4_1 : Int).toNat * 7 + 4, none⟩ = false := hfr10 4;have hf10_5 : w11.frozen? ⟨go10, (x4_1 : Int).toNat * 7 + 5, none⟩ = false := hfr10 5;have hf10_6 : w11.frozen? ⟨go10, (x4_1 : Int).toNat * 7 + 6, none⟩ = false := hfr10 6;(try clear hcl10);(try clear hcc10);(try clear hfr10);(try clear hM10);replace p10 := eq_true p10;replace q10 := eq_true q10;have n_ := ak (Kd.R_mono (ok' := (fun k_ => some k_ ≠ (v106 : Value).ownBlock ∧ some k_ ≠ (v112 : Value).ownBlock ∧ some k_ ≠ (v115 : Value).ownBlock ∧ some k_ ≠ (v118 : Value).ownBlock)) HO_3.out (fun k_ hk => ⟨hk.1.1.1.2, ⟨hk.1.1.2, ⟨hk.1.2, hk.2⟩⟩⟩));clear HO_3;have HO_3 := n_;clear n_;have HX12 := ak (show Kd.R k33 33 w11 w.heap.size (fun _ => True) (.slice (some ⟨go10, 0, none⟩) x3_1.length co10) x3_1 from (rw_ (Kd.R_mono HO_3.out (fun _ hk => trivial))));obtain ⟨ce12, hcl12, hM12, hcc12, hfr12⟩ := Kd.R_elem HX12.out z33 (x4_1 : Int) (of_decide_eq_true (by first | (with_reducible assumption) | assumption)) (by have h_ : (x4_1 : Int) < ((x3_1.length : Int) : Int) := of_decide_eq_true (by first | (with_reducible assumption) | assumption); first | exact h_ | (have e_ := (Kd.R_reads' HO_3.out).1; omega) | simpa using h_);obtain ⟨ve12_0, ve12_4, ve12_5, ve12_6, rfl, ge12_0, ge12_4, ge12_5, ge12_6⟩ := k33_openM hM12;have HP12 := Kd.R_seg HX12.out (x4_1 : Int) (of_decide_eq_true (by first | (with_reducible assumption) | assumption)) (by have h_ : (x4_1 : Int) < ((x3_1.length : Int) : Int) := of_decide_eq_true (by first | (with_reducible assumption) | assumption); first | exact h_ | (have e_ := (Kd.R_reads' HO_3.out).1; omega) | simpa using h_) (seg := [v106, .int .i64 t108, .int .i64 t109, .int .i64 t110, v112, v115, v118]) (j := 0) hcl12 hcc12 (show 7 ≤ 7 from by decide) (x' := (⟨(⟨t105⟩ : S31), t108, t109, t110, (⟨t111⟩ : S31), t114, t117⟩ : S33)) (k33_mkM _ _ _ (⟨(⟨t105⟩ : S31), t108, t109, t110, (⟨t111⟩ : S31), t114, t117⟩ : S33) (Kd.R_mono (Kd.R_apart' ((Kd.S_R HO107.out)) (Kd.R_typed HO_3.out) (by decide)) (fun k_ hk => ⟨trivial, fun e_ => (hk.2) (by rw [e_]; rfl)⟩)) (Kd.R_mono (Kd.R_apart' ((Kd.S_R HO113.out)) (Kd.R_typed HO_3.out) (by decide)) (fun k_ hk => ⟨trivial, fun e_ => (hk.2) (by rw [e_]; rfl)⟩)) (Kd.R_mono (Kd.R_apart' (HO116.out) (Kd.R_typed HO_3.out) (by decide)) (fun k_ hk => ⟨trivial, fun e_ => (hk.2) (by rw [e_]; rfl)⟩)) (Kd.R_mono (Kd.R_apart' (HO119.out) (Kd.R_typed HO_3.out) (by decide)) (fun k_ hk => ⟨trivial, fun e_ => (hk.2) (by rw [e_]; rfl)⟩))) (fun _ hk => hk);have hx12_0 := hcc12 0 _ rfl;(try simp only [show (k33).sz = 7 from rfl, Nat.mul_one, Nat.add_zero] at hx12_0);have hf12_0 := hfr12 0;(try simp only [show (k33).sz = 7 from rfl, Nat.mul_one, Nat.add_zero] at hf12_0);have hx12_1 := hcc12 1 _ rfl;(try simp only [show (k33).sz = 7 from rfl, Nat.mul_one, Nat.add_zero] at hx12_1);have hf12_1 := hfr12 1;(try simp only [show (k33).sz = 7 from rfl, Nat.mul_one, Nat.add_zero] at hf12_1);have hx12_2 := hcc12 2 _ rfl;(try simp only [show (k33).sz = 7 from rfl, Nat.mul_one, Nat.add_zero] at hx12_2);have hf12_2 := hfr12 2;(try simp only [show (k33).sz = 7 from rfl, Nat.mul_one, Nat.add_zero] at hf12_2);have hx12_3 := hcc12 3 _ rfl;(try simp only [show (k33).sz = 7 from rfl, Nat.mul_one, Nat.add_zero] at hx12_3);have hf12_3 := hfr12 3;(try simp only [show (k33).sz = 7 from rfl, Nat.mul_one, Nat.add_zero] at hf12_3);have hx12_4 := hcc12 4 _ rfl;(try simp only [show (k33).sz = 7 from rfl, Nat.mul_one, Nat.add_zero] at hx12_4);have hf12_4 := hfr12 4;(try simp only [show (k33).sz = 7 from rfl, Nat.mul_one, Nat.add_zero] at hf12_4);have hx12_5 := hcc12 5 _ rfl;(try simp only [show (k33).sz = 7 from rfl, Nat.mul_one, Nat.add_zero] at hx12_5);have hf12_5 := hfr12 5;(try simp only [show (k33).sz = 7 from rfl, Nat.mul_one, Nat.add_zero] at hf12_5);have hx12_6 := hcc12 6 _ rfl;(try simp only [show (k33).sz = 7 from rfl, Nat.mul_one, Nat.add_zero] at hx12_6);have hf12_6 := hfr12 6;(try simp only [show (k33).sz = 7 from rfl, Nat.mul_one, Nat.add_zero] at hf12_6);(try clear hcl12);(try clear hcc12);(try clear hfr12);(try clear hM12)) | ((with_reducible refine gate_store (t := 33) (p := 21) rfl ?_);refine store_event (t := 33) (p := 21) (v := ?vo_w13) (w1 := (((((((w11.setCell ⟨go10, (x4_1 : Int).toNat * 7, none⟩ (v106)).setCell ⟨go10, (x4_1 : Int).toNat * 7 + 1, none⟩ (.int .i64 t108)).setCell ⟨go10, (x4_1 : Int).toNat * 7 + 2, none⟩ (.int .i64 t109)).setCell ⟨go10, (x4_1 : Int).toNat * 7 + 3, none⟩ (.int .i64 t110)).setCell ⟨go10, (x4_1 : Int).toNat * 7 + 4, none⟩ (v112)).setCell ⟨go10, (x4_1 : Int).toNat * 7 + 5, none⟩ (v115)).setCell ⟨go10, (x4_1 : Int).toNat * 7 + 6, none⟩ (v118))) ?hg ?ho ?hn ?hr ?_;(case ho => rfl);(case hg => rfl);(case hn => rfl);(case hr => first | (go_simp; done) | (go_simp; rfl) | ((first | (obtain ⟨A_, c_, e_⟩ := Kd.R_slice HO107.out; rw [e_]) | (obtain ⟨A_, c_, e_⟩ := Kd.S_slice HO107.out; rw [e_])); (first | (obtain ⟨A_, c_, e_⟩ := Kd.R_slice HO113.out; rw [e_]) | (obtain ⟨A_, c_, e_⟩ := Kd.S_slice HO113.out; rw [e_])); (first | (obtain ⟨A_, c_, e_⟩ := Kd.R_slice HO116.out; rw [e_]) | (obtain ⟨A_, c_, e_⟩ := Kd.S_slice HO116.out; rw [e_])); (first | (obtain ⟨A_, c_, e_⟩ := Kd.R_slice HO119.out; rw [e_]) | (obtain ⟨A_, c_, e_⟩ := Kd.S_slice HO119.out; rw [e_])); first | (go_simp; done) | (go_simp; rfl)));intro w13 hw;have hg : w11.grownBy w13 (some go10) := (by rw [hw]; exact HP12.2);have hp_ : Kd.R k33 33 w13 w.heap.size (fun _ => True) (.slice (some ⟨go10, 0, none⟩) x3_1.length co10) y120 := (by rw [hw, Ny120.out]; exact HP12.1);clear HP12;replace HO_3 := ak (hp_);replace HB := ak ((by rw [hw]; exact below_set (below_set (below_set (below_set (below_set (below_set (below_set (HB.out) GB10.out) GB10.out) GB10.out) GB10.out) GB10.out) GB10.out) GB10.out : Below w.heap.size w w13));clear HO107 HO113 HO116 HO119;clear hg hw hp_))
    go_roundg k1
    case measure => have := HK1.out; omega
    case rel => exact ⟨(y120), (wrap64 (x4_1 + 1)), o2, H', ⟨by have := HK1.out; omega⟩, ⟨rw_ HO_3.out⟩, ⟨bw HB.out⟩⟩
   ·obtain rfl := Option.some.inj H
    go_wp2
    go_ret
    exact ⟨_, o1, rw_ HO_3.out, bw HB.out⟩

end Go.Proofs.Ytagedmajlppohaa.Q
