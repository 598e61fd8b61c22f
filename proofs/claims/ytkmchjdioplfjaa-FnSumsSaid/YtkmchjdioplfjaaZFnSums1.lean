/- Printed by a program of this session (wip/myprint.py), which drives the kit's printer: functions and what their calls do. -/
import Derived.Test.YtkmchjdioplfjaaZFnSums0
import Derived.IntWalk
import Derived.Deep.QuietTactic
import Derived.BigQuiet
import Derived.StillTailTactics
import Derived.Deep.RegionHeld3
import Derived.Laws.IdiomStrings
import Derived.Deep.RegionLaw
namespace Go.Proofs.Ytkmchjdioplfjaa.Q
open Go.RowKit Go Go.Proofs.YtkmchjdioplfjaaW.PrintWords Go.Proofs.YtkmchjdioplfjaaW.PrintLast Go.Proofs.YtkmchjdioplfjaaW.PrintMore

set_option linter.unusedVariables false
set_option linter.unusedSimpArgs false

/-- A state of type 76 at block g of W; what its slices lead to came in by w0. -/
def IsS76 (w0 W : World) (g : Nat) (f0 : List Int) (f1 : Int) (f2 : Int) : Prop := ∃ A0 c0, W.heap[g]? = some (.cells #[.slice A0 f0.length c0, .int .i64 f1, .int .i64 f2] 76 (0, 0)) ∧ w0.heap.size ≤ g ∧ Kd.C (Kd.int .u8) w0 A0 f0.length f0
theorem IsS76.grown {w0 W : World} {g : Nat} {f0 : List Int} {f1 : Int} {f2 : Int} {W1 : World} {row : Option Nat} (h : IsS76 w0 W g f0 f1 f2) (hw : W.grownBy W1 row) (hne : some g ≠ row) : IsS76 w0 W1 g f0 f1 f2 := by
 obtain ⟨A0, c0, hb, hg, hr0⟩ := h
 exact ⟨A0, c0, blk_grown hb hw hne, hg, hr0⟩
theorem IsS76.below {w0 W : World} {g : Nat} {f0 : List Int} {f1 : Int} {f2 : Int} {W1 : World} (h : IsS76 w0 W g f0 f1 f2) (hw : Below W.heap.size W W1) : IsS76 w0 W1 g f0 f1 f2 := h.grown (grown_of_below hw none) (by simp)
theorem IsS76.drewN {w0 W : World} {g : Nat} {f0 : List Int} {f1 : Int} {f2 : Int} (h : IsS76 w0 W g f0 f1 f2) (m : Nat) : IsS76 w0 (W.drewN m) g f0 f1 f2 := h
theorem IsS76.apart {w0 W : World} {g : Nat} {f0 : List Int} {f1 : Int} {f2 : Int} {α : Type} {d : Kd α} {e : Nat} {base : Nat} {ok : Nat → Prop} {v : Value} {xs : List α} (h : IsS76 w0 W g f0 f1 f2) (ho : d.R e W base ok v xs) (ht : ∀ q, q ∈ e :: d.E → q ≠ 76) : d.R e W base (fun k => ok k ∧ k ≠ g) v xs := by
 obtain ⟨A0, c0, hb, hg, hr0⟩ := h
 exact Kd.R_types ho hb ht
theorem IsS76.own_ne {w0 W : World} {g : Nat} {f0 : List Int} {f1 : Int} {f2 : Int} {α : Type} {d : Kd α} {e : Nat} {base : Nat} {ok : Nat → Prop} {v : Value} {xs : List α} (h : IsS76 w0 W g f0 f1 f2) (ho : d.R e W base ok v xs) (ht : e ≠ 76) : some g ≠ v.ownBlock := by
 obtain ⟨A0, c0, hb, hg, hr0⟩ := h
 exact Kd.R_ne ho hb ht
theorem IsS76.ge {w0 W : World} {g : Nat} {f0 : List Int} {f1 : Int} {f2 : Int} (h : IsS76 w0 W g f0 f1 f2) : w0.heap.size ≤ g := by
 obtain ⟨A0, c0, hb, hg, hr0⟩ := h
 exact hg
theorem cellS76_0 {W : World} {g : Nat} {A0 : Option Addr} {c0 : Nat} {f0 : List Int} {f1 : Int} {f2 : Int} (h : W.heap[g]? = some (.cells #[.slice A0 f0.length c0, .int .i64 f1, .int .i64 f2] 76 (0, 0))) : W.cell? ⟨g, 0, none⟩ = some (.slice A0 f0.length c0) := (blk_cell h 0).trans rfl
theorem cellS76_1 {W : World} {g : Nat} {A0 : Option Addr} {c0 : Nat} {f0 : List Int} {f1 : Int} {f2 : Int} (h : W.heap[g]? = some (.cells #[.slice A0 f0.length c0, .int .i64 f1, .int .i64 f2] 76 (0, 0))) : W.cell? ⟨g, 1, none⟩ = some (.int .i64 f1) := (blk_cell h 1).trans rfl
theorem IsS76.set_1 {w0 W : World} {g : Nat} {f0 : List Int} {f1 : Int} {f2 : Int} (h : IsS76 w0 W g f0 f1 f2) (x : Int) : IsS76 w0 (W.setCell ⟨g, 1, none⟩ (.int .i64 x)) g f0 x f2 := by
 obtain ⟨A0, c0, hb, hg, hr0⟩ := h
 exact ⟨A0, c0, by simpa using blk_set hb 1 (.int .i64 x), hg, hr0⟩
theorem cellS76_2 {W : World} {g : Nat} {A0 : Option Addr} {c0 : Nat} {f0 : List Int} {f1 : Int} {f2 : Int} (h : W.heap[g]? = some (.cells #[.slice A0 f0.length c0, .int .i64 f1, .int .i64 f2] 76 (0, 0))) : W.cell? ⟨g, 2, none⟩ = some (.int .i64 f2) := (blk_cell h 2).trans rfl
theorem IsS76.set_2 {w0 W : World} {g : Nat} {f0 : List Int} {f1 : Int} {f2 : Int} (h : IsS76 w0 W g f0 f1 f2) (x : Int) : IsS76 w0 (W.setCell ⟨g, 2, none⟩ (.int .i64 x)) g f0 f1 x := by
 obtain ⟨A0, c0, hb, hg, hr0⟩ := h
 exact ⟨A0, c0, by simpa using blk_set hb 2 (.int .i64 x), hg, hr0⟩
/-! ### spec_l1New: function 38 -/
def spec_l1New.l0 : Nat → List Int → Int → Int → Option (List Int × Int × Int)
 | 0, _, _, _ => none
 | k + 1, x0, x3, x4 => if x4 < (x0.length : Int) then (if x4 < 4000 then (if 0 ≤ x4 then (spec_l1New.l0 k x0 (Go.bits .and .i64 (wrap64 ((wrap64 ((wrap64 (x3 * 131)) + (wrap64 (rd x0 x4)))) + 7)) 1073741823) (wrap64 (x4 + 1))) else (none)) else (some (x0, 0, x3))) else (some (x0, 0, x3))
def spec_l1New.f (k : Nat) (l0 : List Int) : Option (List Int × Int × Int) := spec_l1New.l0 k l0 (wrap64 (42222 + (l0.length : Int))) 0
theorem spec_l1New.mono_l : ∀ k, (∀ y0 y1 y2, LeO (spec_l1New.l0 k y0 y1 y2) (spec_l1New.l0 (k + 1) y0 y1 y2))
 | 0 => fun _ _ _ r h => by simp [spec_l1New.l0] at h
 | k + 1 => by
  have ih0 := spec_l1New.mono_l k
  ·intro y0 y1 y2
   unfold spec_l1New.l0
   repeat' first
   | (with_reducible exact ih0 _ _ _)
   | (with_reducible exact LeO.refl _)
   | (with_reducible exact LeO.none _)
   | (with_reducible refine LeO.ite ?_ ?_)
   | (with_reducible refine LeO.bind ?_ (fun _ => ?_))
   | exact ih0 _ _ _
   | exact LeO.none _
   | refine LeO.ite ?_ ?_
   | refine LeO.bind ?_ (fun _ => ?_)
set_option maxHeartbeats 8000000 in
set_option maxRecDepth 100000 in
theorem spec_l1New.calls (k : Nat) (A0 : Option Addr) (c0 : Nat) (l0 : List Int) (r1 : List Int) (r2 : Int) (r3 : Int) (w0 w : World) (hB : Below w0.heap.size w0 w) (hr0 : Kd.C (Kd.int .u8) w0 A0 l0.length l0) (hc0 : l0.length ≤ c0) (h : spec_l1New.f k l0 = some (r1, r2, r3)) :
  Calls Try.prog 38 #[.slice A0 l0.length c0] w fun e w' => ∃ g_ : Nat, e = .returned (.pointer (some ⟨g_, 0, none⟩)) ∧ IsS76 w0 w' g_ r1 r2 r3 ∧ Below w0.heap.size w0 w' ∧ Below w.heap.size w w' := by
 have hu76 := Try.underlying76
 have HR0 := Aside0.mk hr0
 have HC0 := Aside0.mk hc0
 clear hr0 hc0
 have HBW := Aside0.mk (Below.refl w.heap.size w)
 have HW0 := Aside0.mk hB.size
 have HB := Aside0.mk hB
 clear hB
 have H : (spec_l1New.l0 k l0 (wrap64 (42222 + (l0.length : Int))) 0) = some (r1, r2, r3) := h
 clear h
 have H' := Aside0.mk H
 clear H
 go_enter Try.func38, Try.ntmps38
 go_wp2
 go_loopg [3, 4] k (fun kq v3 v4 w' => ∃ (x3_1 : Int) (x4_1 : Int), v3 = .int .i64 x3_1 ∧ v4 = .int .i64 x4_1 ∧ Aside0 (spec_l1New.l0 kq l0 x3_1 x4_1 = some (r1, r2, r3)) ∧ Aside0 (kq ≤ k) ∧ Aside0 (Below w0.heap.size w0 w') ∧ Aside0 (Below w.heap.size w w'))
 case atStart => exact ⟨(wrap64 (42222 + (l0.length : Int))), (0), (by first | rfl | (simp; done) | (simp [*]; done)), (by first | rfl | (simp; done) | (simp [*]; done)), H', ⟨Nat.le_refl _⟩, ⟨bw HB.out⟩, HBW⟩
 case round =>
  clear H'
  clear HBW
  obtain ⟨x3_1, x4_1, rfl, rfl, HA, HK1, HB, HBW⟩ := hrel
  cases gk with
  | zero => exact absurd HA.out (by simp [spec_l1New.l0])
  | succ k1 =>
   have H := HA.out
   clear HA
   simp only [spec_l1New.l0] at H
   by_cases c2 : x4_1 < (l0.length : Int)
   ·rw [if_pos c2] at H
    have c2b0 : decide (x4_1 < (l0.length : Int)) = true := decide_eq_true c2
    clear c2
    by_cases c3 : x4_1 < 4000
    ·rw [if_pos c3] at H
     have c3b0 : decide (x4_1 < 4000) = true := decide_eq_true c3
     clear c3
     by_cases c4 : 0 ≤ x4_1
     ·rw [if_pos c4] at H
      have c4b0 : decide (0 ≤ x4_1) = true := decide_eq_true c4
      clear c4
      have H' := Aside0.mk H
      clear H
      have p101 : 0 ≤ (x4_1 : Int) := of_decide_eq_true (by first | (with_reducible assumption) | assumption)
      have q101 : x4_1 < (l0.length : Int) := of_decide_eq_true (by first | (with_reducible assumption) | assumption)
      obtain ⟨ad101, e101, hx101_0⟩ := Kd.at_int HR0.out x4_1 p101 q101
      cases e101
      replace hx101_0 := pw_cell_below HB.out hx101_0
      replace p101 := eq_true p101
      replace q101 := eq_true q101
      go_wp2
      go_roundg k1
      case measure => have := HK1.out; omega
      case rel => exact ⟨(Go.bits .and .i64 (wrap64 ((wrap64 ((wrap64 (x3_1 * 131)) + (wrap64 (rd l0 x4_1)))) + 7)) 1073741823), (wrap64 (x4_1 + 1)), (by first | rfl | (simp; done) | (simp [*]; done)), (by first | rfl | (simp; done) | (simp [*]; done)), H', ⟨by have := HK1.out; omega⟩, ⟨bw HB.out⟩, ⟨bw HBW.out⟩⟩
     ·rw [if_neg c4] at H
      exact absurd H (by simp)
    ·rw [if_neg c3] at H
     have c3b0 : decide (x4_1 < 4000) = false := decide_eq_false c3
     clear c3
     simp only [Option.some.injEq, Prod.mk.injEq] at H
     obtain ⟨rfl, rfl, rfl⟩ := H
     go_wp2_with (first | ((with_reducible refine gate_dst (N := 31) rfl ?_); refine box_event ?hg (N := 31) ?hd (cs := #[.slice A0 l0.length c0, .int .i64 0, .int .i64 x3_1]) (t := 76) ?hr ?_; (case hd => rfl); (case hg => rfl); (case hr => first | (go_simp; done) | (go_simp; rfl)); intro gb102 hg w5 hbox hb; replace HB := Aside0.mk (below_step (bw HB.out) hb); have BK102 := Aside0.mk (hbox); have GW102 := Aside0.mk ((by rw [hg]; exact (below_size (by repeat (first | (with_reducible first | exact HBW.out | apply below_alloc | apply pw_below_drewN | apply below_drew1) | exact HBW.out))) : w.heap.size ≤ gb102)); have GE102 := Aside0.mk ((Nat.le_trans HW0.out (by rw [hg]; exact (below_size (by repeat (first | (with_reducible first | exact HBW.out | apply below_alloc | apply pw_below_drewN | apply below_drew1) | exact HBW.out))) : w.heap.size ≤ gb102) : w0.heap.size ≤ gb102)); replace HBW := Aside0.mk (below_step HBW.out hb); clear hb hbox hg))
     go_ret
     exact ⟨_, rfl, (show IsS76 w0 _ gb102 l0 0 x3_1 from ⟨_, _, bk BK102.out, GE102.out, HR0.out⟩), by repeat (first | exact bw HB.out | refine below_set ?_ GE102.out), by repeat (first | (with_reducible first | exact HBW.out | apply below_alloc | apply pw_below_drewN | apply below_drew1 | refine below_set ?_ GW102.out) | exact HBW.out)⟩
   ·rw [if_neg c2] at H
    have c2b0 : decide (x4_1 < (l0.length : Int)) = false := decide_eq_false c2
    clear c2
    simp only [Option.some.injEq, Prod.mk.injEq] at H
    obtain ⟨rfl, rfl, rfl⟩ := H
    go_wp2_with (first | ((with_reducible refine gate_dst (N := 31) rfl ?_); refine box_event ?hg (N := 31) ?hd (cs := #[.slice A0 l0.length c0, .int .i64 0, .int .i64 x3_1]) (t := 76) ?hr ?_; (case hd => rfl); (case hg => rfl); (case hr => first | (go_simp; done) | (go_simp; rfl)); intro gb103 hg w6 hbox hb; replace HB := Aside0.mk (below_step (bw HB.out) hb); have BK103 := Aside0.mk (hbox); have GW103 := Aside0.mk ((by rw [hg]; exact (below_size (by repeat (first | (with_reducible first | exact HBW.out | apply below_alloc | apply pw_below_drewN | apply below_drew1) | exact HBW.out))) : w.heap.size ≤ gb103)); have GE103 := Aside0.mk ((Nat.le_trans HW0.out (by rw [hg]; exact (below_size (by repeat (first | (with_reducible first | exact HBW.out | apply below_alloc | apply pw_below_drewN | apply below_drew1) | exact HBW.out))) : w.heap.size ≤ gb103) : w0.heap.size ≤ gb103)); replace HBW := Aside0.mk (below_step HBW.out hb); clear hb hbox hg))
    go_ret
    exact ⟨_, rfl, (show IsS76 w0 _ gb103 l0 0 x3_1 from ⟨_, _, bk BK103.out, GE103.out, HR0.out⟩), by repeat (first | exact bw HB.out | refine below_set ?_ GE103.out), by repeat (first | (with_reducible first | exact HBW.out | apply below_alloc | apply pw_below_drewN | apply below_drew1 | refine below_set ?_ GW103.out) | exact HBW.out)⟩


/-! ### spec_l1Byte: function 45 -/
def spec_l1Byte.f (s0_0 : List Int) (s0_1 : Int) (s0_2 : Int) : Option (Int × Int × Int) := if s0_1 < (s0_0.length : Int) then (if 0 ≤ s0_1 then (some (Go.bits .and .i64 (wrap64 ((Go.bits .and .i64 (Go.bits .xor .i64 ((wrap64 ((wrap64 (s0_2 * 6364136223846793005)) + 1442695040888963407)) / 8589934592) ((wrap64 ((wrap64 (s0_2 * 6364136223846793005)) + 1442695040888963407)) / 35184372088832)) 255) + (wrap64 (rd s0_0 s0_1)))) 255, wrap64 (s0_1 + 1), wrap64 ((wrap64 (s0_2 * 6364136223846793005)) + 1442695040888963407))) else (none)) else (some (Go.bits .and .i64 (Go.bits .xor .i64 ((wrap64 ((wrap64 (s0_2 * 6364136223846793005)) + 1442695040888963407)) / 8589934592) ((wrap64 ((wrap64 (s0_2 * 6364136223846793005)) + 1442695040888963407)) / 35184372088832)) 255, s0_1, wrap64 ((wrap64 (s0_2 * 6364136223846793005)) + 1442695040888963407)))
set_option maxHeartbeats 8000000 in
set_option maxRecDepth 100000 in
theorem spec_l1Byte.calls (g : Nat) (s0_0 : List Int) (s0_1 : Int) (s0_2 : Int) (r1 : Int) (r2 : Int) (r3 : Int) (w0 w : World) (hI : IsS76 w0 w g s0_0 s0_1 s0_2) (hB : Below w0.heap.size w0 w) (h : spec_l1Byte.f s0_0 s0_1 s0_2 = some (r1, r2, r3)) :
  Calls Try.prog 45 #[.pointer (some ⟨g, 0, none⟩)] w fun e w' => e = .returned (.int .i64 r1) ∧ IsS76 w0 w' g s0_0 r2 r3 ∧ Below w0.heap.size w0 w' ∧ KeepBut w w' g none := by
 have HI0 := ak hI
 have HK := ak (KeepBut.refl w g none)
 have HL := ak hB.size
 clear hI
 have HW0 := ak hB.size
 have HB := ak hB
 clear hB
 have H : (if s0_1 < (s0_0.length : Int) then (if 0 ≤ s0_1 then (some (Go.bits .and .i64 (wrap64 ((Go.bits .and .i64 (Go.bits .xor .i64 ((wrap64 ((wrap64 (s0_2 * 6364136223846793005)) + 1442695040888963407)) / 8589934592) ((wrap64 ((wrap64 (s0_2 * 6364136223846793005)) + 1442695040888963407)) / 35184372088832)) 255) + (wrap64 (rd s0_0 s0_1)))) 255, wrap64 (s0_1 + 1), wrap64 ((wrap64 (s0_2 * 6364136223846793005)) + 1442695040888963407))) else (none)) else (some (Go.bits .and .i64 (Go.bits .xor .i64 ((wrap64 ((wrap64 (s0_2 * 6364136223846793005)) + 1442695040888963407)) / 8589934592) ((wrap64 ((wrap64 (s0_2 * 6364136223846793005)) + 1442695040888963407)) / 35184372088832)) 255, s0_1, wrap64 ((wrap64 (s0_2 * 6364136223846793005)) + 1442695040888963407)))) = some (r1, r2, r3) := h
 clear h
 replace H := ip H
 obtain ⟨c2b0, H⟩ | ⟨c2b0, H⟩ := H
 ·replace H := ipN H
  obtain ⟨c3b0, H⟩ := H
  simp only [Option.some.injEq, Prod.mk.injEq] at H
  obtain ⟨rfl, rfl, rfl⟩ := H
  obtain ⟨ASz4_0, cSz4_0, HGz4, hgz4, HSz4_0⟩ := HI0.out
  have hcz4_0 := cellS76_0 HGz4
  have hcz4_1 := cellS76_1 HGz4
  have hcz4_2 := cellS76_2 HGz4
  have hfz4_1 := blk_frozen HGz4 1
  have hfz4_2 := blk_frozen HGz4 2
  clear HGz4 hgz4
  have p101 : 0 ≤ (s0_1 : Int) := of_decide_eq_true (by first | (with_reducible assumption) | assumption)
  have q101 : s0_1 < (s0_0.length : Int) := of_decide_eq_true (by first | (with_reducible assumption) | assumption)
  obtain ⟨ad101, e101, hx101_0⟩ := Kd.at_int HSz4_0 s0_1 p101 q101
  cases e101
  have hn101_0 : ad101.block ≠ g := Nat.ne_of_lt (Nat.lt_of_lt_of_le (by have := World.block_lt_of_cell? _ _ hx101_0; first | rwa [add_block] at this | exact this) (IsS76.ge HI0.out))
  replace hx101_0 := pw_cell_below HB.out hx101_0
  replace hx101_0 := (cell_far (p := ⟨g, 2, none⟩) (by first | (rw [add_block]; exact hn101_0) | (show (Addr.add _ _).block ≠ _; rw [add_block]; exact hn101_0) | exact hn101_0) (.int .i64 (wrap64 ((wrap64 (s0_2 * 6364136223846793005)) + 1442695040888963407)))).trans hx101_0
  (try have hy101_0 := fun (n_ : Nat) => (show (((w.drewN n_).setCell ⟨g, 2, none⟩ (.int .i64 (wrap64 ((wrap64 (s0_2 * 6364136223846793005)) + 1442695040888963407))))).cell? _ = some _ from hx101_0))
  clear hn101_0
  replace p101 := eq_true p101
  replace q101 := eq_true q101
  go_enter Try.func45, Try.ntmps45
  go_wp2
  repeat (go_quiet (fail); try go_wp2)
  go_ret
  exact ⟨o1, by repeat (first | (with_reducible first | exact HI0.out | apply IsS76.alloc | apply IsS76.drewN | apply IsS76.drew | apply IsS76.set_1 | apply IsS76.set_2) | exact HI0.out), by repeat (first | (with_reducible first | exact HB.out | apply below_alloc | apply pw_below_drewN | apply below_drew1 | refine below_set ?_ (IsS76.ge HI0.out)) | exact HB.out), by repeat (first | (with_reducible first | exact HK.out | apply KeepBut.set_ | apply keep_drewN | apply keep_drew | apply keep_alloc) | exact HK.out)⟩
 ·simp only [Option.some.injEq, Prod.mk.injEq] at H
  obtain ⟨rfl, rfl, rfl⟩ := H
  obtain ⟨ASz5_0, cSz5_0, HGz5, hgz5, HSz5_0⟩ := HI0.out
  have hcz5_0 := cellS76_0 HGz5
  have hcz5_1 := cellS76_1 HGz5
  have hcz5_2 := cellS76_2 HGz5
  have hfz5_1 := blk_frozen HGz5 1
  have hfz5_2 := blk_frozen HGz5 2
  clear HGz5 hgz5
  go_enter Try.func45, Try.ntmps45
  go_wp2
  repeat (go_quiet (fail); try go_wp2)
  go_ret
  exact ⟨o1, by repeat (first | (with_reducible first | exact HI0.out | apply IsS76.alloc | apply IsS76.drewN | apply IsS76.drew | apply IsS76.set_1 | apply IsS76.set_2) | exact HI0.out), by repeat (first | (with_reducible first | exact HB.out | apply below_alloc | apply pw_below_drewN | apply below_drew1 | refine below_set ?_ (IsS76.ge HI0.out)) | exact HB.out), by repeat (first | (with_reducible first | exact HK.out | apply KeepBut.set_ | apply keep_drewN | apply keep_drew | apply keep_alloc) | exact HK.out)⟩

/-! ### spec_l1Below: function 44 -/
def spec_l1Below.f (s0_0 : List Int) (s0_1 : Int) (s0_2 : Int) (a1 : Int) : Option (Int × Int × Int) := if a1 ≤ 0 then (some (0, s0_1, s0_2)) else (if a1 ≤ 256 then ((spec_l1Byte.f s0_0 s0_1 s0_2).bind fun bt101 => (if a1 = 0 then (none) else (some (Int.tmod bt101.1 a1, bt101.2.1, bt101.2.2)))) else ((spec_l1Byte.f s0_0 s0_1 s0_2).bind fun bt104 => ((spec_l1Byte.f s0_0 bt104.2.1 bt104.2.2).bind fun bt107 => ((spec_l1Byte.f s0_0 bt107.2.1 bt107.2.2).bind fun bt110 => ((spec_l1Byte.f s0_0 bt110.2.1 bt110.2.2).bind fun bt113 => (if a1 = 0 then (none) else (some (Int.tmod (wrap64 ((wrap64 ((wrap64 ((wrap64 (bt104.1 * 16777216)) + (wrap64 (bt107.1 * 65536)))) + (wrap64 (bt110.1 * 256)))) + bt113.1)) a1, bt113.2.1, bt113.2.2))))))))
set_option maxHeartbeats 8000000 in
set_option maxRecDepth 100000 in
theorem spec_l1Below.calls (g : Nat) (s0_0 : List Int) (s0_1 : Int) (s0_2 : Int) (a1 : Int) (r1 : Int) (r2 : Int) (r3 : Int) (w0 w : World) (hI : IsS76 w0 w g s0_0 s0_1 s0_2) (hB : Below w0.heap.size w0 w) (h : spec_l1Below.f s0_0 s0_1 s0_2 a1 = some (r1, r2, r3)) :
  Calls Try.prog 44 #[.pointer (some ⟨g, 0, none⟩), .int .i64 a1] w fun e w' => e = .returned (.int .i64 r1) ∧ IsS76 w0 w' g s0_0 r2 r3 ∧ Below w0.heap.size w0 w' ∧ KeepBut w w' g none := by
 have HI0 := ak hI
 have HK := ak (KeepBut.refl w g none)
 have HL := ak hB.size
 clear hI
 have HW0 := ak hB.size
 have HB := ak hB
 clear hB
 have H : (if a1 ≤ 0 then (some (0, s0_1, s0_2)) else (if a1 ≤ 256 then ((spec_l1Byte.f s0_0 s0_1 s0_2).bind fun bt101 => (if a1 = 0 then (none) else (some (Int.tmod bt101.1 a1, bt101.2.1, bt101.2.2)))) else ((spec_l1Byte.f s0_0 s0_1 s0_2).bind fun bt104 => ((spec_l1Byte.f s0_0 bt104.2.1 bt104.2.2).bind fun bt107 => ((spec_l1Byte.f s0_0 bt107.2.1 bt107.2.2).bind fun bt110 => ((spec_l1Byte.f s0_0 bt110.2.1 bt110.2.2).bind fun bt113 => (if a1 = 0 then (none) else (some (Int.tmod (wrap64 ((wrap64 ((wrap64 ((wrap64 (bt104.1 * 16777216)) + (wrap64 (bt107.1 * 65536)))) + (wrap64 (bt110.1 * 256)))) + bt113.1)) a1, bt113.2.1, bt113.2.2))))))))) = some (r1, r2, r3) := h
 clear h
 replace H := ip H
 obtain ⟨c3b0, H⟩ | ⟨c3b0, H⟩ := H
 ·simp only [Option.some.injEq, Prod.mk.injEq] at H
  obtain ⟨rfl, rfl, rfl⟩ := H
  go_enter Try.func44, Try.ntmps44
  go_wp2
  go_ret
  exact ⟨o1, by repeat (first | (with_reducible first | exact HI0.out | apply IsS76.alloc | apply IsS76.drewN | apply IsS76.drew | apply IsS76.set_1 | apply IsS76.set_2) | exact HI0.out), by repeat (first | (with_reducible first | exact HB.out | apply below_alloc | apply pw_below_drewN | apply below_drew1 | refine below_set ?_ (IsS76.ge HI0.out)) | exact HB.out), by repeat (first | (with_reducible first | exact HK.out | apply KeepBut.set_ | apply keep_drewN | apply keep_drew | apply keep_alloc) | exact HK.out)⟩
 ·replace H := ip H
  obtain ⟨c4b0, H⟩ | ⟨c4b0, H⟩ := H
  ·replace H := Option.bind_eq_some_iff.mp H
   obtain ⟨⟨t101, t102, t103⟩, A50, H⟩ := H
   replace H : (if a1 = 0 then (none) else (some (Int.tmod t101 a1, t102, t103))) = some (r1, r2, r3) := H
   have A5 := ak A50
   clear A50
   by_cases c6 : a1 = 0
   ·rw [if_pos c6] at H
    exact absurd H (by simp)
   ·rw [if_neg c6] at H
    have c6b0 : (a1 == 0) = false := beq_eq_false_iff_ne.mpr c6
    have c6b1 : (a1 != 0) = true := bne_iff_ne.mpr c6
    simp only [Option.some.injEq, Prod.mk.injEq] at H
    obtain ⟨rfl, rfl, rfl⟩ := H
    go_enter Try.func44, Try.ntmps44
    go_wp2_with (((with_reducible refine gate_callee (f := 45) rfl ?_);refine glG 14 rfl rfl Try.func45 (spec_l1Byte.calls g s0_0 s0_1 s0_2 t101 t102 t103 w0 _ ?side1 ?side2 A5.out) ?_;(case side1 => repeat (first | (with_reducible first | exact HI0.out | apply IsS76.alloc | apply IsS76.drewN | apply IsS76.drew | apply IsS76.set_1 | apply IsS76.set_2) | exact HI0.out));(case side2 => repeat (first | (with_reducible first | exact HB.out | apply below_alloc | apply pw_below_drewN | apply below_drew1 | refine below_set ?_ (IsS76.ge HI0.out)) | exact HB.out));rintro e w7 ⟨rfl, hi, hb, hk⟩;refine ⟨_, rfl, ?_⟩;replace HK := ak (KeepBut.trans (by repeat (first | (with_reducible first | exact HK.out | apply KeepBut.set_ | apply keep_drewN | apply keep_drew | apply keep_alloc) | exact HK.out)) hk (.inl rfl));replace HB := ak (hb);replace HI0 := ak (hi);(try clear hb);(try clear hb2);(try clear hk);(try clear hi)))
    go_ret
    exact ⟨o1, by repeat (first | (with_reducible first | exact HI0.out | apply IsS76.alloc | apply IsS76.drewN | apply IsS76.drew | apply IsS76.set_1 | apply IsS76.set_2) | exact HI0.out), by repeat (first | (with_reducible first | exact HB.out | apply below_alloc | apply pw_below_drewN | apply below_drew1 | refine below_set ?_ (IsS76.ge HI0.out)) | exact HB.out), by repeat (first | (with_reducible first | exact HK.out | apply KeepBut.set_ | apply keep_drewN | apply keep_drew | apply keep_alloc) | exact HK.out)⟩
  ·replace H := Option.bind_eq_some_iff.mp H
   obtain ⟨⟨t104, t105, t106⟩, A80, H⟩ := H
   replace H : ((spec_l1Byte.f s0_0 t105 t106).bind fun bt107 => ((spec_l1Byte.f s0_0 bt107.2.1 bt107.2.2).bind fun bt110 => ((spec_l1Byte.f s0_0 bt110.2.1 bt110.2.2).bind fun bt113 => (if a1 = 0 then (none) else (some (Int.tmod (wrap64 ((wrap64 ((wrap64 ((wrap64 (t104 * 16777216)) + (wrap64 (bt107.1 * 65536)))) + (wrap64 (bt110.1 * 256)))) + bt113.1)) a1, bt113.2.1, bt113.2.2)))))) = some (r1, r2, r3) := H
   have A8 := ak A80
   clear A80
   replace H := Option.bind_eq_some_iff.mp H
   obtain ⟨⟨t107, t108, t109⟩, A90, H⟩ := H
   replace H : ((spec_l1Byte.f s0_0 t108 t109).bind fun bt110 => ((spec_l1Byte.f s0_0 bt110.2.1 bt110.2.2).bind fun bt113 => (if a1 = 0 then (none) else (some (Int.tmod (wrap64 ((wrap64 ((wrap64 ((wrap64 (t104 * 16777216)) + (wrap64 (t107 * 65536)))) + (wrap64 (bt110.1 * 256)))) + bt113.1)) a1, bt113.2.1, bt113.2.2))))) = some (r1, r2, r3) := H
   have A9 := ak A90
   clear A90
   replace H := Option.bind_eq_some_iff.mp H
   obtain ⟨⟨t110, t111, t112⟩, A100, H⟩ := H
   replace H : ((spec_l1Byte.f s0_0 t111 t112).bind fun bt113 => (if a1 = 0 then (none) else (some (Int.tmod (wrap64 ((wrap64 ((wrap64 ((wrap64 (t104 * 16777216)) + (wrap64 (t107 * 65536)))) + (wrap64 (t110 * 256)))) + bt113.1)) a1, bt113.2.1, bt113.2.2)))) = some (r1, r2, r3) := H
   have A10 := ak A100
   clear A100
   replace H := Option.bind_eq_some_iff.mp H
   obtain ⟨⟨t113, t114, t115⟩, A110, H⟩ := H
   replace H : (if a1 = 0 then (none) else (some (Int.tmod (wrap64 ((wrap64 ((wrap64 ((wrap64 (t104 * 16777216)) + (wrap64 (t107 * 65536)))) + (wrap64 (t110 * 256)))) + t113)) a1, t114, t115))) = some (r1, r2, r3) := H
   have A11 := ak A110
   clear A110
   by_cases c12 : a1 = 0
   ·rw [if_pos c12] at H
    exact absurd H (by simp)
   ·rw [if_neg c12] at H
    have c12b0 : (a1 == 0) = false := beq_eq_false_iff_ne.mpr c12
    have c12b1 : (a1 != 0) = true := bne_iff_ne.mpr c12
    simp only [Option.some.injEq, Prod.mk.injEq] at H
    obtain ⟨rfl, rfl, rfl⟩ := H
    go_enter Try.func44, Try.ntmps44
    go_wp2_with (first | ((with_reducible refine gate_callee (f := 45) rfl ?_);refine glG 18 rfl rfl Try.func45 (spec_l1Byte.calls g s0_0 s0_1 s0_2 t104 t105 t106 w0 _ ?side1 ?side2 A8.out) ?_;(case side1 => repeat (first | (with_reducible first | exact HI0.out | apply IsS76.alloc | apply IsS76.drewN | apply IsS76.drew | apply IsS76.set_1 | apply IsS76.set_2) | exact HI0.out));(case side2 => repeat (first | (with_reducible first | exact HB.out | apply below_alloc | apply pw_below_drewN | apply below_drew1 | refine below_set ?_ (IsS76.ge HI0.out)) | exact HB.out));rintro e w13 ⟨rfl, hi, hb, hk⟩;refine ⟨_, rfl, ?_⟩;replace HK := ak (KeepBut.trans (by repeat (first | (with_reducible first | exact HK.out | apply KeepBut.set_ | apply keep_drewN | apply keep_drew | apply keep_alloc) | exact HK.out)) hk (.inl rfl));replace HB := ak (hb);replace HI0 := ak (hi);(try clear hb);(try clear hb2);(try clear hk);(try clear hi)) | ((with_reducible refine gate_callee (f := 45) rfl ?_);refine glG 20 rfl rfl Try.func45 (spec_l1Byte.calls g s0_0 t105 t106 t107 t108 t109 w0 _ ?side1 ?side2 A9.out) ?_;(case side1 => repeat (first | (with_reducible first | exact HI0.out | apply IsS76.alloc | apply IsS76.drewN | apply IsS76.drew | apply IsS76.set_1 | apply IsS76.set_2) | exact HI0.out));(case side2 => repeat (first | (with_reducible first | exact HB.out | apply below_alloc | apply pw_below_drewN | apply below_drew1 | refine below_set ?_ (IsS76.ge HI0.out)) | exact HB.out));rintro e w14 ⟨rfl, hi, hb, hk⟩;refine ⟨_, rfl, ?_⟩;replace HK := ak (KeepBut.trans (by repeat (first | (with_reducible first | exact HK.out | apply KeepBut.set_ | apply keep_drewN | apply keep_drew | apply keep_alloc) | exact HK.out)) hk (.inl rfl));replace HB := ak (hb);replace HI0 := ak (hi);(try clear hb);(try clear hb2);(try clear hk);(try clear hi)) | ((with_reducible refine gate_callee (f := 45) rfl ?_);refine glG 22 rfl rfl Try.func45 (spec_l1Byte.calls g s0_0 t108 t109 t110 t111 t112 w0 _ ?side1 ?side2 A10.out) ?_;(case side1 => repeat (first | (with_reducible first | exact HI0.out | apply IsS76.alloc | apply IsS76.drewN | apply IsS76.drew | apply IsS76.set_1 | apply IsS76.set_2) | exact HI0.out));(case side2 => repeat (first | (with_reducible first | exact HB.out | apply below_alloc | apply pw_below_drewN | apply below_drew1 | refine below_set ?_ (IsS76.ge HI0.out)) | exact HB.out));rintro e w15 ⟨rfl, hi, hb, hk⟩;refine ⟨_, rfl, ?_⟩;replace HK := ak (KeepBut.trans (by repeat (first | (with_reducible first | exact HK.out | apply KeepBut.set_ | apply keep_drewN | apply keep_drew | apply keep_alloc) | exact HK.out)) hk (.inl rfl));replace HB := ak (hb);replace HI0 := ak (hi);(try clear hb);(try clear hb2);(try clear hk);(try clear hi)) | ((with_reducible refine gate_callee (f := 45) rfl ?_);refine glG 24 rfl rfl Try.func45 (spec_l1Byte.calls g s0_0 t111 t112 t113 t114 t115 w0 _ ?side1 ?side2 A11.out) ?_;(case side1 => repeat (first | (with_reducible first | exact HI0.out | apply IsS76.alloc | apply IsS76.drewN | apply IsS76.drew | apply IsS76.set_1 | apply IsS76.set_2) | exact HI0.out));(case side2 => repeat (first | (with_reducible first | exact HB.out | apply below_alloc | apply pw_below_drewN | apply below_drew1 | refine below_set ?_ (IsS76.ge HI0.out)) | exact HB.out));rintro e w16 ⟨rfl, hi, hb, hk⟩;refine ⟨_, rfl, ?_⟩;replace HK := ak (KeepBut.trans (by repeat (first | (with_reducible first | exact HK.out | apply KeepBut.set_ | apply keep_drewN | apply keep_drew | apply keep_alloc) | exact HK.out)) hk (.inl rfl));replace HB := ak (hb);replace HI0 := ak (hi);(try clear hb);(try clear hb2);(try clear hk);(try clear hi)))
    go_ret
    exact ⟨o1, by repeat (first | (with_reducible first | exact HI0.out | apply IsS76.alloc | apply IsS76.drewN | apply IsS76.drew | apply IsS76.set_1 | apply IsS76.set_2) | exact HI0.out), by repeat (first | (with_reducible first | exact HB.out | apply below_alloc | apply pw_below_drewN | apply below_drew1 | refine below_set ?_ (IsS76.ge HI0.out)) | exact HB.out), by repeat (first | (with_reducible first | exact HK.out | apply KeepBut.set_ | apply keep_drewN | apply keep_drew | apply keep_alloc) | exact HK.out)⟩

/-! ### spec_l1Once: function 39 -/
def spec_l1Once.f (s0_0 : List Int) (s0_1 : Int) (s0_2 : Int) (a1 : Int) : Option (Bool × Int × Int) := (spec_l1Below.f s0_0 s0_1 s0_2 a1).bind fun bt101 => (some ((bt101.1 == 0), bt101.2.1, bt101.2.2))
set_option maxHeartbeats 8000000 in
set_option maxRecDepth 100000 in
theorem spec_l1Once.calls (g : Nat) (s0_0 : List Int) (s0_1 : Int) (s0_2 : Int) (a1 : Int) (r1 : Bool) (r2 : Int) (r3 : Int) (w0 w : World) (hI : IsS76 w0 w g s0_0 s0_1 s0_2) (hB : Below w0.heap.size w0 w) (h : spec_l1Once.f s0_0 s0_1 s0_2 a1 = some (r1, r2, r3)) :
  Calls Try.prog 39 #[.pointer (some ⟨g, 0, none⟩), .int .i64 a1] w fun e w' => e = .returned (.bool r1) ∧ IsS76 w0 w' g s0_0 r2 r3 ∧ Below w0.heap.size w0 w' ∧ KeepBut w w' g none := by
 have HI0 := ak hI
 have HK := ak (KeepBut.refl w g none)
 have HL := ak hB.size
 clear hI
 have HW0 := ak hB.size
 have HB := ak hB
 clear hB
 have H : ((spec_l1Below.f s0_0 s0_1 s0_2 a1).bind fun bt101 => (some ((bt101.1 == 0), bt101.2.1, bt101.2.2))) = some (r1, r2, r3) := h
 clear h
 replace H := Option.bind_eq_some_iff.mp H
 obtain ⟨⟨t101, t102, t103⟩, A30, H⟩ := H
 replace H : (some ((t101 == 0), t102, t103)) = some (r1, r2, r3) := H
 have A3 := ak A30
 clear A30
 simp only [Option.some.injEq, Prod.mk.injEq] at H
 obtain ⟨rfl, rfl, rfl⟩ := H
 go_enter Try.func39, Try.ntmps39
 go_wp2_with (((with_reducible refine gate_callee (f := 44) rfl ?_);refine glG 7 rfl rfl Try.func44 (spec_l1Below.calls g s0_0 s0_1 s0_2 a1 t101 t102 t103 w0 _ ?side1 ?side2 A3.out) ?_;(case side1 => repeat (first | (with_reducible first | exact HI0.out | apply IsS76.alloc | apply IsS76.drewN | apply IsS76.drew | apply IsS76.set_1 | apply IsS76.set_2) | exact HI0.out));(case side2 => repeat (first | (with_reducible first | exact HB.out | apply below_alloc | apply pw_below_drewN | apply below_drew1 | refine below_set ?_ (IsS76.ge HI0.out)) | exact HB.out));rintro e w4 ⟨rfl, hi, hb, hk⟩;refine ⟨_, rfl, ?_⟩;replace HK := ak (KeepBut.trans (by repeat (first | (with_reducible first | exact HK.out | apply KeepBut.set_ | apply keep_drewN | apply keep_drew | apply keep_alloc) | exact HK.out)) hk (.inl rfl));replace HB := ak (hb);replace HI0 := ak (hi);(try clear hb);(try clear hb2);(try clear hk);(try clear hi)))
 go_ret
 exact ⟨o1, by repeat (first | (with_reducible first | exact HI0.out | apply IsS76.alloc | apply IsS76.drewN | apply IsS76.drew | apply IsS76.set_1 | apply IsS76.set_2) | exact HI0.out), by repeat (first | (with_reducible first | exact HB.out | apply below_alloc | apply pw_below_drewN | apply below_drew1 | refine below_set ?_ (IsS76.ge HI0.out)) | exact HB.out), by repeat (first | (with_reducible first | exact HK.out | apply KeepBut.set_ | apply keep_drewN | apply keep_drew | apply keep_alloc) | exact HK.out)⟩

/-! ### spec_l1PickInt: function 40 -/
def spec_l1PickInt.f (s0_0 : List Int) (s0_1 : Int) (s0_2 : Int) (l1 : List Int) : Option (Int × Int × Int) := (spec_l1Below.f s0_0 s0_1 s0_2 (l1.length : Int)).bind fun bt101 => (if 0 ≤ bt101.1 then (if bt101.1 < (l1.length : Int) then (some (rd l1 bt101.1, bt101.2.1, bt101.2.2)) else (none)) else (none))
set_option maxHeartbeats 8000000 in
set_option maxRecDepth 100000 in
theorem spec_l1PickInt.calls (g : Nat) (s0_0 : List Int) (s0_1 : Int) (s0_2 : Int) (A1 : Option Addr) (c1 : Nat) (l1 : List Int) (r1 : Int) (r2 : Int) (r3 : Int) (w0 w : World) (hI : IsS76 w0 w g s0_0 s0_1 s0_2) (hB : Below w0.heap.size w0 w) (hr1 : Kd.C (Kd.int .i64) w A1 l1.length l1) (hc1 : l1.length ≤ c1) (hf1 : ∀ ad, A1 = some ad → 0 < l1.length → ad.block ≠ g) (h : spec_l1PickInt.f s0_0 s0_1 s0_2 l1 = some (r1, r2, r3)) :
  Calls Try.prog 40 #[.pointer (some ⟨g, 0, none⟩), .slice A1 l1.length c1] w fun e w' => e = .returned (.int .i64 r1) ∧ IsS76 w0 w' g s0_0 r2 r3 ∧ Below w0.heap.size w0 w' ∧ KeepBut w w' g none := by
 have HR1 := ak hr1
 have HC1 := ak hc1
 clear hr1 hc1
 have HI0 := ak hI
 have HK := ak (KeepBut.refl w g none)
 have HL := ak hB.size
 clear hI
 have HW0 := ak hB.size
 have HB := ak hB
 clear hB
 have H : ((spec_l1Below.f s0_0 s0_1 s0_2 (l1.length : Int)).bind fun bt101 => (if 0 ≤ bt101.1 then (if bt101.1 < (l1.length : Int) then (some (rd l1 bt101.1, bt101.2.1, bt101.2.2)) else (none)) else (none))) = some (r1, r2, r3) := h
 clear h
 replace H := Option.bind_eq_some_iff.mp H
 obtain ⟨⟨t101, t102, t103⟩, A30, H⟩ := H
 replace H : (if 0 ≤ t101 then (if t101 < (l1.length : Int) then (some (rd l1 t101, t102, t103)) else (none)) else (none)) = some (r1, r2, r3) := H
 have A3 := ak A30
 clear A30
 replace H := ipN H
 obtain ⟨c4b0, H⟩ := H
 replace H := ipN H
 obtain ⟨c5b0, H⟩ := H
 simp only [Option.some.injEq, Prod.mk.injEq] at H
 obtain ⟨rfl, rfl, rfl⟩ := H
 go_enter Try.func40, Try.ntmps40
 go_wp2_with (((with_reducible refine gate_callee (f := 44) rfl ?_);refine glG 9 rfl rfl Try.func44 (spec_l1Below.calls g s0_0 s0_1 s0_2 (l1.length : Int) t101 t102 t103 w0 _ ?side1 ?side2 A3.out) ?_;(case side1 => repeat (first | (with_reducible first | exact HI0.out | apply IsS76.alloc | apply IsS76.drewN | apply IsS76.drew | apply IsS76.set_1 | apply IsS76.set_2) | exact HI0.out));(case side2 => repeat (first | (with_reducible first | exact HB.out | apply below_alloc | apply pw_below_drewN | apply below_drew1 | refine below_set ?_ (IsS76.ge HI0.out)) | exact HB.out));rintro e w6 ⟨rfl, hi, hb, hk⟩;refine ⟨_, rfl, ?_⟩;replace HK := ak (KeepBut.trans (by repeat (first | (with_reducible first | exact HK.out | apply KeepBut.set_ | apply keep_drewN | apply keep_drew | apply keep_alloc) | exact HK.out)) hk (.inl rfl));replace HB := ak (hb);replace HI0 := ak (hi);(try clear hb);(try clear hb2);(try clear hk);(try clear hi);have p104 : 0 ≤ (t101 : Int) := of_decide_eq_true (by first | (with_reducible assumption) | assumption);have q104 : t101 < (l1.length : Int) := of_decide_eq_true (by first | (with_reducible assumption) | assumption);obtain ⟨ad104, e104, hx104_0⟩ := Kd.at_int HR1.out t101 p104 q104;cases e104;replace hx104_0 := keep_cell HK.out hx104_0 (by first | (rw [add_block]; exact hf1 _ rfl (by omega)) | exact hf1 _ rfl (by omega) | exact hf1 ad104 rfl (by omega));replace p104 := eq_true p104;replace q104 := eq_true q104))
 go_ret
 exact ⟨o1, by repeat (first | (with_reducible first | exact HI0.out | apply IsS76.alloc | apply IsS76.drewN | apply IsS76.drew | apply IsS76.set_1 | apply IsS76.set_2) | exact HI0.out), by repeat (first | (with_reducible first | exact HB.out | apply below_alloc | apply pw_below_drewN | apply below_drew1 | refine below_set ?_ (IsS76.ge HI0.out)) | exact HB.out), by repeat (first | (with_reducible first | exact HK.out | apply KeepBut.set_ | apply keep_drewN | apply keep_drew | apply keep_alloc) | exact HK.out)⟩

/-! ### spec_DrawSha256: function 24 -/
def spec_DrawSha256.l0 : Nat → Int → List Int → Int → List Int → Int → Int → Option (List Int)
 | 0, _, _, _, _, _, _ => none
 | k + 1, x4, x5, x6, x105000, x105001, x105002 => if x6 < x4 then ((spec_l1Byte.f x105000 x105001 x105002).bind fun bt114 => (if x5.length < 140737488355328 then (spec_DrawSha256.l0 k x4 (x5 ++ [(bt114.1) % 256]) (wrap64 (x6 + 1)) x105000 bt114.2.1 bt114.2.2) else (none))) else (some x5)
def spec_DrawSha256.f (k : Nat) (l0 : List Int) : Option (List Int) := (spec_l1New.f k l0).bind fun bt101 => ((spec_l1Below.f bt101.1 bt101.2.1 bt101.2.2 200).bind fun bt105 => ((spec_l1PickInt.f bt101.1 bt105.2.1 bt105.2.2 (([0, 1, 3, 55, 56, 63, 64, 65, 119, 120, bt105.1] : List Int))).bind fun bt111 => (spec_DrawSha256.l0 k bt111.1 ([] : List Int) 0 bt101.1 bt111.2.1 bt111.2.2)))
theorem spec_DrawSha256.mono_l : ∀ k, (∀ y0 y1 y2 y3 y4 y5, LeO (spec_DrawSha256.l0 k y0 y1 y2 y3 y4 y5) (spec_DrawSha256.l0 (k + 1) y0 y1 y2 y3 y4 y5))
 | 0 => fun _ _ _ _ _ _ r h => by simp [spec_DrawSha256.l0] at h
 | k + 1 => by
  have ih0 := spec_DrawSha256.mono_l k
  ·intro y0 y1 y2 y3 y4 y5
   unfold spec_DrawSha256.l0
   repeat' first
   | (with_reducible exact ih0 _ _ _ _ _ _)
   | (with_reducible exact spec_l1New.mono _ _)
   | (with_reducible exact LeO.refl _)
   | (with_reducible exact LeO.none _)
   | (with_reducible refine LeO.ite ?_ ?_)
   | (with_reducible refine LeO.bind ?_ (fun _ => ?_))
   | exact ih0 _ _ _ _ _ _
   | exact spec_l1New.mono _ _
   | exact LeO.none _
   | refine LeO.ite ?_ ?_
   | refine LeO.bind ?_ (fun _ => ?_)
set_option maxHeartbeats 8000000 in
set_option maxRecDepth 100000 in
theorem spec_DrawSha256.calls (k : Nat) (A0 : Option Addr) (c0 : Nat) (l0 : List Int) (r : List Int) (w : World) (hr0 : Kd.C (Kd.int .u8) w A0 l0.length l0) (hc0 : l0.length ≤ c0) (h : spec_DrawSha256.f k l0 = some r) :
  Calls Try.prog 24 #[.slice A0 l0.length c0] w fun e w' => ∃ v0_ : Value, e = .returned (v0_) ∧ Kd.R (Kd.int .u8) 5 w' w.heap.size (fun _ => True) v0_ r ∧ Below w.heap.size w w' := by
 have HR0 := ak hr0
 have HC0 := ak hc0
 clear hr0 hc0
 have HB := ak (Below.refl w.heap.size w)
 have H : ((spec_l1New.f k l0).bind fun bt101 => ((spec_l1Below.f bt101.1 bt101.2.1 bt101.2.2 200).bind fun bt105 => ((spec_l1PickInt.f bt101.1 bt105.2.1 bt105.2.2 (([0, 1, 3, 55, 56, 63, 64, 65, 119, 120, bt105.1] : List Int))).bind fun bt111 => (spec_DrawSha256.l0 k bt111.1 ([] : List Int) 0 bt101.1 bt111.2.1 bt111.2.2)))) = some r := h
 clear h
 replace H := Option.bind_eq_some_iff.mp H
 obtain ⟨⟨t101, t102, t103⟩, A20, H⟩ := H
 replace H : ((spec_l1Below.f t101 t102 t103 200).bind fun bt105 => ((spec_l1PickInt.f t101 bt105.2.1 bt105.2.2 (([0, 1, 3, 55, 56, 63, 64, 65, 119, 120, bt105.1] : List Int))).bind fun bt111 => (spec_DrawSha256.l0 k bt111.1 ([] : List Int) 0 t101 bt111.2.1 bt111.2.2))) = some r := H
 have A2 := ak A20
 clear A20
 replace H := Option.bind_eq_some_iff.mp H
 obtain ⟨⟨t105, t106, t107⟩, A30, H⟩ := H
 replace H : ((spec_l1PickInt.f t101 t106 t107 (([0, 1, 3, 55, 56, 63, 64, 65, 119, 120, t105] : List Int))).bind fun bt111 => (spec_DrawSha256.l0 k bt111.1 ([] : List Int) 0 t101 bt111.2.1 bt111.2.2)) = some r := H
 have A3 := ak A30
 clear A30
 obtain ⟨y108, hy108⟩ : ∃ y_ : List Int, y_ = (([0, 1, 3, 55, 56, 63, 64, 65, 119, 120, t105] : List Int)) := ⟨_, rfl⟩
 (try with_reducible replace H := bnS H)
 (try rw [← hy108] at H)
 have Ny108 := ak hy108
 clear hy108
 replace H := Option.bind_eq_some_iff.mp H
 obtain ⟨⟨t111, t112, t113⟩, A40, H⟩ := H
 replace H : (spec_DrawSha256.l0 k t111 ([] : List Int) 0 t101 t112 t113) = some r := H
 have A4 := ak A40
 clear A40
 have H' := ak H
 clear H
 go_enter Try.func24, Try.ntmps24
 go_wp2_with (first | ((with_reducible refine gate_callee (f := 38) rfl ?_);refine glG 8 rfl rfl Try.func38 (spec_l1New.calls k _ _ l0 t101 t102 t103 w _ ?side1 HR0.out HC0.out A2.out) ?_;(case side1 => repeat (first | (with_reducible first | exact HB.out | apply below_alloc | apply pw_below_drewN | apply below_drew1) | exact HB.out));rintro e w5 ⟨g104, rfl, hi, hb, hb2⟩;refine ⟨_, rfl, ?_⟩;replace HB := ak (hb);have HI104 := ak (hi);(try clear hb);(try clear hb2);(try clear hk);(try clear hi)) | ((with_reducible refine gate_callee (f := 44) rfl ?_);refine glG 11 rfl rfl Try.func44 (spec_l1Below.calls g104 t101 t102 t103 200 t105 t106 t107 w _ ?side1 ?side2 A3.out) ?_;(case side1 => repeat (first | (with_reducible first | exact HI104.out | apply IsS76.alloc | apply IsS76.drewN | apply IsS76.drew | apply IsS76.set_1 | apply IsS76.set_2) | exact HI104.out));(case side2 => repeat (first | (with_reducible first | exact HB.out | apply below_alloc | apply pw_below_drewN | apply below_drew1 | refine below_set ?_ (IsS76.ge HI104.out)) | exact HB.out));rintro e w6 ⟨rfl, hi, hb, hk⟩;refine ⟨_, rfl, ?_⟩;replace HB := ak (hb);replace HI104 := ak (hi);(try clear hb);(try clear hb2);(try clear hk);(try clear hi)) | ((with_reducible refine gate_dst (N := 12) rfl ?_);refine Kd.R_lit (Kd.int .i64) _ 3 ?hg (N := 12) ?hd (xs := ([0, 1, 3, 55, 56, 63, 64, 65, 119, 120, t105] : List Int)) (inner := [.int .i64 0, .int .i64 1, .int .i64 3, .int .i64 55, .int .i64 56, .int .i64 63, .int .i64 64, .int .i64 65, .int .i64 119, .int .i64 120, .int .i64 t105]) (ok := fun _ => True) (okp := fun _ => True) ?hr ?hp (fun _ hk => hk) trivial (Below.refl _ _) (Nat.le_refl _) (by simp) ?_;(case hd => rfl);(case hg => rfl);(case hr => first | (go_simp; done) | (go_simp; rfl));(case hp => exact (Reps.one (show Kd.M (Kd.int .i64) _ _ _ 0 [.int .i64 0] from rfl) (Reps.one (show Kd.M (Kd.int .i64) _ _ _ 1 [.int .i64 1] from rfl) (Reps.one (show Kd.M (Kd.int .i64) _ _ _ 3 [.int .i64 3] from rfl) (Reps.one (show Kd.M (Kd.int .i64) _ _ _ 55 [.int .i64 55] from rfl) (Reps.one (show Kd.M (Kd.int .i64) _ _ _ 56 [.int .i64 56] from rfl) (Reps.one (show Kd.M (Kd.int .i64) _ _ _ 63 [.int .i64 63] from rfl) (Reps.one (show Kd.M (Kd.int .i64) _ _ _ 64 [.int .i64 64] from rfl) (Reps.one (show Kd.M (Kd.int .i64) _ _ _ 65 [.int .i64 65] from rfl) (Reps.one (show Kd.M (Kd.int .i64) _ _ _ 119 [.int .i64 119] from rfl) (Reps.one (show Kd.M (Kd.int .i64) _ _ _ 120 [.int .i64 120] from rfl) (Reps.one (show Kd.M (Kd.int .i64) _ _ _ t105 [.int .i64 t105] from rfl) (Reps.none _ _)))))))))))));intro v109 w7 ho8 hb hg_ hnew_;clear hg_ hnew_;(first | rw [← Ny108.out] at ho8 | (simp only [Int.reduceToNat] at ho8; rw [← Ny108.out] at ho8));have HO110 := ak (Kd.R_lower ho8 (below_size (by repeat (first | (with_reducible first | exact HB.out | apply below_alloc | apply pw_below_drewN | apply below_drew1 | refine below_set ?_ (IsS76.ge HI104.out)) | exact HB.out))));replace HB := ak (below_step (by repeat (first | (with_reducible first | exact HB.out | apply below_alloc | apply pw_below_drewN | apply below_drew1 | refine below_set ?_ (IsS76.ge HI104.out)) | exact HB.out)) hb);replace HI104 := ak (IsS76.below (by repeat (first | (with_reducible first | exact HI104.out | apply IsS76.alloc | apply IsS76.drewN | apply IsS76.drew | apply IsS76.set_1 | apply IsS76.set_2) | exact HI104.out)) hb);clear hb ho8;obtain ⟨Ao9, co9, eo9⟩ := Kd.R_slice HO110.out;subst eo9) | ((with_reducible refine gate_callee (f := 40) rfl ?_);refine glG 13 rfl rfl Try.func40 (spec_l1PickInt.calls g104 t101 t106 t107 _ _ y108 t111 t112 t113 w _ ?side1 ?side2 ?side3 ?side4 ?side5 A4.out) ?_;(case side1 => repeat (first | (with_reducible first | exact HI104.out | apply IsS76.alloc | apply IsS76.drewN | apply IsS76.drew | apply IsS76.set_1 | apply IsS76.set_2) | exact HI104.out));(case side2 => repeat (first | (with_reducible first | exact HB.out | apply below_alloc | apply pw_below_drewN | apply below_drew1 | refine below_set ?_ (IsS76.ge HI104.out)) | exact HB.out));(case side3 => repeat (first | exact (Kd.R_reads' HO110.out).2.2 | (with_reducible refine Kd.C_alloc ?_ _) | (with_reducible refine Kd.C_drewN ?_ _) | (with_reducible refine Kd.C_drew ?_)));(case side4 => exact (Kd.R_reads' HO110.out).2.1);(case side5 => exact far_slice (IsS76.own_ne HI104.out HO110.out (by decide)));rintro e w10 ⟨rfl, hi, hb, hk⟩;refine ⟨_, rfl, ?_⟩;replace HO110 := ak (Kd.R_mono (Kd.R_keep (IsS76.apart (show IsS76 w _ g104 t101 t106 t107 from by repeat (first | (with_reducible first | exact HI104.out | apply IsS76.alloc | apply IsS76.drewN | apply IsS76.drew | apply IsS76.set_1 | apply IsS76.set_2) | exact HI104.out)) (rw_ HO110.out) (by decide)) hk (fun _ h => h.2)) (fun _ h => h.1));replace HB := ak (hb);replace HI104 := ak (hi);(try clear hb);(try clear hb2);(try clear hk);(try clear hi)))
 go_loopg [5, 6] k (fun kq v5 v6 w' => ∃ (x5_1 : List Int) (x6_1 : Int) (x105001_1 : Int) (x105002_1 : Int), v6 = .int .i64 x6_1 ∧ Aside0 (spec_DrawSha256.l0 kq t111 x5_1 x6_1 t101 x105001_1 x105002_1 = some r) ∧ Aside0 (kq ≤ k) ∧ Aside0 (Kd.R (Kd.int .u8) 5 w' w.heap.size (fun _ => True) v5 x5_1) ∧ Aside0 (IsS76 w w' g104 t101 x105001_1 x105002_1) ∧ Aside0 (Below w.heap.size w w'))
 case atStart => exact ⟨(([] : List Int)), (0), (t112), (t113), o2, H', ⟨Nat.le_refl _⟩, ⟨by first | exact Kd.R_nil _ _ _ _ _ | exact Kd.N_nil _ _ _ _ _ | exact Kd.V_nil _ _ _ _ _ | exact Kd.Q_nil _ _ _ _ _ | exact Kd.S_nil _ _ _ _ _⟩, ⟨by repeat (first | (with_reducible first | exact HI104.out | apply IsS76.alloc | apply IsS76.drewN | apply IsS76.drew | apply IsS76.set_1 | apply IsS76.set_2) | exact HI104.out)⟩, ⟨by repeat (first | (with_reducible first | exact HB.out | apply below_alloc | apply pw_below_drewN | apply below_drew1 | refine below_set ?_ (IsS76.ge HI104.out)) | exact HB.out)⟩⟩
 case round =>
  clear H'
  obtain ⟨x5_1, x6_1, x105001_1, x105002_1, rfl, HA, HK1, HO_5, HI104, HB⟩ := hrel
  cases gk with
  | zero => exact absurd HA.out (by simp [spec_DrawSha256.l0])
  | succ k1 =>
   have H := HA.out
   clear HA
   simp only [spec_DrawSha256.l0] at H
   replace H := ip H
   obtain ⟨c11b0, H⟩ | ⟨c11b0, H⟩ := H
   ·replace H := Option.bind_eq_some_iff.mp H
    obtain ⟨⟨t114, t115, t116⟩, A120, H⟩ := H
    replace H : (if x5_1.length < 140737488355328 then (spec_DrawSha256.l0 k1 t111 (x5_1 ++ [(t114) % 256]) (wrap64 (x6_1 + 1)) t101 t115 t116) else (none)) = some r := H
    have A12 := ak A120
    clear A120
    by_cases c13 : x5_1.length < 140737488355328
    ·rw [if_pos c13] at H
     have LMc13 := ak c13
     clear c13
     obtain ⟨y117, hy117⟩ : ∃ y_ : List Int, y_ = (x5_1 ++ [(t114) % 256]) := ⟨_, rfl⟩
     (try with_reducible replace H := bnS H)
     (try rw [← hy117] at H)
     have Ny117 := ak hy117
     clear hy117
     have H' := ak H
     clear H
     go_wp2_with (first | ((with_reducible refine gate_callee (f := 45) rfl ?_);refine glG 21 rfl rfl Try.func45 (spec_l1Byte.calls g104 t101 x105001_1 x105002_1 t114 t115 t116 w _ ?side1 ?side2 A12.out) ?_;(case side1 => repeat (first | (with_reducible first | exact HI104.out | apply IsS76.alloc | apply IsS76.drewN | apply IsS76.drew | apply IsS76.set_1 | apply IsS76.set_2) | exact HI104.out));(case side2 => repeat (first | (with_reducible first | exact HB.out | apply below_alloc | apply pw_below_drewN | apply below_drew1 | refine below_set ?_ (IsS76.ge HI104.out)) | exact HB.out));rintro e w14 ⟨rfl, hi, hb, hk⟩;refine ⟨_, rfl, ?_⟩;replace HO_5 := ak (Kd.R_mono (Kd.R_keep (IsS76.apart (show IsS76 w _ g104 t101 x105001_1 x105002_1 from by repeat (first | (with_reducible first | exact HI104.out | apply IsS76.alloc | apply IsS76.drewN | apply IsS76.drew | apply IsS76.set_1 | apply IsS76.set_2) | exact HI104.out)) (rw_ HO_5.out) (by decide)) hk (fun _ h => h.2)) (fun _ h => h.1));replace HB := ak (hb);replace HI104 := ak (hi);(try clear hb);(try clear hb2);(try clear hk);(try clear hi)) | ((with_reducible refine gate_builtin (b := .append) (xs := #[.tmp 19, .tmp 23]) rfl ?_);at_builtin;refine Kd.R_append (Kd.int .u8) (w0 := w) w.heap.size rfl (.tmp 19) (.tmp 23) 26 5 (.int .u8 0) 1 rfl Try.underlying26 info5 rfl (by decide) (by omega) u5 x5_1 ((t114) % 256) [.int .u8 ((t114) % 256)] (fun _ => True) (fun _ => False) rfl rfl ?aP (fun _ hk => hk.elim) ?aF ?aO ?aB ?aS ?aL ?_;(case aP => exact rfl);(case aB => exact (by repeat (first | (with_reducible first | exact HB.out | apply below_alloc | apply pw_below_drewN | apply below_drew1 | refine below_set ?_ (IsS76.ge HI104.out)) | exact HB.out)));(case aF => exact (fun _ _ => trivial));(case aO => exact (rw_ HO_5.out));(case aS => exact (below_size (by repeat (first | (with_reducible first | exact HB.out | apply below_alloc | apply pw_below_drewN | apply below_drew1 | refine below_set ?_ (IsS76.ge HI104.out)) | exact HB.out))));(case aL => have := LMc13.out; omega);intro v118 w15 ho hb hg hat;rw [← Ny117.out] at ho;replace HI104 := ak (IsS76.grown (by repeat (first | (with_reducible first | exact HI104.out | apply IsS76.alloc | apply IsS76.drewN | apply IsS76.drew | apply IsS76.set_1 | apply IsS76.set_2) | exact HI104.out)) hg (IsS76.own_ne HI104.out HO_5.out (by decide)));replace HB := ak (hb);have HO119 := ak (ho);clear HO_5;clear ho hb hg hat))
     go_roundg k1
     case measure => have := HK1.out; omega
     case rel => exact ⟨(y117), (wrap64 (x6_1 + 1)), (t115), (t116), o2, H', ⟨by have := HK1.out; omega⟩, ⟨rw_ HO119.out⟩, ⟨by repeat (first | (with_reducible first | exact HI104.out | apply IsS76.alloc | apply IsS76.drewN | apply IsS76.drew | apply IsS76.set_1 | apply IsS76.set_2) | exact HI104.out)⟩, ⟨by repeat (first | (with_reducible first | exact HB.out | apply below_alloc | apply pw_below_drewN | apply below_drew1 | refine below_set ?_ (IsS76.ge HI104.out)) | exact HB.out)⟩⟩
    ·rw [if_neg c13] at H
     exact absurd H (by simp)
   ·obtain rfl := Option.some.inj H
    go_wp2
    go_ret
    exact ⟨_, o1, rw_ HO_5.out, by repeat (first | (with_reducible first | exact HB.out | apply below_alloc | apply pw_below_drewN | apply below_drew1 | refine below_set ?_ (IsS76.ge HI104.out)) | exact HB.out)⟩

theorem and255 (n : Int) : Go.bits .and .i64 n 255 = n % 256 := by
  have h255 : (BitVec.ofInt 64 255).toNat = 2 ^ 8 - 1 := by decide
  have key : (BitVec.ofInt 64 n &&& BitVec.ofInt 64 255).toNat = (n % ((2 ^ 64 : Nat) : Int)).toNat % 2 ^ 8 := by
    rw [BitVec.toNat_and, BitVec.toNat_ofInt, h255, Nat.and_two_pow_sub_one_eq_mod]
  show IntKind.i64.wrap ((BitVec.ofInt 64 n &&& BitVec.ofInt 64 255).toNat : Nat) = n % 256
  rw [key, IntKind.wrap_i64]
  omega
theorem up_ {α : Type} {r : α} {n m : Nat} (g : Nat → Option α) (hg : ∀ k, LeO (g k) (g (k + 1))) (h : g n = some r) (hm : n ≤ m) : g m = some r := by
  induction m with
  | zero => rw [show n = 0 by omega] at h; exact h
  | succ m ih =>
    by_cases e : n = m + 1
    · rw [← e]; exact h
    · exact hg m r (ih (by omega))
theorem w64c {x : Int} (h1 : -9223372036854775808 ≤ x) (h2 : x ≤ 9223372036854775807) : wrap64 x = x := by unfold wrap64; omega
/-- A cursor over the bytes s. -/
def Cur (w0 w : World) (g : Nat) (s : List Int) : Prop := ∃ i h, 0 ≤ i ∧ IsS76 w0 w g s i h
theorem byte_ex (s : List Int) (i h : Int) (hs : s.length ≤ 140737488351232) (hi : 0 ≤ i) : ∃ x i' h', spec_l1Byte.f s i h = some (x, i', h') ∧ 0 ≤ x ∧ x ≤ 255 ∧ 0 ≤ i' := by
  unfold spec_l1Byte.f
  by_cases h1 : i < (s.length : Int)
  · rw [if_pos h1, if_pos hi]
    refine ⟨_, _, _, rfl, ?_, ?_, ?_⟩
    · rw [and255]; omega
    · rw [and255]; omega
    · rw [w64c (by omega) (by omega)]; omega
  · rw [if_neg h1]
    exact ⟨_, _, _, rfl, by rw [and255]; omega, by rw [and255]; omega, hi⟩
theorem below_f (s : List Int) (i h a : Int) (hs : s.length ≤ 140737488351232) (hi : 0 ≤ i) (h0 : 0 < a) (h1 : a ≤ 256) : ∃ x i' h', spec_l1Below.f s i h a = some (x, i', h') ∧ 0 ≤ x ∧ x < a ∧ 0 ≤ i' := by
  obtain ⟨x, i', h', e, hx0, hx1, hi'⟩ := byte_ex s i h hs hi
  unfold spec_l1Below.f
  rw [if_neg (by omega), if_pos h1, e, Option.bind_some, if_neg (by omega)]
  refine ⟨_, _, _, rfl, Int.tmod_nonneg _ hx0, ?_, hi'⟩
  rw [Int.tmod_eq_emod_of_nonneg hx0]
  exact Int.emod_lt_of_pos _ h0
theorem cur_below (w0 w : World) (g : Nat) (s : List Int) (a : Int) (hs : s.length ≤ 140737488351232) (hI : Cur w0 w g s) (hB : Below w0.heap.size w0 w) (h0 : 0 < a) (h1 : a ≤ 256) :
    Calls Try.prog 44 #[.pointer (some ⟨g, 0, none⟩), .int .i64 a] w fun e w' => ∃ x : Int, e = .returned (.int .i64 x) ∧ 0 ≤ x ∧ x < a ∧ Cur w0 w' g s ∧ Below w0.heap.size w0 w' ∧ KeepBut w w' g none := by
  obtain ⟨i, h, hi, hI⟩ := hI
  obtain ⟨x, i', h', e, hx0, hx1, hi'⟩ := below_f s i h a hs hi h0 h1
  refine (spec_l1Below.calls g s i h a x i' h' w0 w hI hB e).mono ?_
  rintro e w' ⟨rfl, h1, h2, h3⟩
  exact ⟨x, rfl, hx0, hx1, ⟨i', h', hi', h1⟩, h2, h3⟩
theorem cur_once (w0 w : World) (g : Nat) (s : List Int) (a : Int) (hs : s.length ≤ 140737488351232) (hI : Cur w0 w g s) (hB : Below w0.heap.size w0 w) (h0 : 0 < a) (h1 : a ≤ 256) :
    Calls Try.prog 39 #[.pointer (some ⟨g, 0, none⟩), .int .i64 a] w fun e w' => ∃ b : Bool, e = .returned (.bool b) ∧ Cur w0 w' g s ∧ Below w0.heap.size w0 w' ∧ KeepBut w w' g none := by
  obtain ⟨i, h, hi, hI⟩ := hI
  obtain ⟨x, i', h', e, hx0, hx1, hi'⟩ := below_f s i h a hs hi h0 h1
  refine (spec_l1Once.calls g s i h a (x == 0) i' h' w0 w hI hB (by unfold spec_l1Once.f; rw [e]; rfl)).mono ?_
  rintro e w' ⟨rfl, h1, h2, h3⟩
  exact ⟨_, rfl, ⟨i', h', hi', h1⟩, h2, h3⟩
theorem cur_pick (w0 w : World) (g : Nat) (s : List Int) (A : Option Addr) (c : Nat) (l : List Int) (hs : s.length ≤ 140737488351232) (hI : Cur w0 w g s) (hB : Below w0.heap.size w0 w) (hl : 0 < l.length ∧ l.length ≤ 256) (hr : Kd.C (Kd.int .i64) w A l.length l) (hc : l.length ≤ c) (hf : ∀ ad, A = some ad → 0 < l.length → ad.block ≠ g) :
    Calls Try.prog 40 #[.pointer (some ⟨g, 0, none⟩), .slice A l.length c] w fun e w' => ∃ x : Int, x ∈ l ∧ e = .returned (.int .i64 x) ∧ Cur w0 w' g s ∧ Below w0.heap.size w0 w' ∧ KeepBut w w' g none := by
  obtain ⟨i, h, hi, hI⟩ := hI
  obtain ⟨x, i', h', e, hx0, hx1, hi'⟩ := below_f s i h (l.length : Int) hs hi (by omega) (by omega)
  refine (spec_l1PickInt.calls g s i h A c l (rd l x) i' h' w0 w hI hB hr hc hf (by unfold spec_l1PickInt.f; rw [e]; simp only [Option.bind_some]; rw [if_pos hx0, if_pos hx1])).mono ?_
  rintro e w' ⟨rfl, h1, h2, h3⟩
  refine ⟨_, ?_, rfl, ⟨i', h', hi', h1⟩, h2, h3⟩
  have hx : x.toNat < l.length := by omega
  have : rd l x = l[x.toNat] := by simp [rd, List.getD_eq_getElem?_getD, hx]
  rw [this]
  exact List.getElem_mem hx
theorem new_l0 (s : List Int) (hs : s.length ≤ 140737488351232) (m : Nat) : ∀ (i : Int) (h : Int), 0 ≤ i → (s.length : Int) ≤ i + m → ∃ h', spec_l1New.l0 (m + 1) s h i = some (s, 0, h') := by
  induction m with
  | zero =>
    intro i h hi hm
    simp only [spec_l1New.l0]
    rw [if_neg (by omega)]
    exact ⟨_, rfl⟩
  | succ m ih =>
    intro i h hi hm
    simp only [spec_l1New.l0]
    by_cases h1 : i < (s.length : Int)
    · rw [if_pos h1]
      by_cases h2 : i < 4000
      · rw [if_pos h2, if_pos hi, w64c (show -9223372036854775808 ≤ i + 1 by omega) (by omega)]
        exact ih (i + 1) _ (by omega) (by omega)
      · rw [if_neg h2]; exact ⟨_, rfl⟩
    · rw [if_neg h1]; exact ⟨_, rfl⟩
theorem cur_new (A : Option Addr) (c : Nat) (l : List Int) (w0 w : World) (hl : l.length ≤ 140737488351232) (hB : Below w0.heap.size w0 w) (hr : Kd.C (Kd.int .u8) w0 A l.length l) (hc : l.length ≤ c) :
    Calls Try.prog 38 #[.slice A l.length c] w fun e w' => ∃ g : Nat, e = .returned (.pointer (some ⟨g, 0, none⟩)) ∧ Cur w0 w' g l ∧ Below w0.heap.size w0 w' ∧ Below w.heap.size w w' := by
  obtain ⟨h', e⟩ := new_l0 l hl l.length 0 (wrap64 (42222 + (l.length : Int))) (by omega) (by omega)
  refine (spec_l1New.calls (l.length + 1) A c l l 0 h' w0 w hB hr hc e).mono ?_
  rintro e w' ⟨g, rfl, h1, h2, h3⟩
  exact ⟨g, rfl, ⟨0, h', by omega, h1⟩, h2, h3⟩
theorem drawsha_l0 (s : List Int) (hs : s.length ≤ 140737488351232) (m : Int) (d : Nat) : ∀ (j i h : Int) (b : List Int), 0 ≤ i → 0 ≤ j → j ≤ m → m ≤ 4096 → m - j = d → (b.length : Int) = j → (∀ x ∈ b, 0 ≤ x ∧ x ≤ 255) →
    ∃ r, spec_DrawSha256.l0 (d + 1) m b j s i h = some r ∧ r.length ≤ 4096 ∧ ∀ x ∈ r, 0 ≤ x ∧ x ≤ 255 := by
  induction d with
  | zero =>
    intro j i h b hi hj hjm hm hd hb hx
    simp only [spec_DrawSha256.l0]
    rw [if_neg (by omega)]
    exact ⟨_, rfl, by omega, hx⟩
  | succ d ih =>
    intro j i h b hi hj hjm hm hd hb hx
    obtain ⟨x, i', h', e, hx0, hx1, hi'⟩ := byte_ex s i h hs hi
    simp only [spec_DrawSha256.l0] at ih ⊢
    rw [if_pos (by omega), e, Option.bind_some, if_pos (by omega), w64c (by omega) (by omega)]
    refine ih (j + 1) i' h' _ hi' (by omega) (by omega) hm (by omega) (by simp; omega) (fun y hy => ?_)
    rcases List.mem_append.1 hy with h1 | h1
    · exact hx y h1
    · rw [List.mem_singleton.1 h1]; omega
/-- What is drawn for a hash: at most 4096 bytes. -/
theorem drawsha_f (l : List Int) (hl : l.length ≤ 140737488351232) : ∃ k r, spec_DrawSha256.f k l = some r ∧ r.length ≤ 4096 ∧ ∀ x ∈ r, 0 ≤ x ∧ x ≤ 255 := by
  obtain ⟨h', e⟩ := new_l0 l hl l.length 0 (wrap64 (42222 + (l.length : Int))) (by omega) (by omega)
  obtain ⟨x, i1, h1, e1, hx0, hx1, hi1⟩ := below_f l 0 h' 200 hl (by omega) (by omega) (by omega)
  obtain ⟨y, i2, h2, e2, hy0, hy1, hi2⟩ := below_f l i1 h1 11 hl hi1 (by omega) (by omega)
  have hm : 0 ≤ rd [0, 1, 3, 55, 56, 63, 64, 65, 119, 120, x] y ∧ rd [0, 1, 3, 55, 56, 63, 64, 65, 119, 120, x] y ≤ 200 := by
    have hyn : y.toNat < 11 := by omega
    unfold rd
    generalize y.toNat = n at hyn
    match n, hyn with
    | 0, _ => simp
    | 1, _ => simp
    | 2, _ => simp
    | 3, _ => simp
    | 4, _ => simp
    | 5, _ => simp
    | 6, _ => simp
    | 7, _ => simp
    | 8, _ => simp
    | 9, _ => simp
    | 10, _ => show 0 ≤ x ∧ x ≤ 200; omega
  obtain ⟨r, er, hr⟩ := drawsha_l0 l hl (rd [0, 1, 3, 55, 56, 63, 64, 65, 119, 120, x] y) (rd [0, 1, 3, 55, 56, 63, 64, 65, 119, 120, x] y).toNat 0 i2 h2 [] hi2 (by omega) (by omega) (by omega) (by omega) rfl (by simp)
  obtain ⟨k, hk⟩ : ∃ k, k = l.length + 1 + ((rd [0, 1, 3, 55, 56, 63, 64, 65, 119, 120, x] y).toNat + 1) := ⟨_, rfl⟩
  have up1 : spec_l1New.l0 k l (wrap64 (42222 + (l.length : Int))) 0 = some (l, 0, h') := up_ (fun k => spec_l1New.l0 k l (wrap64 (42222 + (l.length : Int))) 0) (fun k => spec_l1New.mono_l k _ _ _) e (by omega)
  have up2 := up_ (fun k => spec_DrawSha256.l0 k (rd [0, 1, 3, 55, 56, 63, 64, 65, 119, 120, x] y) [] 0 l i2 h2) (fun k => spec_DrawSha256.mono_l k _ _ _ _ _ _) er (show (rd [0, 1, 3, 55, 56, 63, 64, 65, 119, 120, x] y).toNat + 1 ≤ k by omega)
  refine ⟨k, r, ?_, hr⟩
  unfold spec_DrawSha256.f spec_l1New.f spec_l1PickInt.f
  rw [up1]
  simp only [Option.bind_some]
  rw [e1]
  simp only [Option.bind_some, List.length_cons, List.length_nil]
  rw [show ((0 + 1 + 1 + 1 + 1 + 1 + 1 + 1 + 1 + 1 + 1 + 1 : Nat) : Int) = 11 from rfl, e2]
  simp only [Option.bind_some]
  rw [if_pos hy0, if_pos hy1]
  simp only [Option.bind_some]
  exact up2

/-! ### spec_Lower: function 84 -/
def spec_Lower.l0 : Nat → List Int → Int → Option (List Int)
 | 0, _, _ => none
 | k + 1, x3, x4 => if x4 < (x3.length : Int) then (if 0 ≤ x4 then (if (rd x3 x4) ≥ 65 then (if (rd x3 x4) ≤ 90 then (spec_Lower.l0 k (x3.set (x4 : Int).toNat (((rd x3 x4) + 32) % 256)) (wrap64 (x4 + 1))) else (spec_Lower.l0 k x3 (wrap64 (x4 + 1)))) else (spec_Lower.l0 k x3 (wrap64 (x4 + 1)))) else (none)) else (some x3)
def spec_Lower.f (k : Nat) (l0 : List Int) : Option (List Int) := (some (([] : List Int) : List Int)).bind fun y101 => (if y101.length + l0.length < 140737488355328 then (spec_Lower.l0 k (y101 ++ l0) 0) else (none))
set_option maxHeartbeats 8000000 in
set_option maxRecDepth 100000 in
theorem spec_Lower.calls (k : Nat) (A0 : Option Addr) (c0 : Nat) (l0 : List Int) (r : List Int) (w : World) (hr0 : Kd.C (Kd.int .u8) w A0 l0.length l0) (hc0 : l0.length ≤ c0) (h : spec_Lower.f k l0 = some r) :
  Calls Try.prog 84 #[.slice A0 l0.length c0] w fun e w' => ∃ v0_ : Value, e = .returned (v0_) ∧ Kd.R (Kd.int .u8) 5 w' w.heap.size (fun _ => True) v0_ r ∧ Below w.heap.size w w' := by
 have HR0 := ak hr0
 have HC0 := ak hc0
 clear hr0 hc0
 have HB := ak (Below.refl w.heap.size w)
 have H : ((some (([] : List Int) : List Int)).bind fun y101 => (if y101.length + l0.length < 140737488355328 then (spec_Lower.l0 k (y101 ++ l0) 0) else (none))) = some r := h
 clear h
 replace H : ∃ y101 : List Int, y101 = (([] : List Int)) ∧ (if y101.length + l0.length < 140737488355328 then (spec_Lower.l0 k (y101 ++ l0) 0) else (none)) = some r := ⟨_, rfl, H⟩
 obtain ⟨y101, hy101, H⟩ := H
 have Ny101 := ak hy101
 clear hy101
 by_cases c2 : y101.length + l0.length < 140737488355328
 ·rw [if_pos c2] at H
  have LMc2 := ak c2
  clear c2
  obtain ⟨y104, hy104⟩ : ∃ y_ : List Int, y_ = (y101 ++ l0) := ⟨_, rfl⟩
  (try with_reducible replace H := bnS H)
  (try rw [← hy104] at H)
  have Ny104 := ak hy104
  clear hy104
  have H' := ak H
  clear H
  go_enter Try.func84, Try.ntmps84
  go_wp2_with (first | ((with_reducible refine gate_dst (N := 5) rfl ?_);refine Kd.R_lit (Kd.int .u8) _ 5 ?hg (N := 5) ?hd (xs := ([] : List Int)) (inner := []) (ok := fun _ => True) (okp := fun _ => True) ?hr ?hp (fun _ hk => hk) trivial (Below.refl _ _) (Nat.le_refl _) (by simp) ?_;(case hd => rfl);(case hg => rfl);(case hr => first | (go_simp; done) | (go_simp; rfl));(case hp => exact (Reps.none _ _));intro v102 w3 ho4 hb hg_ hnew_;clear hg_ hnew_;(first | rw [← Ny101.out] at ho4 | (simp only [Int.reduceToNat] at ho4; rw [← Ny101.out] at ho4));have HO103 := ak (Kd.R_lower ho4 (below_size (bw HB.out)));replace HB := b2 HB hb;clear hb ho4) | ((with_reducible refine gate_builtin (b := .append) (xs := #[.tmp 5, .tmp 6]) rfl ?_);at_builtin;refine Kd.R_append_rows (Kd.int .u8) (w0 := w) w.heap.size rfl (.tmp 5) (.tmp 6) 26 5 (.int .u8 0) 1 rfl Try.underlying26 info5 rfl (by decide) (by omega) v102 y101 l0 _ _ _ (fun _ => True) (fun _ => False) rfl rfl ?aO ?aR (fun _ _ h => h) (fun _ h => h.elim) ?aF ?aB ?aS ?aL ?_;(case aR => exact cw HR0.out HB.out);(case aB => exact (bw HB.out));(case aF => exact (fun _ _ => trivial));(case aO => exact (rw_ HO103.out));(case aS => exact (below_size (bw HB.out)));(case aL => have := LMc2.out; omega);intro v105 w5 ho hb hg hat;rw [← Ny104.out] at ho;replace HB := ak (hb);have HO106 := ak (ho);clear HO103;clear ho hb hg hat))
  go_loopg [4] k (fun kq v4 w' => ∃ (x3_1 : List Int) (x4_1 : Int), v4 = .int .i64 x4_1 ∧ Aside0 (spec_Lower.l0 kq x3_1 x4_1 = some r) ∧ Aside0 (kq ≤ k) ∧ Aside0 (Kd.R (Kd.int .u8) 5 w' w.heap.size (fun _ => True) v105 x3_1) ∧ Aside0 (Below w.heap.size w w'))
  case atStart => exact ⟨(y104), (0), o2, H', ⟨Nat.le_refl _⟩, ⟨rw_ HO106.out⟩, ⟨bw HB.out⟩⟩
  case round =>
   clear H'
   (try clear c2)
   obtain ⟨x3_1, x4_1, rfl, HA, HK1, HO_3, HB⟩ := hrel
   cases gk with
   | zero => exact absurd HA.out (by simp [spec_Lower.l0])
   | succ k1 =>
    have H := HA.out
    clear HA
    simp only [spec_Lower.l0] at H
    replace H := ip H
    obtain ⟨c6b0, H⟩ | ⟨c6b0, H⟩ := H
    ·replace H := ipN H
     obtain ⟨c7b0, H⟩ := H
     replace H := ih H
     obtain ⟨c8b0, H⟩ | ⟨c8b0, H⟩ := H
     ·replace H := ip H
      obtain ⟨c9b0, H⟩ | ⟨c9b0, H⟩ := H
      ·obtain ⟨y110, hy110⟩ : ∃ y_ : List Int, y_ = (x3_1.set (x4_1 : Int).toNat (((rd x3_1 x4_1) + 32) % 256)) := ⟨_, rfl⟩
       (try with_reducible replace H := bnS H)
       (try rw [← hy110] at H)
       have Ny110 := ak hy110
       clear hy110
       have H' := ak H
       clear H
       obtain ⟨Ao11, co11, eo11⟩ := Kd.R_slice HO_3.out
       subst eo11
       have p107 : 0 ≤ (x4_1 : Int) := of_decide_eq_true (by first | (with_reducible assumption) | assumption)
       have q107 : x4_1 < (x3_1.length : Int) := of_decide_eq_true (by first | (with_reducible assumption) | assumption)
       obtain ⟨ad107, e107, hx107_0⟩ := Kd.at_int (Kd.R_reads' HO_3.out).2.2 x4_1 p107 q107
       cases e107
       replace p107 := eq_true p107
       replace q107 := eq_true q107
       have p108 : 0 ≤ (x4_1 : Int) := of_decide_eq_true (by first | (with_reducible assumption) | assumption)
       have q108 : x4_1 < (x3_1.length : Int) := of_decide_eq_true (by first | (with_reducible assumption) | assumption)
       obtain ⟨ad108, e108, hx108_0⟩ := Kd.at_int (Kd.R_reads' HO_3.out).2.2 x4_1 p108 q108
       obtain rfl : ad107 = ad108 := (by injection e108)
       replace p108 := eq_true p108
       replace q108 := eq_true q108
       have p109 : 0 ≤ (x4_1 : Int) := of_decide_eq_true (by first | (with_reducible assumption) | assumption)
       have q109 : x4_1 < (x3_1.length : Int) := of_decide_eq_true (by first | (with_reducible assumption) | assumption)
       obtain ⟨ad109, e109, hx109_0⟩ := Kd.at_int (Kd.R_reads' HO_3.out).2.2 x4_1 p109 q109
       obtain rfl : ad107 = ad109 := (by injection e109)
       replace p109 := eq_true p109
       replace q109 := eq_true q109
       have p10 : 0 ≤ (x4_1 : Int) := of_decide_eq_true (by first | (with_reducible assumption) | assumption)
       have q10 : (x4_1 : Int) < ((x3_1.length : Int) : Int) := of_decide_eq_true (by first | (with_reducible assumption) | assumption)
       obtain ⟨go10, co10, eo10, gb10, gl10, cl10, HG10⟩ := Kd.R_form HO_3.out (by omega)
       (first | cases eo10 | (injection eo10 with ea_ en_ ec_; (first | subst ea_ | (injection ea_ with ea_; subst ea_)); subst ec_; clear en_))
       have GB10 := ak gb10
       have GG10 := ak HG10
       clear gb10 gl10 HG10
       (first | simp only [add_plain] at hx107_0 | skip)
       (first | simp only [add_plain] at hx108_0 | skip)
       (first | simp only [add_plain] at hx109_0 | skip)
       obtain ⟨hx10_0, hf10_0⟩ := Kd.R_celln 0 HO_3.out (x4_1 : Int) p10 q10
       replace p10 := eq_true p10
       replace q10 := eq_true q10
       have HP12 := Kd.R_putg HO_3.out (x4_1 : Int) (((rd x3_1 x4_1) + 32) % 256)
       go_wp2_with (((with_reducible refine gate_store (t := 5) (p := 33) rfl ?_);refine store_event (t := 5) (p := 33) (v := ?vo_w13) (w1 := (wr.setCell ⟨go10, (x4_1 : Int).toNat, none⟩ (.int .u8 (((rd x3_1 x4_1) + 32) % 256)))) ?hg ?ho ?hn ?hr ?_;(case ho => rfl);(case hg => rfl);(case hn => rfl);(case hr => first | (go_simp; done) | (go_simp; rfl));intro w13 hw;have hg : wr.grownBy w13 (some go10) := (by rw [hw]; exact HP12.2);have hp_ : Kd.R (Kd.int .u8) 5 w13 w.heap.size (fun _ => True) (.slice (some ⟨go10, 0, none⟩) x3_1.length co11) y110 := (by rw [hw, Ny110.out]; exact HP12.1);clear HP12;replace HO_3 := ak (hp_);replace HB := ak ((by rw [hw]; exact below_set (HB.out) GB10.out : Below w.heap.size w w13));clear hg hw hp_))
       go_roundg k1
       case measure => have := HK1.out; omega
       case rel => exact ⟨(y110), (wrap64 (x4_1 + 1)), o2, H', ⟨by have := HK1.out; omega⟩, ⟨rw_ HO_3.out⟩, ⟨bw HB.out⟩⟩
      ·have H' := ak H
       clear H
       obtain ⟨Ao14, co14, eo14⟩ := Kd.R_slice HO_3.out
       subst eo14
       have p107 : 0 ≤ (x4_1 : Int) := of_decide_eq_true (by first | (with_reducible assumption) | assumption)
       have q107 : x4_1 < (x3_1.length : Int) := of_decide_eq_true (by first | (with_reducible assumption) | assumption)
       obtain ⟨ad107, e107, hx107_0⟩ := Kd.at_int (Kd.R_reads' HO_3.out).2.2 x4_1 p107 q107
       cases e107
       replace p107 := eq_true p107
       replace q107 := eq_true q107
       have p108 : 0 ≤ (x4_1 : Int) := of_decide_eq_true (by first | (with_reducible assumption) | assumption)
       have q108 : x4_1 < (x3_1.length : Int) := of_decide_eq_true (by first | (with_reducible assumption) | assumption)
       obtain ⟨ad108, e108, hx108_0⟩ := Kd.at_int (Kd.R_reads' HO_3.out).2.2 x4_1 p108 q108
       obtain rfl : ad107 = ad108 := (by injection e108)
       replace p108 := eq_true p108
       replace q108 := eq_true q108
       go_wp2
       go_roundg k1
       case measure => have := HK1.out; omega
       case rel => exact ⟨(x3_1), (wrap64 (x4_1 + 1)), o2, H', ⟨by have := HK1.out; omega⟩, ⟨rw_ HO_3.out⟩, ⟨bw HB.out⟩⟩
     ·have H' := ak H
      clear H
      obtain ⟨Ao15, co15, eo15⟩ := Kd.R_slice HO_3.out
      subst eo15
      have p107 : 0 ≤ (x4_1 : Int) := of_decide_eq_true (by first | (with_reducible assumption) | assumption)
      have q107 : x4_1 < (x3_1.length : Int) := of_decide_eq_true (by first | (with_reducible assumption) | assumption)
      obtain ⟨ad107, e107, hx107_0⟩ := Kd.at_int (Kd.R_reads' HO_3.out).2.2 x4_1 p107 q107
      cases e107
      replace p107 := eq_true p107
      replace q107 := eq_true q107
      go_wp2
      go_roundg k1
      case measure => have := HK1.out; omega
      case rel => exact ⟨(x3_1), (wrap64 (x4_1 + 1)), o2, H', ⟨by have := HK1.out; omega⟩, ⟨rw_ HO_3.out⟩, ⟨bw HB.out⟩⟩
    ·obtain rfl := Option.some.inj H
     obtain ⟨Ao16, co16, eo16⟩ := Kd.R_slice HO_3.out
     subst eo16
     go_wp2
     go_ret
     exact ⟨_, o1, rw_ HO_3.out, bw HB.out⟩
 ·rw [if_neg c2] at H
  exact absurd H (by simp)

/-! ### spec_NameRead: function 82 -/
mutual
def spec_NameRead.l0 : Nat → List Int → List Int → Int → List (List Int) → Option ((List (List Int)) × Bool)
 | 0, _, _, _, _ => none
 | k + 1, x0, x5, x6, x103000 => if x6 ≤ (x0.length : Int) then (if x6 < (x0.length : Int) then (if 0 ≤ x6 then (spec_NameRead.j1 k x0 x5 x6 ((rd x0 x6) != 46) x103000) else (none)) else (spec_NameRead.j1 k x0 x5 x6 false x103000)) else ((spec_NameOk.f k x103000).bind fun t103 => (if t103 = true then (some (x103000, true)) else (some (([] : List (List Int)), false))))
def spec_NameRead.j1 : Nat → List Int → List Int → Int → Bool → List (List Int) → Option ((List (List Int)) × Bool)
 | 0, _, _, _, _, _ => none
 | k + 1, x0, x5, x6, x27, x103000 => if x27 = true then (if 0 ≤ x6 then (if x6 < (x0.length : Int) then (if x5.length < 140737488355328 then (spec_NameRead.l0 k x0 (x5 ++ [rd x0 x6]) (wrap64 (x6 + 1)) x103000) else (none)) else (none)) else (none)) else (if x6 = (x0.length : Int) then (if (x5.length : Int) = 0 then (if x6 > 0 then ((spec_NameOk.f k x103000).bind fun t109 => (if t109 = true then (some (x103000, true)) else (some (([] : List (List Int)), false)))) else ((spec_Lower.f k x5).bind fun t110 => (if x103000.length < 5864062014805 then (spec_NameRead.l0 k x0 ([] : List Int) (wrap64 (x6 + 1)) (x103000 ++ [t110])) else (none)))) else ((spec_Lower.f k x5).bind fun t116 => (if x103000.length < 5864062014805 then (spec_NameRead.l0 k x0 ([] : List Int) (wrap64 (x6 + 1)) (x103000 ++ [t116])) else (none)))) else ((spec_Lower.f k x5).bind fun t122 => (if x103000.length < 5864062014805 then (spec_NameRead.l0 k x0 ([] : List Int) (wrap64 (x6 + 1)) (x103000 ++ [t122])) else (none))))
end
def spec_NameRead.f (k : Nat) (l0 : List Int) : Option ((List (List Int)) × Bool) := if (strOfNums l0).toList = ([46] : List UInt8) then (some (([] : List (List Int)), true)) else (spec_NameRead.l0 k l0 ([] : List Int) 0 ([] : List (List Int)))
def spec_NameRead.T11 : Bool × List (List Nat × List Nat) := (true, [([], []), ([0], [0]), ([], []), ([2], [2]), ([3], [3]), ([1, 4, 3], [1, 4]), ([0, 1, 2, 3, 4, 5], []), ([6, 5, 5, 0, 1, 2, 3, 4, 5], [5, 6])])
def spec_NameRead.B11 : List Nat := [0, 1, 0, 4, 12, 31, 63, 127]
theorem spec_NameRead.tab11 : rtab .any (opsOf Try.f82 11) = spec_NameRead.T11 := by kernel_rfl
theorem spec_NameRead.bits11 : waitsOk spec_NameRead.T11.2 spec_NameRead.B11 = true := by kernel_rfl
set_option maxHeartbeats 8000000 in
set_option maxRecDepth 100000 in
theorem spec_NameRead.calls (k : Nat) (A0 : Option Addr) (c0 : Nat) (l0 : List Int) (r1 : List (List Int)) (r2 : Bool) (w : World) (hr0 : Kd.C (Kd.int .u8) w A0 l0.length l0) (hc0 : l0.length ≤ c0) (h : spec_NameRead.f k l0 = some (r1, r2)) :
  Calls Try.prog 82 #[.slice A0 l0.length c0] w fun e w' => ∃ v0_ : Value, e = .returned (.tuple #[.agg #[v0_], .bool r2]) ∧ Kd.S (Kd.slice 5 (Kd.int .u8)) 26 w' w.heap.size (fun _ => True) v0_ r1 ∧ Below w.heap.size w w' := by
 have hu28 := Try.underlying28
 have HR0 := ak hr0
 have HC0 := ak hc0
 clear hr0 hc0
 have HB := ak (Below.refl w.heap.size w)
 have H : (if (strOfNums l0).toList = ([46] : List UInt8) then (some (([] : List (List Int)), true)) else (spec_NameRead.l0 k l0 ([] : List Int) 0 ([] : List (List Int)))) = some (r1, r2) := h
 clear h
 replace H := ie H
 obtain ⟨c2b0, c2b1, H⟩ | ⟨c2b0, c2b1, H⟩ := H
 ·simp only [Option.some.injEq, Prod.mk.injEq] at H
  obtain ⟨rfl, rfl⟩ := H
  go_enter Try.func82, Try.ntmps82
  go_wp2_with (((with_reducible refine gate_dst (N := 2) rfl ?_);(try (refine gate_guard (by rfl) ?_; dsimp only));refine bxd (N := 2) rfl HB ?_;clear HB;intro gb101 w3 hg HB BK101 GE101 hb;have GW101 := GE101;clear hb hg;have hcv4 := Kd.C_string (P := Try.prog) (A := A0) (c := c0) Try.underlying26 Try.underlying5 Try.underlying9 (Kd.C_below HR0.out HB.out);obtain ⟨hcz5_0, hfz5_0⟩ := cells1 BK101.out))
  refine bodyPost_ret (results_ct rfl _ _ gb101 28 #[.slice none 0 0] (0, 0) _ rfl (bput1 BK101.out) Try.underlying28 rfl (by kernel_rfl)) rfl ?_
  exact ⟨_, o1, by first | exact Kd.S_nil _ _ _ _ _ | exact Kd.N_nil _ _ _ _ _ | exact Kd.V_nil _ _ _ _ _ | exact Kd.Q_nil _ _ _ _ _ | exact Kd.R_nil _ _ _ _ _, bs⟩
 ·have H' := ak H
  clear H
  go_enter Try.func82, Try.ntmps82
  go_wp2_with (first | ((with_reducible refine gate_dst (N := 2) rfl ?_);(try (refine gate_guard (by rfl) ?_; dsimp only));refine bxd (N := 2) rfl HB ?_;clear HB;intro gb101 w6 hg HB BK101 GE101 hb;have GW101 := GE101;clear hb hg;have hcv7 := Kd.C_string (P := Try.prog) (A := A0) (c := c0) Try.underlying26 Try.underlying5 Try.underlying9 (Kd.C_below HR0.out HB.out)) | ((with_reducible refine gate_dst (N := 4) rfl ?_);(try (refine gate_guard (by rfl) ?_; dsimp only));refine bxe (N := 4) rfl ?_;intro gb102 hg w8 hbox hb;have BK102 := ak (hbox);have GW102 := b3s hg bs;have GE102 := GW102;replace HB := b2s bs hb;have NB101_102 := b4 hg BK101;have NB102_101 := b5 hg BK101;replace BK101 := b1 BK101 hb;clear hb hbox hg))
  go_loopg [5, 6] k (fun kq v5 v6 w' => ∃ (x5_1 : List Int) (x6_1 : Int) (x103000_1 : List (List Int)) (u103000 : Value), v6 = .int .i64 x6_1 ∧ Aside0 (spec_NameRead.l0 kq l0 x5_1 x6_1 x103000_1 = some (r1, r2)) ∧ Aside0 (kq ≤ k) ∧ Aside0 (Kd.R (Kd.int .u8) 5 w' w.heap.size (fun _ => True) v5 x5_1) ∧ Aside0 (Kd.S (Kd.slice 5 (Kd.int .u8)) 26 w' w.heap.size (fun k_ => some k_ ≠ (v5 : Value).ownBlock) u103000 x103000_1) ∧ Aside0 (w'.heap[gb101]? = some (.cells #[(.slice none 0 0)] 28 (0, 0))) ∧ Aside0 (w'.heap[gb102]? = some (.cells #[u103000] 28 (0, 0))) ∧ Aside0 (Below w.heap.size w w'))
  case atStart => exact ⟨(([] : List Int)), (0), (([] : List (List Int))), (.slice none 0 0), o2, H', ⟨Nat.le_refl _⟩, ⟨by first | exact Kd.R_nil _ _ _ _ _ | exact Kd.N_nil _ _ _ _ _ | exact Kd.V_nil _ _ _ _ _ | exact Kd.Q_nil _ _ _ _ _ | exact Kd.S_nil _ _ _ _ _⟩, ⟨by first | exact Kd.S_nil _ _ _ _ _ | exact Kd.N_nil _ _ _ _ _ | exact Kd.V_nil _ _ _ _ _ | exact Kd.Q_nil _ _ _ _ _ | exact Kd.R_nil _ _ _ _ _⟩, ⟨bk BK101.out⟩, ⟨bk BK102.out⟩, ⟨bs⟩⟩
  case round =>
   clear H'
   (try clear c2b0)
   (try clear c2b1)
   (try clear hcv7)
   obtain ⟨x5_1, x6_1, x103000_1, u103000, rfl, HA, HK1, HO_5, HO_103000, BK101, BK102, HB⟩ := hrel
   cases gk with
   | zero => exact absurd HA.out (by simp [spec_NameRead.l0])
   | succ k1 =>
    have H := HA.out
    clear HA
    simp only [spec_NameRead.l0] at H
    replace H := ip H
    obtain ⟨c9b0, H⟩ | ⟨c9b0, H⟩ := H
    ·have HC10 := ak H
     clear H
     go_upto_region 8 with (fail)
     go_cut [27] (fun v27 wc => ∃ (kq : Nat) (x27_9 : Bool), v27 = .bool x27_9 ∧ Aside0 (spec_NameRead.j1 kq l0 x5_1 x6_1 x27_9 x103000_1 = some (r1, r2)) ∧ Aside0 (kq ≤ k1) ∧ Aside0 (Kd.R (Kd.int .u8) 5 wc w.heap.size (fun _ => True) u5 x5_1) ∧ Aside0 (Kd.S (Kd.slice 5 (Kd.int .u8)) 26 wc w.heap.size (fun k_ => some k_ ≠ (u5 : Value).ownBlock) u103000 x103000_1) ∧ Aside0 (wc.heap[gb101]? = some (.cells #[(.slice none 0 0)] 28 (0, 0))) ∧ Aside0 (wc.heap[gb102]? = some (.cells #[u103000] 28 (0, 0))) ∧ Aside0 (Below w.heap.size w wc))
     case first =>
      have H := HC10.out
      clear HC10
      replace H := ip H
      obtain ⟨c11b0, H⟩ | ⟨c11b0, H⟩ := H
      ·(first | rw [c11b0] | (simp only [i64_w, i32_w]; rw [c11b0]) | skip)
       replace H := ipN H
       obtain ⟨c12b0, H⟩ := H
       have H' := ak H
       clear H
       obtain ⟨ad104, rfl, hx104_0, p104, q104⟩ := el_int HR0 HB x6_1
       go_wp2
       go_meet
       case rel => exact ⟨_, (((rd l0 x6_1) != 46)), o2, H', ⟨by have := HK1.out; first | omega | exact Nat.le_refl _⟩, ⟨rw_ HO_5.out⟩, ⟨sw HO_103000.out⟩, ⟨bk BK101.out⟩, ⟨bk BK102.out⟩, ⟨bs⟩⟩
      ·(first | rw [c11b0] | (simp only [i64_w, i32_w]; rw [c11b0]) | skip)
       have H' := ak H
       clear H
       go_wp2
       go_meet
       case rel => exact ⟨_, (false), o2, H', ⟨by have := HK1.out; first | omega | exact Nat.le_refl _⟩, ⟨rw_ HO_5.out⟩, ⟨sw HO_103000.out⟩, ⟨bk BK101.out⟩, ⟨bk BK102.out⟩, ⟨bs⟩⟩
     case rest =>
      clear HC10
      (try clear c2b0)
      (try clear c2b1)
      (try clear hcv7)
      (try clear c9b0)
      obtain ⟨kq, x27_9, rfl, HA, HJ9, HO_5, HO_103000, BK101, BK102, HB⟩ := hcut
      cases kq with
      | zero => exact absurd HA.out (by simp [spec_NameRead.j1])
      | succ kj9 =>
       have H := HA.out
       clear HA
       simp only [spec_NameRead.j1] at H
       replace H := ib H
       obtain ⟨rfl, H⟩ | ⟨rfl, H⟩ := H
       ·replace H := ipN H
        obtain ⟨c14b0, H⟩ := H
        replace H := ipN H
        obtain ⟨c15b0, H⟩ := H
        by_cases c16 : x5_1.length < 140737488355328
        ·rw [if_pos c16] at H
         have LMc16 := ak c16
         clear c16
         obtain ⟨y106, hy106⟩ : ∃ y_ : List Int, y_ = (x5_1 ++ [rd l0 x6_1]) := ⟨_, rfl⟩
         (try with_reducible replace H := bnS H)
         (try rw [← hy106] at H)
         have Ny106 := ak hy106
         clear hy106
         have H' := ak H
         clear H
         obtain ⟨ad105, rfl, hx105_0, p105, q105⟩ := el_int HR0 HB x6_1
         go_wp2_with (((with_reducible refine gate_builtin (b := .append) (xs := #[.tmp 28, .tmp 33]) rfl ?_);(try (refine gate_guard (by rfl) ?_; dsimp only));at_builtin;refine Kd.R_append (Kd.int .u8) (w0 := w) w.heap.size rfl (.tmp 28) (.tmp 33) 26 5 (.int .u8 0) 1 rfl Try.underlying26 info5 rfl (by decide) (by omega) u5 x5_1 (rd l0 x6_1) [.int .u8 (rd l0 x6_1)] (fun _ => True) (fun _ => False) rfl rfl ?aP (fun _ hk => hk.elim) ?aF ?aO ?aB ?aS ?aL ?_;(case aP => exact rfl);(case aB => exact bs);(case aF => exact (fun _ _ => trivial));(case aO => exact (rw_ HO_5.out));(case aS => exact (below_size bs));(case aL => have := LMc16.out; omega);intro v107 w17 ho hb hg hat;rw [← Ny106.out] at ho;replace HO_103000 := ak (Kd.S_after (ok := (fun _ => True)) (sw (Kd.S_mono HO_103000.out (fun _ hk => ⟨trivial, hk⟩))) hg hat);replace BK101 := ak (blk_grown (bk BK101.out) hg (Kd.R_ne HO_5.out BK101.out (by decide)));replace BK102 := ak (blk_grown (bk BK102.out) hg (Kd.R_ne HO_5.out BK102.out (by decide)));replace HB := ak (hb);have HO108 := ak (ho);clear HO_5;clear ho hb hg hat))
         go_roundg kj9
         case measure => have := HK1.out; have := HJ9.out; omega
         case rel => exact ⟨(y106), (wrap64 (x6_1 + 1)), (x103000_1), (u103000), o2, H', ⟨by have := HK1.out; have := HJ9.out; omega⟩, ⟨rw_ HO108.out⟩, ⟨by (with_reducible repeat (first | apply Kd.S_alloc | apply Kd.S_drewN | apply Kd.S_drew)); exact Kd.S_mono HO_103000.out (fun _ hk => hk.2)⟩, ⟨bk BK101.out⟩, ⟨bk BK102.out⟩, ⟨bs⟩⟩
        ·rw [if_neg c16] at H
         exact absurd H (by simp)
       ·replace H := ie H
        obtain ⟨c18b0, c18b1, H⟩ | ⟨c18b0, c18b1, H⟩ := H
        ·replace H := ie H
         obtain ⟨c19b0, c19b1, H⟩ | ⟨c19b0, c19b1, H⟩ := H
         ·replace H := ig H
          obtain ⟨c20b0, H⟩ | ⟨c20b0, H⟩ := H
          ·replace H := bnd H
           obtain ⟨t109, A21, H⟩ := H
           replace H := ib H
           obtain ⟨rfl, H⟩ | ⟨rfl, H⟩ := H
           ·simp only [Option.some.injEq, Prod.mk.injEq] at H
            obtain ⟨rfl, rfl⟩ := H
            obtain ⟨Ao23, co23, eo23⟩ := Kd.R_slice HO_5.out
            subst eo23
            have hnb24 := NB102_101.out
            have hnc24 := NB101_102.out
            obtain ⟨hcz25_0, hfz25_0⟩ := cells1 BK102.out
            obtain ⟨Ao26, co26, eo26⟩ := Kd.S_slice HO_103000.out
            subst eo26
            go_wp2_with (((with_reducible refine gate_callee (f := 26) rfl ?_);refine glB 56 rfl rfl Try.func26 (spec_NameOk.calls kj9 _ _ x103000_1 true _ ?side1 ?side2 A21.out) (fun w27 hb => ?_);(case side1 => repeat (first | exact (Kd.S_reads' HO_103000.out).2.2 | (with_reducible refine Kd.C_alloc ?_ _) | (with_reducible refine Kd.C_drewN ?_ _) | (with_reducible refine Kd.C_drew ?_)));(case side2 => exact (Kd.S_reads' HO_103000.out).2.1);replace HO_5 := ak (Kd.R_below (rw_ HO_5.out) hb);replace HO_103000 := ak (Kd.S_below (sw HO_103000.out) hb);replace BK101 := b1 BK101 hb;replace BK102 := b1 BK102 hb;replace HB := b2s bs hb;(try clear hb);(try clear hb2);(try clear hk);(try clear hi);obtain ⟨hcz28_0, hfz28_0⟩ := cells1 BK102.out;obtain ⟨hcz29_0, hfz29_0⟩ := cells1 BK101.out))
            refine bodyPost_ret (results_ct rfl _ _ gb101 28 #[.slice Ao26 x103000_1.length co26] (0, 0) _ rfl (bput1 BK101.out) Try.underlying28 rfl (by kernel_rfl)) rfl ?_
            exact ⟨_, o1, by (with_reducible repeat (first | apply Kd.S_alloc | apply Kd.S_drewN | apply Kd.S_drew)); exact Kd.S_mono (Kd.S_far (p := ⟨gb101, 0, none⟩) (Kd.S_types HO_103000.out BK101.out (by decide)) (fun _ hk => hk.2) (.slice Ao26 x103000_1.length co26)) (fun _ hk => trivial), bs⟩
           ·simp only [Option.some.injEq, Prod.mk.injEq] at H
            obtain ⟨rfl, rfl⟩ := H
            obtain ⟨Ao30, co30, eo30⟩ := Kd.R_slice HO_5.out
            subst eo30
            have hnb31 := NB102_101.out
            have hnc31 := NB101_102.out
            obtain ⟨hcz32_0, hfz32_0⟩ := cells1 BK102.out
            obtain ⟨Ao33, co33, eo33⟩ := Kd.S_slice HO_103000.out
            subst eo33
            go_wp2_with (((with_reducible refine gate_callee (f := 26) rfl ?_);refine glB 56 rfl rfl Try.func26 (spec_NameOk.calls kj9 _ _ x103000_1 false _ ?side1 ?side2 A21.out) (fun w34 hb => ?_);(case side1 => repeat (first | exact (Kd.S_reads' HO_103000.out).2.2 | (with_reducible refine Kd.C_alloc ?_ _) | (with_reducible refine Kd.C_drewN ?_ _) | (with_reducible refine Kd.C_drew ?_)));(case side2 => exact (Kd.S_reads' HO_103000.out).2.1);replace HO_5 := ak (Kd.R_below (rw_ HO_5.out) hb);replace HO_103000 := ak (Kd.S_below (sw HO_103000.out) hb);replace BK101 := b1 BK101 hb;replace BK102 := b1 BK102 hb;replace HB := b2s bs hb;(try clear hb);(try clear hb2);(try clear hk);(try clear hi);obtain ⟨hcz35_0, hfz35_0⟩ := cells1 BK101.out))
            refine bodyPost_ret (results_ct rfl _ _ gb101 28 #[.slice none 0 0] (0, 0) _ rfl (bput1 BK101.out) Try.underlying28 rfl (by kernel_rfl)) rfl ?_
            exact ⟨_, o1, by first | exact Kd.S_nil _ _ _ _ _ | exact Kd.N_nil _ _ _ _ _ | exact Kd.V_nil _ _ _ _ _ | exact Kd.Q_nil _ _ _ _ _ | exact Kd.R_nil _ _ _ _ _, bs⟩
          ·replace H := bnd H
           obtain ⟨t110, A36, H⟩ := H
           by_cases c37 : x103000_1.length < 5864062014805
           ·rw [if_pos c37] at H
            have LMc37 := ak c37
            clear c37
            obtain ⟨y113, hy113⟩ : ∃ y_ : List (List Int), y_ = (x103000_1 ++ [t110]) := ⟨_, rfl⟩
            (try with_reducible replace H := bnS H)
            (try rw [← hy113] at H)
            have Ny113 := ak hy113
            clear hy113
            have H' := ak H
            clear H
            obtain ⟨Ao38, co38, eo38⟩ := Kd.R_slice HO_5.out
            subst eo38
            try go_wp2
            replace HO_5 := ak (Kd.R_drew HO_5.out)
            replace HO_103000 := ak (Kd.S_drew HO_103000.out)
            replace BK101 := ak (blk_drew BK101.out)
            replace BK102 := ak (blk_drew BK102.out)
            replace HB := ak (below_drew1 HB.out)
            refine start_ (n := 8) (S := fun w' => w'.cell? ⟨gb102, 0, none⟩ = some (u103000)) (ds := [7]) (bA 8 0) (by kernel_rfl) rfl rfl ((blk_cell BK102.out 0).trans rfl) (fun hHeld => ?_); refine with_tabW spec_NameRead.tab11 spec_NameRead.bits11 (fun HT_ HW_ => ?_)
            generalize wc.drew = w39 at HO_5 HO_103000 BK101 BK102 HB hHeld ⊢
            refine pu HT_ 0 ?_
            refine pu HT_ 2 ?_
            refine take_ (i := 1) (N := some 49) (v := ?_) (a' := ?_) (bA 8 7) rfl rfl (take_ofW HT_.out HW_.out (by kernel_rfl)) (fun _ _ _ h => h) (Or.inl ⟨by rfl, ?_⟩) hHeld ?_ ?_
            rotate_left; intro w' s0; go_simp; with_reducible rfl; rotate_left; go_simp; rfl
            refine on HT_ 3 (fun K hK => ?_)
            refine gsG Try.func84 (spec_Lower.calls kj9 _ _ x5_1 t110 _ ?side1 ?side2 A36.out) ?_
            (case side1 => repeat (first | exact (Kd.R_reads' HO_5.out).2.2 | (with_reducible refine Kd.C_alloc ?_ _) | (with_reducible refine Kd.C_drewN ?_ _) | (with_reducible refine Kd.C_drew ?_)))
            (case side2 => exact (Kd.R_reads' HO_5.out).2.1)
            rintro e w40 ⟨v111, rfl, ho0, hb⟩
            refine ⟨_, rfl, ?_⟩
            replace HO_103000 := ak (Kd.S_elder' (sw HO_103000.out) (Kd.R_base ho0) hb)
            have HO112 := ak (Kd.R_lower (Kd.R_new' ho0 (Kd.R_lt (rw_ HO_5.out))) (below_size bs))
            replace HO_5 := ak (Kd.R_elder' (rw_ HO_5.out) (Kd.R_base ho0) hb)
            replace BK101 := b1 BK101 hb
            replace BK102 := b1 BK102 hb
            replace HB := b2s bs hb
            (try clear hb)
            (try clear ho0)
            obtain ⟨Ao42, co42, eo42⟩ := Kd.R_slice HO112.out
            (first | subst eo42 | (injection eo42 with f1_ f2_ f3_; have f4_ := f1_.symm; have f5_ := f3_.symm; clear f1_ f2_ f3_; subst f4_; subst f5_))
            refine hK.out _ _ ((blk_cell BK102.out 0).trans rfl) (fun hHeld => ?_)
            clear hK K
            refine norm_ (a' := ?_) ?_ ?_; rotate_left; go_simp; rfl
            refine on HT_ 4 (fun K hK => ?_)
            refine value_ (w1 := ?_) (v := ?_) (by rfl) rfl ?_ ?_
            rotate_left 2
            ·go_simp
             constructor
             ·rfl
             ·rfl
            refine hK.out _ _ ((blk_cell (blk_alloc BK102.out _) 0).trans rfl) (fun hHeld => ?_)
            clear hK K
            refine norm_ (a' := ?_) ?_ ?_; rotate_left; go_simp; rfl
            refine on HT_ 5 (fun K hK => ?_)
            refine Kd.S_append_step (Kd.slice 5 (Kd.int .u8)) (w0 := w) w.heap.size (by rfl) (.tmp 49) (.tmp 52) 22 26 (.slice none 0 0) 24 rfl Try.underlying22 info26 rfl (by decide) (by omega) u103000 x103000_1 t110 [.slice Ao42 t110.length co42] (fun k_ => some k_ ≠ (.slice Ao38 x5_1.length co38 : Value).ownBlock) (fun k_ => some k_ = (.slice Ao42 t110.length co42 : Value).ownBlock) rfl rfl ?aP (fun k_ hk_ => ((Kd.R_mono (ok' := fun k_ => ((fun k_ => some k_ ≠ (.slice Ao38 x5_1.length co38 : Value).ownBlock)) k_ ∧ some k_ ≠ (u103000 : Value).ownBlock) (Kd.R_apart' (HO112.out) (Kd.S_typed HO_103000.out) (by decide)) (fun k_ hk => ⟨hk.1.2, hk.2⟩))).1 k_ hk_.symm) ?aF ?aO ?aB ?aS ?aL ?_
            (case aP => exact Kd.M_row (Kd.R_mono (Kd.R_tight rfl (Kd.R_mono (ok' := fun k_ => ((fun k_ => some k_ ≠ (.slice Ao38 x5_1.length co38 : Value).ownBlock)) k_ ∧ some k_ ≠ (u103000 : Value).ownBlock) (Kd.R_apart' (HO112.out) (Kd.S_typed HO_103000.out) (by decide)) (fun k_ hk => ⟨hk.1.2, hk.2⟩))) (fun _ h_ => h_)))
            (case aB => exact bs)
            (case aF => exact (fun k_ hk => Kd.fresh' (Kd.R_lt (rw_ HO_5.out)) k_ hk))
            (case aO => exact (sw (Kd.S_mono HO_103000.out (fun k_ hk => ⟨hk.1, fun e_ => hk.2 e_⟩))))
            (case aS => exact (below_size bs))
            (case aL => have := LMc37.out; omega)
            intro v114 w41 ho hb hg hat
            rw [← Ny113.out] at ho
            replace HO_5 := ak (Kd.R_over' (rw_ HO_5.out) (Kd.S_typed (sw HO_103000.out)) (by decide) hg)
            replace BK101 := ak (blk_grown (bk BK101.out) hg (Kd.S_ne HO_103000.out BK101.out (by decide)))
            replace BK102 := ak (blk_grown (bk BK102.out) hg (Kd.S_ne HO_103000.out BK102.out (by decide)))
            replace HB := ak (hb)
            have HO115 := ak (ho)
            clear HO_103000 HO112 ho hb hg hat
            obtain ⟨Ao43, co43, eo43⟩ := Kd.S_slice HO115.out
            (first | subst eo43 | (injection eo43 with f1_ f2_ f3_; have f4_ := f1_.symm; have f5_ := f3_.symm; clear f1_ f2_ f3_; subst f4_; subst f5_))
            refine hK.out _ _ ((blk_cell BK102.out 0).trans rfl) (fun hHeld => ?_)
            clear hK K
            refine norm_ (a' := ?_) ?_ ?_; rotate_left; go_simp; rfl
            refine pu HT_ 6 ?_
            refine last_ (i := 7) (N := none) (bA 8 255) rfl rfl (one_of HT_.out (by kernel_rfl)) (by decide) (fun K hK => ?_)
            have hs44 : w41.cell? ⟨gb102, 0, none⟩ = some (u103000) := (blk_cell BK102.out 0).trans rfl
            have hfs44 := blk_frozen BK102.out 0
            have hns44_0 := NB101_102.out
            have hms44_0 := NB102_101.out
            refine skip_ (w1 := ?_) (by rfl) rfl ?_ ?_
            rotate_left
            ·go_simp
             rfl
            refine hK.out _ _ ?_
            clear hK K
            refine done_ (done_of HT_.out (by kernel_rfl)) ?_
            try go_wp2
            go_roundg kj9
            case measure => have := HK1.out; have := HJ9.out; omega
            case rel => exact ⟨(([] : List Int)), (wrap64 (x6_1 + 1)), (y113), (.slice Ao43 y113.length co43), o2, H', ⟨by have := HK1.out; have := HJ9.out; omega⟩, ⟨by first | exact Kd.R_nil _ _ _ _ _ | exact Kd.N_nil _ _ _ _ _ | exact Kd.V_nil _ _ _ _ _ | exact Kd.Q_nil _ _ _ _ _ | exact Kd.S_nil _ _ _ _ _⟩, ⟨by (with_reducible repeat (first | apply Kd.S_alloc | apply Kd.S_drewN | apply Kd.S_drew)); exact Kd.S_mono (Kd.S_far (p := ⟨gb102, 0, none⟩) (Kd.S_types HO115.out BK102.out (by decide)) (fun _ hk => hk.2) (.slice Ao43 y113.length co43)) (fun _ hk => (by simp [Value.ownBlock]))⟩, ⟨bfar1 NB101_102.out BK101.out⟩, ⟨bput1 BK102.out⟩, ⟨bs⟩⟩
           ·rw [if_neg c37] at H
            exact absurd H (by simp)
         ·have c19b2 : ¬ (x5_1 = []) := fun h_ => bne_iff_ne.mp c19b1 (by rw [h_]; rfl)
          replace H := bnd H
          obtain ⟨t116, A45, H⟩ := H
          by_cases c46 : x103000_1.length < 5864062014805
          ·rw [if_pos c46] at H
           have LMc46 := ak c46
           clear c46
           obtain ⟨y119, hy119⟩ : ∃ y_ : List (List Int), y_ = (x103000_1 ++ [t116]) := ⟨_, rfl⟩
           (try with_reducible replace H := bnS H)
           (try rw [← hy119] at H)
           have Ny119 := ak hy119
           clear hy119
           have H' := ak H
           clear H
           obtain ⟨Ao47, co47, eo47⟩ := Kd.R_slice HO_5.out
           subst eo47
           try go_wp2
           replace HO_5 := ak (Kd.R_drew HO_5.out)
           replace HO_103000 := ak (Kd.S_drew HO_103000.out)
           replace BK101 := ak (blk_drew BK101.out)
           replace BK102 := ak (blk_drew BK102.out)
           replace HB := ak (below_drew1 HB.out)
           refine start_ (n := 8) (S := fun w' => w'.cell? ⟨gb102, 0, none⟩ = some (u103000)) (ds := [7]) (bA 8 0) (by kernel_rfl) rfl rfl ((blk_cell BK102.out 0).trans rfl) (fun hHeld => ?_); refine with_tabW spec_NameRead.tab11 spec_NameRead.bits11 (fun HT_ HW_ => ?_)
           generalize wc.drew = w48 at HO_5 HO_103000 BK101 BK102 HB hHeld ⊢
           refine pu HT_ 0 ?_
           refine pu HT_ 2 ?_
           refine take_ (i := 1) (N := some 49) (v := ?_) (a' := ?_) (bA 8 7) rfl rfl (take_ofW HT_.out HW_.out (by kernel_rfl)) (fun _ _ _ h => h) (Or.inl ⟨by rfl, ?_⟩) hHeld ?_ ?_
           rotate_left; intro w' s0; go_simp; with_reducible rfl; rotate_left; go_simp; rfl
           refine on HT_ 3 (fun K hK => ?_)
           refine gsG Try.func84 (spec_Lower.calls kj9 _ _ x5_1 t116 _ ?side1 ?side2 A45.out) ?_
           (case side1 => repeat (first | exact (Kd.R_reads' HO_5.out).2.2 | (with_reducible refine Kd.C_alloc ?_ _) | (with_reducible refine Kd.C_drewN ?_ _) | (with_reducible refine Kd.C_drew ?_)))
           (case side2 => exact (Kd.R_reads' HO_5.out).2.1)
           rintro e w49 ⟨v117, rfl, ho0, hb⟩
           refine ⟨_, rfl, ?_⟩
           replace HO_103000 := ak (Kd.S_elder' (sw HO_103000.out) (Kd.R_base ho0) hb)
           have HO118 := ak (Kd.R_lower (Kd.R_new' ho0 (Kd.R_lt (rw_ HO_5.out))) (below_size bs))
           replace HO_5 := ak (Kd.R_elder' (rw_ HO_5.out) (Kd.R_base ho0) hb)
           replace BK101 := b1 BK101 hb
           replace BK102 := b1 BK102 hb
           replace HB := b2s bs hb
           (try clear hb)
           (try clear ho0)
           obtain ⟨Ao51, co51, eo51⟩ := Kd.R_slice HO118.out
           (first | subst eo51 | (injection eo51 with f1_ f2_ f3_; have f4_ := f1_.symm; have f5_ := f3_.symm; clear f1_ f2_ f3_; subst f4_; subst f5_))
           refine hK.out _ _ ((blk_cell BK102.out 0).trans rfl) (fun hHeld => ?_)
           clear hK K
           refine norm_ (a' := ?_) ?_ ?_; rotate_left; go_simp; rfl
           refine on HT_ 4 (fun K hK => ?_)
           refine value_ (w1 := ?_) (v := ?_) (by rfl) rfl ?_ ?_
           rotate_left 2
           ·go_simp
            constructor
            ·rfl
            ·rfl
           refine hK.out _ _ ((blk_cell (blk_alloc BK102.out _) 0).trans rfl) (fun hHeld => ?_)
           clear hK K
           refine norm_ (a' := ?_) ?_ ?_; rotate_left; go_simp; rfl
           refine on HT_ 5 (fun K hK => ?_)
           refine Kd.S_append_step (Kd.slice 5 (Kd.int .u8)) (w0 := w) w.heap.size (by rfl) (.tmp 49) (.tmp 52) 22 26 (.slice none 0 0) 24 rfl Try.underlying22 info26 rfl (by decide) (by omega) u103000 x103000_1 t116 [.slice Ao51 t116.length co51] (fun k_ => some k_ ≠ (.slice Ao47 x5_1.length co47 : Value).ownBlock) (fun k_ => some k_ = (.slice Ao51 t116.length co51 : Value).ownBlock) rfl rfl ?aP (fun k_ hk_ => ((Kd.R_mono (ok' := fun k_ => ((fun k_ => some k_ ≠ (.slice Ao47 x5_1.length co47 : Value).ownBlock)) k_ ∧ some k_ ≠ (u103000 : Value).ownBlock) (Kd.R_apart' (HO118.out) (Kd.S_typed HO_103000.out) (by decide)) (fun k_ hk => ⟨hk.1.2, hk.2⟩))).1 k_ hk_.symm) ?aF ?aO ?aB ?aS ?aL ?_
           (case aP => exact Kd.M_row (Kd.R_mono (Kd.R_tight rfl (Kd.R_mono (ok' := fun k_ => ((fun k_ => some k_ ≠ (.slice Ao47 x5_1.length co47 : Value).ownBlock)) k_ ∧ some k_ ≠ (u103000 : Value).ownBlock) (Kd.R_apart' (HO118.out) (Kd.S_typed HO_103000.out) (by decide)) (fun k_ hk => ⟨hk.1.2, hk.2⟩))) (fun _ h_ => h_)))
           (case aB => exact bs)
           (case aF => exact (fun k_ hk => Kd.fresh' (Kd.R_lt (rw_ HO_5.out)) k_ hk))
           (case aO => exact (sw (Kd.S_mono HO_103000.out (fun k_ hk => ⟨hk.1, fun e_ => hk.2 e_⟩))))
           (case aS => exact (below_size bs))
           (case aL => have := LMc46.out; omega)
           intro v120 w50 ho hb hg hat
           rw [← Ny119.out] at ho
           replace HO_5 := ak (Kd.R_over' (rw_ HO_5.out) (Kd.S_typed (sw HO_103000.out)) (by decide) hg)
           replace BK101 := ak (blk_grown (bk BK101.out) hg (Kd.S_ne HO_103000.out BK101.out (by decide)))
           replace BK102 := ak (blk_grown (bk BK102.out) hg (Kd.S_ne HO_103000.out BK102.out (by decide)))
           replace HB := ak (hb)
           have HO121 := ak (ho)
           clear HO_103000 HO118 ho hb hg hat
           obtain ⟨Ao52, co52, eo52⟩ := Kd.S_slice HO121.out
           (first | subst eo52 | (injection eo52 with f1_ f2_ f3_; have f4_ := f1_.symm; have f5_ := f3_.symm; clear f1_ f2_ f3_; subst f4_; subst f5_))
           refine hK.out _ _ ((blk_cell BK102.out 0).trans rfl) (fun hHeld => ?_)
           clear hK K
           refine norm_ (a' := ?_) ?_ ?_; rotate_left; go_simp; rfl
           refine pu HT_ 6 ?_
           refine last_ (i := 7) (N := none) (bA 8 255) rfl rfl (one_of HT_.out (by kernel_rfl)) (by decide) (fun K hK => ?_)
           have hs53 : w50.cell? ⟨gb102, 0, none⟩ = some (u103000) := (blk_cell BK102.out 0).trans rfl
           have hfs53 := blk_frozen BK102.out 0
           have hns53_0 := NB101_102.out
           have hms53_0 := NB102_101.out
           refine skip_ (w1 := ?_) (by rfl) rfl ?_ ?_
           rotate_left
           ·go_simp
            rfl
           refine hK.out _ _ ?_
           clear hK K
           refine done_ (done_of HT_.out (by kernel_rfl)) ?_
           try go_wp2
           go_roundg kj9
           case measure => have := HK1.out; have := HJ9.out; omega
           case rel => exact ⟨(([] : List Int)), (wrap64 (x6_1 + 1)), (y119), (.slice Ao52 y119.length co52), o2, H', ⟨by have := HK1.out; have := HJ9.out; omega⟩, ⟨by first | exact Kd.R_nil _ _ _ _ _ | exact Kd.N_nil _ _ _ _ _ | exact Kd.V_nil _ _ _ _ _ | exact Kd.Q_nil _ _ _ _ _ | exact Kd.S_nil _ _ _ _ _⟩, ⟨by (with_reducible repeat (first | apply Kd.S_alloc | apply Kd.S_drewN | apply Kd.S_drew)); exact Kd.S_mono (Kd.S_far (p := ⟨gb102, 0, none⟩) (Kd.S_types HO121.out BK102.out (by decide)) (fun _ hk => hk.2) (.slice Ao52 y119.length co52)) (fun _ hk => (by simp [Value.ownBlock]))⟩, ⟨bfar1 NB101_102.out BK101.out⟩, ⟨bput1 BK102.out⟩, ⟨bs⟩⟩
          ·rw [if_neg c46] at H
           exact absurd H (by simp)
        ·replace H := bnd H
         obtain ⟨t122, A54, H⟩ := H
         by_cases c55 : x103000_1.length < 5864062014805
         ·rw [if_pos c55] at H
          have LMc55 := ak c55
          clear c55
          obtain ⟨y125, hy125⟩ : ∃ y_ : List (List Int), y_ = (x103000_1 ++ [t122]) := ⟨_, rfl⟩
          (try with_reducible replace H := bnS H)
          (try rw [← hy125] at H)
          have Ny125 := ak hy125
          clear hy125
          have H' := ak H
          clear H
          try go_wp2
          replace HO_5 := ak (Kd.R_drew HO_5.out)
          replace HO_103000 := ak (Kd.S_drew HO_103000.out)
          replace BK101 := ak (blk_drew BK101.out)
          replace BK102 := ak (blk_drew BK102.out)
          replace HB := ak (below_drew1 HB.out)
          obtain ⟨Ao57, co57, eo57⟩ := Kd.R_slice HO_5.out
          (first | subst eo57 | (injection eo57 with f1_ f2_ f3_; have f4_ := f1_.symm; have f5_ := f3_.symm; clear f1_ f2_ f3_; subst f4_; subst f5_))
          refine start_ (n := 8) (S := fun w' => w'.cell? ⟨gb102, 0, none⟩ = some (u103000)) (ds := [7]) (bA 8 0) (by kernel_rfl) rfl rfl ((blk_cell BK102.out 0).trans rfl) (fun hHeld => ?_); refine with_tabW spec_NameRead.tab11 spec_NameRead.bits11 (fun HT_ HW_ => ?_)
          generalize wc.drew = w56 at HO_5 HO_103000 BK101 BK102 HB hHeld ⊢
          refine pu HT_ 0 ?_
          refine pu HT_ 2 ?_
          refine take_ (i := 1) (N := some 49) (v := ?_) (a' := ?_) (bA 8 7) rfl rfl (take_ofW HT_.out HW_.out (by kernel_rfl)) (fun _ _ _ h => h) (Or.inl ⟨by rfl, ?_⟩) hHeld ?_ ?_
          rotate_left; intro w' s0; go_simp; with_reducible rfl; rotate_left; go_simp; rfl
          refine on HT_ 3 (fun K hK => ?_)
          refine gsG Try.func84 (spec_Lower.calls kj9 _ _ x5_1 t122 _ ?side1 ?side2 A54.out) ?_
          (case side1 => repeat (first | exact (Kd.R_reads' HO_5.out).2.2 | (with_reducible refine Kd.C_alloc ?_ _) | (with_reducible refine Kd.C_drewN ?_ _) | (with_reducible refine Kd.C_drew ?_)))
          (case side2 => exact (Kd.R_reads' HO_5.out).2.1)
          rintro e w58 ⟨v123, rfl, ho0, hb⟩
          refine ⟨_, rfl, ?_⟩
          replace HO_103000 := ak (Kd.S_elder' (sw HO_103000.out) (Kd.R_base ho0) hb)
          have HO124 := ak (Kd.R_lower (Kd.R_new' ho0 (Kd.R_lt (rw_ HO_5.out))) (below_size bs))
          replace HO_5 := ak (Kd.R_elder' (rw_ HO_5.out) (Kd.R_base ho0) hb)
          replace BK101 := b1 BK101 hb
          replace BK102 := b1 BK102 hb
          replace HB := b2s bs hb
          (try clear hb)
          (try clear ho0)
          obtain ⟨Ao60, co60, eo60⟩ := Kd.R_slice HO124.out
          (first | subst eo60 | (injection eo60 with f1_ f2_ f3_; have f4_ := f1_.symm; have f5_ := f3_.symm; clear f1_ f2_ f3_; subst f4_; subst f5_))
          refine hK.out _ _ ((blk_cell BK102.out 0).trans rfl) (fun hHeld => ?_)
          clear hK K
          refine norm_ (a' := ?_) ?_ ?_; rotate_left; go_simp; rfl
          refine on HT_ 4 (fun K hK => ?_)
          refine value_ (w1 := ?_) (v := ?_) (by rfl) rfl ?_ ?_
          rotate_left 2
          ·go_simp
           constructor
           ·rfl
           ·rfl
          refine hK.out _ _ ((blk_cell (blk_alloc BK102.out _) 0).trans rfl) (fun hHeld => ?_)
          clear hK K
          refine norm_ (a' := ?_) ?_ ?_; rotate_left; go_simp; rfl
          refine on HT_ 5 (fun K hK => ?_)
          refine Kd.S_append_step (Kd.slice 5 (Kd.int .u8)) (w0 := w) w.heap.size (by rfl) (.tmp 49) (.tmp 52) 22 26 (.slice none 0 0) 24 rfl Try.underlying22 info26 rfl (by decide) (by omega) u103000 x103000_1 t122 [.slice Ao60 t122.length co60] (fun k_ => some k_ ≠ (.slice Ao57 x5_1.length co57 : Value).ownBlock) (fun k_ => some k_ = (.slice Ao60 t122.length co60 : Value).ownBlock) rfl rfl ?aP (fun k_ hk_ => ((Kd.R_mono (ok' := fun k_ => ((fun k_ => some k_ ≠ (.slice Ao57 x5_1.length co57 : Value).ownBlock)) k_ ∧ some k_ ≠ (u103000 : Value).ownBlock) (Kd.R_apart' (HO124.out) (Kd.S_typed HO_103000.out) (by decide)) (fun k_ hk => ⟨hk.1.2, hk.2⟩))).1 k_ hk_.symm) ?aF ?aO ?aB ?aS ?aL ?_
          (case aP => exact Kd.M_row (Kd.R_mono (Kd.R_tight rfl (Kd.R_mono (ok' := fun k_ => ((fun k_ => some k_ ≠ (.slice Ao57 x5_1.length co57 : Value).ownBlock)) k_ ∧ some k_ ≠ (u103000 : Value).ownBlock) (Kd.R_apart' (HO124.out) (Kd.S_typed HO_103000.out) (by decide)) (fun k_ hk => ⟨hk.1.2, hk.2⟩))) (fun _ h_ => h_)))
          (case aB => exact bs)
          (case aF => exact (fun k_ hk => Kd.fresh' (Kd.R_lt (rw_ HO_5.out)) k_ hk))
          (case aO => exact (sw (Kd.S_mono HO_103000.out (fun k_ hk => ⟨hk.1, fun e_ => hk.2 e_⟩))))
          (case aS => exact (below_size bs))
          (case aL => have := LMc55.out; omega)
          intro v126 w59 ho hb hg hat
          rw [← Ny125.out] at ho
          replace HO_5 := ak (Kd.R_over' (rw_ HO_5.out) (Kd.S_typed (sw HO_103000.out)) (by decide) hg)
          replace BK101 := ak (blk_grown (bk BK101.out) hg (Kd.S_ne HO_103000.out BK101.out (by decide)))
          replace BK102 := ak (blk_grown (bk BK102.out) hg (Kd.S_ne HO_103000.out BK102.out (by decide)))
          replace HB := ak (hb)
          have HO127 := ak (ho)
          clear HO_103000 HO124 ho hb hg hat
          obtain ⟨Ao61, co61, eo61⟩ := Kd.S_slice HO127.out
          (first | subst eo61 | (injection eo61 with f1_ f2_ f3_; have f4_ := f1_.symm; have f5_ := f3_.symm; clear f1_ f2_ f3_; subst f4_; subst f5_))
          refine hK.out _ _ ((blk_cell BK102.out 0).trans rfl) (fun hHeld => ?_)
          clear hK K
          refine norm_ (a' := ?_) ?_ ?_; rotate_left; go_simp; rfl
          refine pu HT_ 6 ?_
          refine last_ (i := 7) (N := none) (bA 8 255) rfl rfl (one_of HT_.out (by kernel_rfl)) (by decide) (fun K hK => ?_)
          have hs62 : w59.cell? ⟨gb102, 0, none⟩ = some (u103000) := (blk_cell BK102.out 0).trans rfl
          have hfs62 := blk_frozen BK102.out 0
          have hns62_0 := NB101_102.out
          have hms62_0 := NB102_101.out
          refine skip_ (w1 := ?_) (by rfl) rfl ?_ ?_
          rotate_left
          ·go_simp
           rfl
          refine hK.out _ _ ?_
          clear hK K
          refine done_ (done_of HT_.out (by kernel_rfl)) ?_
          try go_wp2
          go_roundg kj9
          case measure => have := HK1.out; have := HJ9.out; omega
          case rel => exact ⟨(([] : List Int)), (wrap64 (x6_1 + 1)), (y125), (.slice Ao61 y125.length co61), o2, H', ⟨by have := HK1.out; have := HJ9.out; omega⟩, ⟨by first | exact Kd.R_nil _ _ _ _ _ | exact Kd.N_nil _ _ _ _ _ | exact Kd.V_nil _ _ _ _ _ | exact Kd.Q_nil _ _ _ _ _ | exact Kd.S_nil _ _ _ _ _⟩, ⟨by (with_reducible repeat (first | apply Kd.S_alloc | apply Kd.S_drewN | apply Kd.S_drew)); exact Kd.S_mono (Kd.S_far (p := ⟨gb102, 0, none⟩) (Kd.S_types HO127.out BK102.out (by decide)) (fun _ hk => hk.2) (.slice Ao61 y125.length co61)) (fun _ hk => (by simp [Value.ownBlock]))⟩, ⟨bfar1 NB101_102.out BK101.out⟩, ⟨bput1 BK102.out⟩, ⟨bs⟩⟩
         ·rw [if_neg c55] at H
          exact absurd H (by simp)
    ·replace H := bnd H
     obtain ⟨t103, A63, H⟩ := H
     replace H := ib H
     obtain ⟨rfl, H⟩ | ⟨rfl, H⟩ := H
     ·simp only [Option.some.injEq, Prod.mk.injEq] at H
      obtain ⟨rfl, rfl⟩ := H
      have hnb65 := NB102_101.out
      have hnc65 := NB101_102.out
      obtain ⟨hcz66_0, hfz66_0⟩ := cells1 BK102.out
      obtain ⟨Ao67, co67, eo67⟩ := Kd.S_slice HO_103000.out
      subst eo67
      go_wp2_with (((with_reducible refine gate_callee (f := 26) rfl ?_);refine glB 56 rfl rfl Try.func26 (spec_NameOk.calls k1 _ _ x103000_1 true _ ?side1 ?side2 A63.out) (fun w68 hb => ?_);(case side1 => repeat (first | exact (Kd.S_reads' HO_103000.out).2.2 | (with_reducible refine Kd.C_alloc ?_ _) | (with_reducible refine Kd.C_drewN ?_ _) | (with_reducible refine Kd.C_drew ?_)));(case side2 => exact (Kd.S_reads' HO_103000.out).2.1);replace HO_5 := ak (Kd.R_below (rw_ HO_5.out) hb);replace HO_103000 := ak (Kd.S_below (sw HO_103000.out) hb);replace BK101 := b1 BK101 hb;replace BK102 := b1 BK102 hb;replace HB := b2s bs hb;(try clear hb);(try clear hb2);(try clear hk);(try clear hi);obtain ⟨hcz69_0, hfz69_0⟩ := cells1 BK102.out;obtain ⟨hcz70_0, hfz70_0⟩ := cells1 BK101.out))
      refine bodyPost_ret (results_ct rfl _ _ gb101 28 #[.slice Ao67 x103000_1.length co67] (0, 0) _ rfl (bput1 BK101.out) Try.underlying28 rfl (by kernel_rfl)) rfl ?_
      exact ⟨_, o1, by (with_reducible repeat (first | apply Kd.S_alloc | apply Kd.S_drewN | apply Kd.S_drew)); exact Kd.S_mono (Kd.S_far (p := ⟨gb101, 0, none⟩) (Kd.S_types HO_103000.out BK101.out (by decide)) (fun _ hk => hk.2) (.slice Ao67 x103000_1.length co67)) (fun _ hk => trivial), bs⟩
     ·simp only [Option.some.injEq, Prod.mk.injEq] at H
      obtain ⟨rfl, rfl⟩ := H
      have hnb71 := NB102_101.out
      have hnc71 := NB101_102.out
      obtain ⟨hcz72_0, hfz72_0⟩ := cells1 BK102.out
      obtain ⟨Ao73, co73, eo73⟩ := Kd.S_slice HO_103000.out
      subst eo73
      go_wp2_with (((with_reducible refine gate_callee (f := 26) rfl ?_);refine glB 56 rfl rfl Try.func26 (spec_NameOk.calls k1 _ _ x103000_1 false _ ?side1 ?side2 A63.out) (fun w74 hb => ?_);(case side1 => repeat (first | exact (Kd.S_reads' HO_103000.out).2.2 | (with_reducible refine Kd.C_alloc ?_ _) | (with_reducible refine Kd.C_drewN ?_ _) | (with_reducible refine Kd.C_drew ?_)));(case side2 => exact (Kd.S_reads' HO_103000.out).2.1);replace HO_5 := ak (Kd.R_below (rw_ HO_5.out) hb);replace HO_103000 := ak (Kd.S_below (sw HO_103000.out) hb);replace BK101 := b1 BK101 hb;replace BK102 := b1 BK102 hb;replace HB := b2s bs hb;(try clear hb);(try clear hb2);(try clear hk);(try clear hi);obtain ⟨hcz75_0, hfz75_0⟩ := cells1 BK101.out))
      refine bodyPost_ret (results_ct rfl _ _ gb101 28 #[.slice none 0 0] (0, 0) _ rfl (bput1 BK101.out) Try.underlying28 rfl (by kernel_rfl)) rfl ?_
      exact ⟨_, o1, by first | exact Kd.S_nil _ _ _ _ _ | exact Kd.N_nil _ _ _ _ _ | exact Kd.V_nil _ _ _ _ _ | exact Kd.Q_nil _ _ _ _ _ | exact Kd.R_nil _ _ _ _ _, bs⟩

def bytesOf (s : ByteArray) : List Int := s.data.toList.map fun b => (b.toNat : Int)
theorem bytesOf_len (s : ByteArray) : (bytesOf s).length = s.size := by
  unfold bytesOf
  rw [List.length_map, Array.length_toList]
  rfl
theorem conv_s (s : ByteArray) (W : World) : (convert 9 26 (.string s)).run Try.prog W = .ok (.slice (some ⟨W.heap.size, 0, none⟩) (bytesOf s).length (grownCap W s.size 0 5))
      (W.drew.alloc (.cells (bytesRow s (grownCap W s.size 0 5)) 5 ((bytesRow s (grownCap W s.size 0 5)).size, (bytesRow s (grownCap W s.size 0 5)).size + 1))) := by
  rw [bytesOf_len]
  exact run_bytes_of_string W 9 26 5 s Try.underlying9 Try.underlying26 Try.underlying5
theorem C_str (W : World) (s : ByteArray) (n : Nat) (fr : Nat × Nat) (hs : s.size ≤ 9223372036854775807) : Kd.C (Kd.int .u8) (W.alloc (.cells (bytesRow s n) 5 fr)) (some ⟨W.heap.size, 0, none⟩) (bytesOf s).length (bytesOf s) := by
  refine Kd.C_of_reads (enc := Value.int .u8) (d := (0 : Int)) (h1 := fun _ => rfl) ⟨rfl, by rw [bytesOf_len]; omega, fun hn => ⟨_, rfl, fun j hj => ?_⟩⟩
  have hj2 : j < s.data.size := by rw [bytesOf_len] at hj; exact hj
  have h2 : (W.alloc (.cells (bytesRow s n) 5 fr)).heap[W.heap.size]? = some (.cells (bytesRow s n) 5 fr) := heap_alloc_new _ _
  have h3 : (⟨W.heap.size, 0, none⟩ : Addr).add j = ⟨W.heap.size, j, none⟩ := by
    unfold Addr.add
    by_cases h : j = 0 <;> simp [h]
  rw [h3, cell_of_row _ _ _ _ _ _ h2]
  have hj3 : j < s.size := hj2
  simp [bytesRow, bytesOf, Array.getElem?_append, List.getD_eq_getElem?_getD]
  rw [if_pos hj3, Array.getElem?_eq_getElem hj2]
  rfl
set_option maxHeartbeats 2000000 in
set_option maxRecDepth 100000 in
theorem spec_l2of.calls (k : Nat) (s : ByteArray) (r1 : List (List Int)) (r2 : Bool) (w : World) (hs : s.size ≤ 100) (h : spec_NameRead.f k (bytesOf s) = some (r1, r2)) :
    Calls Try.prog 75 #[.string s] w fun e w' => ∃ v0_ : Value, e = .returned (.agg #[v0_]) ∧ Kd.S (Kd.slice 5 (Kd.int .u8)) 26 w' w.heap.size (fun _ => True) v0_ r1 ∧ Below w.heap.size w w' := by
  have HH := ak h
  have HS := ak hs
  clear h
  go_enter Try.func75, Try.ntmps75
  have hcv := conv_s s
  go_wp2_with (fail)
  clear hcv
  have hcap := grownCap_ge (w.alloc (.cells #[.slice none 0 0] 28)) s.size 0 5
  generalize grownCap (w.alloc (.cells #[.slice none 0 0] 28)) s.size 0 5 = cap at hcap ⊢
  have hr := Kd.C_drew (C_str (w.alloc (.cells #[.slice none 0 0] 28)) s cap ((bytesRow s cap).size, (bytesRow s cap).size + 1) (by omega))
  rw [show (w.alloc (.cells #[.slice none 0 0] 28)).heap.size = w.heap.size + 1 by simp] at hr
  have BG := ak (blk_drew (blk_alloc (heap_alloc_new w (.cells #[.slice none 0 0] 28)) (.cells (bytesRow s cap) 5 ((bytesRow s cap).size, (bytesRow s cap).size + 1))))
  have HB := ak (below_drew1 (below_alloc (below_alloc (Below.refl w.heap.size w) (.cells #[.slice none 0 0] 28)) (.cells (bytesRow s cap) 5 ((bytesRow s cap).size, (bytesRow s cap).size + 1))))
  have GG := ak (Nat.le_refl w.heap.size)
  generalize ((w.alloc (.cells #[.slice none 0 0] 28)).alloc (.cells (bytesRow s cap) 5 ((bytesRow s cap).size, (bytesRow s cap).size + 1))).drew = W1 at hr BG HB ⊢
  obtain ⟨g, BG, GG, hgoal⟩ : ∃ g, Aside0 (W1.heap[g]? = some (.cells #[.slice none 0 0] 28 (0, 0))) ∧ Aside0 (w.heap.size ≤ g) ∧ Aside0 (g = w.heap.size) := ⟨_, BG, GG, ⟨rfl⟩⟩
  rw [← hgoal.out] at hr ⊢
  clear hgoal
  have BL := ak (blk_lt BG.out)
  refine (spec_NameRead.calls k _ cap (bytesOf s) r1 r2 _ hr (by rw [bytesOf_len]; exact hcap) HH.out).mono ?_
  rintro e w2 ⟨v0, rfl, ho, hb⟩
  replace BG := ak (blk_below BG.out hb)
  have GL := ak (blk_lt BG.out)
  have HO := ak (Kd.S_mono (ok' := fun k => k ≠ g) (Kd.S_bound ho) (fun k hk => Nat.ne_of_gt (Nat.lt_of_lt_of_le BL.out hk.2.1)))
  have HBS := ak HB.out.size
  replace HB := b2s HB.out hb
  clear ho hb hr hcap
  obtain ⟨A0, c0, eo⟩ := Kd.S_slice HO.out
  subst eo
  have hf : ∀ o, (w2.alloc o).frozen? ⟨g, 0, none⟩ = false := fun o => blk_frozen (blk_alloc BG.out o) 0
  have hc : ∀ o, (w2.alloc o).cell? ⟨g, 0, none⟩ = some (.slice none 0 0) := fun o => (blk_cell (blk_alloc BG.out o) 0).trans rfl
  go_wp2
  refine bodyPost_ret (v := .agg #[.slice A0 r1.length c0]) (by simp [results, Try.results75, go_sem, *]) rfl ?_
  exact ⟨_, rfl, Kd.S_mono (Kd.S_lower (Kd.S_far (p := ⟨g, 0, none⟩) (Kd.S_alloc HO.out _) (fun _ hk => hk) _) HBS.out) (fun _ _ => trivial), below_set (below_alloc HB.out _) GG.out⟩

section
variable {w0 w W : World} {g : Nat} {s : List Int}
theorem Cur.below (h : Cur w0 w g s) (hb : Below w.heap.size w W) : Cur w0 W g s := by
  obtain ⟨i, q, hi, A, c, h1, h2⟩ := h
  exact ⟨i, q, hi, A, c, blk_below h1 hb, h2⟩
theorem Cur.far (h : Cur w0 w g s) {p : Addr} (hp : g ≠ p.block) (u : Value) : Cur w0 (w.setCell p u) g s := by
  obtain ⟨i, q, hi, A, c, h1, h2⟩ := h
  exact ⟨i, q, hi, A, c, blk_far h1 hp u, h2⟩
theorem Cur.alloc (h : Cur w0 w g s) (o : Obj) : Cur w0 (w.alloc o) g s := h.below (below_alloc (Below.refl _ _) o)
theorem Cur.drew (h : Cur w0 w g s) : Cur w0 w.drew g s := h.below (below_drew1 (Below.refl _ _))
theorem Cur.grown (h : Cur w0 w g s) {row : Option Nat} (hg : w.grownBy W row) (hne : some g ≠ row) : Cur w0 W g s := by
  obtain ⟨i, q, hi, hI⟩ := h
  exact ⟨i, q, hi, hI.grown hg hne⟩
theorem Cur.lt (h : Cur w0 w g s) : g < w.heap.size := by
  obtain ⟨i, q, hi, A, c, h1, h2⟩ := h
  exact blk_lt h1
theorem keep_blk {g' : Nat} {o : Obj} (hk : KeepBut w W g none) (h : w.heap[g']? = some o) (hne : g' ≠ g) : W.heap[g']? = some o := (hk.2 g' (blk_lt h) hne (by simp)).trans h
theorem keep_trans {w W W2 : World} {g : Nat} (h : KeepBut w W g none) (k : KeepBut W W2 g none) : KeepBut w W2 g none := ⟨Nat.le_trans h.1 k.1, fun i hi hg hr => (k.2 i (Nat.lt_of_lt_of_le hi h.1) hg hr).trans (h.2 i hi hg hr)⟩
end
/-- A name that is drawn. -/
def SmallN (xs : List (List Int)) : Prop := xs.length ≤ 10 ∧ ∀ x ∈ xs, x.length ≤ 20
instance (xs : List (List Int)) : Decidable (SmallN xs) := inferInstanceAs (Decidable (_ ∧ _))
def S12 : Array ByteArray := #[⟨#[46]⟩, ⟨#[104, 111, 109, 101, 46]⟩, ⟨#[112, 99, 46, 104, 111, 109, 101, 46]⟩, ⟨#[116, 118, 46, 104, 111, 109, 101, 46]⟩, ⟨#[97, 46, 112, 99, 46, 104, 111, 109, 101, 46]⟩, ⟨#[99, 111, 109, 46]⟩, ⟨#[120, 46, 99, 111, 109, 46]⟩, ⟨#[119, 119, 119, 46, 120, 46, 99, 111, 109, 46]⟩, ⟨#[110, 115, 46, 99, 111, 109, 46]⟩, ⟨#[51, 46, 48, 46, 48, 46, 49, 48, 46, 105, 110, 45, 97, 100, 100, 114, 46, 97, 114, 112, 97, 46]⟩, ⟨#[115, 117, 98, 46, 104, 111, 109, 101, 46]⟩, ⟨#[121, 46, 115, 117, 98, 46, 104, 111, 109, 101, 46]⟩]
theorem s12_size : ∀ i : Fin 12, (S12[i.val]'(by have := i.2; exact this)).size ≤ 100 := by decide +kernel
theorem s12_read : ∀ i : Fin 12, ((spec_NameRead.f 100 (bytesOf (S12[i.val]'(by have := i.2; exact this)))).any fun r => decide (SmallN r.1)) = true := by decide +kernel
def rowS (S : Array ByteArray) : Array Value := (S.toList.map Value.string).toArray
theorem rowS_at (S : Array ByteArray) (i : Nat) (h : i < S.size) : (rowS S)[i]? = some (.string S[i]) := by simp [rowS, h]
set_option maxHeartbeats 2000000 in
set_option maxRecDepth 100000 in
theorem l2draw_any (w0 w : World) (g : Nat) (s : List Int) (hs : s.length ≤ 140737488351232) (hI : Cur w0 w g s) (hB : Below w0.heap.size w0 w) :
    Calls Try.prog 60 #[.pointer (some ⟨g, 0, none⟩)] w fun e w' => ∃ v0 xs, e = .returned (.agg #[v0]) ∧ Kd.S (Kd.slice 5 (Kd.int .u8)) 26 w' w.heap.size (fun _ => True) v0 xs ∧ SmallN xs ∧ Cur w0 w' g s ∧ Below w0.heap.size w0 w' ∧ KeepBut w w' g none := by
  have HI := ak hI
  have HB := ak hB
  have HS := ak hs
  have HK := ak (KeepBut.refl w g none)
  have GN := ak (Nat.ne_of_lt hI.lt)
  have GN2 := ak (Nat.ne_of_lt (Nat.lt_succ_of_lt hI.lt))
  have GW := ak (show w0.heap.size ≤ w.heap.size from hB.size)
  clear hI hB hs
  go_enter Try.func60, Try.ntmps60
  go_wp2_with (fail)
  have BR := ak (blk_alloc (heap_alloc_new w (.cells #[.slice none 0 0] 28)) (.cells (rowS S12) 9))
  have BL := ak (show ((w.alloc (.cells #[.slice none 0 0] 28)).alloc (.cells (rowS S12) 9)).heap[w.heap.size + 1]? = some (.cells (rowS S12) 9 (0, 0)) by have := heap_alloc_new (w.alloc (.cells #[.slice none 0 0] 28)) (.cells (rowS S12) 9); simpa using this)
  replace HI := ak ((HI.out.alloc (.cells #[.slice none 0 0] 28)).alloc (.cells (rowS S12) 9))
  replace HB := ak (below_alloc (below_alloc HB.out (.cells #[.slice none 0 0] 28)) (.cells (rowS S12) 9))
  replace HK := ak (keep_alloc (keep_alloc HK.out (.cells #[.slice none 0 0] 28)) (.cells (rowS S12) 9))
  change Calls _ _ _ ((w.alloc (.cells #[.slice none 0 0] 28)).alloc (.cells (rowS S12) 9)) _
  generalize (w.alloc (.cells #[.slice none 0 0] 28)).alloc (.cells (rowS S12) 9) = W1 at BR BL HI HB HK ⊢
  have GR := ak (Nat.le_refl w.heap.size)
  obtain ⟨gr, BR, BL, GR, GN, GN2, GW, hgoal⟩ : ∃ gr, Aside0 (W1.heap[gr]? = some (.cells #[.slice none 0 0] 28 (0, 0))) ∧ Aside0 (W1.heap[gr + 1]? = some (.cells (rowS S12) 9 (0, 0))) ∧ Aside0 (w.heap.size ≤ gr) ∧ Aside0 (g ≠ gr) ∧ Aside0 (g ≠ gr + 1) ∧ Aside0 (w0.heap.size ≤ gr) ∧ Aside0 (gr = w.heap.size) := ⟨_, BR, BL, GR, GN, GN2, GW, ⟨rfl⟩⟩
  rw [← hgoal.out]
  clear hgoal
  refine (cur_below w0 _ g s 12 HS.out HI.out HB.out (by omega) (by omega)).mono ?_
  rintro e w2 ⟨x, rfl, hx0, hx1, hI, hB, hk⟩
  replace BR := ak (keep_blk hk BR.out (Ne.symm GN.out))
  replace BL := ak (keep_blk hk BL.out (Ne.symm GN2.out))
  replace HK := ak (keep_trans HK.out hk)
  replace HI := ak hI
  replace HB := ak hB
  clear hI hB hk
  have hn : x.toNat < 12 := by omega
  have hcell : w2.cell? ⟨gr + 1, x.toNat, none⟩ = some (.string (S12[x.toNat]'hn)) := (blk_cell BL.out x.toNat).trans (rowS_at S12 x.toNat hn)
  have hsz := s12_size ⟨x.toNat, hn⟩
  have hrd := s12_read ⟨x.toNat, hn⟩
  simp only at hsz hrd
  generalize S12[x.toNat]'hn = str at hcell hsz hrd
  have HSZ := ak hsz
  obtain ⟨r1, r2, HRD, HSM⟩ : ∃ r1 r2, Aside0 (spec_NameRead.f 100 (bytesOf str) = some (r1, r2)) ∧ Aside0 (SmallN r1) := by
    cases hq : spec_NameRead.f 100 (bytesOf str) with
    | none => rw [hq] at hrd; simp at hrd
    | some r => rw [hq] at hrd; exact ⟨r.1, r.2, ⟨rfl⟩, ⟨by simpa using hrd⟩⟩
  clear hsz hrd BL
  go_wp2_with (fail)
  have GL := ak (blk_lt BR.out)
  refine (spec_l2of.calls 100 str r1 r2 w2 HSZ.out HRD.out).mono ?_
  rintro e w3 ⟨v0, rfl, ho, hb⟩
  replace BR := ak (blk_below BR.out hb)
  replace HI := ak (HI.out.below hb)
  have HO := ak (Kd.S_mono (ok' := fun k => k ≠ gr) (Kd.S_bound ho) (fun k hk => Nat.ne_of_gt (Nat.lt_of_lt_of_le GL.out hk.2.1)))
  have HBS := ak (Nat.le_trans GR.out (Nat.le_of_lt GL.out))
  replace HB := b2s HB.out hb
  replace HK := ak (keep_trans HK.out (KeepBut.of_below hb g none))
  clear ho hb
  obtain ⟨A0, c0, eo⟩ := Kd.S_slice HO.out
  subst eo
  have hf : w3.frozen? ⟨gr, 0, none⟩ = false := blk_frozen BR.out 0
  have hc : w3.cell? ⟨gr, 0, none⟩ = some (.slice none 0 0) := (blk_cell BR.out 0).trans rfl
  clear hcell
  go_wp2
  refine bodyPost_ret (v := .agg #[.slice A0 r1.length c0]) (by simp [results, Try.results60, go_sem, *]) rfl ?_
  exact ⟨_, r1, rfl, Kd.S_mono (Kd.S_lower (Kd.S_far (p := ⟨gr, 0, none⟩) HO.out (fun _ hk => hk) _) HBS.out) (fun _ _ => trivial), HSM.out, HI.out.far GN.out _, below_set HB.out GW.out, keep_far HK.out GR.out _⟩

def S3 : Array ByteArray := #[⟨#[109, 49]⟩, ⟨#[109, 50]⟩, ⟨#[109, 51]⟩]
theorem s3_size : ∀ i : Fin 3, (S3[i.val]'(by have := i.2; exact this)).size ≤ 16 := by decide +kernel
theorem bytesOf_byt (s : ByteArray) : ∀ x ∈ bytesOf s, 0 ≤ x ∧ x ≤ 255 := fun x hx => by
  obtain ⟨b, _, rfl⟩ := List.mem_map.1 hx
  have := b.toNat_lt
  omega
/-- A row of bytes that is read, whatever is done to blocks of S. -/
def RdB (w W : World) (v : Value) (xs : List Int) : Prop := ∃ A c, v = .slice A xs.length c ∧ xs.length ≤ c ∧ ∀ W', Kept W W' (fun k => k < w.heap.size) → Kd.C (Kd.int .u8) W' A xs.length xs
theorem C_strK (W : World) (s : ByteArray) (n : Nat) (fr : Nat × Nat) (hs : s.size ≤ 9223372036854775807) (S : Nat → Prop) (hS : ∀ k, S k → k < W.heap.size) : ∀ W', Kept (W.alloc (.cells (bytesRow s n) 5 fr)) W' S → Kd.C (Kd.int .u8) W' (some ⟨W.heap.size, 0, none⟩) (bytesOf s).length (bytesOf s) := fun W' hk => by
  refine Kd.C_of_reads (enc := Value.int .u8) (d := (0 : Int)) (h1 := fun _ => rfl) ⟨rfl, by rw [bytesOf_len]; omega, fun hn => ⟨_, rfl, fun j hj => ?_⟩⟩
  have hj2 : j < s.data.size := by rw [bytesOf_len] at hj; exact hj
  have h2 : W'.heap[W.heap.size]? = some (.cells (bytesRow s n) 5 fr) := blk_kept (heap_alloc_new _ _) hk (fun h => Nat.lt_irrefl _ (hS _ h))
  have h3 : (⟨W.heap.size, 0, none⟩ : Addr).add j = ⟨W.heap.size, j, none⟩ := by
    unfold Addr.add
    by_cases h : j = 0 <;> simp [h]
  rw [h3, cell_of_row _ _ _ _ _ _ h2]
  have hj3 : j < s.size := hj2
  simp [bytesRow, bytesOf, Array.getElem?_append, List.getD_eq_getElem?_getD]
  rw [if_pos hj3, Array.getElem?_eq_getElem hj2]
  rfl
set_option maxHeartbeats 2000000 in
set_option maxRecDepth 100000 in
theorem l7client_any (w0 w : World) (g : Nat) (s : List Int) (hs : s.length ≤ 140737488351232) (hI : Cur w0 w g s) (hB : Below w0.heap.size w0 w) :
    Calls Try.prog 42 #[.pointer (some ⟨g, 0, none⟩)] w fun e w' => ∃ v0 xs, e = .returned v0 ∧ RdB w w' v0 xs ∧ (xs.length ≤ 17 ∧ ∀ x ∈ xs, 0 ≤ x ∧ x ≤ 255) ∧ Cur w0 w' g s ∧ Below w0.heap.size w0 w' ∧ KeepBut w w' g none := by
  have HI := ak hI
  have HB := ak hB
  have HS := ak hs
  have HK := ak (KeepBut.refl w g none)
  have GN := ak (Nat.ne_of_lt hI.lt)
  have GW := ak (show w0.heap.size ≤ w.heap.size from hB.size)
  clear hI hB hs
  go_enter Try.func42, Try.ntmps42
  go_wp2_with (fail)
  have BL := ak (heap_alloc_new w (.cells (rowS S3) 9))
  replace HI := ak (HI.out.alloc (.cells (rowS S3) 9))
  replace HB := ak (below_alloc HB.out (.cells (rowS S3) 9))
  replace HK := ak (keep_alloc HK.out (.cells (rowS S3) 9))
  change Calls _ _ _ (w.alloc (.cells (rowS S3) 9)) _
  generalize w.alloc (.cells (rowS S3) 9) = W1 at BL HI HB HK ⊢
  have GR := ak (Nat.le_refl w.heap.size)
  obtain ⟨gr, BL, GR, GN, GW, hgoal⟩ : ∃ gr, Aside0 (W1.heap[gr]? = some (.cells (rowS S3) 9 (0, 0))) ∧ Aside0 (w.heap.size ≤ gr) ∧ Aside0 (g ≠ gr) ∧ Aside0 (w0.heap.size ≤ gr) ∧ Aside0 (gr = w.heap.size) := ⟨_, BL, GR, GN, GW, ⟨rfl⟩⟩
  rw [← hgoal.out]
  clear hgoal
  refine (cur_below w0 _ g s 3 HS.out HI.out HB.out (by omega) (by omega)).mono ?_
  rintro e w2 ⟨x, rfl, hx0, hx1, hI, hB, hk⟩
  replace BL := ak (keep_blk hk BL.out (Ne.symm GN.out))
  replace HK := ak (keep_trans HK.out hk)
  replace HI := ak hI
  replace HB := ak hB
  clear hI hB hk
  have hn : x.toNat < 3 := by omega
  have hcell : w2.cell? ⟨gr, x.toNat, none⟩ = some (.string (S3[x.toNat]'hn)) := (blk_cell BL.out x.toNat).trans (rowS_at S3 x.toNat hn)
  have hsz := s3_size ⟨x.toNat, hn⟩
  simp only at hsz
  generalize S3[x.toNat]'hn = str at hcell hsz
  have HSZ := ak hsz
  have hcv := conv_s str
  clear hsz
  go_wp2
  have hcap := grownCap_ge w2 str.size 0 5
  have hsz := HSZ.out
  clear hcv hcell
  go_ret
  exact ⟨_, bytesOf str, rfl, ⟨_, _, rfl, by rw [bytesOf_len]; exact hcap, fun W' hk => C_strK w2 str _ _ (by omega) (fun k => k < w.heap.size) (fun k hk => Nat.lt_of_lt_of_le hk HK.out.1) W' hk⟩, ⟨by rw [bytesOf_len]; omega, bytesOf_byt str⟩, (HI.out.alloc _).drew, below_drew1 (below_alloc HB.out _), keep_drew (keep_alloc HK.out _)⟩

abbrev Tri := Option Addr × Nat × Nat
def triV (p : Tri) : Value := .slice p.1 p.2.1 p.2.2
def KdT : Kd Tri := Kd.scalar triV (fun _ => rfl)
def ElC (W : World) (p : Tri) (x : List Int) : Prop := p.2.1 = x.length ∧ x.length ≤ p.2.2 ∧ Kd.C (Kd.int .u8) W p.1 x.length x
/-- A name's rows: the outer one the call's own, the inner ones read, whatever is done to older blocks and to the outer one. -/
def NmI (base : Nat) (P : Nat → Prop) (W : World) (v : Value) (xs : List (List Int)) : Prop :=
  ∃ ps : List Tri, KdT.R 26 W base (fun k => ¬ P k) v ps ∧ ps.length = xs.length ∧
    ∀ (j : Nat) (p : Tri) (x : List Int), ps[j]? = some p → xs[j]? = some x → ∀ W', Kept W W' (fun k => P k ∨ some k = v.ownBlock) → ElC W' p x
section
variable {base : Nat} {P : Nat → Prop} {W W1 : World} {v v1 : Value} {xs : List (List Int)}
theorem NmI.of_S (h : Kd.S (Kd.slice 5 (Kd.int .u8)) 26 W base (fun _ => True) v xs) (hP : ∀ k, base ≤ k → k < W.heap.size → ¬ P k) : NmI base P W v xs := by
  obtain ⟨h0, inner, ho, hr⟩ := Kd.R_bound (Kd.S_R h)
  have hsl : ∀ j, j < xs.length → ∃ p : Tri, inner[j]? = some (triV p) ∧ ∀ x, xs[j]? = some x → ∀ W', Kept W W' (fun k => P k ∨ some k = v.ownBlock) → ElC W' p x := fun j hj => by
    have hm := hr.2 j (xs[j]) (List.getElem?_eq_getElem hj)
    obtain ⟨u, hu, hR⟩ := hm
    have hin : j < inner.length := by have := hr.1; simp [Kd.slice] at this; omega
    have hu' : inner[j]? = some u := by
      simp only [Kd.slice, Nat.mul_one] at hu
      rw [List.take_one, List.head?_drop] at hu
      rw [List.getElem?_eq_getElem hin] at hu ⊢
      simpa using hu
    obtain ⟨A, c, eo⟩ := Kd.R_slice hR
    subst eo
    have hrd := Kd.R_reads' hR
    refine ⟨(A, xs[j].length, c), hu', fun x hx W' hk => ?_⟩
    rw [List.getElem?_eq_getElem hj] at hx
    obtain rfl := Option.some.inj hx
    exact ⟨rfl, hrd.2.1, Kd.C_kept_own hR (fun k hk' hs => by
      rcases hs with hs | hs
      · exact hP k hk'.1.2.1 hk'.1.2.2.1 hs
      · exact hk'.2 hs) W' hk⟩
  have hps : ∃ ps : List Tri, ps.length = xs.length ∧ ∀ j, j < xs.length → ∃ p, ps[j]? = some p ∧ inner[j]? = some (triV p) ∧ ∀ x, xs[j]? = some x → ∀ W', Kept W W' (fun k => P k ∨ some k = v.ownBlock) → ElC W' p x := by
    refine ⟨(List.range xs.length).map fun j => if hj : j < xs.length then (hsl j hj).choose else (none, 0, 0), by simp, fun j hj => ?_⟩
    refine ⟨(hsl j hj).choose, ?_, (hsl j hj).choose_spec⟩
    simp [hj]
  obtain ⟨ps, hpl, hpe⟩ := hps
  refine ⟨ps, ⟨fun k hk => hP k (h0 k hk).2.1 (h0 k hk).2.2.1, inner, ?_, ?_⟩, hpl, fun j p x hp hx W' hk => ?_⟩
  · rw [hpl]; exact ho
  · have hil : inner.length = xs.length := by have := hr.1; simpa [Kd.slice] using this
    refine ⟨by rw [hil, hpl]; show xs.length = xs.length * 1; omega, fun j p hp => ?_⟩
    have hj : j < xs.length := by rw [← hpl]; exact (List.getElem?_eq_some_iff.1 hp).1
    obtain ⟨p', hp', hin, _⟩ := hpe j hj
    rw [hp] at hp'
    obtain rfl := Option.some.inj hp'
    show ((inner.drop (j * 1)).take 1) = [triV p]
    rw [Nat.mul_one, List.take_one, List.head?_drop, hin]
    rfl
  · have hj : j < xs.length := by rw [← hpl]; exact (List.getElem?_eq_some_iff.1 hp).1
    obtain ⟨p', hp', _, hC⟩ := hpe j hj
    rw [hp] at hp'
    obtain rfl := Option.some.inj hp'
    exact hC x hx W' hk
theorem NmI.slice (h : NmI base P W v xs) : ∃ A c, v = .slice A xs.length c := by
  obtain ⟨ps, hR, hl, _⟩ := h
  obtain ⟨A, c, e⟩ := Kd.R_slice hR
  exact ⟨A, c, by rw [e, hl]⟩
/-- Older blocks are written, or none. -/
theorem NmI.kept {S : Nat → Prop} (h : NmI base P W v xs) (hk : Kept W W1 S) (hS : ∀ k, S k → P k) : NmI base P W1 v xs := by
  obtain ⟨ps, hR, hl, hC⟩ := h
  refine ⟨ps, ?_, hl, fun j p x hp hx W' hk' => hC j p x hp hx W' ((hk.mono fun k hk => .inl (hS k hk)).then_ hk' (fun k hk => .inl hk))⟩
  exact Kd.R_kept hR hk (fun k ho hs => ho (hS k hs))
theorem NmI.below (h : NmI base P W v xs) (hb : Below W.heap.size W W1) : NmI base P W1 v xs := h.kept (Kept.of_below hb (fun _ => False)) (fun _ hk => hk.elim)
/-- One label more. -/
theorem NmI.snoc {p : Tri} {x : List Int} (h : NmI base P W v xs) (hx : ∀ W', Kept W W' (fun k => P k ∨ some k = v.ownBlock) → ElC W' p x)
    (hg : W.grownBy W1 v.ownBlock) (ha : v1.ownBlock = v.ownBlock ∨ ∃ b, v1.ownBlock = some b ∧ W.heap.size ≤ b) {ps : List Tri} (hR : KdT.R 26 W1 base (fun k => ¬ P k) v1 (ps ++ [p]))
    (hl : ps.length = xs.length) (hC : ∀ (j : Nat) (p : Tri) (x : List Int), ps[j]? = some p → xs[j]? = some x → ∀ W', Kept W W' (fun k => P k ∨ some k = v.ownBlock) → ElC W' p x) : NmI base P W1 v1 (xs ++ [x]) := by
  have hk1 : Kept W W1 (fun k => P k ∨ some k = v.ownBlock) := Kept.of_grown hg (Kept.refl W _) (fun k hk => .inl (.inr hk.symm))
  have up : ∀ W', Kept W1 W' (fun k => P k ∨ some k = v1.ownBlock) → Kept W W' (fun k => P k ∨ some k = v.ownBlock) := fun W' hk' => hk1.then_ hk' (fun k hk => by
    rcases hk with hk | hk
    · exact .inl (.inl hk)
    · rcases ha with ha | ⟨b, ha, hb⟩
      · exact .inl (.inr (by rw [hk, ha]))
      · rw [ha] at hk; injection hk with hk; subst hk; exact .inr hb)
  refine ⟨ps ++ [p], hR, by simp [hl], fun j q y hq hy W' hk' => ?_⟩
  rcases Nat.lt_or_ge j ps.length with hj | hj
  · rw [List.getElem?_append_left hj] at hq
    rw [List.getElem?_append_left (by omega)] at hy
    exact hC j q y hq hy W' (up W' hk')
  · rw [List.getElem?_append_right hj] at hq
    rw [List.getElem?_append_right (by omega)] at hy
    have e1 : j - ps.length = 0 := by
      have := (List.getElem?_eq_some_iff.1 hq).1
      simp at this; omega
    rw [e1] at hq
    rw [show j - xs.length = 0 by omega] at hy
    simp at hq hy
    subst hq
    subst hy
    exact hx W' (up W' hk')
/-- What is handed back. -/
theorem NmI.reads (h : NmI base P W v xs) : ∃ A c, v = .slice A xs.length c ∧ xs.length ≤ c ∧ ∀ W', Kept W W' P → Kd.C (Kd.slice 5 (Kd.int .u8)) W' A xs.length xs := by
  obtain ⟨ps, hR, hl, hC⟩ := h
  obtain ⟨A, c, e⟩ := Kd.R_slice hR
  subst e
  have hrd := Kd.R_reads' hR
  refine ⟨A, c, by rw [hl], by rw [← hl]; exact hrd.2.1, fun W' hk => ?_⟩
  have hC2 : KdT.C W' A ps.length ps := Kd.C_kept_own hR (S := P) (fun k ho hs => ho hs) W' hk
  obtain ⟨h1, h2, h3⟩ := hC2
  refine ⟨rfl, by rw [← hl]; exact h2, fun hn => ?_⟩
  obtain ⟨ad, e, hp⟩ := h3 (by omega)
  refine ⟨ad, e, fun j x hx => ?_⟩
  have hj : j < ps.length := by rw [hl]; exact (List.getElem?_eq_some_iff.1 hx).1
  obtain ⟨cs, hcl, hM, hcell⟩ := hp j ps[j] (List.getElem?_eq_getElem hj)
  have hE := hC j ps[j] x (List.getElem?_eq_getElem hj) hx W' (hk.mono fun k hk => .inl hk)
  have hM' : cs = [triV ps[j]] := hM
  subst hM'
  refine ⟨_, rfl, ⟨ps[j].1, ps[j].2.2, ?_, hE.2.1, hE.2.2⟩, hcell⟩
  simp only [triV, hE.1]
end
theorem keep_grown {w W W1 : World} {g : Nat} {row : Option Nat} (h : KeepBut w W g none) (hg : W.grownBy W1 row) (hr : ∀ k, row = some k → w.heap.size ≤ k) : KeepBut w W1 g none :=
  ⟨Nat.le_trans h.1 hg.size, fun i hi hne hr' => (hg.block i (Nat.lt_of_lt_of_le hi h.1) (fun e => Nat.lt_irrefl _ (Nat.lt_of_lt_of_le hi (hr i e.symm)))).trans (h.2 i hi hne hr')⟩
theorem Kept.of_but {W W1 : World} {g : Nat} (h : KeepBut W W1 g none) : Kept W W1 (fun k => k = g) := ⟨h.1, fun i hi hn => h.2 i hi hn (by simp)⟩
/-- Where the walk through l2bent stands. -/
structure St (w0 w : World) (g gr gn base : Nat) (s : List Int) (W : World) (v : Value) (xs : List (List Int)) : Prop where
  br : W.heap[gr]? = some (.cells #[.slice none 0 0] 28 (0, 0))
  bn : W.heap[gn]? = some (.cells #[v] 28 (0, 0))
  nm : NmI base (fun k => k < base ∨ k = gn) W v xs
  cur : Cur w0 W g s
  bel : Below w0.heap.size w0 W
  keep : KeepBut w W g none
  n1 : w.heap.size ≤ gr
  n2 : gr < base
  n3 : g < w.heap.size
  n4 : w0.heap.size ≤ w.heap.size
  n5 : base ≤ gn
section
variable {w0 w W W1 : World} {g gr gn base : Nat} {s : List Int} {v v1 : Value} {xs : List (List Int)}
theorem St.call (h : St w0 w g gr gn base s W v xs) (hI : Cur w0 W1 g s) (hB : Below w0.heap.size w0 W1) (hk : KeepBut W W1 g none) : St w0 w g gr gn base s W1 v xs :=
  ⟨keep_blk hk h.br (by have := h.n1; have := h.n3; omega), keep_blk hk h.bn (by have := h.n1; have := h.n2; have := h.n3; have := h.n5; omega), h.nm.kept (Kept.of_but hk) (fun k hk => .inl (by have := h.n1; have := h.n2; have := h.n3; omega)), hI, hB, keep_trans h.keep hk, h.n1, h.n2, h.n3, h.n4, h.n5⟩
theorem St.below (h : St w0 w g gr gn base s W v xs) (hb : Below W.heap.size W W1) : St w0 w g gr gn base s W1 v xs :=
  ⟨blk_below h.br hb, blk_below h.bn hb, h.nm.below hb, h.cur.below hb, below_step h.bel hb, keep_trans h.keep (KeepBut.of_below hb g none), h.n1, h.n2, h.n3, h.n4, h.n5⟩
theorem St.alloc (h : St w0 w g gr gn base s W v xs) (o : Obj) : St w0 w g gr gn base s (W.alloc o) v xs := h.below (below_alloc (Below.refl _ _) o)
theorem St.drew (h : St w0 w g gr gn base s W v xs) : St w0 w g gr gn base s W.drew v xs := h.below (below_drew1 (Below.refl _ _))
theorem St.size (h : St w0 w g gr gn base s W v xs) : base ≤ W.heap.size := Nat.le_trans h.n5 (Nat.le_of_lt (blk_lt h.bn))
/-- A label more is laid and the row is put back. -/
theorem St.push {p : Tri} {x : List Int} (h : St w0 w g gr gn base s W v xs) (hx : ∀ W', Kept W W' (fun k => (k < base ∨ k = gn) ∨ some k = v.ownBlock) → ElC W' p x)
    {ps : List Tri} (hO : KdT.R 26 W base (fun k => ¬ (k < base ∨ k = gn)) v ps) (hl : ps.length = xs.length) (hC : ∀ (j : Nat) (p : Tri) (x : List Int), ps[j]? = some p → xs[j]? = some x → ∀ W', Kept W W' (fun k => (k < base ∨ k = gn) ∨ some k = v.ownBlock) → ElC W' p x)
    (hR : KdT.R 26 W1 base (fun k => ¬ (k < base ∨ k = gn)) v1 (ps ++ [p])) (hb : Below base W W1) (hg : W.grownBy W1 v.ownBlock) (ha : v1.ownBlock = v.ownBlock ∨ ∃ b, v1.ownBlock = some b ∧ W.heap.size ≤ b) :
    W1.heap[gn]? = some (.cells #[v] 28 (0, 0)) ∧ St w0 w g gr gn base s (W1.setCell ⟨gn, 0, none⟩ v1) v1 (xs ++ [x]) := by
  have n1 := h.n1
  have n2 := h.n2
  have n3 := h.n3
  have n4 := h.n4
  have n5 := h.n5
  have e1 : W1.heap[gn]? = some (.cells #[v] 28 (0, 0)) := blk_grown h.bn hg (fun e => hO.1 gn e.symm (.inr rfl))
  refine ⟨e1, blk_far (blk_grown h.br hg (fun e => hO.1 gr e.symm (.inl n2))) (p := ⟨gn, 0, none⟩) (show gr ≠ gn by omega) _, blk_put e1 0 _ rfl, (NmI.snoc h.nm hx hg ha hR hl hC).kept (S := fun k => k = gn) (Kept.setCell (S := fun k => k = gn) (Kept.refl _ _) (p := ⟨gn, 0, none⟩) (.inl rfl) _) (fun k hk => .inr hk), (h.cur.grown hg (fun e => hO.1 g e.symm (.inl (by omega)))).far (p := ⟨gn, 0, none⟩) (show g ≠ gn by omega) _, below_set (h.bel.trans (hb.mono (by omega))) (by omega), keep_far (keep_grown h.keep hg (fun k hk => Nat.le_trans (by omega) (Kd.R_base hO k hk))) (p := ⟨gn, 0, none⟩) (by show w.heap.size ≤ gn; omega) _, n1, n2, n3, n4, n5⟩
end
theorem freeze_new (W : World) (C : Array Value) (e n : Nat) : (W.alloc (.cells C e)).freeze ⟨W.heap.size, n, none⟩ 1 = W.alloc (.cells C e (n, n + 1)) := by
  have hm : ∀ (a : Array Obj) (x : Obj) (f : Obj → Obj), (a.push x).modify a.size f = a.push (f x) := by
    intro a x f
    apply Array.ext
    · simp
    · intro i h1 h2
      simp only [Array.getElem_modify, Array.getElem_push]
      by_cases h : a.size = i
      · subst h
        simp
      · have hi : i < a.size := by simp at h1; omega
        simp [h, hi]
  unfold World.freeze
  rw [if_neg (by decide)]
  show ({ W.alloc (.cells C e) with heap := (W.heap.push (.cells C e)).modify W.heap.size _ } : World) = _
  rw [hm]
  rfl
theorem conv_one (W : World) (x : Int) : (convert 26 26 (.slice (some ⟨W.heap.size, 0, none⟩) 1 1)).run Try.prog (W.alloc (.cells #[.int .u8 x] 5)) = .ok (.slice (some ⟨W.heap.size, 0, none⟩) 1 1) (W.alloc (.cells #[.int .u8 x] 5 (1, 2))) := by
  have hsh : (W.alloc (.cells #[.int .u8 x] 5)).shape? W.heap.size = some (5, 1) := by
    have := heap_alloc_new W (.cells #[.int .u8 x] 5)
    unfold World.shape?
    rw [this]
    rfl
  have hf := freeze_new W #[.int .u8 x] 5 1
  simp [convert, run_underlying Try.underlying26, run_underlying Try.underlying5, markStringish, hsh, Result.andThen]
  exact hf
theorem C_oneK (W : World) (x : Int) (S : Nat → Prop) (hS : ¬ S W.heap.size) : ∀ W', Kept (W.alloc (.cells #[.int .u8 x] 5 (1, 2))) W' S → Kd.C (Kd.int .u8) W' (some ⟨W.heap.size, 0, none⟩) [x].length [x] := fun W' hk => by
  refine Kd.C_of_reads (enc := Value.int .u8) (d := (0 : Int)) (h1 := fun _ => rfl) ⟨rfl, by simp, fun hn => ⟨_, rfl, fun j hj => ?_⟩⟩
  obtain rfl : j = 0 := by simp at hj; omega
  have h2 : W'.heap[W.heap.size]? = some (.cells #[.int .u8 x] 5 (1, 2)) := blk_kept (heap_alloc_new _ _) hk hS
  show W'.cell? ⟨W.heap.size, 0, none⟩ = _
  rw [cell_of_row _ _ _ _ _ _ h2]
  rfl
theorem NmI.lt {base : Nat} {P : Nat → Prop} {W : World} {v : Value} {xs : List (List Int)} (h : NmI base P W v xs) : ∀ k, v.ownBlock = some k → k < W.heap.size := by
  obtain ⟨ps, hR, hl, _⟩ := h
  exact Kd.R_lt hR
theorem St.new {w0 w W : World} {g gr gn base : Nat} {s : List Int} {v : Value} {xs : List (List Int)} (h : St w0 w g gr gn base s W v xs) : ¬ ((W.heap.size < base ∨ W.heap.size = gn) ∨ some W.heap.size = v.ownBlock) := fun e => by
  have h1 := h.size
  have h2 := blk_lt h.bn
  rcases e with (e | e) | e
  · omega
  · omega
  · exact Nat.lt_irrefl _ (h.nm.lt _ e.symm)
theorem St.old {w0 w W : World} {g gr gn base : Nat} {s : List Int} {v : Value} {xs : List (List Int)} (h : St w0 w g gr gn base s W v xs) : ∀ k, ((k < base ∨ k = gn) ∨ some k = v.ownBlock) → k < W.heap.size := fun k e => by
  have h1 := h.size
  have h2 := blk_lt h.bn
  rcases e with (e | e) | e
  · omega
  · omega
  · exact h.nm.lt _ e.symm
def SmallM (xs : List (List Int)) : Prop := xs.length ≤ 20 ∧ ∀ x ∈ xs, x.length ≤ 20
theorem SmallM.snoc {xs : List (List Int)} {x : List Int} (h : SmallM xs) (hl : xs.length ≤ 19) (hx : x.length ≤ 20) : SmallM (xs ++ [x]) := ⟨by simp; omega, fun y hy => by
  rcases List.mem_append.1 hy with h1 | h1
  · exact h.2 y h1
  · rw [List.mem_singleton.1 h1]; exact hx⟩

theorem l2bent_swap (W : World) (o : Obj) : (W.alloc o).drew = (W.drew).alloc o := rfl
theorem l2bent_step {c : Prop} [Decidable c] {A B E : Prop} (hc : c) (h : if c then A else B) : if c then A else E := by rw [if_pos hc] at h ⊢; exact h
def S2 : Array ByteArray := #[⟨#[97, 98, 99, 100, 101, 102, 103, 104, 105, 106, 107, 108, 109, 110, 111]⟩, ⟨#[97, 98, 99, 100, 101, 102, 103, 104, 105, 106, 107, 108, 109, 110, 111, 112]⟩]
theorem s2_size : ∀ i : Fin 2, (S2[i.val]'(by have := i.2; exact this)).size ≤ 16 := by decide +kernel
set_option maxHeartbeats 4000000 in
set_option maxRecDepth 100000 in
theorem l2bent_any (w0 w : World) (g : Nat) (s : List Int) (hs : s.length ≤ 140737488351232) (hI : Cur w0 w g s) (hB : Below w0.heap.size w0 w) :
    Calls Try.prog 41 #[.pointer (some ⟨g, 0, none⟩)] w fun e w' => ∃ A c xs, e = .returned (.agg #[.slice A xs.length c]) ∧ xs.length ≤ c ∧ SmallM xs ∧ (∀ W', Kept w' W' (fun k => k < w.heap.size) → Kd.C (Kd.slice 5 (Kd.int .u8)) W' A xs.length xs) ∧ Cur w0 w' g s ∧ Below w0.heap.size w0 w' ∧ KeepBut w w' g none := by
  have HI := ak hI
  have HB := ak hB
  have HS := ak hs
  have HK := ak (KeepBut.refl w g none)
  have GL := ak hI.lt
  have GW := ak (show w0.heap.size ≤ w.heap.size from hB.size)
  clear hI hB hs
  go_enter Try.func41, Try.ntmps41
  go_wp2_with (fail)
  have BR := ak (heap_alloc_new w (.cells #[.slice none 0 0] 28))
  replace HI := ak (HI.out.alloc (.cells #[.slice none 0 0] 28))
  replace HB := ak (below_alloc HB.out (.cells #[.slice none 0 0] 28))
  replace HK := ak (keep_alloc HK.out (.cells #[.slice none 0 0] 28))
  have GB := ak (show w.heap.size < (w.alloc (.cells #[.slice none 0 0] 28)).heap.size by simp)
  generalize w.alloc (.cells #[.slice none 0 0] 28) = W1 at BR HI HB HK GB ⊢
  have GR := ak (Nat.le_refl w.heap.size)
  obtain ⟨gr, BR, GR, GB, hgoal⟩ : ∃ gr, Aside0 (W1.heap[gr]? = some (.cells #[.slice none 0 0] 28 (0, 0))) ∧ Aside0 (w.heap.size ≤ gr) ∧ Aside0 (gr < W1.heap.size) ∧ Aside0 (gr = w.heap.size) := ⟨_, BR, GR, GB, ⟨rfl⟩⟩
  rw [← hgoal.out]
  clear hgoal
  refine (l2draw_any w0 W1 g s HS.out HI.out HB.out).mono ?_
  rintro e w2 ⟨v0, xs, rfl, ho, hsm, hI, hB, hk⟩
  obtain ⟨base, hbase⟩ : ∃ b, b = W1.heap.size := ⟨_, rfl⟩
  rw [← hbase] at ho GB
  have HSM := ak (show SmallM xs from ⟨Nat.le_trans hsm.1 (by omega), hsm.2⟩)
  have HSL := ak (show xs.length ≤ 10 from hsm.1)
  obtain ⟨A0, c0, eo⟩ := Kd.S_slice ho
  subst eo
  have hN := NmI.of_S (P := fun k => k < base ∨ k = w2.heap.size) ho (fun k h1 h2 h3 => by omega)
  have ST := ak (show St w0 w g gr w2.heap.size base s (w2.alloc (.cells #[.slice A0 xs.length c0] 28)) (.slice A0 xs.length c0) xs from
    ⟨blk_alloc (keep_blk hk BR.out (by have := GR.out; have := GL.out; omega)) _, heap_alloc_new _ _, hN.below (below_alloc (Below.refl _ _) _), hI.alloc _, below_alloc hB _, keep_alloc (keep_trans HK.out hk) _, GR.out, GB.out, GL.out, GW.out, by rw [hbase]; exact hk.1⟩)
  clear hN ho hsm hI hB hk BR HI HB HK hbase
  go_wp2_with (fail)
  change Calls _ _ _ (w2.alloc (.cells #[.slice A0 xs.length c0] 28)) _
  generalize w2.alloc (.cells #[.slice A0 xs.length c0] 28) = W2 at ST ⊢
  generalize w2.heap.size = gn at ST ⊢
  generalize (Value.slice A0 xs.length c0) = v0 at ST ⊢
  generalize (Value.agg #[v0]) = va
  refine (cur_once w0 _ g s 9 HS.out ST.out.cur ST.out.bel (by omega) (by omega)).mono ?_
  rintro e w3 ⟨b, rfl, hI, hB, hk⟩
  replace ST := ak (ST.out.call hI hB hk)
  clear hI hB hk
  cases b with
  | false =>
    have ST_ := ST.out
    obtain ⟨A_, c_, e_, hlc_, hC_⟩ := ST_.nm.reads
    subst e_
    have hf_ : w3.frozen? ⟨gr, 0, none⟩ = false := blk_frozen ST_.br 0
    have hc_ : w3.cell? ⟨gr, 0, none⟩ = some (.slice none 0 0) := (blk_cell ST_.br 0).trans rfl
    have hn_ : w3.cell? ⟨gn, 0, none⟩ = some (.slice A_ (xs).length c_) := (blk_cell ST_.bn 0).trans rfl
    clear ST_
    go_wp2
    have ST_ := ST.out
    refine bodyPost_ret (v := .agg #[.slice A_ (xs).length c_]) (by simp [results, Try.results41, go_sem, *]) rfl ?_
    exact ⟨A_, c_, _, rfl, hlc_, HSM.out, fun W' hk => hC_ W' ((Kept.setCell (S := fun k => k < base ∨ k = gn) (Kept.refl _ _) (p := ⟨gr, 0, none⟩) (.inl (.inl ST_.n2)) _).then_ hk (fun k hk => .inl (.inl (by have := ST_.n1; have := ST_.n2; omega)))), ST_.cur.far (p := ⟨gr, 0, none⟩) (show g ≠ gr by have := ST_.n1; have := ST_.n3; omega) _, below_set ST_.bel (by have := ST_.n1; have := ST_.n4; omega), keep_far ST_.keep (p := ⟨gr, 0, none⟩) ST_.n1 _⟩
  | true =>
    go_wp2_with (fail)
    refine (cur_below w0 _ g s 4 HS.out ST.out.cur ST.out.bel (by omega) (by omega)).mono ?_
    rintro e w4 ⟨x, rfl, hx0, hx1, hI, hB, hk⟩
    replace ST := ak (ST.out.call hI hB hk)
    clear hI hB hk
    obtain rfl | rfl | rfl | rfl : x = 0 ∨ x = 1 ∨ x = 2 ∨ x = 3 := by omega
    · skip
      obtain ⟨A1, c1, eo⟩ := ST.out.nm.slice
      subst eo
      obtain ⟨ps, hO, hl, hC⟩ := ST.out.nm
      have HO := ak hO
      have HL := ak hl
      have HC := ak hC
      have hn : w4.cell? ⟨gn, 0, none⟩ = some (.slice A1 xs.length c1) := (blk_cell ST.out.bn 0).trans rfl
      obtain ⟨YS, HYS⟩ : ∃ Y, Aside0 (Y = xs ++ [([] : List Int)]) := ⟨_, ⟨rfl⟩⟩
      clear hO hl hC hx0 hx1
      have HSY := ak (show SmallM YS by rw [HYS.out]; exact HSM.out.snoc (by have := HSL.out; omega) (by simp))
      go_wp2_with ((with_reducible refine gate_builtin (b := .append) (xs := #[.tmp 24, .tmp 25]) rfl ?_);at_builtin;refine Kd.R_append KdT (w0 := w4) base rfl (.tmp 24) (.tmp 25) 22 26 (.slice none 0 0) 24 rfl Try.underlying22 info26 rfl (by decide) (by omega) _ ps (none, 0, 0) [triV (none, 0, 0)] (fun k => ¬ (k < base ∨ k = gn)) (fun _ => False) rfl rfl ?aP (fun _ hk => hk.elim) ?aF ?aO ?aB ?aS ?aL ?_;(case aP => exact rfl);(case aB => exact Below.refl _ _);(case aF => exact (fun k hk h => by have := ST.out.size; have := blk_lt ST.out.bn; rcases h with h | h <;> omega));(case aO => exact HO.out);(case aS => exact ST.out.size);(case aL => have := HSL.out; have := HL.out; omega);intro v1 w5 hR hb hg ha;have hp := ST.out.push (p := (none, 0, 0)) (x := []) (fun W' _ => ⟨rfl, Nat.le_refl _, Kd.C_nil _ _⟩) HO.out HL.out HC.out hR hb hg ha;obtain ⟨A2, c2, eo⟩ := Kd.R_slice hR;subst eo;have hl2 : (ps ++ [((none, 0, 0) : Tri)]).length = YS.length := (by have := HL.out; rw [HYS.out, List.length_append, List.length_append, this]; rfl);rw [hl2] at hp ⊢;have BN5 := hp.1;have hn5 : w5.cell? ⟨gn, 0, none⟩ = some (.slice A1 xs.length c1) := (blk_cell BN5 0).trans rfl;have hf5 : w5.frozen? ⟨gn, 0, none⟩ = false := blk_frozen BN5 0;replace ST := ak hp.2;rw [← HYS.out] at ST;have hf6 := blk_frozen ST.out.br 0;have hc6 := (blk_cell ST.out.br 0).trans rfl;clear HO HL HC hR hb hg ha hp hl2 BN5 hn)
      have ST_ := ST.out
      obtain ⟨A_, c_, e_, hlc_, hC_⟩ := ST_.nm.reads
      injection e_ with e1_ e2_ e3_
      subst e1_
      subst e3_
      refine bodyPost_ret (v := .agg #[.slice A2 YS.length c2]) (by simp [results, Try.results41, go_sem, *]) rfl ?_
      exact ⟨A2, c2, _, rfl, hlc_, HSY.out, fun W' hk => hC_ W' ((Kept.setCell (S := fun k => k < base ∨ k = gn) (Kept.refl _ _) (p := ⟨gr, 0, none⟩) (.inl (.inl ST_.n2)) _).then_ hk (fun k hk => .inl (.inl (by have := ST_.n1; have := ST_.n2; omega)))), ST_.cur.far (p := ⟨gr, 0, none⟩) (show g ≠ gr by have := ST_.n1; have := ST_.n3; omega) _, below_set ST_.bel (by have := ST_.n1; have := ST_.n4; omega), keep_far ST_.keep (p := ⟨gr, 0, none⟩) ST_.n1 _⟩
    · skip
      obtain ⟨A1, c1, eo⟩ := ST.out.nm.slice
      subst eo
      have hn : w4.cell? ⟨gn, 0, none⟩ = some (.slice A1 xs.length c1) := (blk_cell ST.out.bn 0).trans rfl
      have HNEW := ak ST.out.new
      have hcv := conv_one w4 81
      replace ST := ak (ST.out.alloc (.cells #[.int .u8 81] 5 (1, 2)))
      obtain ⟨ps, hO, hl, hC⟩ := ST.out.nm
      have HO := ak hO
      have HL := ak hl
      have HC := ak hC
      obtain ⟨YS, HYS⟩ : ∃ Y, Aside0 (Y = xs ++ [[(81 : Int)]]) := ⟨_, ⟨rfl⟩⟩
      have HE := ak (fun W' (hk : Kept (w4.alloc (.cells #[.int .u8 81] 5 (1, 2))) W' (fun k => (k < base ∨ k = gn) ∨ some k = (Value.slice A1 xs.length c1).ownBlock)) => (show ElC W' (some ⟨w4.heap.size, 0, none⟩, 1, 1) [81] from ⟨rfl, Nat.le_refl _, C_oneK w4 81 _ HNEW.out W' hk⟩))
      clear hO hl hC hx0 hx1
      have HSY := ak (show SmallM YS by rw [HYS.out]; exact HSM.out.snoc (by have := HSL.out; omega) (by simp))
      go_wp2_with ((with_reducible refine gate_builtin (b := .append) (xs := #[.tmp 31, .tmp 34]) rfl ?_);at_builtin;refine Kd.R_append KdT (w0 := w4.alloc (.cells #[.int .u8 81] 5 (1, 2))) base rfl (.tmp 31) (.tmp 34) 22 26 (.slice none 0 0) 24 rfl Try.underlying22 info26 rfl (by decide) (by omega) _ ps (some ⟨w4.heap.size, 0, none⟩, 1, 1) [triV (some ⟨w4.heap.size, 0, none⟩, 1, 1)] (fun k => ¬ (k < base ∨ k = gn)) (fun _ => False) rfl (by show Value.slice (some ⟨w4.heap.size + 1, 0, none⟩) 1 1 = _; simp) ?aP (fun _ hk => hk.elim) ?aF ?aO ?aB ?aS ?aL ?_;(case aP => exact rfl);(case aB => exact Below.refl _ _);(case aF => exact (fun k hk h => by have := ST.out.size; have := blk_lt ST.out.bn; rcases h with h | h <;> omega));(case aO => exact HO.out);(case aS => exact ST.out.size);(case aL => have := HSL.out; have := HL.out; omega);intro v1 w5 hR hb hg ha;have hp := ST.out.push (p := (some ⟨w4.heap.size, 0, none⟩, 1, 1)) (x := [81]) HE.out HO.out HL.out HC.out hR hb hg ha;obtain ⟨A2, c2, eo⟩ := Kd.R_slice hR;subst eo;have hl2 : (ps ++ [((some ⟨w4.heap.size, 0, none⟩, 1, 1) : Tri)]).length = YS.length := (by have := HL.out; rw [HYS.out, List.length_append, List.length_append, this]; rfl);rw [hl2] at hp ⊢;have BN5 := hp.1;have hn5 : w5.cell? ⟨gn, 0, none⟩ = some (.slice A1 xs.length c1) := (blk_cell BN5 0).trans rfl;have hf5 : w5.frozen? ⟨gn, 0, none⟩ = false := blk_frozen BN5 0;replace ST := ak hp.2;rw [← HYS.out] at ST;have hf6 := blk_frozen ST.out.br 0;have hc6 := (blk_cell ST.out.br 0).trans rfl;clear HO HL HC hR hb hg ha hp hl2 BN5 hn)
      have ST_ := ST.out
      obtain ⟨A_, c_, e_, hlc_, hC_⟩ := ST_.nm.reads
      injection e_ with e1_ e2_ e3_
      subst e1_
      subst e3_
      refine bodyPost_ret (v := .agg #[.slice A2 YS.length c2]) (by simp [results, Try.results41, go_sem, *]) rfl ?_
      exact ⟨A2, c2, _, rfl, hlc_, HSY.out, fun W' hk => hC_ W' ((Kept.setCell (S := fun k => k < base ∨ k = gn) (Kept.refl _ _) (p := ⟨gr, 0, none⟩) (.inl (.inl ST_.n2)) _).then_ hk (fun k hk => .inl (.inl (by have := ST_.n1; have := ST_.n2; omega)))), ST_.cur.far (p := ⟨gr, 0, none⟩) (show g ≠ gr by have := ST_.n1; have := ST_.n3; omega) _, below_set ST_.bel (by have := ST_.n1; have := ST_.n4; omega), keep_far ST_.keep (p := ⟨gr, 0, none⟩) ST_.n1 _⟩
    · skip
      clear hx0 hx1
      obtain ⟨A1, c1, eo⟩ := ST.out.nm.slice
      subst eo
      have hn : w4.cell? ⟨gn, 0, none⟩ = some (.slice A1 xs.length c1) := (blk_cell ST.out.bn 0).trans rfl
      have hal := fun W o h => World.cell?_alloc_some W ⟨gn, 0, none⟩ o h
      go_wp2
      go_region_law (first
        | (rw [l2bent_swap];refine l2bent_step (by simp [Region.wanted]) (Kd.R_append_step KdT (w0 := (((w5).alloc (.cells (bytesRow str (grownCap (w5) str.size 0 5)) 5 ((bytesRow str (grownCap (w5) str.size 0 5)).size, (bytesRow str (grownCap (w5) str.size 0 5)).size + 1))).drew)) base (by simp [Region.wanted]) (.tmp 40) (.tmp 47) 22 26 (.slice none 0 0) 24 (by rfl) Try.underlying22 info26 rfl (by decide) (by omega) (.slice A1 xs.length c1) ps ((some ⟨w5.heap.size, 0, none⟩, (bytesOf str).length, grownCap (w5) str.size 0 5) : Tri) [triV ((some ⟨w5.heap.size, 0, none⟩, (bytesOf str).length, grownCap (w5) str.size 0 5) : Tri)] (fun k => ¬ (k < base ∨ k = gn)) (fun _ => False) (by rfl) (by first | rfl | (show Value.slice (some ⟨_, 0, none⟩) 1 1 = _; simp) | simp [Act.eval, Act.put, World.drew, World.alloc]) (by rfl) (fun _ hk => hk.elim) (fun k hk h => by have := STA.out.size; have := blk_lt STA.out.bn; rcases h with h | h <;> omega) HO.out (Below.refl _ _) STA.out.size (by have := HSL.out; have := HL.out; omega) ?_);intro v1 w6 hR hb hg ha;have hp := STA.out.push (p := ((some ⟨w5.heap.size, 0, none⟩, (bytesOf str).length, grownCap (w5) str.size 0 5) : Tri)) (x := bytesOf str) HE.out HO.out HL.out HC.out hR hb hg ha;obtain ⟨A2, c2, eo⟩ := Kd.R_slice hR;subst eo;have hl2 : (ps ++ [((some ⟨w5.heap.size, 0, none⟩, (bytesOf str).length, grownCap (w5) str.size 0 5) : Tri)]).length = YS.length := (by have := HL.out; rw [HYS.out, List.length_append, List.length_append, this]; rfl);rw [hl2] at hp ⊢;have BN5 := hp.1;have hn5 : w6.cell? ⟨gn, 0, none⟩ = some (.slice A1 xs.length c1) := (blk_cell BN5 0).trans rfl;have hf5 : w6.frozen? ⟨gn, 0, none⟩ = false := blk_frozen BN5 0;clear ST;have ST := ak hp.2;rw [← HYS.out] at ST;have hf6 := blk_frozen ST.out.br 0;have hc6 := (blk_cell ST.out.br 0).trans rfl;clear HO HL HC hR hb hg ha hp hl2 BN5 hn hcv hrow hal HE STA ST5 hm1 hm2 hm3)
        | (rw [l2bent_swap];refine l2bent_step (by simp [Region.wanted]) (Kd.R_append_step KdT (w0 := (((w5.alloc (.cells #[.string ⟨#[97, 98, 99, 100, 101, 102, 103, 104, 105, 106, 107, 108, 109, 110, 111]⟩, .string ⟨#[97, 98, 99, 100, 101, 102, 103, 104, 105, 106, 107, 108, 109, 110, 111, 112]⟩] 9)).alloc (.cells (bytesRow str (grownCap (w5.alloc (.cells #[.string ⟨#[97, 98, 99, 100, 101, 102, 103, 104, 105, 106, 107, 108, 109, 110, 111]⟩, .string ⟨#[97, 98, 99, 100, 101, 102, 103, 104, 105, 106, 107, 108, 109, 110, 111, 112]⟩] 9)) str.size 0 5)) 5 ((bytesRow str (grownCap (w5.alloc (.cells #[.string ⟨#[97, 98, 99, 100, 101, 102, 103, 104, 105, 106, 107, 108, 109, 110, 111]⟩, .string ⟨#[97, 98, 99, 100, 101, 102, 103, 104, 105, 106, 107, 108, 109, 110, 111, 112]⟩] 9)) str.size 0 5)).size, (bytesRow str (grownCap (w5.alloc (.cells #[.string ⟨#[97, 98, 99, 100, 101, 102, 103, 104, 105, 106, 107, 108, 109, 110, 111]⟩, .string ⟨#[97, 98, 99, 100, 101, 102, 103, 104, 105, 106, 107, 108, 109, 110, 111, 112]⟩] 9)) str.size 0 5)).size + 1))).drew)) base (by simp [Region.wanted]) (.tmp 40) (.tmp 47) 22 26 (.slice none 0 0) 24 (by rfl) Try.underlying22 info26 rfl (by decide) (by omega) (.slice A1 xs.length c1) ps ((some ⟨w5.heap.size + 1, 0, none⟩, (bytesOf str).length, grownCap (w5.alloc (.cells #[.string ⟨#[97, 98, 99, 100, 101, 102, 103, 104, 105, 106, 107, 108, 109, 110, 111]⟩, .string ⟨#[97, 98, 99, 100, 101, 102, 103, 104, 105, 106, 107, 108, 109, 110, 111, 112]⟩] 9)) str.size 0 5) : Tri) [triV ((some ⟨w5.heap.size + 1, 0, none⟩, (bytesOf str).length, grownCap (w5.alloc (.cells #[.string ⟨#[97, 98, 99, 100, 101, 102, 103, 104, 105, 106, 107, 108, 109, 110, 111]⟩, .string ⟨#[97, 98, 99, 100, 101, 102, 103, 104, 105, 106, 107, 108, 109, 110, 111, 112]⟩] 9)) str.size 0 5) : Tri)] (fun k => ¬ (k < base ∨ k = gn)) (fun _ => False) (by rfl) (by first | rfl | (show Value.slice (some ⟨_, 0, none⟩) 1 1 = _; simp) | simp [Act.eval, Act.put, World.drew, World.alloc]) (by rfl) (fun _ hk => hk.elim) (fun k hk h => by have := STA.out.size; have := blk_lt STA.out.bn; rcases h with h | h <;> omega) HO.out (Below.refl _ _) STA.out.size (by have := HSL.out; have := HL.out; omega) ?_);intro v1 w6 hR hb hg ha;have hp := STA.out.push (p := ((some ⟨w5.heap.size + 1, 0, none⟩, (bytesOf str).length, grownCap (w5.alloc (.cells #[.string ⟨#[97, 98, 99, 100, 101, 102, 103, 104, 105, 106, 107, 108, 109, 110, 111]⟩, .string ⟨#[97, 98, 99, 100, 101, 102, 103, 104, 105, 106, 107, 108, 109, 110, 111, 112]⟩] 9)) str.size 0 5) : Tri)) (x := bytesOf str) HE.out HO.out HL.out HC.out hR hb hg ha;obtain ⟨A2, c2, eo⟩ := Kd.R_slice hR;subst eo;have hl2 : (ps ++ [((some ⟨w5.heap.size + 1, 0, none⟩, (bytesOf str).length, grownCap (w5.alloc (.cells #[.string ⟨#[97, 98, 99, 100, 101, 102, 103, 104, 105, 106, 107, 108, 109, 110, 111]⟩, .string ⟨#[97, 98, 99, 100, 101, 102, 103, 104, 105, 106, 107, 108, 109, 110, 111, 112]⟩] 9)) str.size 0 5) : Tri)]).length = YS.length := (by have := HL.out; rw [HYS.out, List.length_append, List.length_append, this]; rfl);rw [hl2] at hp ⊢;have BN5 := hp.1;have hn5 : w6.cell? ⟨gn, 0, none⟩ = some (.slice A1 xs.length c1) := (blk_cell BN5 0).trans rfl;have hf5 : w6.frozen? ⟨gn, 0, none⟩ = false := blk_frozen BN5 0;clear ST;have ST := ak hp.2;rw [← HYS.out] at ST;have hf6 := blk_frozen ST.out.br 0;have hc6 := (blk_cell ST.out.br 0).trans rfl;clear HO HL HC hR hb hg ha hp hl2 BN5 hn hcv hrow hal HE STA ST5 hm1 hm2 hm3)
        | (go_simp; go_at_call 44; refine (cur_below w0 ((w4.alloc (.cells (rowS S2) 9)).drew) g s 2 HS.out (ST.out.alloc _).drew.cur (ST.out.alloc _).drew.bel (by omega) (by omega)).mono ?_; rintro e w5 ⟨x, rfl, hx0, hx1, hI, hB, hk⟩;have ST5 := ak ((ST.out.alloc (.cells (rowS S2) 9)).drew.call hI hB hk);have hn2 : x.toNat < 2 := (by omega);have hsz := s2_size ⟨x.toNat, hn2⟩;simp only at hsz;have hrow : w5.cell? ⟨w4.heap.size, x.toNat, none⟩ = some (.string (S2[x.toNat]'hn2)) := (blk_cell (keep_blk hk (blk_drew (heap_alloc_new w4 (.cells (rowS S2) 9))) (Ne.symm (Nat.ne_of_lt ST.out.cur.lt))) x.toNat).trans (rowS_at S2 x.toNat hn2);generalize S2[x.toNat]'hn2 = str at hrow hsz;have hcv := conv_s str;have HSZ := ak hsz;clear hn hsz hn2;have hn : w5.cell? ⟨gn, 0, none⟩ = some (.slice A1 xs.length c1) := (blk_cell ST5.out.bn 0).trans rfl;clear hI hB hk;have STA : Aside0 (St w0 w g gr gn base s (((w5).alloc (.cells (bytesRow str (grownCap (w5) str.size 0 5)) 5 ((bytesRow str (grownCap (w5) str.size 0 5)).size, (bytesRow str (grownCap (w5) str.size 0 5)).size + 1))).drew) (.slice A1 xs.length c1) xs) := ⟨(ST5.out.alloc _).drew⟩;have HE := ak (fun W' (hk : Kept (((w5).alloc (.cells (bytesRow str (grownCap (w5) str.size 0 5)) 5 ((bytesRow str (grownCap (w5) str.size 0 5)).size, (bytesRow str (grownCap (w5) str.size 0 5)).size + 1))).drew) W' (fun k => (k < base ∨ k = gn) ∨ some k = (Value.slice A1 xs.length c1).ownBlock)) => (show ElC W' ((some ⟨w5.heap.size, 0, none⟩, (bytesOf str).length, grownCap (w5) str.size 0 5) : Tri) (bytesOf str) from ⟨rfl, (by show (bytesOf str).length ≤ grownCap _ _ _ _; rw [bytesOf_len]; exact grownCap_ge _ _ _ _), (by have hq := C_strK (w5) str (grownCap (w5) str.size 0 5) ((bytesRow str (grownCap (w5) str.size 0 5)).size, (bytesRow str (grownCap (w5) str.size 0 5)).size + 1) (by have := HSZ.out; omega) (fun k => (k < base ∨ k = gn) ∨ some k = (Value.slice A1 xs.length c1).ownBlock) (fun k hk => Nat.lt_of_lt_of_le (ST5.out.old k hk) (Nat.le_refl _)) W' hk; first | exact hq | simpa using hq)⟩));have hm1 : ∀ a, (w5.alloc a).cell? ⟨gn, 0, none⟩ = some (.slice A1 xs.length c1) := fun a => (blk_cell (blk_alloc ST5.out.bn a) 0).trans rfl;have hm2 : ∀ a b, ((w5.alloc a).alloc b).cell? ⟨gn, 0, none⟩ = some (.slice A1 xs.length c1) := fun a b => (blk_cell (blk_alloc (blk_alloc ST5.out.bn a) b) 0).trans rfl;have hm3 : ∀ a b c, (((w5.alloc a).alloc b).alloc c).cell? ⟨gn, 0, none⟩ = some (.slice A1 xs.length c1) := fun a b c => (blk_cell (blk_alloc (blk_alloc (blk_alloc ST5.out.bn a) b) c) 0).trans rfl;obtain ⟨ps, hO, hl, hC⟩ := STA.out.nm;have HO := ak hO;have HL := ak hl;have HC := ak hC;clear hO hl hC;obtain ⟨YS, HYS⟩ : ∃ Y, Aside0 (Y = xs ++ [bytesOf str]) := ⟨_, ⟨rfl⟩⟩;have HSY := ak (show SmallM YS by rw [HYS.out]; exact HSM.out.snoc (by have := HSL.out; omega) (by rw [bytesOf_len]; have := HSZ.out; omega)))
        | (go_simp; go_at_call 44; refine (cur_below w0 w4.drew g s 2 HS.out ST.out.drew.cur ST.out.drew.bel (by omega) (by omega)).mono ?_; rintro e w5 ⟨x, rfl, hx0, hx1, hI, hB, hk⟩;have ST5 := ak (ST.out.drew.call hI hB hk);have hn2 : x.toNat < 2 := (by omega);have hsz := s2_size ⟨x.toNat, hn2⟩;simp only at hsz;have hrow : (w5.alloc (.cells #[.string ⟨#[97, 98, 99, 100, 101, 102, 103, 104, 105, 106, 107, 108, 109, 110, 111]⟩, .string ⟨#[97, 98, 99, 100, 101, 102, 103, 104, 105, 106, 107, 108, 109, 110, 111, 112]⟩] 9)).cell? ⟨w5.heap.size, x.toNat, none⟩ = some (.string (S2[x.toNat]'hn2)) := (blk_cell (heap_alloc_new w5 (.cells (rowS S2) 9)) x.toNat).trans (rowS_at S2 x.toNat hn2);generalize S2[x.toNat]'hn2 = str at hrow hsz;have hcv := conv_s str;have HSZ := ak hsz;clear hn hsz hn2;have hn : w5.cell? ⟨gn, 0, none⟩ = some (.slice A1 xs.length c1) := (blk_cell ST5.out.bn 0).trans rfl;clear hI hB hk;have STA : Aside0 (St w0 w g gr gn base s (((w5.alloc (.cells #[.string ⟨#[97, 98, 99, 100, 101, 102, 103, 104, 105, 106, 107, 108, 109, 110, 111]⟩, .string ⟨#[97, 98, 99, 100, 101, 102, 103, 104, 105, 106, 107, 108, 109, 110, 111, 112]⟩] 9)).alloc (.cells (bytesRow str (grownCap (w5.alloc (.cells #[.string ⟨#[97, 98, 99, 100, 101, 102, 103, 104, 105, 106, 107, 108, 109, 110, 111]⟩, .string ⟨#[97, 98, 99, 100, 101, 102, 103, 104, 105, 106, 107, 108, 109, 110, 111, 112]⟩] 9)) str.size 0 5)) 5 ((bytesRow str (grownCap (w5.alloc (.cells #[.string ⟨#[97, 98, 99, 100, 101, 102, 103, 104, 105, 106, 107, 108, 109, 110, 111]⟩, .string ⟨#[97, 98, 99, 100, 101, 102, 103, 104, 105, 106, 107, 108, 109, 110, 111, 112]⟩] 9)) str.size 0 5)).size, (bytesRow str (grownCap (w5.alloc (.cells #[.string ⟨#[97, 98, 99, 100, 101, 102, 103, 104, 105, 106, 107, 108, 109, 110, 111]⟩, .string ⟨#[97, 98, 99, 100, 101, 102, 103, 104, 105, 106, 107, 108, 109, 110, 111, 112]⟩] 9)) str.size 0 5)).size + 1))).drew) (.slice A1 xs.length c1) xs) := ⟨((ST5.out.alloc _).alloc _).drew⟩;have HE := ak (fun W' (hk : Kept (((w5.alloc (.cells #[.string ⟨#[97, 98, 99, 100, 101, 102, 103, 104, 105, 106, 107, 108, 109, 110, 111]⟩, .string ⟨#[97, 98, 99, 100, 101, 102, 103, 104, 105, 106, 107, 108, 109, 110, 111, 112]⟩] 9)).alloc (.cells (bytesRow str (grownCap (w5.alloc (.cells #[.string ⟨#[97, 98, 99, 100, 101, 102, 103, 104, 105, 106, 107, 108, 109, 110, 111]⟩, .string ⟨#[97, 98, 99, 100, 101, 102, 103, 104, 105, 106, 107, 108, 109, 110, 111, 112]⟩] 9)) str.size 0 5)) 5 ((bytesRow str (grownCap (w5.alloc (.cells #[.string ⟨#[97, 98, 99, 100, 101, 102, 103, 104, 105, 106, 107, 108, 109, 110, 111]⟩, .string ⟨#[97, 98, 99, 100, 101, 102, 103, 104, 105, 106, 107, 108, 109, 110, 111, 112]⟩] 9)) str.size 0 5)).size, (bytesRow str (grownCap (w5.alloc (.cells #[.string ⟨#[97, 98, 99, 100, 101, 102, 103, 104, 105, 106, 107, 108, 109, 110, 111]⟩, .string ⟨#[97, 98, 99, 100, 101, 102, 103, 104, 105, 106, 107, 108, 109, 110, 111, 112]⟩] 9)) str.size 0 5)).size + 1))).drew) W' (fun k => (k < base ∨ k = gn) ∨ some k = (Value.slice A1 xs.length c1).ownBlock)) => (show ElC W' ((some ⟨w5.heap.size + 1, 0, none⟩, (bytesOf str).length, grownCap (w5.alloc (.cells #[.string ⟨#[97, 98, 99, 100, 101, 102, 103, 104, 105, 106, 107, 108, 109, 110, 111]⟩, .string ⟨#[97, 98, 99, 100, 101, 102, 103, 104, 105, 106, 107, 108, 109, 110, 111, 112]⟩] 9)) str.size 0 5) : Tri) (bytesOf str) from ⟨rfl, (by show (bytesOf str).length ≤ grownCap _ _ _ _; rw [bytesOf_len]; exact grownCap_ge _ _ _ _), (by have hq := C_strK (w5.alloc (.cells #[.string ⟨#[97, 98, 99, 100, 101, 102, 103, 104, 105, 106, 107, 108, 109, 110, 111]⟩, .string ⟨#[97, 98, 99, 100, 101, 102, 103, 104, 105, 106, 107, 108, 109, 110, 111, 112]⟩] 9)) str (grownCap (w5.alloc (.cells #[.string ⟨#[97, 98, 99, 100, 101, 102, 103, 104, 105, 106, 107, 108, 109, 110, 111]⟩, .string ⟨#[97, 98, 99, 100, 101, 102, 103, 104, 105, 106, 107, 108, 109, 110, 111, 112]⟩] 9)) str.size 0 5) ((bytesRow str (grownCap (w5.alloc (.cells #[.string ⟨#[97, 98, 99, 100, 101, 102, 103, 104, 105, 106, 107, 108, 109, 110, 111]⟩, .string ⟨#[97, 98, 99, 100, 101, 102, 103, 104, 105, 106, 107, 108, 109, 110, 111, 112]⟩] 9)) str.size 0 5)).size, (bytesRow str (grownCap (w5.alloc (.cells #[.string ⟨#[97, 98, 99, 100, 101, 102, 103, 104, 105, 106, 107, 108, 109, 110, 111]⟩, .string ⟨#[97, 98, 99, 100, 101, 102, 103, 104, 105, 106, 107, 108, 109, 110, 111, 112]⟩] 9)) str.size 0 5)).size + 1) (by have := HSZ.out; omega) (fun k => (k < base ∨ k = gn) ∨ some k = (Value.slice A1 xs.length c1).ownBlock) (fun k hk => Nat.lt_of_lt_of_le (ST5.out.old k hk) (by simp)) W' hk; first | exact hq | simpa using hq)⟩));have hm1 : ∀ a, (w5.alloc a).cell? ⟨gn, 0, none⟩ = some (.slice A1 xs.length c1) := fun a => (blk_cell (blk_alloc ST5.out.bn a) 0).trans rfl;have hm2 : ∀ a b, ((w5.alloc a).alloc b).cell? ⟨gn, 0, none⟩ = some (.slice A1 xs.length c1) := fun a b => (blk_cell (blk_alloc (blk_alloc ST5.out.bn a) b) 0).trans rfl;have hm3 : ∀ a b c, (((w5.alloc a).alloc b).alloc c).cell? ⟨gn, 0, none⟩ = some (.slice A1 xs.length c1) := fun a b c => (blk_cell (blk_alloc (blk_alloc (blk_alloc ST5.out.bn a) b) c) 0).trans rfl;obtain ⟨ps, hO, hl, hC⟩ := STA.out.nm;have HO := ak hO;have HL := ak hl;have HC := ak hC;clear hO hl hC;obtain ⟨YS, HYS⟩ : ∃ Y, Aside0 (Y = xs ++ [bytesOf str]) := ⟨_, ⟨rfl⟩⟩;have HSY := ak (show SmallM YS by rw [HYS.out]; exact HSM.out.snoc (by have := HSL.out; omega) (by rw [bytesOf_len]; have := HSZ.out; omega))))
      all_goals
        go_wp2
        have ST_ := ST.out
        obtain ⟨A_, c_, e_, hlc_, hC_⟩ := ST_.nm.reads
        injection e_ with e1_ e2_ e3_
        subst e1_
        subst e3_
        refine bodyPost_ret (v := .agg #[.slice A2 YS.length c2]) (by simp [results, Try.results41, go_sem, *]) rfl ?_
        exact ⟨A2, c2, _, rfl, hlc_, HSY.out, fun W' hk => hC_ W' ((Kept.setCell (S := fun k => k < base ∨ k = gn) (Kept.refl _ _) (p := ⟨gr, 0, none⟩) (.inl (.inl ST_.n2)) _).then_ hk (fun k hk => .inl (.inl (by have := ST_.n1; have := ST_.n2; omega)))), ST_.cur.far (p := ⟨gr, 0, none⟩) (show g ≠ gr by have := ST_.n1; have := ST_.n3; omega) _, below_set ST_.bel (by have := ST_.n1; have := ST_.n4; omega), keep_far ST_.keep (p := ⟨gr, 0, none⟩) ST_.n1 _⟩
    · skip
      clear hx0 hx1
      go_wp2
      go_loopg [10] 20 (fun gq v10 W => ∃ (ys : List (List Int)) (v : Value), 20 - ys.length ≤ gq ∧ ys.length ≤ 10 ∧ Aside0 (SmallM ys) ∧ Aside0 (St w0 w g gr gn base s W v ys))
      case atStart => exact ⟨xs, v0, by omega, HSL.out, HSM, ST⟩
      case round =>
        clear ST HSM HSL xs v0
        obtain ⟨xs, v0, hg, hsl, HSM, ST⟩ := hrel
        have HSL := ak hsl
        have HG := ak hg
        clear hsl hg
        by_cases c6 : xs.length ≤ 6
        · have e6 : (xs.length : Int) ≤ 6 := by omega
          have C6 := ak c6
          clear c6
          obtain ⟨A1, c1, eo⟩ := ST.out.nm.slice
          subst eo
          have hn : wr.cell? ⟨gn, 0, none⟩ = some (.slice A1 xs.length c1) := (blk_cell ST.out.bn 0).trans rfl
          have HNEW := ak ST.out.new
          have hcv := conv_one wr 122
          replace ST := ak (ST.out.alloc (.cells #[.int .u8 122] 5 (1, 2)))
          obtain ⟨ps, hO, hl, hC⟩ := ST.out.nm
          have HO := ak hO
          have HL := ak hl
          have HC := ak hC
          obtain ⟨YS, HYS⟩ : ∃ Y, Aside0 (Y = xs ++ [[(122 : Int)]]) := ⟨_, ⟨rfl⟩⟩
          have HE := ak (fun W' (hk : Kept (wr.alloc (.cells #[.int .u8 122] 5 (1, 2))) W' (fun k => (k < base ∨ k = gn) ∨ some k = (Value.slice A1 xs.length c1).ownBlock)) => (show ElC W' (some ⟨wr.heap.size, 0, none⟩, 1, 1) [122] from ⟨rfl, Nat.le_refl _, C_oneK wr 122 _ HNEW.out W' hk⟩))
          clear hO hl hC
          have HSY := ak (show SmallM YS by rw [HYS.out]; exact HSM.out.snoc (by have := HSL.out; omega) (by simp))
          go_wp2_with ((with_reducible refine gate_builtin (b := .append) (xs := #[.tmp 15, .tmp 18]) rfl ?_);at_builtin;refine Kd.R_append KdT (w0 := wr.alloc (.cells #[.int .u8 122] 5 (1, 2))) base rfl (.tmp 15) (.tmp 18) 22 26 (.slice none 0 0) 24 rfl Try.underlying22 info26 rfl (by decide) (by omega) _ ps (some ⟨wr.heap.size, 0, none⟩, 1, 1) [triV (some ⟨wr.heap.size, 0, none⟩, 1, 1)] (fun k => ¬ (k < base ∨ k = gn)) (fun _ => False) rfl (by show Value.slice (some ⟨wr.heap.size + 1, 0, none⟩) 1 1 = _; simp) ?aP (fun _ hk => hk.elim) ?aF ?aO ?aB ?aS ?aL ?_;(case aP => exact rfl);(case aB => exact Below.refl _ _);(case aF => exact (fun k hk h => by have := ST.out.size; have := blk_lt ST.out.bn; rcases h with h | h <;> omega));(case aO => exact HO.out);(case aS => exact ST.out.size);(case aL => have := HSL.out; have := HL.out; omega);intro v1 w5 hR hb hg ha;have hp := ST.out.push (p := (some ⟨wr.heap.size, 0, none⟩, 1, 1)) (x := [122]) HE.out HO.out HL.out HC.out hR hb hg ha;obtain ⟨A2, c2, eo⟩ := Kd.R_slice hR;subst eo;have hl2 : (ps ++ [((some ⟨wr.heap.size, 0, none⟩, 1, 1) : Tri)]).length = YS.length := (by have := HL.out; rw [HYS.out, List.length_append, List.length_append, this]; rfl);rw [hl2] at hp ⊢;have BN5 := hp.1;have hn5 : w5.cell? ⟨gn, 0, none⟩ = some (.slice A1 xs.length c1) := (blk_cell BN5 0).trans rfl;have hf5 : w5.frozen? ⟨gn, 0, none⟩ = false := blk_frozen BN5 0;replace ST := ak hp.2;rw [← HYS.out] at ST;have hf6 := blk_frozen ST.out.br 0;have hc6 := (blk_cell ST.out.br 0).trans rfl;clear HO HL HC hR hb hg ha hp hl2 BN5 hn)
          go_roundg (20 - (xs.length + 1))
          case measure => have := HG.out; have := C6.out; omega
          case rel => exact ⟨YS, _, by rw [HYS.out, List.length_append, List.length_singleton]; omega, by have := C6.out; rw [HYS.out, List.length_append, List.length_singleton]; omega, HSY, ST⟩
        · have e6 : ¬ (xs.length : Int) ≤ 6 := by omega
          clear c6
          have ST_ := ST.out
          obtain ⟨A_, c_, e_, hlc_, hC_⟩ := ST_.nm.reads
          subst e_
          have hf_ : wr.frozen? ⟨gr, 0, none⟩ = false := blk_frozen ST_.br 0
          have hc_ : wr.cell? ⟨gr, 0, none⟩ = some (.slice none 0 0) := (blk_cell ST_.br 0).trans rfl
          have hn_ : wr.cell? ⟨gn, 0, none⟩ = some (.slice A_ (xs).length c_) := (blk_cell ST_.bn 0).trans rfl
          clear ST_
          go_wp2
          have ST_ := ST.out
          refine bodyPost_ret (v := .agg #[.slice A_ (xs).length c_]) (by simp [results, Try.results41, go_sem, *]) rfl ?_
          exact ⟨A_, c_, _, rfl, hlc_, HSM.out, fun W' hk => hC_ W' ((Kept.setCell (S := fun k => k < base ∨ k = gn) (Kept.refl _ _) (p := ⟨gr, 0, none⟩) (.inl (.inl ST_.n2)) _).then_ hk (fun k hk => .inl (.inl (by have := ST_.n1; have := ST_.n2; omega)))), ST_.cur.far (p := ⟨gr, 0, none⟩) (show g ≠ gr by have := ST_.n1; have := ST_.n3; omega) _, below_set ST_.bel (by have := ST_.n1; have := ST_.n4; omega), keep_far ST_.keep (p := ⟨gr, 0, none⟩) ST_.n1 _⟩

/-- A client and a name are drawn: both can be read. -/
def DH (w w' : World) (A : Option Addr) (c : Nat) (l : List Int) (A1 : Option Addr) (c1 : Nat) (n : List (List Int)) : Prop :=
  l.length ≤ c ∧ (l.length ≤ 17 ∧ ∀ x ∈ l, 0 ≤ x ∧ x ≤ 255) ∧ n.length ≤ c1 ∧ SmallM n ∧ Kd.C (Kd.int .u8) w' A l.length l ∧ Kd.C (Kd.slice 5 (Kd.int .u8)) w' A1 n.length n ∧ Below w.heap.size w w'
theorem C_zeros (W : World) (g n : Nat) (hn : n ≤ 9223372036854775807) (h : W.heap[g]? = some (.cells (madeCells #[.int .u8 0] n) 5 (0, 0))) : Kd.C (Kd.int .u8) W (some ⟨g, 0, none⟩) (List.replicate n (0 : Int)).length (List.replicate n (0 : Int)) := by
  refine Kd.C_of_reads (enc := Value.int .u8) (d := (0 : Int)) (h1 := fun _ => rfl) ⟨rfl, by simpa using hn, fun _ => ⟨_, rfl, fun j hj => ?_⟩⟩
  have hj2 : j < n := by simpa using hj
  have h3 : (⟨g, 0, none⟩ : Addr).add j = ⟨g, j, none⟩ := by
    unfold Addr.add
    by_cases h : j = 0 <;> simp [h]
  rw [h3, blk_cell h, ← Array.getElem?_toList, toList_madeCells_one]
  simp [hj2, List.getD_eq_getElem?_getD]
theorem C_int3 (W : World) (g : Nat) (a b c : Int) (h : W.heap[g]? = some (.cells #[.int .i64 a, .int .i64 b, .int .i64 c] 3 (0, 0))) : Kd.C (Kd.int .i64) W (some ⟨g, 0, none⟩) [a, b, c].length [a, b, c] :=
  Kd.C_of_reads (d := 0) ⟨rfl, by simp, fun _ => ⟨_, rfl, fun j hj => match j, hj with
    | 0, _ => (blk_cell h 0).trans rfl
    | 1, _ => (blk_cell h 1).trans rfl
    | 2, _ => (blk_cell h 2).trans rfl⟩⟩
set_option maxHeartbeats 4000000 in
set_option maxRecDepth 100000 in
theorem drawdhcid_any (A0 : Option Addr) (c0 : Nat) (s : List Int) (w : World) (hs : s.length ≤ 140737488351232) (hr : Kd.C (Kd.int .u8) w A0 s.length s) (hc : s.length ≤ c0) :
    Calls Try.prog 22 #[.slice A0 s.length c0] w fun e w' => ∃ A c l A1 c1 n, e = .returned (.tuple #[.slice A l.length c, .agg #[.slice A1 n.length c1]]) ∧ DH w w' A c l A1 c1 n := by
  have HS := ak hs
  have HR := ak hr
  have HC := ak hc
  clear hs hr hc
  go_enter Try.func22, Try.ntmps22
  go_wp2_with (fail)
  have BR := ak (heap_alloc_new w (.cells #[.slice none 0 0] 28))
  have HB := ak (below_alloc (Below.refl w.heap.size w) (.cells #[.slice none 0 0] 28))
  generalize w.alloc (.cells #[.slice none 0 0] 28) = W1 at BR HB ⊢
  have GR := ak (Nat.le_refl w.heap.size)
  obtain ⟨gr, BR, GR, hgoal⟩ : ∃ gr, Aside0 (W1.heap[gr]? = some (.cells #[.slice none 0 0] 28 (0, 0))) ∧ Aside0 (w.heap.size ≤ gr) ∧ Aside0 (gr = w.heap.size) := ⟨_, BR, GR, ⟨rfl⟩⟩
  rw [← hgoal.out]
  clear hgoal
  refine (cur_new A0 c0 s w W1 HS.out HB.out HR.out HC.out).mono ?_
  rintro e w2 ⟨g, rfl, hI, hB, hb⟩
  replace BR := ak (blk_below BR.out hb)
  have GN := ak (show g ≠ gr by obtain ⟨i, h, _, A, c, h1, _⟩ := hI; exact blk_ne h1 BR.out (by decide))
  have HI := ak hI
  replace HB := ak hB
  clear hI hB hb
  go_wp2_with (fail)
  refine (cur_once w _ g s 8 HS.out HI.out HB.out (by omega) (by omega)).mono ?_
  rintro e w3 ⟨b, rfl, hI, hB, hk⟩
  replace BR := ak (keep_blk hk BR.out (Ne.symm GN.out))
  replace HI := ak hI
  replace HB := ak hB
  clear hI hB hk
  have GL := ak HI.out.lt
  have GRL := ak (blk_lt BR.out)
  cases b with
  | false =>
    go_wp2_with (fail)
    refine (l7client_any w w3 g s HS.out HI.out HB.out).mono ?_
    rintro e w4 ⟨v0, l, rfl, hrd, hx, hI, hB, hk⟩
    replace BR := ak (keep_blk hk BR.out (Ne.symm GN.out))
    have HKS := ak hk.1
    have HRD := ak hrd
    have HX := ak hx
    replace HI := ak hI
    replace HB := ak hB
    clear hI hB hk hrd hx
    go_wp2_with (fail)
    refine (l2bent_any w w4 g s HS.out HI.out HB.out).mono ?_
    rintro e w5 ⟨A1, c1, n, rfl, hlc, hsm, hC, hI, hB, hk⟩
    replace BR := ak (keep_blk hk BR.out (Ne.symm GN.out))
    have HC1 := ak hC
    have HK := ak (Kept.of_but hk)
    have HB5 := ak hB
    have HLC := ak hlc
    have HSM := ak hsm
    clear hI hB hk hC hlc hsm HI HB
    obtain ⟨A, c, eo, hlc2, hC2⟩ := HRD.out
    subst eo
    have HLC2 := ak hlc2
    have HC2 := ak hC2
    clear hlc2 hC2 HRD
    have hf : w5.frozen? ⟨gr, 0, none⟩ = false := blk_frozen BR.out 0
    have hcz : w5.cell? ⟨gr, 0, none⟩ = some (.slice none 0 0) := (blk_cell BR.out 0).trans rfl
    go_wp2
    refine bodyPost_ret (v := .tuple #[.slice A l.length c, .agg #[.slice A1 n.length c1]]) (by simp [results, Try.results22, go_sem, *]) rfl ?_
    refine ⟨A, c, l, A1, c1, n, rfl, HLC2.out, HX.out, HLC.out, HSM.out, HC2.out _ ?_, HC1.out _ ?_, below_set HB5.out GR.out⟩
    · exact (HK.out.mono (S' := fun k => k < w3.heap.size) (fun k hk => by rw [hk]; exact GL.out)).setCell (.inl GRL.out) _
    · exact Kept.setCell (S := fun k => k < w4.heap.size) (Kept.refl _ _) (p := ⟨gr, 0, none⟩) (.inl (Nat.lt_of_lt_of_le GRL.out HKS.out)) _
  | true =>
    go_wp2
    go_region_law (first
      | (go_simp; go_at_call 40; refine (cur_pick w _ g s (some ⟨w3.heap.size, 0, none⟩) 3 [0, 16, 17] HS.out ((HI.out.alloc _).drew) (below_drew1 (below_alloc HB.out _)) ⟨by decide, by decide⟩ (C_int3 _ _ 0 16 17 (blk_drew (heap_alloc_new _ _))) (by decide) (fun ad e _ => by injection e with e; subst e; exact Ne.symm (Nat.ne_of_lt GL.out))).mono ?_; rintro e w4 ⟨x, hxm, rfl, hI, hB, hk⟩; obtain ⟨m, rfl, hm⟩ : ∃ m : Nat, x = (m : Int) ∧ m ≤ 17 := ⟨x.toNat, by simp at hxm; omega, by simp at hxm; omega⟩; replace BR := ak (keep_blk hk (blk_drew (blk_alloc BR.out _)) (Ne.symm GN.out)); have HM := ak hm; have GL4 := ak hI.lt; have GRL4 := ak (blk_lt BR.out); replace HI := ak hI; replace HB := ak hB; have hmk := print_make (P := Try.prog) 26 5 .u8 1 Try.underlying26 info5 (by decide) m (by omega); clear hxm hI hB hk hm)
      | (go_simp; go_at_call 41; refine (l2bent_any w w4 g s HS.out HI.out HB.out).mono ?_; rintro e w5 ⟨A1, c1, n, rfl, hlc, hsm, hC, hI, hB, hk⟩; have BR5 := ak (keep_blk hk BR.out (Ne.symm GN.out)); have HC1 := ak (show ∀ W', Kept w5 W' (fun k => k < w4.heap.size) → Kd.C (Kd.slice 5 (Kd.int .u8)) W' A1 n.length n from hC); have HLC := ak hlc; have HSM := ak hsm; have HB5 := ak hB; have BZ := ak (show w5.heap.size = w5.heap.size from rfl); clear hlc hsm hC hI hB hk; have hf : ∀ o, (w5.alloc o).frozen? ⟨gr, 0, none⟩ = false := fun o => blk_frozen (blk_alloc BR5.out o) 0; have hcz : ∀ o, (w5.alloc o).cell? ⟨gr, 0, none⟩ = some (.slice none 0 0) := fun o => (blk_cell (blk_alloc BR5.out o) 0).trans rfl)
      | (go_simp; go_at_call 41; refine (l2bent_any w (w4.alloc (.cells (madeCells #[.int .u8 0] m) 5)) g s HS.out (HI.out.alloc _) (below_alloc HB.out _)).mono ?_; rintro e w5 ⟨A1, c1, n, rfl, hlc, hsm, hC, hI, hB, hk⟩; have BR5 := ak (keep_blk hk (blk_alloc BR.out _) (Ne.symm GN.out)); have HC1 := ak (show ∀ W', Kept w5 W' (fun k => k < w4.heap.size) → Kd.C (Kd.slice 5 (Kd.int .u8)) W' A1 n.length n from fun W' hk' => hC W' (hk'.mono fun k hk' => by simp; omega)); have HLC := ak hlc; have HSM := ak hsm; have HB5 := ak hB; have BZ := ak (keep_blk hk (heap_alloc_new w4 (.cells (madeCells #[.int .u8 0] m) 5)) (Ne.symm (Nat.ne_of_lt GL4.out))); clear hlc hsm hC hI hB hk; have hf : w5.frozen? ⟨gr, 0, none⟩ = false := blk_frozen BR5.out 0; have hcz : w5.cell? ⟨gr, 0, none⟩ = some (.slice none 0 0) := (blk_cell BR5.out 0).trans rfl))
    · go_wp2
      refine bodyPost_ret (v := .tuple #[.slice (some ⟨w4.heap.size, 0, none⟩) m m, .agg #[.slice A1 n.length c1]]) (by simp [results, Try.results22, go_sem, *]) rfl ?_
      refine ⟨some ⟨w4.heap.size, 0, none⟩, m, List.replicate m (0 : Int), A1, c1, n, by rw [List.length_replicate], by simp, ⟨by have := HM.out; simpa using this, fun x hx => by rw [List.eq_of_mem_replicate hx]; omega⟩, HLC.out, HSM.out, C_zeros _ _ m (by have := HM.out; omega) (blk_far BZ.out (p := ⟨gr, 0, none⟩) (Ne.symm (Nat.ne_of_lt GRL4.out)) _), HC1.out _ (Kept.setCell (S := fun k => k < w4.heap.size) (Kept.refl _ _) (p := ⟨gr, 0, none⟩) (.inl GRL4.out) _), below_set HB5.out GR.out⟩
    · go_wp2
      refine bodyPost_ret (v := .tuple #[.slice (some ⟨w5.heap.size, 0, none⟩) m m, .agg #[.slice A1 n.length c1]]) (by simp [results, Try.results22, go_sem, *]) rfl ?_
      refine ⟨some ⟨w5.heap.size, 0, none⟩, m, List.replicate m (0 : Int), A1, c1, n, by rw [List.length_replicate], by simp, ⟨by have := HM.out; simpa using this, fun x hx => by rw [List.eq_of_mem_replicate hx]; omega⟩, HLC.out, HSM.out, C_zeros _ _ m (by have := HM.out; omega) (blk_far (heap_alloc_new w5 _) (p := ⟨gr, 0, none⟩) (Ne.symm (Nat.ne_of_lt (blk_lt BR5.out))) _), HC1.out _ (Kept.setCell (S := fun k => k < w4.heap.size) ((Kept.refl w5 _).alloc _) (p := ⟨gr, 0, none⟩) (.inl GRL4.out) _), below_set (below_alloc HB5.out _) GR.out⟩

/-! ### spec_Sha256: function 16 -/
def spec_Sha256.f (l0 : List Int) : Option (List Int) := if (l0.length : Int) > 4096 then (some ([] : List Int)) else ((spec_l7sum.f l0).bind fun t101 => (some t101))
set_option maxHeartbeats 8000000 in
set_option maxRecDepth 100000 in
theorem spec_Sha256.calls (A0 : Option Addr) (c0 : Nat) (l0 : List Int) (r : List Int) (w : World) (hr0 : Kd.C (Kd.int .u8) w A0 l0.length l0) (hc0 : l0.length ≤ c0) (h : spec_Sha256.f l0 = some r) :
  Calls Try.prog 16 #[.slice A0 l0.length c0] w fun e w' => ∃ v0_ : Value, e = .returned (v0_) ∧ Kd.R (Kd.int .u8) 5 w' w.heap.size (fun _ => True) v0_ r ∧ Below w.heap.size w w' := by
 have HR0 := ak hr0
 have HC0 := ak hc0
 clear hr0 hc0
 have HB := ak (Below.refl w.heap.size w)
 have H : (if (l0.length : Int) > 4096 then (some ([] : List Int)) else ((spec_l7sum.f l0).bind fun t101 => (some t101))) = some r := h
 clear h
 replace H := ig H
 obtain ⟨c2b0, H⟩ | ⟨c2b0, H⟩ := H
 ·have c2b1 : decide (4096 < l0.length) = true := decide_eq_true (by have := of_decide_eq_true c2b0; omega)
  obtain rfl := Option.some.inj H
  go_enter Try.func16, Try.ntmps16
  go_wp2
  go_ret
  exact ⟨_, o1, by first | exact Kd.R_nil _ _ _ _ _ | exact Kd.N_nil _ _ _ _ _ | exact Kd.V_nil _ _ _ _ _ | exact Kd.Q_nil _ _ _ _ _ | exact Kd.S_nil _ _ _ _ _, bw HB.out⟩
 ·have c2b1 : decide (4096 < l0.length) = false := decide_eq_false (by have := of_decide_eq_false c2b0; omega)
  replace H := bnd H
  obtain ⟨t101, A3, H⟩ := H
  obtain rfl := Option.some.inj H
  go_enter Try.func16, Try.ntmps16
  go_wp2_with (((with_reducible refine gate_callee (f := 32) rfl ?_);refine glG 7 rfl rfl Try.func32 (spec_l7sum.calls _ _ l0 t101 _ (cd HR0) HC0.out A3.out) ?_;rintro e w4 ⟨v102, rfl, ho0, hb⟩;refine ⟨_, rfl, ?_⟩;have HO103 := ak (Kd.R_lower ho0 (below_size (bw HB.out)));replace HB := b2 HB hb;(try clear hb);(try clear ho0)))
  go_ret
  exact ⟨_, o1, rw_ HO103.out, bw HB.out⟩

/-! ### impl_Sha256: function 18 -/
def impl_Sha256.f (l0 : List Int) : Option (List Int) := if (l0.length : Int) > 4096 then (some ([] : List Int)) else ((impl_sha256.f l0).bind fun t101 => (some t101))
set_option maxHeartbeats 8000000 in
set_option maxRecDepth 100000 in
theorem impl_Sha256.calls (A0 : Option Addr) (c0 : Nat) (l0 : List Int) (r : List Int) (w : World) (hr0 : Kd.C (Kd.int .u8) w A0 l0.length l0) (hc0 : l0.length ≤ c0) (h : impl_Sha256.f l0 = some r) :
  Calls Try.prog 18 #[.slice A0 l0.length c0] w fun e w' => ∃ v0_ : Value, e = .returned (v0_) ∧ Kd.R (Kd.int .u8) 5 w' w.heap.size (fun _ => True) v0_ r ∧ Below w.heap.size w w' := by
 have HR0 := ak hr0
 have HC0 := ak hc0
 clear hr0 hc0
 have HB := ak (Below.refl w.heap.size w)
 have H : (if (l0.length : Int) > 4096 then (some ([] : List Int)) else ((impl_sha256.f l0).bind fun t101 => (some t101))) = some r := h
 clear h
 replace H := ig H
 obtain ⟨c2b0, H⟩ | ⟨c2b0, H⟩ := H
 ·have c2b1 : decide (4096 < l0.length) = true := decide_eq_true (by have := of_decide_eq_true c2b0; omega)
  obtain rfl := Option.some.inj H
  go_enter Try.func18, Try.ntmps18
  go_wp2
  go_ret
  exact ⟨_, o1, by first | exact Kd.R_nil _ _ _ _ _ | exact Kd.N_nil _ _ _ _ _ | exact Kd.V_nil _ _ _ _ _ | exact Kd.Q_nil _ _ _ _ _ | exact Kd.S_nil _ _ _ _ _, bw HB.out⟩
 ·have c2b1 : decide (4096 < l0.length) = false := decide_eq_false (by have := of_decide_eq_false c2b0; omega)
  replace H := bnd H
  obtain ⟨t101, A3, H⟩ := H
  obtain rfl := Option.some.inj H
  go_enter Try.func18, Try.ntmps18
  go_wp2_with (((with_reducible refine gate_callee (f := 33) rfl ?_);refine glG 7 rfl rfl Try.func33 (impl_sha256.calls _ _ l0 t101 _ (cd HR0) HC0.out A3.out) ?_;rintro e w4 ⟨v102, rfl, ho0, hb⟩;refine ⟨_, rfl, ?_⟩;have HO103 := ak (Kd.R_lower ho0 (below_size (bw HB.out)));replace HB := b2 HB hb;(try clear hb);(try clear ho0)))
  go_ret
  exact ⟨_, o1, rw_ HO103.out, bw HB.out⟩

/-! ### laws_same: function 21 -/
def laws_same.f (l0 : List Int) (l1 : List Int) : Option (Bool) := some ((strOfNums l0).toList == (strOfNums l1).toList)
set_option maxHeartbeats 8000000 in
set_option maxRecDepth 100000 in
theorem laws_same.calls (A0 : Option Addr) (c0 : Nat) (l0 : List Int) (A1 : Option Addr) (c1 : Nat) (l1 : List Int) (r : Bool) (w : World) (hr0 : Kd.C (Kd.int .u8) w A0 l0.length l0) (hc0 : l0.length ≤ c0) (hr1 : Kd.C (Kd.int .u8) w A1 l1.length l1) (hc1 : l1.length ≤ c1) (h : laws_same.f l0 l1 = some r) :
  Calls Try.prog 21 #[.slice A0 l0.length c0, .slice A1 l1.length c1] w fun e w' => e = .returned (.bool r) ∧ Drawn0 w w' := by
 have HR0 := ak hr0
 have HC0 := ak hc0
 clear hr0 hc0
 have HR1 := ak hr1
 have HC1 := ak hc1
 clear hr1 hc1
 have H : (some ((strOfNums l0).toList == (strOfNums l1).toList)) = some r := h
 clear h
 obtain rfl := Option.some.inj H
 have hcv3 := Kd.C_string (P := Try.prog) (A := A0) (c := c0) Try.underlying26 Try.underlying5 Try.underlying9 HR0.out
 have hcv4 := Kd.C_string (P := Try.prog) (A := A1) (c := c1) Try.underlying26 Try.underlying5 Try.underlying9 HR1.out
 go_enter Try.func21, Try.ntmps21
 go_wp2
 go_ret
 exact ⟨o2, od⟩

/-! ### spec_NamePut: function 23 -/
def spec_NamePut.f (k : Nat) (l0 : List Int) (l1_0 : List (List Int)) : Option (List Int × Bool) := (spec_NameOk.f k l1_0).bind fun t102 => (if t102 = true then ((some (([] : List Int) : List Int)).bind fun y103 => (if y103.length + l0.length < 140737488355328 then ((spec_l2put.f (y103 ++ l0) l1_0).bind fun t109 => (some (t109, true))) else (none))) else (some (([] : List Int), false)))
set_option maxHeartbeats 8000000 in
set_option maxRecDepth 100000 in
theorem spec_NamePut.calls (k : Nat) (A0 : Option Addr) (c0 : Nat) (l0 : List Int) (A1_0 : Option Addr) (c1_0 : Nat) (l1_0 : List (List Int)) (r1 : List Int) (r2 : Bool) (w : World) (hr0 : Kd.C (Kd.int .u8) w A0 l0.length l0) (hc0 : l0.length ≤ c0) (hr1_0 : Kd.C (Kd.slice 5 (Kd.int .u8)) w A1_0 l1_0.length l1_0) (hc1_0 : l1_0.length ≤ c1_0) (h : spec_NamePut.f k l0 l1_0 = some (r1, r2)) :
  Calls Try.prog 23 #[.slice A0 l0.length c0, .agg #[.slice A1_0 l1_0.length c1_0]] w fun e w' => ∃ v0_ : Value, e = .returned (.tuple #[v0_, .bool r2]) ∧ Kd.R (Kd.int .u8) 5 w' w.heap.size (fun _ => True) v0_ r1 ∧ Below w.heap.size w w' := by
 have hu28 := Try.underlying28
 have HR0 := ak hr0
 have HC0 := ak hc0
 clear hr0 hc0
 have HR1_0 := ak hr1_0
 have HC1_0 := ak hc1_0
 clear hr1_0 hc1_0
 have HB := ak (Below.refl w.heap.size w)
 have H : ((spec_NameOk.f k l1_0).bind fun t102 => (if t102 = true then ((some (([] : List Int) : List Int)).bind fun y103 => (if y103.length + l0.length < 140737488355328 then ((spec_l2put.f (y103 ++ l0) l1_0).bind fun t109 => (some (t109, true))) else (none))) else (some (([] : List Int), false)))) = some (r1, r2) := h
 clear h
 replace H := bnd H
 obtain ⟨t102, A3, H⟩ := H
 replace H := ib H
 obtain ⟨rfl, H⟩ | ⟨rfl, H⟩ := H
 ·replace H : ∃ y103 : List Int, y103 = (([] : List Int)) ∧ (if y103.length + l0.length < 140737488355328 then ((spec_l2put.f (y103 ++ l0) l1_0).bind fun t109 => (some (t109, true))) else (none)) = some (r1, r2) := ⟨_, rfl, H⟩
  obtain ⟨y103, hy103, H⟩ := H
  have Ny103 := ak hy103
  clear hy103
  by_cases c5 : y103.length + l0.length < 140737488355328
  ·rw [if_pos c5] at H
   have LMc5 := ak c5
   clear c5
   obtain ⟨y106, hy106⟩ : ∃ y_ : List Int, y_ = (y103 ++ l0) := ⟨_, rfl⟩
   (try with_reducible replace H := bnS H)
   (try rw [← hy106] at H)
   have Ny106 := ak hy106
   clear hy106
   replace H := bnd H
   obtain ⟨t109, A6, H⟩ := H
   simp only [Option.some.injEq, Prod.mk.injEq] at H
   obtain ⟨rfl, rfl⟩ := H
   go_enter Try.func23, Try.ntmps23
   try go_wp2_with (first | ((with_reducible refine gate_dst (N := 3) rfl ?_);refine bxd (N := 3) rfl HB ?_;clear HB;intro gb101 w7 hg HB BK101 GE101 hb;have GW101 := GE101;clear hb hg;obtain ⟨hcz8_0, hfz8_0⟩ := cells1 BK101.out) | ((with_reducible refine gate_callee (f := 26) rfl ?_);refine glB 7 rfl rfl Try.func26 (spec_NameOk.calls k _ _ l1_0 true _ (cv HR1_0 HB) HC1_0.out A3.out) (fun w9 hb => ?_);replace BK101 := b1 BK101 hb;replace HB := b2s bs hb;(try clear hb)))
   replace BK101 := ak (blk_drew BK101.out)
   replace HB := ak (below_drew1 HB.out)
   refine start_ (n := 7) (S := fun w' => w'.cell? ⟨gb101, 0, none⟩ = some (.slice A1_0 l1_0.length c1_0)) (ds := []) (bA 7 0) (by kernel_rfl) rfl rfl ((blk_cell BK101.out 0).trans rfl) (fun hHeld => ?_)
   generalize w9.drew = w10 at BK101 HB hHeld ⊢
   refine pure_ (i := 1) (N := some 10) (v := ?_) (a' := ?_) (bA 7 2) rfl rfl (by kernel_rfl) (fun _ _ _ h => h) (Or.inl ⟨by rfl, ?_⟩) ?_ ?_
   rotate_left; intro w'; go_simp; with_reducible rfl; rotate_left; go_simp; rfl
   refine take_ (i := 3) (N := some 12) (v := ?_) (a' := ?_) (bA 7 10) rfl rfl (by kernel_rfl) (fun _ _ _ h => h) (Or.inl ⟨by rfl, ?_⟩) hHeld ?_ ?_
   rotate_left; intro w' s0; go_simp; with_reducible rfl; rotate_left; go_simp; rfl
   refine one_ (i := 0) (N := some 9) (bA 7 11) rfl rfl (by kernel_rfl) (by decide) (fun K hK => ?_)
   refine Kd.R_lit_step (Kd.int .u8) _ 5 ?hg (N := 9) ?hd (xs := ([] : List Int)) (inner := []) (ok := fun _ => True) (okp := fun _ => True) ?hr ?hp (fun _ hk => hk) trivial (Below.refl _ _) (Nat.le_refl _) (by simp) ?_; (case hd => rfl); (case hg => rfl); (case hr => first | (go_simp; done) | (go_simp; rfl)); (case hp => exact (Reps.none _ _))
   intro v104 w11 ho12 hb hg_ hnew_
   clear hg_ hnew_
   (first | rw [← Ny103.out] at ho12 | (simp only [Int.reduceToNat] at ho12; rw [← Ny103.out] at ho12))
   have HO105 := ak (Kd.R_lower ho12 (below_size bs))
   replace BK101 := b1 BK101 hb
   replace HB := b2s bs hb
   clear hb ho12
   refine hK.out _ _ ((blk_cell BK101.out 0).trans rfl) (fun hHeld => ?_)
   clear hK K
   refine norm_ (a' := ?_) ?_ ?_; rotate_left; go_simp; rfl
   refine one_ (i := 2) (N := some 11) (bA 7 15) rfl rfl (by kernel_rfl) (by decide) (fun K hK => ?_)
   refine Kd.R_append_rows_step (Kd.int .u8) (w0 := w) w.heap.size (by rfl) (.tmp 9) (.tmp 10) 26 5 (.int .u8 0) 1 rfl Try.underlying26 info5 rfl (by decide) (by omega) v104 y103 l0 _ _ _ (fun _ => True) (fun _ => False) rfl rfl ?aO ?aR (fun _ _ h => h) (fun _ h => h.elim) ?aF ?aB ?aS ?aL ?_
   (case aR => exact cw HR0.out HB.out)
   (case aB => exact bs)
   (case aF => exact (fun _ _ => trivial))
   (case aO => exact (rw_ HO105.out))
   (case aS => exact (below_size bs))
   (case aL => have := LMc5.out; omega)
   intro v107 w13 ho hb hg hat
   rw [← Ny106.out] at ho
   replace BK101 := ak (blk_grown (bk BK101.out) hg (Kd.R_ne HO105.out BK101.out (by decide)))
   replace HB := ak (hb)
   have HO108 := ak (ho)
   clear HO105 ho hb hg hat
   obtain ⟨Ao14, co14, eo14⟩ := Kd.R_slice HO108.out
   (first | subst eo14 | (injection eo14 with f1_ f2_ f3_; have f4_ := f1_.symm; have f5_ := f3_.symm; clear f1_ f2_ f3_; subst f4_; subst f5_))
   refine hK.out _ _ ((blk_cell BK101.out 0).trans rfl) (fun hHeld => ?_)
   clear hK K
   refine norm_ (a' := ?_) ?_ ?_; rotate_left; go_simp; rfl
   refine one_ (i := 4) (N := some 13) (bA 7 31) rfl rfl (by kernel_rfl) (by decide) (fun K hK => ?_)
   refine gsG Try.func43 (spec_l2put.calls (fun k_ => some k_ = (.slice Ao14 y106.length co14 : Value).ownBlock) (.slice Ao14 y106.length co14) y106 _ _ l1_0 t109 w _ ?side1 ?side2 ?side3 HC1_0.out A6.out) ?_
   (case side1 => repeat (first | (with_reducible first | exact HB.out | apply below_alloc | apply pw_below_drewN | apply below_drew1 | refine below_set ?_ GE101.out) | exact HB.out))
   (case side2 => exact Kd.R_tight rfl HO108.out)
   (case side3 => exact Kd.C_kept_came (Kd.heap_slice 5 (Kd.heap_int .u8)) HR1_0.out bs (fun k_ hs_ => (fun e_ => Kd.R_base HO108.out k_ e_.symm) hs_))
   rintro e w15 ⟨v110, rfl, ho0, hb, hkp⟩
   refine ⟨_, rfl, ?_⟩
   replace BK101 := ak (blk_kept (bk BK101.out) hkp (fun hs_ => (fun e_ => (Kd.R_ne HO108.out BK101.out (by decide)) e_) hs_))
   have HO111 := ak (Kd.R_mono (ok' := fun k_ => True) ho0 (fun k_ hk_ => trivial))
   replace HB := ak (hb)
   clear HO108
   (try clear hb)
   (try clear hkp)
   (try clear ho0)
   refine hK.out _ _ ((blk_cell BK101.out 0).trans rfl) (fun hHeld => ?_)
   clear hK K
   refine norm_ (a' := ?_) ?_ ?_; rotate_left; go_simp; rfl
   refine pure_ (i := 5) (N := some 4) (v := ?_) (a' := ?_) (bA 7 63) rfl rfl (by kernel_rfl) (fun _ _ _ h => h) (Or.inl ⟨by rfl, ?_⟩) ?_ ?_
   rotate_left; intro w'; go_simp; with_reducible rfl; rotate_left; go_simp; rfl
   refine pure_ (i := 6) (N := some 5) (v := ?_) (a' := ?_) (bA 7 127) rfl rfl (by kernel_rfl) (fun _ _ _ h => h) (Or.inl ⟨by rfl, ?_⟩) ?_ ?_
   rotate_left; intro w'; go_simp; with_reducible rfl; rotate_left; go_simp; rfl
   refine done_ (by kernel_rfl) ?_
   try go_wp2
   go_ret2
   exact ⟨_, o1, rw_ HO111.out, bs⟩
  ·rw [if_neg c5] at H
   exact absurd H (by simp)
 ·simp only [Option.some.injEq, Prod.mk.injEq] at H
  obtain ⟨rfl, rfl⟩ := H
  go_enter Try.func23, Try.ntmps23
  go_wp2_with (first | ((with_reducible refine gate_dst (N := 3) rfl ?_);refine bxd (N := 3) rfl HB ?_;clear HB;intro gb101 w16 hg HB BK101 GE101 hb;have GW101 := GE101;clear hb hg;obtain ⟨hcz17_0, hfz17_0⟩ := cells1 BK101.out) | ((with_reducible refine gate_callee (f := 26) rfl ?_);refine glB 7 rfl rfl Try.func26 (spec_NameOk.calls k _ _ l1_0 false _ (cv HR1_0 HB) HC1_0.out A3.out) (fun w18 hb => ?_);replace BK101 := b1 BK101 hb;replace HB := b2s bs hb;(try clear hb)))
  go_ret2
  exact ⟨_, o1, by first | exact Kd.R_nil _ _ _ _ _ | exact Kd.N_nil _ _ _ _ _ | exact Kd.V_nil _ _ _ _ _ | exact Kd.Q_nil _ _ _ _ _ | exact Kd.S_nil _ _ _ _ _, bs⟩

end Go.Proofs.Ytkmchjdioplfjaa.Q
