-- Printed by a program of this session (wip/myprint.py), which drives the kit's printer.
import Derived.Test.YtblmnkjiefanfaaQ0
import Derived.Test.YtblmnkjiefanfaaQ65
namespace Go.Proofs.Ytblmnkjiefanfaa.Q
open Go.RowKit Go Go.Proofs.YtblmnkjiefanfaaW.PrintWords Go.Proofs.YtblmnkjiefanfaaW.PrintLast Go.Proofs.YtblmnkjiefanfaaW.PrintMore
attribute [local go_sem] max2_int min2_int max_two min_two max_three min_three max_four min_four   -- for this text's walks alone
set_option linter.unusedVariables false
set_option linter.unusedSimpArgs false

/-! ### slices_Concat_byte_byte: function 51 -/

def slices_Concat_byte_byte.total (ll : List (List Int)) : Nat := (ll.map List.length).sum
def slices_Concat_byte_byte.f (l0 : List (List Int)) : Option (List Int) := if slices_Concat_byte_byte.total l0 < 140737488355328 then some l0.flatten else none
theorem slices_Concat_byte_byte.total_snoc (l : List (List Int)) (x : List Int) : slices_Concat_byte_byte.total (l ++ [x]) = slices_Concat_byte_byte.total l + x.length := by simp [slices_Concat_byte_byte.total]
theorem slices_Concat_byte_byte.total_take (l : List (List Int)) (k : Nat) : slices_Concat_byte_byte.total (l.take k) ≤ slices_Concat_byte_byte.total l := by
  have h := congrArg slices_Concat_byte_byte.total (List.take_append_drop k l)
  have h2 : slices_Concat_byte_byte.total (l.take k ++ l.drop k) = slices_Concat_byte_byte.total (l.take k) + slices_Concat_byte_byte.total (l.drop k) := by simp only [slices_Concat_byte_byte.total, List.map_append, List.sum_append]
  omega
theorem slices_Concat_byte_byte.flatten_len (l : List (List Int)) : l.flatten.length = slices_Concat_byte_byte.total l := by simp [slices_Concat_byte_byte.total, List.length_flatten]
set_option maxHeartbeats 8000000 in
set_option maxRecDepth 100000 in
theorem slices_Concat_byte_byte.calls (A0 : Option Addr) (c0 : Nat) (l0 : List (List Int)) (r : List Int) (w : World) (hr0 : Kd.C (Kd.slice 5 (Kd.int .u8)) w A0 l0.length l0) (hc0 : l0.length ≤ c0) (h : slices_Concat_byte_byte.f l0 = some r) :
    Calls Try.prog 51 #[.slice A0 l0.length c0] w fun e w' => ∃ v0_ : Value, e = .returned (v0_) ∧ Kd.R (Kd.int .u8) 5 w' w.heap.size (fun _ => True) v0_ r ∧ Below w.heap.size w w' := by
  have HR0 := Aside0.mk hr0
  have hbig : l0.length ≤ 9223372036854775807 := hr0.2.1
  have HLM : Aside0 (slices_Concat_byte_byte.total l0 < 140737488355328) := by
    unfold slices_Concat_byte_byte.f at h; split at h
    · exact ⟨by assumption⟩
    · cases h
  have hr : l0.flatten = r := by
    unfold slices_Concat_byte_byte.f at h; rw [if_pos HLM.out] at h; exact Option.some.inj h
  subst hr
  clear hr0 hc0 h
  go_enter Try.func51, Try.ntmps51
  go_wp2
  go_loopg [3, 11] l0.length (fun gg s3 s11 wr => ∃ kk : Nat, kk ≤ l0.length ∧ l0.length - kk ≤ gg ∧ s11 = .int .i64 kk ∧ s3 = .int .i64 (slices_Concat_byte_byte.total (l0.take kk)) ∧ w = wr)
  case atStart => exact ⟨0, Nat.zero_le _, by omega, rfl, rfl, rfl⟩
  case round =>
    obtain ⟨kk, hkk, hg, rfl, rfl, rfl⟩ := hrel
    by_cases hlt : kk < l0.length
    · obtain ⟨ad, A1, c1, rfl, hcell, hc1, hC1⟩ := at_L1 HR0.out (kk : Int) (by omega) (by omega)
      have hx : Aside0 (l0.take (kk + 1) = l0.take kk ++ [rd_L1 l0 (kk : Int)]) := ⟨by
        rw [List.take_succ_eq_append_getElem hlt]; simp [rd_L1, List.getD_eq_getElem?_getD, hlt]⟩
      have ht1 := slices_Concat_byte_byte.total_take l0 (kk + 1)
      have hsn := slices_Concat_byte_byte.total_snoc (l0.take kk) (rd_L1 l0 (kk : Int))
      rw [← hx.out] at hsn
      have hlm := HLM.out
      rw [show ((kk : Int)).toNat = kk from by omega] at hcell
      obtain ⟨n1, hn1⟩ : ∃ n : Nat, (rd_L1 l0 (kk : Int)).length = n := ⟨_, rfl⟩
      rw [hn1] at hcell hsn
      obtain ⟨t1, e1⟩ : ∃ n : Nat, slices_Concat_byte_byte.total (l0.take kk) = n := ⟨_, rfl⟩
      obtain ⟨t2, e2⟩ : ∃ n : Nat, slices_Concat_byte_byte.total (l0.take (kk + 1)) = n := ⟨_, rfl⟩
      rw [e1] at hsn ⊢
      rw [e2] at hsn ht1
      have hb1 : (t1 : Int) + n1 ≤ 140737488355328 := by omega
      have HS := Aside0.mk hsn
      have E2 := Aside0.mk e2
      clear hsn ht1 hlm e1 e2 hn1 hC1 hc1 hx
      have hltz : (kk : Int) < (l0.length : Int) := by omega
      go_wp2
      go_roundg (l0.length - (kk + 1))
      case measure => omega
      case rel => exact ⟨kk + 1, by omega, by omega, by go_num, by rw [E2.out, HS.out]; go_num, rfl⟩
    · have : kk = l0.length := by omega
      subst this
      rw [List.take_of_length_le (Nat.le_refl _)]
      obtain ⟨t1, e1⟩ : ∃ n : Nat, slices_Concat_byte_byte.total l0 = n := ⟨_, rfl⟩
      rw [e1]
      have HLM1 : Aside0 (t1 < 140737488355328) := by rw [← e1]; exact HLM
      have E1 := Aside0.mk e1
      clear e1
      go_wp2_with (go_at_call 65; refine (slices_Grow_byte_byte.calls (t1 : Int) _ (by omega) (by have := HLM1.out; omega)).mono ?_; rintro e w' ⟨v1, rfl, ho, hb⟩; have HO := Aside0.mk ho; have HB := Aside0.mk hb; clear ho hb)
      go_loopg [6, 27] l0.length (fun gg s6 s27 w' => ∃ kk : Nat, kk ≤ l0.length ∧ l0.length - kk ≤ gg ∧ s27 = .int .i64 kk ∧ Aside0 (Kd.R (Kd.int .u8) 5 w' w.heap.size (fun _ => True) s6 (l0.take kk).flatten) ∧ Aside0 (Below w.heap.size w w'))
      case atStart => exact ⟨0, Nat.zero_le _, by omega, rfl, ⟨by simpa using HO.out⟩, HB⟩
      case round =>
        clear HO HB
        obtain ⟨kk, hkk, hg, rfl, HO, HB⟩ := hrel
        by_cases hlt : kk < l0.length
        · obtain ⟨ad, A1, c1, rfl, hcell, hc1, hC1⟩ := at_L1 HR0.out (kk : Int) (by omega) (by omega)
          have hx : Aside0 ((l0.take (kk + 1)).flatten = (l0.take kk).flatten ++ rd_L1 l0 (kk : Int)) := ⟨by
            rw [List.take_succ_eq_append_getElem hlt, List.flatten_append]; congr 1; simp [rd_L1, List.getD_eq_getElem?_getD, hlt]⟩
          have HLL : Aside0 ((l0.take kk).flatten.length + (rd_L1 l0 (kk : Int)).length < 140737488355328) := ⟨by
            have h1 := congrArg List.length hx.out
            rw [List.length_append, slices_Concat_byte_byte.flatten_len] at h1
            have h2 := slices_Concat_byte_byte.total_take l0 (kk + 1)
            have h3 := HLM.out
            omega⟩
          replace hcell := (HB.out.cell (World.block_lt_of_cell? w _ hcell)).trans hcell
          rw [show ((kk : Int)).toNat = kk from by omega] at hcell
          have HC1 := Aside0.mk (Kd.C_below hC1 HB.out)
          clear hC1
          generalize rd_L1 l0 (kk : Int) = x1 at hx HLL hcell HC1 hc1
          generalize (l0.take kk).flatten = acc at HO hx HLL
          have hltz : (kk : Int) < (l0.length : Int) := by omega
          go_wp2_with (((with_reducible refine gate_builtin (b := .append) (xs := #[.tmp 31, .tmp 32]) rfl ?_); at_builtin; refine Kd.R_append_rows (Kd.int .u8) (w0 := w) w.heap.size rfl (.tmp 31) (.tmp 32) 24 5 (.int .u8 0) 1 rfl Try.underlying24 info5 rfl (by decide) (by omega) _ acc x1 _ _ _ (fun _ => True) (fun _ => False) rfl rfl ?aO ?aR (fun _ _ h => h) (fun _ h => h.elim) ?aF ?aB ?aS ?aL ?_; (case aR => repeat (first | exact HC1.out | (with_reducible refine Kd.C_alloc ?_ _) | (with_reducible refine Kd.C_drewN ?_ _) | (with_reducible refine Kd.C_drew ?_))); (case aB => exact (by repeat (first | (with_reducible first | exact HB.out | apply below_alloc | apply pw_below_drewN | apply below_drew1) | exact HB.out))); (case aF => exact (fun _ _ => trivial)); (case aO => exact (by (with_reducible repeat (first | apply Kd.R_alloc | apply Kd.R_drewN | apply Kd.R_drew)); exact HO.out)); (case aS => exact (below_size (by repeat (first | (with_reducible first | exact HB.out | apply below_alloc | apply pw_below_drewN | apply below_drew1) | exact HB.out)))); (case aL => have := HLL.out; omega); intro v114 w5 ho hb hg hat; have n0_ := Aside0.mk (hb); have n1_ := Aside0.mk (ho); clear HB; clear HO; have HB := n0_; have HO115 := n1_; clear n0_ n1_; clear ho hb hg hat))
          go_roundg (l0.length - (kk + 1))
          case measure => omega
          case rel => exact ⟨kk + 1, by omega, by omega, by go_num, ⟨by rw [hx.out]; exact HO115.out⟩, HB⟩
        · have : kk = l0.length := by omega
          subst this
          go_wp2
          go_ret
          refine ⟨_, rfl, ?_, HB.out⟩
          have := HO.out
          rw [List.take_of_length_le (Nat.le_refl _)] at this
          exact this

end Go.Proofs.Ytblmnkjiefanfaa.Q
