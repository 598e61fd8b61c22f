-- Printed by a program of this session (wip/myprint.py), which drives the kit's printer.
import Derived.Test.YtblmnkjiefanfaaQ0
namespace Go.Proofs.Ytblmnkjiefanfaa.Q
open Go.RowKit Go Go.Proofs.YtblmnkjiefanfaaW.PrintWords Go.Proofs.YtblmnkjiefanfaaW.PrintLast Go.Proofs.YtblmnkjiefanfaaW.PrintMore
attribute [local go_sem] max2_int min2_int max_two min_two max_three min_three max_four min_four   -- for this text's walks alone
set_option linter.unusedVariables false
set_option linter.unusedSimpArgs false

/-! ### slices_IndexFunc_byte_byte_73: function 73 -/

set_option maxHeartbeats 2000000 in
theorem slices_IndexFunc_byte_byte_73.calls (g : Nat) (lb : Array Value) (eg : ∀ args w, (callFunc g args).run Try.prog w = .ok (.enter g args) w) (p : List Int → Bool) (A0 : Option Addr) (c0 : Nat) (l0 : List (List Int)) (w : World) (hr0 : Kd.C (Kd.slice 5 (Kd.int .u8)) w A0 l0.length l0)
    (hp : ∀ (W : World) (A : Option Addr) (c : Nat) (x : List Int), Below w.heap.size w W → Kd.C (Kd.int .u8) W A x.length x → x.length ≤ c → Calls Try.prog g (#[.slice A x.length c] ++ lb) W fun e w' => e = .returned (.bool (p x)) ∧ Below w.heap.size w w') :
    Calls Try.prog 73 #[.slice A0 l0.length c0, .func (.func g) #[] lb] w fun e w' => (∃ r : Int, e = .returned (.int .i64 r) ∧ decide (0 ≤ r) = l0.any p) ∧ Below w.heap.size w w' := by
  have HR0 := Aside0.mk hr0
  have hbig : l0.length ≤ 9223372036854775807 := hr0.2.1
  have HP := Aside0.mk hp
  clear hr0 hp
  go_enter Try.func73, Try.ntmps73
  go_wp2
  go_loopg [5, 8] l0.length (fun gg _ s8 wr => ∃ kk : Nat, kk ≤ l0.length ∧ l0.length - kk ≤ gg ∧ s8 = .int .i64 kk ∧ Aside0 (Below w.heap.size w wr) ∧ Aside0 ((l0.take kk).any p = false))
  case atStart => exact ⟨0, Nat.zero_le _, by omega, rfl, ⟨Below.refl _ w⟩, ⟨by simp⟩⟩
  case round =>
    obtain ⟨kk, hkk, hg, rfl, BW, AF⟩ := hrel
    by_cases hlt : kk < l0.length
    · obtain ⟨ad, A1, c1, rfl, hcell, hc1, hC1⟩ := at_L10 HR0.out (kk : Int) (by omega) (by omega)
      replace hcell := (BW.out.cell (World.block_lt_of_cell? w _ hcell)).trans hcell
      have hcall := HP.out wr A1 c1 (rd_L10 l0 (kk : Int)) BW.out (Kd.C_below hC1 BW.out) hc1
      have hx : Aside0 (l0.take (kk + 1) = l0.take kk ++ [rd_L10 l0 (kk : Int)]) := ⟨by
        rw [List.take_succ_eq_append_getElem hlt]; simp [rd_L10, List.getD_eq_getElem?_getD, hlt]⟩
      clear hC1 hc1
      generalize rd_L10 l0 (kk : Int) = y at hcell hcall hx
      have hltz : (kk : Int) < (l0.length : Int) := by omega
      rw [show ((kk : Int)).toNat = kk from by omega] at hcell
      cases hq : p y with
      | true =>
        rw [hq] at hcall
        go_wp2_with (go_at_fn g; refine hcall.mono ?_; rintro e w' ⟨rfl, hb'⟩)
        go_ret
        refine ⟨⟨_, rfl, ?_⟩, hb'⟩
        have : l0.any p = true := by
          rw [← List.take_append_drop (kk + 1) l0, hx.out]; simp [hq]
        rw [this]; simp
      | false =>
        rw [hq] at hcall
        go_wp2_with (go_at_fn g; refine hcall.mono ?_; rintro e w' ⟨rfl, hb'⟩)
        go_roundg (l0.length - (kk + 1))
        case measure => omega
        case rel => exact ⟨kk + 1, by omega, by omega, by go_num, ⟨hb'⟩, ⟨by rw [hx.out, List.any_append, AF.out]; simp [hq]⟩⟩
    · have hltz : ¬ (kk : Int) < (l0.length : Int) := by omega
      go_wp2
      go_ret
      refine ⟨⟨_, rfl, ?_⟩, BW.out⟩
      have := AF.out
      rw [List.take_of_length_le (by omega)] at this
      rw [this]; rfl

end Go.Proofs.Ytblmnkjiefanfaa.Q
