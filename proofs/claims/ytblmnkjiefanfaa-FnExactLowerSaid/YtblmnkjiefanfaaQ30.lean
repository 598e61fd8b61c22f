-- Printed by a program of this session (wip/myprint.py), which drives the kit's printer.
import Derived.Test.YtblmnkjiefanfaaQ0
import Derived.Test.YtblmnkjiefanfaaQ50
namespace Go.Proofs.Ytblmnkjiefanfaa.Q
open Go.RowKit Go Go.Proofs.YtblmnkjiefanfaaW.PrintWords Go.Proofs.YtblmnkjiefanfaaW.PrintLast Go.Proofs.YtblmnkjiefanfaaW.PrintMore
attribute [local go_sem] max2_int min2_int max_two min_two max_three min_three max_four min_four   -- for this text's walks alone
set_option linter.unusedVariables false
set_option linter.unusedSimpArgs false

/-! ### impl_Lower: function 30 -/

def impl_Lower.byte (x : Int) : Int := if 65 ≤ x ∧ x ≤ 90 then x + 97 - 65 else x
def impl_Lower.f (l0 : List Int) : Option (List Int) := if l0.length < 140737488355328 then some (l0.map impl_Lower.byte) else none
theorem impl_Lower.step (l : List Int) (i : Nat) (h : i < l.length) : (l.take i).map impl_Lower.byte ++ l.drop i = (l.take i).map impl_Lower.byte ++ rd l (i : Int) :: l.drop (i + 1) := by
  rw [List.drop_eq_getElem_cons h]; simp [rd, List.getD_eq_getElem?_getD, h]
theorem impl_Lower.next (l : List Int) (i : Nat) (h : i < l.length) : ((l.take i).map impl_Lower.byte ++ l.drop i).set i (impl_Lower.byte (rd l (i : Int))) = (l.take (i + 1)).map impl_Lower.byte ++ l.drop (i + 1) := by
  rw [impl_Lower.step l i h, List.set_append_right _ _ (by simp; omega)]
  simp only [List.length_map, List.length_take, Nat.min_eq_left (Nat.le_of_lt h), Nat.sub_self, List.set_cons_zero]
  rw [List.take_succ_eq_append_getElem h, List.map_append, List.append_assoc]
  simp only [List.map_cons, List.map_nil, List.singleton_append]
  congr 2
  simp [rd, List.getD_eq_getElem?_getD, h]
theorem impl_Lower.at (l : List Int) (i : Nat) (h : i < l.length) : rdOf (0 : Int) ((l.take i).map impl_Lower.byte ++ l.drop i) (i : Int) = rd l (i : Int) := by
  rw [impl_Lower.step l i h]
  simp only [rdOf, List.getD_eq_getElem?_getD, show ((i : Int)).toNat = i from by omega]
  rw [List.getElem?_append_right (by simp; omega)]
  simp [Nat.min_eq_left (Nat.le_of_lt h)]
theorem impl_Lower.keep (l : List Int) (i : Nat) (h : i < l.length) (hb : impl_Lower.byte (rd l (i : Int)) = rd l (i : Int)) : (l.take (i + 1)).map impl_Lower.byte ++ l.drop (i + 1) = (l.take i).map impl_Lower.byte ++ l.drop i := by
  rw [← impl_Lower.next l i h, hb, impl_Lower.step l i h, List.set_append_right _ _ (by simp; omega)]
  simp [Nat.min_eq_left (Nat.le_of_lt h)]
set_option maxHeartbeats 8000000 in
set_option maxRecDepth 100000 in
theorem impl_Lower.calls (A0 : Option Addr) (c0 : Nat) (l0 : List Int) (r : List Int) (w : World) (hr0 : Kd.C (Kd.int .u8) w A0 l0.length l0) (hc0 : l0.length ≤ c0) (h : impl_Lower.f l0 = some r) :
    Calls Try.prog 30 #[.slice A0 l0.length c0] w fun e w' => ∃ v0_ : Value, e = .returned (v0_) ∧ Kd.R (Kd.int .u8) 5 w' w.heap.size (fun _ => True) v0_ r ∧ Below w.heap.size w w' := by
  have HR0 := Aside0.mk hr0
  have HC0 := Aside0.mk hc0
  have hlm : l0.length < 140737488355328 := by
    unfold impl_Lower.f at h; split at h
    · assumption
    · cases h
  have hr : l0.map impl_Lower.byte = r := by
    unfold impl_Lower.f at h; rw [if_pos hlm] at h; exact Option.some.inj h
  subst hr
  clear hr0 hc0 h
  go_enter Try.func30, Try.ntmps30
  go_wp2_with (go_at_call 50; refine (bytes_Clone.calls A0 c0 l0 l0 _ HR0.out HC0.out (by unfold bytes_Clone.f; rw [if_pos hlm])).mono ?_; rintro e w' ⟨v1, rfl, ho, hb⟩; have HO := Aside0.mk ho; have HB := Aside0.mk hb; clear ho hb; obtain ⟨A1, c1, e1⟩ := Kd.R_slice HO.out; subst e1)
  go_loopg [10] l0.length (fun gg s10 w' => ∃ kk : Nat, kk ≤ l0.length ∧ l0.length - kk ≤ gg ∧ s10 = .int .i64 kk ∧ Aside0 (Kd.R (Kd.int .u8) 5 w' w.heap.size (fun _ => True) (.slice A1 l0.length c1) ((l0.take kk).map impl_Lower.byte ++ l0.drop kk)) ∧ Aside0 (Below w.heap.size w w'))
  case atStart => exact ⟨0, Nat.zero_le _, by omega, rfl, ⟨by simpa using HO.out⟩, HB⟩
  case round =>
    clear HO HB
    obtain ⟨kk, hkk, hg, rfl, HO, HB⟩ := hrel
    by_cases hlt : kk < l0.length
    · have hltz : (kk : Int) < (l0.length : Int) := by omega
      have hlen : ((l0.take kk).map impl_Lower.byte ++ l0.drop kk).length = l0.length := by simp; omega
      obtain ⟨g, cp, eo, hgb, hgl, cl, hgc⟩ := Kd.R_form HO.out (by omega)
      have eA : A1 = some ⟨g, 0, none⟩ := by injection eo
      subst eA
      have GB := Aside0.mk hgb
      have GL := Aside0.mk hgl
      have HAT := impl_Lower.at l0 kk hlt
      obtain ⟨hcell, hfr⟩ := Kd.R_celln 0 HO.out (kk : Int) (by omega) (by omega)
      rw [HAT] at hcell
      rw [show ((kk : Int)).toNat = kk from by omega] at hcell hfr
      have HP := Aside0.mk (Kd.R_putn HO.out (kk : Int) (impl_Lower.byte (rd l0 (kk : Int))))
      rw [show ((kk : Int)).toNat = kk from by omega, impl_Lower.next l0 kk hlt] at HP
      have HK := Aside0.mk (impl_Lower.keep l0 kk hlt)
      clear hlen eo hgb hgl hgc HAT
      generalize rd l0 (kk : Int) = x at hcell HP HK
      by_cases h1 : 65 ≤ x
      · by_cases h2 : x ≤ 90
        · have hbyte : impl_Lower.byte x = x + 97 - 65 := by unfold impl_Lower.byte; rw [if_pos ⟨h1, h2⟩]
          rw [hbyte] at HP
          clear HK hbyte
          go_wp2
          go_roundg (l0.length - (kk + 1))
          case measure => omega
          case rel => exact ⟨kk + 1, by omega, by omega, by go_num, ⟨HP.out⟩, ⟨below_set HB.out GB.out⟩⟩
        · have hbyte : impl_Lower.byte x = x := by unfold impl_Lower.byte; rw [if_neg (by omega)]
          have HK2 := Aside0.mk (HK.out hbyte)
          clear hbyte HK HP
          go_wp2
          go_roundg (l0.length - (kk + 1))
          case measure => omega
          case rel => exact ⟨kk + 1, by omega, by omega, by go_num, ⟨by rw [HK2.out]; exact HO.out⟩, HB⟩
      · have hbyte : impl_Lower.byte x = x := by unfold impl_Lower.byte; rw [if_neg (by omega)]
        have HK2 := Aside0.mk (HK.out hbyte)
        clear hbyte HK HP
        go_wp2
        go_roundg (l0.length - (kk + 1))
        case measure => omega
        case rel => exact ⟨kk + 1, by omega, by omega, by go_num, ⟨by rw [HK2.out]; exact HO.out⟩, HB⟩
    · have : kk = l0.length := by omega
      subst this
      go_wp2
      go_ret
      refine ⟨_, rfl, ?_, HB.out⟩
      have := HO.out
      rw [List.take_of_length_le (Nat.le_refl _), List.drop_of_length_le (Nat.le_refl _), List.append_nil] at this
      exact this

end Go.Proofs.Ytblmnkjiefanfaa.Q
