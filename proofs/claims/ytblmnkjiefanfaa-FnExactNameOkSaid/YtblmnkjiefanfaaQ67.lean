-- Printed by a program of this session (wip/myprint.py), which drives the kit's printer.
import Derived.Test.YtblmnkjiefanfaaQ0
import Derived.Test.YtblmnkjiefanfaaQ73
namespace Go.Proofs.Ytblmnkjiefanfaa.Q
open Go.RowKit Go Go.Proofs.YtblmnkjiefanfaaW.PrintWords Go.Proofs.YtblmnkjiefanfaaW.PrintLast Go.Proofs.YtblmnkjiefanfaaW.PrintMore
attribute [local go_sem] max2_int min2_int max_two min_two max_three min_three max_four min_four   -- for this text's walks alone
set_option linter.unusedVariables false
set_option linter.unusedSimpArgs false

/-! ### slices_ContainsFunc_byte_byte_67: function 67 -/

set_option maxHeartbeats 2000000 in
theorem slices_ContainsFunc_byte_byte_67.calls (g : Nat) (lb : Array Value) (eg : ∀ args w, (callFunc g args).run Try.prog w = .ok (.enter g args) w) (p : List Int → Bool) (A0 : Option Addr) (c0 : Nat) (l0 : List (List Int)) (w : World) (hr0 : Kd.C (Kd.slice 5 (Kd.int .u8)) w A0 l0.length l0)
    (hp : ∀ (W : World) (A : Option Addr) (c : Nat) (x : List Int), Below w.heap.size w W → Kd.C (Kd.int .u8) W A x.length x → x.length ≤ c → Calls Try.prog g (#[.slice A x.length c] ++ lb) W fun e w' => e = .returned (.bool (p x)) ∧ Below w.heap.size w w') :
    Calls Try.prog 67 #[.slice A0 l0.length c0, .func (.func g) #[] lb] w fun e w' => e = .returned (.bool (l0.any p)) ∧ Below w.heap.size w w' := by
  have hc := slices_IndexFunc_byte_byte_73.calls g lb eg p A0 c0 l0 w hr0 hp
  generalize l0.any p = q at hc ⊢
  clear hp hr0
  go_enter Try.func67, Try.ntmps67
  go_wp2_with (go_at_call 73; refine hc.mono ?_; rintro e w' ⟨⟨r, rfl, rfl⟩, hb'⟩)
  go_ret
  exact ⟨rfl, hb'⟩

end Go.Proofs.Ytblmnkjiefanfaa.Q
