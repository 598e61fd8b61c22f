-- Printed by a program of this session (wip/myprint.py), which drives the kit's printer.
import Derived.Test.YtblmnkjiefanfaaQ0
namespace Go.Proofs.Ytblmnkjiefanfaa.Q
open Go.RowKit Go Go.Proofs.YtblmnkjiefanfaaW.PrintWords Go.Proofs.YtblmnkjiefanfaaW.PrintLast Go.Proofs.YtblmnkjiefanfaaW.PrintMore
attribute [local go_sem] max2_int min2_int max_two min_two max_three min_three max_four min_four   -- for this text's walks alone
set_option linter.unusedVariables false
set_option linter.unusedSimpArgs false

/-! ### impl_all_byte_1_64: function 64 -/

set_option maxHeartbeats 2000000 in
/-- What is handed to ContainsFunc: the predicate's contrary; the predicate lies in a variable. -/
theorem impl_all_byte_1_64.calls (g : Nat) (lb : Array Value) (eg : ∀ args w, (callFunc g args).run Try.prog w = .ok (.enter g args) w) (q : Bool) (x : Int) (B : Nat) (w w0 : World) (hv : w.cell? ⟨B, 0, none⟩ = some (.func (.func g) #[] lb))
    (hp : Calls Try.prog g (#[.int .u8 x] ++ lb) w fun e w' => e = .returned (.bool q) ∧ Below w0.heap.size w0 w') :
    Calls Try.prog 64 #[.int .u8 x, .pointer (some ⟨B, 0, none⟩)] w fun e w' => e = .returned (.bool (!q)) ∧ Below w0.heap.size w0 w' := by
  go_enter Try.func64, Try.ntmps64
  go_wp2_with (go_at_fn g; refine hp.mono ?_; rintro e w' ⟨rfl, hb'⟩)
  go_ret
  exact ⟨rfl, hb'⟩

end Go.Proofs.Ytblmnkjiefanfaa.Q
