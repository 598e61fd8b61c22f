-- Printed by a program of this session (wip/myprint.py), which drives the kit's printer.
import Derived.Test.YtblmnkjiefanfaaQ0
import Derived.Test.YtblmnkjiefanfaaQ67
import Derived.Test.YtblmnkjiefanfaaQ68
namespace Go.Proofs.Ytblmnkjiefanfaa.Q
open Go.RowKit Go Go.Proofs.YtblmnkjiefanfaaW.PrintWords Go.Proofs.YtblmnkjiefanfaaW.PrintLast Go.Proofs.YtblmnkjiefanfaaW.PrintMore
attribute [local go_sem] max2_int min2_int max_two min_two max_three min_three max_four min_four   -- for this text's walks alone
set_option linter.unusedVariables false
set_option linter.unusedSimpArgs false

/-! ### impl_all_byte_57: function 57 -/

set_option maxHeartbeats 2000000 in
theorem impl_all_byte_57.calls (g : Nat) (lb : Array Value) (eg : ∀ args w, (callFunc g args).run Try.prog w = .ok (.enter g args) w) (p : List Int → Bool) (A0 : Option Addr) (c0 : Nat) (l0 : List (List Int)) (w : World) (hr0 : Kd.C (Kd.slice 5 (Kd.int .u8)) w A0 l0.length l0)
    (hp : ∀ (W : World) (A : Option Addr) (c : Nat) (x : List Int), Below w.heap.size w W → Kd.C (Kd.int .u8) W A x.length x → x.length ≤ c → Calls Try.prog g (#[.slice A x.length c] ++ lb) W fun e w' => e = .returned (.bool (p x)) ∧ Below W.heap.size W w') :
    Calls Try.prog 57 #[.slice A0 l0.length c0, .func (.func g) #[] lb] w fun e w' => e = .returned (.bool (l0.all p)) ∧ Below w.heap.size w w' := by
  have eg2 : ∀ args w, (callFunc 68 args).run Try.prog w = .ok (.enter 68 args) w := enters_of Try.func68 (by kernel_rfl) rfl
  have hb0 : Below w.heap.size w (w.alloc (.cells #[.func (.func g) #[] lb] 30)) := below_alloc (Below.refl _ _) _
  have hc := slices_ContainsFunc_byte_byte_67.calls 68 #[.pointer (some ⟨w.heap.size, 0, none⟩)] eg2 (fun x => !p x) A0 c0 l0 (w.alloc (.cells #[.func (.func g) #[] lb] 30)) (Kd.C_below hr0 hb0) (fun W A c x hW hC hc =>
    impl_all_byte_1_68.calls g lb eg (p x) A x.length c w.heap.size W _ ((hW.cell (p := ⟨w.heap.size, 0, none⟩) (by simp)).trans (by simp)) ((hp W A c x (hb0.trans (hW.mono (by simp))) hC hc).mono fun e w' ⟨he, hb⟩ => ⟨he, hW.trans (hb.mono hW.size)⟩))
  have e1 : (l0.any fun x => !p x) = !(l0.all p) := by rw [List.all_eq_not_any_not]; simp
  rw [e1] at hc
  generalize l0.all p = q at hc ⊢
  clear hp hr0 e1
  go_enter Try.func57, Try.ntmps57
  go_wp2_with (go_at_call 67; refine hc.mono ?_; rintro e w' ⟨rfl, hb'⟩)
  go_ret
  exact ⟨by simp, hb0.trans (hb'.mono (by simp))⟩

end Go.Proofs.Ytblmnkjiefanfaa.Q
