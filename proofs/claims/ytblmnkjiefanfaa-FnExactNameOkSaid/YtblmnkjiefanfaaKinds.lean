-- Written by a program of this session (wip/myprint.py): what each type of the laws' parameters reads as.
import Derived.Test.YtblmnkjiefanfaaQ0
import Derived.Test.YtblmnkjiefanfaaOpen
namespace Go.Proofs.Ytblmnkjiefanfaa.Q
open Go Go.RowKit Go.Proofs.Ytblmnkjiefanfaa.Open Go.Proofs.YtblmnkjiefanfaaW.PrintWords
set_option linter.unusedVariables false
def okT5 (x : Int) : Prop := (Lit.int .u8 x).wf = true
theorem opensT5 {H : Type} {enc : TypeId × Value → H} {W : World} : Opens enc Try.prog W (fun _ => true) true (Kd.int .u8) okT5 5 := opens_int Try.underlying5
def okT24 (l : List Int) : Prop := l.length ≤ maxLen ∧ ∀ x ∈ l, okT5 x
theorem opensT24 {H : Type} {enc : TypeId × Value → H} {W : World} : Opens enc Try.prog W (fun _ => true) true (Kd.slice 5 (Kd.int .u8)) okT24 24 := opens_slice Try.underlying24 (by kernel_rfl) opensT5
def okT36 (l : List (List Int)) : Prop := l.length ≤ maxLen ∧ ∀ x ∈ l, okT24 x
theorem opensT36 {H : Type} {enc : TypeId × Value → H} {W : World} : Opens enc Try.prog W (fun _ => true) true (Kd.slice 24 (Kd.slice 5 (Kd.int .u8))) okT36 36 := opens_slice Try.underlying36 (by kernel_rfl) opensT24
def okT38 (x : S38) : Prop := okT36 x.f0
theorem opensT38 {H : Type} {enc : TypeId × Value → H} {W : World} : Opens enc Try.prog W (fun _ => true) true k38 okT38 38 := by
  have h := opens_struct (enc := enc) (P := Try.prog) (W := W) (sp := fun _ => true) (held := true) (fun x : S38 => x.f0) (fun y => (⟨y⟩ : S38)) (fun _ => rfl) Try.underlying38 (n := 1) (by kernel_rfl) (opensF_one rfl (by kernel_rfl) opensT36)
  exact h
end Go.Proofs.Ytblmnkjiefanfaa.Q
