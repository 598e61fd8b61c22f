/- Plain lemmas for the statement FnSums. -/
import Derived.Test.YtkmchjdioplfjaaZFnSums0
import Derived.Test.YtkmchjdioplfjaaZFnSums1
import Derived.Test.YtkmchjdioplfjaaVFnSums
import Derived.Deep.Slices
import Derived.Lib.SmallJoins
import Derived.OpenShut
import Derived.Deep.RegionLaw
/- Plain lemmas on the printed functions: a list of bytes read into a new one, two lists compared, a number read from bytes. -/
namespace Go.Proofs.Ytkmchjdioplfjaa.Pure
open Go Go.RowKit Go.Proofs.Ytkmchjdioplfjaa.Q Go.Proofs.YtkmchjdioplfjaaW.PrintWords Go.Proofs.YtkmchjdioplfjaaW.PrintLast Go.Proofs.YtkmchjdioplfjaaW.PrintMore
set_option linter.unusedVariables false
set_option linter.unusedSimpArgs false

/-- Every element is a byte. -/
def Bytes (l : List Int) : Prop := ∀ x ∈ l, 0 ≤ x ∧ x ≤ 255
theorem w64 {x : Int} (h1 : -9223372036854775808 ≤ x) (h2 : x ≤ 9223372036854775807) : wrap64 x = x := by
  unfold wrap64; omega
end Go.Proofs.Ytkmchjdioplfjaa.Pure

/- Plain lemmas on the printed functions: marks laid over a list of bytes, and found again; two lists compared; Put, Take. -/
namespace Go.Proofs.Ytkmchjdioplfjaa.Pure
open Go Go.RowKit Go.Proofs.Ytkmchjdioplfjaa.Q Go.Proofs.YtkmchjdioplfjaaW.PrintWords Go.Proofs.YtkmchjdioplfjaaW.PrintLast Go.Proofs.YtkmchjdioplfjaaW.PrintMore
set_option linter.unusedVariables false
set_option linter.unusedSimpArgs false

end Go.Proofs.Ytkmchjdioplfjaa.Pure

/- Plain lemmas on the printed functions that read, measure and compare lists of lists of bytes, and names. -/
namespace Go.Proofs.Ytkmchjdioplfjaa.Pure
open Go Go.RowKit Go.Proofs.Ytkmchjdioplfjaa.Q Go.Proofs.YtkmchjdioplfjaaW.PrintWords Go.Proofs.YtkmchjdioplfjaaW.PrintLast Go.Proofs.YtkmchjdioplfjaaW.PrintMore
set_option linter.unusedVariables false
set_option linter.unusedSimpArgs false

theorem rdL_at (l : List (List Int)) (i : Nat) (h : i < l.length) : rd_L10 l (i : Int) = l[i] := by simp [rd_L10, List.getD_eq_getElem?_getD, h]
def lens (l : List (List Int)) : Nat := (l.map List.length).sum
end Go.Proofs.Ytkmchjdioplfjaa.Pure

/- Plain lemmas on the printed functions that say whether labels and names are right, and whether one name lies under another. -/
namespace Go.Proofs.Ytkmchjdioplfjaa.Pure
open Go Go.RowKit Go.Proofs.Ytkmchjdioplfjaa.Q Go.Proofs.YtkmchjdioplfjaaW.PrintWords Go.Proofs.YtkmchjdioplfjaaW.PrintLast Go.Proofs.YtkmchjdioplfjaaW.PrintMore
set_option linter.unusedVariables false
set_option linter.unusedSimpArgs false
theorem specLabelOk_l0 (l : List Int) (hl : l.length ≤ 140737488351232) (m : Nat) : ∀ (i : Nat), l.length = i + m →
    Ev (fun k => spec_LabelOk.l0 k l i) ((l.drop i).all impl_LabelOk.byte) := by
  induction m with
  | zero =>
    intro i hi
    rw [List.drop_of_length_le (by omega)]
    refine Ev.step (f := fun _ => some true) (fun k => ?_) (Ev.now _)
    simp only [spec_LabelOk.l0]
    rw [if_neg (by omega)]
  | succ m ih =>
    intro i hi
    have hil : i < l.length := by omega
    have e : rd l (i : Int) = l[i] := by simp [rd, List.getD_eq_getElem?_getD, hil]
    rw [List.drop_eq_getElem_cons hil, List.all_cons]
    by_cases hb : impl_LabelOk.byte l[i] = true
    · rw [hb, Bool.true_and]
      refine Ev.step (fun k => ?_) (ih (i+1) (by omega))
      simp only [spec_LabelOk.l0]
      rw [if_pos (by omega), if_pos (by omega), e, w64 (by omega) (by omega)]
      unfold impl_LabelOk.byte at hb
      generalize l[i] = x at *
      by_cases h1 : x ≥ 97 <;> by_cases h2 : x ≤ 122 <;> by_cases h3 : x ≥ 48 <;> by_cases h4 : x ≤ 57 <;> by_cases h5 : x = 45 <;> first | omega | (simp [h1, h2, h3, h4, h5] at hb ⊢; try omega)
    · rw [Bool.not_eq_true] at hb
      rw [hb, Bool.false_and]
      refine Ev.step (f := fun _ => some false) (fun k => ?_) (Ev.now _)
      simp only [spec_LabelOk.l0]
      rw [if_pos (by omega), if_pos (by omega), e]
      unfold impl_LabelOk.byte at hb
      generalize l[i] = x at *
      by_cases h1 : x ≥ 97 <;> by_cases h2 : x ≤ 122 <;> by_cases h3 : x ≥ 48 <;> by_cases h4 : x ≤ 57 <;> by_cases h5 : x = 45 <;> first | omega | (simp [h1, h2, h3, h4, h5] at hb ⊢; try omega)
theorem specLabelOk (l : List Int) (hl : l.length ≤ 140737488351232) : Ev (fun k => spec_LabelOk.f k l) (impl_LabelOk.v l) := by
  unfold spec_LabelOk.f impl_LabelOk.v
  by_cases h1 : (l.length : Int) < 1
  · simp only [if_pos h1]
    rw [decide_eq_false (show ¬ 1 ≤ l.length by omega)]
    refine Ev.step (f := fun _ => some false) (fun k => ?_) (Ev.now _)
    simp [spec_LabelOk.j0]
  · simp only [if_neg h1]
    rw [decide_eq_true (show 1 ≤ l.length by omega)]
    by_cases h2 : (l.length : Int) > 15
    · rw [decide_eq_true h2, decide_eq_false (show ¬ l.length ≤ 15 by omega)]
      refine Ev.step (f := fun _ => some false) (fun k => ?_) (Ev.now _)
      simp [spec_LabelOk.j0]
    · rw [decide_eq_false h2, decide_eq_true (show l.length ≤ 15 by omega)]
      have := specLabelOk_l0 l hl l.length 0 (by omega)
      rw [List.drop_zero] at this
      refine Ev.step (fun k => ?_) this
      simp [spec_LabelOk.j0]
theorem specNameOk_l0 (l : List (List Int)) (hl : l.length ≤ 1048576) (he : ∀ x ∈ l, x.length ≤ 140737488351232) (m : Nat) : ∀ (i : Nat), l.length = i + m →
    Ev (fun k => spec_NameOk.l0 k i l) ((l.drop i).all impl_LabelOk.v) := by
  induction m with
  | zero =>
    intro i hi
    rw [List.drop_of_length_le (by omega)]
    refine Ev.step (f := fun _ => some true) (fun k => ?_) (Ev.now _)
    simp only [spec_NameOk.l0]
    rw [if_neg (by omega)]
  | succ m ih =>
    intro i hi
    have hil : i < l.length := by omega
    rw [List.drop_eq_getElem_cons hil, List.all_cons]
    refine Ev.step (f := fun k => (spec_LabelOk.f k l[i]).bind fun t => if t = true then spec_NameOk.l0 k ((i + 1 : Nat) : Int) l else some false) (fun k => ?_) ?_
    · simp only [spec_NameOk.l0]
      rw [if_pos (by omega), if_pos (by omega), rdL_at l i hil, w64 (x := (i : Int) + 1) (by omega) (by omega)]
      rfl
    · refine Ev.bind (specLabelOk l[i] (he _ (List.getElem_mem hil))) ?_
      cases hb : impl_LabelOk.v l[i] with
      | true => simp only [if_true, Bool.true_and]; exact ih (i + 1) (by omega)
      | false => simp only [Bool.false_eq_true, if_false, Bool.false_and]; exact Ev.now _
theorem specNameOk (l : List (List Int)) (hl : l.length ≤ 1048576) (he : ∀ x ∈ l, x.length ≤ 140737488351232) : Ev (fun k => spec_NameOk.f k l) (impl_NameOk.v l) := by
  unfold spec_NameOk.f impl_NameOk.v
  by_cases h : (l.length : Int) > 6
  · simp only [if_pos h]
    rw [decide_eq_false (show ¬ l.length ≤ 6 by omega)]
    exact Ev.now _
  · simp only [if_neg h]
    rw [decide_eq_true (show l.length ≤ 6 by omega), Bool.true_and]
    simpa using specNameOk_l0 l hl he l.length 0 (by omega)
end Go.Proofs.Ytkmchjdioplfjaa.Pure

/- Plain lemmas on the printed functions that read, measure and compare records, and say whether they are right. -/
namespace Go.Proofs.Ytkmchjdioplfjaa.Pure
open Go Go.RowKit Go.Proofs.Ytkmchjdioplfjaa.Q Go.Proofs.YtkmchjdioplfjaaW.PrintWords Go.Proofs.YtkmchjdioplfjaaW.PrintLast Go.Proofs.YtkmchjdioplfjaaW.PrintMore
set_option linter.unusedVariables false
set_option linter.unusedSimpArgs false

def FitN (l : List (List Int)) : Prop := l.length ≤ 1048576 ∧ (∀ x ∈ l, x.length ≤ 1048576) ∧ lens l ≤ 1048576
theorem FitN.big {l : List (List Int)} (h : FitN l) : ∀ x ∈ l, x.length ≤ 140737488351232 := fun x hx => by have := h.2.1 x hx; omega
end Go.Proofs.Ytkmchjdioplfjaa.Pure

/- Plain lemmas on the printed functions: marks over names and records. -/
namespace Go.Proofs.Ytkmchjdioplfjaa.Pure
open Go Go.RowKit Go.Proofs.Ytkmchjdioplfjaa.Q Go.Proofs.YtkmchjdioplfjaaW.PrintWords Go.Proofs.YtkmchjdioplfjaaW.PrintLast Go.Proofs.YtkmchjdioplfjaaW.PrintMore
set_option linter.unusedVariables false
set_option linter.unusedSimpArgs false
end Go.Proofs.Ytkmchjdioplfjaa.Pure

/- Plain lemmas on the printed functions that compare names, and say whether one lies under another. -/

namespace Go.Proofs.Ytkmchjdioplfjaa.Pure
open Go Go.RowKit Go.Proofs.Ytkmchjdioplfjaa.Q Go.Proofs.YtkmchjdioplfjaaW.PrintWords Go.Proofs.YtkmchjdioplfjaaW.PrintLast Go.Proofs.YtkmchjdioplfjaaW.PrintMore
set_option linter.unusedVariables false
set_option linter.unusedSimpArgs false
end Go.Proofs.Ytkmchjdioplfjaa.Pure

/- Plain lemmas on the printed functions that write names and records as bytes, and compare records. -/
namespace Go.Proofs.Ytkmchjdioplfjaa.Pure
open Go Go.RowKit Go.Proofs.Ytkmchjdioplfjaa.Q Go.Proofs.YtkmchjdioplfjaaW.PrintWords Go.Proofs.YtkmchjdioplfjaaW.PrintLast Go.Proofs.YtkmchjdioplfjaaW.PrintMore
set_option linter.unusedVariables false
set_option linter.unusedSimpArgs false

def wireV (l : List (List Int)) : List Int := spec_l2put.w l ++ [0]
theorem w_len (l : List (List Int)) : (spec_l2put.w l).length = l.length + lens l := by
  induction l with
  | nil => simp [spec_l2put.w, lens]
  | cons x l ih => simp only [spec_l2put.w, List.length_cons, List.length_append, ih, lens, List.map_cons, List.sum_cons]; omega
theorem lens_le (l : List (List Int)) (m : Nat) (h : ∀ x ∈ l, x.length ≤ m) : lens l ≤ l.length * m := by
  induction l with
  | nil => simp [lens]
  | cons x l ih =>
    have h1 := h x (by simp)
    have h2 := ih (fun y hy => h y (by simp [hy]))
    simp only [lens, List.map_cons, List.sum_cons, List.length_cons, Nat.add_mul, Nat.one_mul] at h2 ⊢
    omega
theorem nameOk_len {l : List (List Int)} (h : impl_NameOk.v l = true) : l.length ≤ 6 ∧ ∀ x ∈ l, 1 ≤ x.length ∧ x.length ≤ 15 ∧ Bytes x := by
  unfold impl_NameOk.v at h
  rw [Bool.and_eq_true, decide_eq_true_iff, List.all_eq_true] at h
  refine ⟨h.1, fun x hx => ?_⟩
  have h2 := h.2 x hx
  unfold impl_LabelOk.v at h2
  simp only [Bool.and_eq_true, decide_eq_true_iff, List.all_eq_true] at h2
  refine ⟨by omega, by omega, fun y hy => ?_⟩
  have h3 := h2.2 y hy
  unfold impl_LabelOk.byte at h3
  simp at h3
  omega
theorem nameOk_w {l : List (List Int)} (h : impl_NameOk.v l = true) : (spec_l2put.w l).length ≤ 96 := by
  obtain ⟨h1, h2⟩ := nameOk_len h
  have := lens_le l 15 (fun x hx => (h2 x hx).2.1)
  rw [w_len]; omega
theorem specPut (b : List Int) (l : List (List Int)) (h : impl_NameOk.v l = true) (hb : b.length ≤ 140737488355000) : spec_l2put.f b l = some (b ++ wireV l) := by
  have := nameOk_w h
  unfold spec_l2put.f wireV
  rw [if_pos (by omega), List.append_assoc]
theorem implWire_l0 (l : List (List Int)) (hl : l.length + lens l ≤ 1048576) (m : Nat) : ∀ (i : Nat), l.length = i + m →
    Ev (fun k => impl_Name_wire.l0 k (spec_l2put.w (l.take i)) l (l.length : Int) i) (wireV l) := by
  induction m with
  | zero =>
    intro i hi
    refine Ev.step (f := fun _ => some (wireV l)) (fun k => ?_) (Ev.now _)
    have hw := spec_l2put.w_take l i
    rw [w_len l] at hw
    simp only [impl_Name_wire.l0]
    rw [if_neg (by omega), if_pos (by omega), List.take_of_length_le (by omega)]
    rfl
  | succ m ih =>
    intro i hi
    have hil : i < l.length := by omega
    have hw := spec_l2put.w_take l i
    have hw1 := spec_l2put.w_take l (i + 1)
    rw [w_len l] at hw hw1
    have e : spec_l2put.w (l.take (i + 1)) = spec_l2put.w (l.take i) ++ [(l[i].length : Int) % 256] ++ l[i] := by
      rw [List.take_succ_eq_append_getElem hil, spec_l2put.w_snoc]
    rw [e] at hw1
    simp only [List.length_append, List.length_singleton] at hw1
    refine Ev.step (fun k => ?_) (ih (i+1) (by omega))
    simp only [impl_Name_wire.l0, Option.bind_some]
    rw [if_pos (by omega), if_pos (by omega), if_pos (by omega), if_pos (by omega), rdL_at l i hil, if_pos (by simp only [List.length_append, List.length_singleton]; omega), w64 (by omega) (by omega), e]
    rfl
theorem implWire (l : List (List Int)) (hl : l.length + lens l ≤ 1048576) : Ev (fun k => impl_Name_wire.f k l) (wireV l) := by
  unfold impl_Name_wire.f
  simpa [spec_l2put.w] using implWire_l0 l hl l.length 0 (by omega)
theorem nameOk_sum {l : List (List Int)} (h : impl_NameOk.v l = true) : l.length + lens l ≤ 96 := by
  have := nameOk_w h
  rwa [w_len] at this
end Go.Proofs.Ytkmchjdioplfjaa.Pure

/- What an argument reads as, kind by kind: from the form's reading of a datum to the print's kinds (Kd). -/
namespace Go.Proofs.Ytkmchjdioplfjaa.Open
open Go Go.RowKit Go.Deep Go.ChangeShapes Go.WideShapes Go.ChangeAt Go.Proofs.YtkmchjdioplfjaaW.PrintWords
set_option linter.unusedVariables false
variable {H : Type} {enc : TypeId × Value → H} {P : Program} {W : World} {sp : Nat → Bool} {held : Bool}

end Go.Proofs.Ytkmchjdioplfjaa.Open

-- Written by a program of this session (wip/myprint.py): what each type of the laws' parameters reads as.
namespace Go.Proofs.Ytkmchjdioplfjaa.Q
open Go Go.RowKit Go.Proofs.Ytkmchjdioplfjaa.Open Go.Proofs.YtkmchjdioplfjaaW.PrintWords
set_option linter.unusedVariables false
end Go.Proofs.Ytkmchjdioplfjaa.Q

-- Written by a program of this session (wip/myprint.py): the pure statement of a law.
namespace Go.Proofs.Ytkmchjdioplfjaa.Q
open Go Go.RowKit
end Go.Proofs.Ytkmchjdioplfjaa.Q

/- The statement FnExactDhcid: at every client and every name the reference and the program tell the same sum, their caller's own. No condition. -/
namespace Go.Proofs.Ytkmchjdioplfjaa.Pure
open Go Go.RowKit Go.Proofs.Ytkmchjdioplfjaa.Q Go.Proofs.YtkmchjdioplfjaaW.PrintWords Go.Proofs.YtkmchjdioplfjaaW.PrintLast
set_option linter.unusedVariables false
theorem sumL_len (l : List Int) : (sumL l).length = 32 := by unfold sumL; rw [outB_len]
def cliV (l : List Int) : Bool := decide (1 ≤ l.length ∧ l.length ≤ 16)
theorem implCli (l : List Int) : impl_isClient.f l = some (cliV l) := by
  unfold impl_isClient.f impl_within.f cliV
  split
  · simp only [Option.bind_some, Option.some.injEq]
    rw [decide_eq_decide]
    omega
  · rw [decide_eq_false (by omega)]; rfl
def dhcidV (l : List Int) (n : List (List Int)) : List Int × Bool := if cliV l = true ∧ impl_NameOk.v n = true then ([0, 1, 1] ++ sumL (l ++ wireV n), true) else ([], false)
theorem w_byt : ∀ (n : List (List Int)), (∀ x ∈ n, x.length ≤ 15 ∧ Bytes x) → Byt (spec_l2put.w n)
  | [], _ => fun x hx => by simp [spec_l2put.w] at hx
  | y :: n, h => fun x hx => by
    have h1 := h y (by simp)
    rw [spec_l2put.w, List.mem_cons, List.mem_append] at hx
    rcases hx with rfl | hx | hx
    · omega
    · exact h1.2 x hx
    · exact w_byt n (fun z hz => h z (by simp [hz])) x hx
theorem wire_byt (n : List (List Int)) (h : impl_NameOk.v n = true) : Byt (wireV n) := fun x hx => by
  rcases List.mem_append.1 hx with h1 | h1
  · exact w_byt n (fun y hy => ⟨((nameOk_len h).2 y hy).2.1, ((nameOk_len h).2 y hy).2.2⟩) x h1
  · rw [List.mem_singleton.1 h1]; omega
theorem implDhcid (l : List Int) (n : List (List Int)) (hb : Byt l) (hn : FitN n) : Ev (fun k => impl_Dhcid.f k l n) (dhcidV l n) := by
  unfold impl_Dhcid.f dhcidV
  simp only [implCli, Option.bind_some]
  by_cases hc : cliV l = true
  · simp only [if_pos hc]
    unfold impl_NameOk.f
    simp only [Option.bind_some]
    by_cases h : impl_NameOk.v n = true
    · have hw := nameOk_w h
      have hl : l.length ≤ 16 := by unfold cliV at hc; simp at hc; omega
      have hwl : (wireV n).length ≤ 97 := by simp [wireV]; omega
      have hs := sumL_len (l ++ wireV n)
      have hby : Byt (l ++ wireV n) := fun x hx => by
        rcases List.mem_append.1 hx with h1 | h1
        · exact hb x h1
        · exact wire_byt n h x h1
      simp only [if_pos h, if_pos (And.intro hc h)]
      unfold impl_dhcid.f
      simp only [Option.bind_some]
      refine Ev.bind (a := [0, 1, 1] ++ sumL (l ++ wireV n)) (Ev.bind (implWire n (by have := nameOk_sum h; omega)) ?_) (Ev.now _)
      unfold slices_Concat_byte_byte.f impl_sha256.f
      simp only [if_pos (show slices_Concat_byte_byte.total [l, wireV n] < 140737488355328 by simp [slices_Concat_byte_byte.total, wireV]; omega), Option.bind_some, List.flatten_cons, List.flatten_nil, List.append_nil]
      rw [if_pos ⟨by simp; omega, hby⟩]
      simp only [Option.bind_some]
      rw [if_pos (by simp [hs])]
      exact Ev.now _
    · simp only [if_neg h, if_neg (show ¬ (cliV l = true ∧ impl_NameOk.v n = true) from fun e => h e.2)]; exact Ev.now _
  · simp only [if_neg hc, if_neg (show ¬ (cliV l = true ∧ impl_NameOk.v n = true) from fun e => hc e.1)]; exact Ev.now _
end Go.Proofs.Ytkmchjdioplfjaa.Pure

/- The statement FnSums: the sum of a text is told as it is; a drawn client's sum hangs on it and on the name alone; every drawn row has a sum of 32 bytes. No condition. -/
namespace Go.Proofs.Ytkmchjdioplfjaa.Q
open Go.RowKit Go Go.Proofs.YtkmchjdioplfjaaW.PrintWords Go.Proofs.YtkmchjdioplfjaaW.PrintLast Go.Proofs.YtkmchjdioplfjaaW.PrintMore
set_option linter.unusedVariables false
def L9 : List Int := [115, 111, 109, 101, 32, 116, 101, 120, 116]
theorem conv_lit (W : World) (C : Array Value) (n : Nat) (hn : C.size = n) : (convert 26 26 (.slice (some ⟨W.heap.size, 0, none⟩) n n)).run Try.prog (W.alloc (.cells C 5)) = .ok (.slice (some ⟨W.heap.size, 0, none⟩) n n) (W.alloc (.cells C 5 (n, n + 1))) := by
  have hsh : (W.alloc (.cells C 5)).shape? W.heap.size = some (5, n) := by
    have := heap_alloc_new W (.cells C 5)
    unfold World.shape?
    rw [this, ← hn]
  have hf := freeze_new W C 5 n
  simp [convert, run_underlying Try.underlying26, run_underlying Try.underlying5, markStringish, hsh, Result.andThen]
  exact hf
theorem C_L9 (W : World) : Kd.C (Kd.int .u8) (W.alloc (.cells #[.int .u8 115, .int .u8 111, .int .u8 109, .int .u8 101, .int .u8 32, .int .u8 116, .int .u8 101, .int .u8 120, .int .u8 116] 5 (9, 10))) (some ⟨W.heap.size, 0, none⟩) L9.length L9 := by
  have h : ∀ j, (W.alloc (.cells #[.int .u8 115, .int .u8 111, .int .u8 109, .int .u8 101, .int .u8 32, .int .u8 116, .int .u8 101, .int .u8 120, .int .u8 116] 5 (9, 10))).cell? ⟨W.heap.size, j, none⟩ = (#[.int .u8 115, .int .u8 111, .int .u8 109, .int .u8 101, .int .u8 32, .int .u8 116, .int .u8 101, .int .u8 120, .int .u8 116] : Array Value)[j]? := fun j => cell_of_row _ _ _ _ _ _ (heap_alloc_new _ _)
  exact Kd.C_of_reads (d := 0) ⟨rfl, by decide, fun _ => ⟨_, rfl, fun j hj => match j, hj with
    | 0, _ => (h 0).trans rfl
    | 1, _ => (h 1).trans rfl
    | 2, _ => (h 2).trans rfl
    | 3, _ => (h 3).trans rfl
    | 4, _ => (h 4).trans rfl
    | 5, _ => (h 5).trans rfl
    | 6, _ => (h 6).trans rfl
    | 7, _ => (h 7).trans rfl
    | 8, _ => (h 8).trans rfl⟩⟩
theorem sum_len (l : List Int) : (sumL l).length = 32 := by unfold sumL; rw [outB_len]
theorem implSum (l : List Int) (hl : l.length ≤ 4096) (hb : Byt l) : impl_Sha256.f l = some (sumL l) := by
  unfold impl_Sha256.f impl_sha256.f
  rw [if_neg (by omega), if_pos ⟨by omega, hb⟩]
  rfl
theorem specSum (l : List Int) (hl : l.length ≤ 4096) : spec_Sha256.f l = some (sumL l) := by
  unfold spec_Sha256.f spec_l7sum.f
  rw [if_neg (by omega), if_pos (by omega)]
  rfl
theorem R_empty (W : World) (base : Nat) (hb : base ≤ W.heap.size) : Kd.R (Kd.int .u8) 5 (W.alloc (.cells #[] 5)) base (fun _ => True) (.slice (some ⟨W.heap.size, 0, none⟩) 0 0) [] :=
  ⟨fun _ _ => trivial, [], World.ownsRow_lit (base := base) (e := 5) (size := 1) W #[] 0 hb (by decide) (by simp), Reps.none _ _⟩
theorem same_self (l : List Int) : laws_same.f l l = some true := by unfold laws_same.f; simp
def laws_FnSums.f (_ : Nat) (l0 : List Int) : Option Bool := if l0.length ≤ 140737488351232 then some true else none
set_option maxHeartbeats 4000000 in
set_option maxRecDepth 100000 in
theorem laws_FnSums.calls0 (A0 : Option Addr) (c0 : Nat) (s : List Int) (w : World) (hs : s.length ≤ 140737488351232) (hr : Kd.C (Kd.int .u8) w A0 s.length s) (hc : s.length ≤ c0) :
    Calls Try.prog 6 #[.slice A0 s.length c0] w fun e w' => e = .returned (.bool true) ∧ Below w.heap.size w w' := by
  have HS := ak hs
  have HR := ak hr
  have HC := ak hc
  clear hs hr hc
  go_enter Try.func6, Try.ntmps6
  have hcv := conv_lit w #[.int .u8 115, .int .u8 111, .int .u8 109, .int .u8 101, .int .u8 32, .int .u8 116, .int .u8 101, .int .u8 120, .int .u8 116] 9 rfl
  go_wp2_with (fail)
  refine (impl_Sha256.calls _ 9 L9 (sumL L9) _ (C_L9 w) (by decide) (implSum L9 (by decide) (by decide))).mono ?_
  rintro e w2 ⟨v3, rfl, ho, hb⟩
  have HB := ak (below_step (below_alloc (Below.refl w.heap.size w) _) hb)
  obtain ⟨S9, HS9⟩ : ∃ S, Aside0 (sumL L9 = S) := ⟨_, ⟨rfl⟩⟩
  rw [HS9.out] at ho
  have hl9 : S9.length = 32 := by rw [← HS9.out]; exact sum_len L9
  obtain ⟨A3, c3, eo⟩ := Kd.R_slice ho
  subst eo
  have HO3 := ak ho
  clear ho hb hcv
  have hne : ((S9.length : Int) != 32) = false := by rw [hl9]; rfl
  have hcv := conv_lit w2 #[.int .u8 115, .int .u8 111, .int .u8 109, .int .u8 101, .int .u8 32, .int .u8 116, .int .u8 101, .int .u8 120, .int .u8 116] 9 rfl
  clear hl9
  go_wp2_with (fail)
  refine (spec_Sha256.calls _ 9 L9 S9 _ (C_L9 w2) (by decide) (by rw [← HS9.out]; exact specSum L9 (by decide))).mono ?_
  rintro e w3 ⟨v21, rfl, ho, hb⟩
  replace HO3 := ak (Kd.R_below (Kd.R_alloc HO3.out _) hb)
  replace HB := ak (below_step (below_alloc HB.out _) hb)
  obtain ⟨A21, c21, eo⟩ := Kd.R_slice ho
  subst eo
  have HO21 := ak ho
  clear ho hb hcv
  go_wp2_with (fail)
  refine (laws_same.calls A3 c3 S9 A21 c21 S9 true w3 (Kd.R_reads' HO3.out).2.2 (Kd.R_reads' HO3.out).2.1 (Kd.R_reads' HO21.out).2.2 (Kd.R_reads' HO21.out).2.1 (same_self S9)).mono ?_
  rintro e w4' ⟨rfl, ⟨nd, rfl⟩⟩
  replace HB := ak (pw_below_drewN HB.out nd)
  clear HO3 HO21
  generalize w3.drewN nd = w4 at HB ⊢
  go_wp2_with (fail)
  refine (drawdhcid_any A0 c0 s w4 HS.out (Kd.C_below HR.out HB.out) HC.out).mono ?_
  rintro e w5 ⟨A, c, l, A1, c1, n, rfl, hlc, hx, hnc, hsm, hCl, hCn, hb⟩
  replace HB := b2s HB.out hb
  have HL := ak hx
  have HLC := ak hlc
  have HNC := ak hnc
  have HCL := ak hCl
  have HCN := ak hCn
  have hfit : Pure.FitN n := ⟨Nat.le_trans hsm.1 (by omega), fun x hx => Nat.le_trans (hsm.2 x hx) (by omega), by have := Pure.lens_le n 20 hsm.2; have := hsm.1; omega⟩
  have HFIT := ak hfit
  clear hlc hx hnc hsm hCl hCn hb hfit
  obtain ⟨k, hk⟩ := Pure.implDhcid l n HL.out.2 HFIT.out
  replace hk := hk k (Nat.le_refl _)
  go_wp2_with (fail)
  have BN := ak (heap_alloc_new w5 (.cells #[.slice A1 n.length c1] 28))
  replace HB := ak (below_alloc HB.out (.cells #[.slice A1 n.length c1] 28))
  replace HCL := ak (Kd.C_alloc HCL.out (.cells #[.slice A1 n.length c1] 28))
  replace HCN := ak (Kd.C_alloc HCN.out (.cells #[.slice A1 n.length c1] 28))
  change Calls _ _ _ (w5.alloc (.cells #[.slice A1 n.length c1] 28)) _
  generalize w5.alloc (.cells #[.slice A1 n.length c1] 28) = w6 at BN HB HCL HCN ⊢
  generalize w5.heap.size = gn at BN ⊢
  by_cases hok : Pure.cliV l = true ∧ impl_NameOk.v n = true
  · have hd : Pure.dhcidV l n = ([0, 1, 1] ++ sumL (l ++ Pure.wireV n), true) := by unfold Pure.dhcidV; rw [if_pos hok]
    rw [hd] at hk
    obtain ⟨D, HD⟩ : ∃ D, Aside0 ([0, 1, 1] ++ sumL (l ++ Pure.wireV n) = D) := ⟨_, ⟨rfl⟩⟩
    rw [HD.out] at hk
    have HDL := ak (show D.length = 35 by rw [← HD.out]; simp [sum_len])
    have HK := ak hk
    have HOK := ak hok
    clear hk hok hd
    refine (impl_Dhcid.calls k A c l A1 c1 n D true w6 HCL.out HLC.out HCN.out HNC.out HK.out).mono ?_
    rintro e w7 ⟨v34, rfl, ho, hb⟩
    replace BN := ak (blk_below BN.out hb)
    replace HB := b2s HB.out hb
    replace HCL := ak (Kd.C_below HCL.out hb)
    replace HCN := ak (Kd.C_below HCN.out hb)
    obtain ⟨A6, c6, eo⟩ := Kd.R_slice ho
    subst eo
    have HO6 := ak ho
    clear ho hb
    have hn : w7.cell? ⟨gn, 0, none⟩ = some (.slice A1 n.length c1) := (blk_cell BN.out 0).trans rfl
    obtain ⟨k2, hk2⟩ := Pure.specNameOk n HFIT.out.1 HFIT.out.big
    replace hk2 := hk2 k2 (Nat.le_refl _)
    replace hk2 : spec_NameOk.f k2 n = some true := by rw [← HOK.out.2]; exact hk2
    obtain ⟨wv, HWV⟩ : ∃ v, Aside0 (Pure.wireV n = v) := ⟨_, ⟨rfl⟩⟩
    have HWL := ak (show wv.length ≤ 97 by rw [← HWV.out]; have := Pure.nameOk_w HOK.out.2; simp [Pure.wireV]; omega)
    have HNP := ak (show spec_NamePut.f k2 [] n = some (wv, true) by
      have hp := Pure.specPut [] n HOK.out.2 (by simp)
      rw [List.nil_append, HWV.out] at hp
      unfold spec_NamePut.f
      rw [hk2]
      simp only [Option.bind_some, if_true, List.length_nil, List.nil_append]
      rw [if_pos (by omega), hp]
      rfl)
    clear hk2
    go_wp2_with (fail)
    refine (spec_NamePut.calls k2 none 0 [] A1 c1 n wv true w7 (Kd.C_nil _ _) (Nat.le_refl _) HCN.out HNC.out HNP.out).mono ?_
    rintro e w8 ⟨v44, rfl, ho, hb⟩
    replace HB := b2s HB.out hb
    replace HCL := ak (Kd.C_below HCL.out hb)
    replace HO6 := ak (Kd.R_below HO6.out hb)
    obtain ⟨A8, c8, eo⟩ := Kd.R_slice ho
    subst eo
    have HO8 := ak ho
    clear ho hb hn BN HCN
    have hdl := HDL.out
    have hne2 : ((D.length : Int) != 35) = false := by rw [hdl]; rfl
    obtain ⟨i010, hi010, _, hsz10, _⟩ := info_parts info5
    have hcut := cut_from (P := Try.prog) 26 5 .i64 Try.underlying26 hi010 1 hsz10 A6 D.length c6 3 (by omega) (by omega)
    have hr7 := Kd.C_drop (m := 3) (c := c6) (Kd.R_reads' HO6.out).2.2 (by omega) (Kd.R_reads' HO6.out).2.1
    have hc7 : (D.drop 3).length ≤ c6 - 3 := by have := (Kd.R_reads' HO6.out).2.1; rw [List.length_drop]; omega
    have hdd : D.drop 3 = sumL (l ++ wv) := by rw [← HD.out, HWV.out]; rfl
    rw [show ((3 : Int)).toNat = 3 from rfl] at hcut
    obtain ⟨A7, hA7⟩ : ∃ A1, A1 = (if c6 = 3 then A6 else Option.map (fun x => x.add (3 * 1)) A6) := ⟨_, rfl⟩
    obtain ⟨c7, hcc7⟩ : ∃ c1, c1 = c6 - 3 := ⟨_, rfl⟩
    obtain ⟨SD, HSD⟩ : ∃ S, Aside0 (sumL (l ++ wv) = S) := ⟨_, ⟨rfl⟩⟩
    rw [HSD.out] at hdd
    obtain ⟨lw, HLW⟩ : ∃ v, Aside0 (l ++ wv = v) := ⟨_, ⟨rfl⟩⟩
    replace hr7 : Kd.C (Kd.int .u8) w8 A7 SD.length SD := by rw [hA7, ← hdd]; exact hr7
    rw [← hA7, ← hcc7, show D.length - 3 = SD.length by rw [← hdd, List.length_drop]] at hcut
    rw [hdd, ← hcc7] at hc7
    have HR7 := ak hr7
    have HC7 := ak hc7
    have HBY := ak (show Byt (l ++ wv) from fun x hx => by
      rcases List.mem_append.1 hx with h1 | h1
      · exact HL.out.2 x h1
      · rw [← HWV.out] at h1; exact Pure.wire_byt n HOK.out.2 x h1)
    have HSUM := ak (show impl_Sha256.f lw = some SD by rw [← HSD.out, ← HLW.out]; exact implSum _ (by have := HL.out.1; have := HWL.out; rw [List.length_append]; omega) HBY.out)
    clear hdl hi010 hsz10 hr7 hc7 hdd hA7 hcc7
    go_wp2
    go_region_law (first
      | (refine Kd.R_append_rows_step (Kd.int .u8) (w0 := w8) w8.heap.size (by first | rfl | simp [Region.wanted]) (.tmp 52) (.tmp 53) 26 5 (.int .u8 0) 1 (by rfl) Try.underlying26 info5 rfl (by decide) (by omega) _ [] l _ _ _ (fun _ => True) (fun _ => False) (by rfl) (by rfl) (by first | exact R_empty w8 _ (Nat.le_refl _) | exact Kd.R_drew (R_empty w8 _ (Nat.le_refl _)) | exact R_empty w8.drew _ (Nat.le_refl _)) (by first | exact Kd.C_alloc HCL.out _ | exact Kd.C_drew (Kd.C_alloc HCL.out _) | exact Kd.C_alloc (Kd.C_drew HCL.out) _) (fun _ _ h => h) (fun _ h => h.elim) (fun _ _ => trivial) (by first | exact below_alloc (Below.refl _ _) _ | exact below_drew1 (below_alloc (Below.refl _ _) _) | exact below_alloc (below_drew1 (Below.refl _ _)) _) (by simp) (by have := HL.out.1; simp; omega) ?_; intro v1 w9 ho hb hg hat; rw [List.nil_append] at ho; have HO9 := ak ho; have HB9 := ak hb; have HC9 := ak (Kd.C_below (Kd.R_reads' HO8.out).2.2 hb); clear ho hb hg hat)
      | (refine Kd.R_append_rows_step (Kd.int .u8) (w0 := w8) w8.heap.size (by first | rfl | simp [Region.wanted]) (.tmp 54) (.tmp 55) 26 5 (.int .u8 0) 1 (by rfl) Try.underlying26 info5 rfl (by decide) (by omega) _ l wv _ _ _ (fun _ => True) (fun _ => False) (by rfl) (by rfl) HO9.out HC9.out (fun _ _ h => h) (fun _ h => h.elim) (fun _ _ => trivial) HB9.out HB9.out.size (by have := HL.out.1; have := HWL.out; omega) ?_; intro v2 w10 ho hb hg hat; rw [HLW.out] at ho; obtain ⟨A10, c10, eo⟩ := Kd.R_slice ho; subst eo; have HO10 := ak ho; have HB10 := ak hb; clear ho hb hg hat HO9 HB9 HC9)
      | (go_simp; go_at_call 18; refine (impl_Sha256.calls A10 c10 lw SD w10 (Kd.R_reads' HO10.out).2.2 (Kd.R_reads' HO10.out).2.1 HSUM.out).mono ?_; rintro e w11 ⟨v57, rfl, ho, hb⟩; obtain ⟨A11, c11, eo⟩ := Kd.R_slice ho; subst eo; have HO11 := ak ho; have HB11 := ak (below_then HB10.out HB10.out.size hb); clear ho hb HO10 HB10)
      | (go_simp; go_at_call 21; refine (laws_same.calls A7 c7 SD A11 c11 SD true w11 (Kd.C_below HR7.out HB11.out) HC7.out (Kd.R_reads' HO11.out).2.2 (Kd.R_reads' HO11.out).2.1 (same_self SD)).mono ?_; rintro e w12 ⟨rfl, ⟨nd, rfl⟩⟩))
    replace HB := ak (pw_below_drewN (below_step HB.out HB11.out) nd)
    generalize w11.drewN nd = w12 at HB ⊢
    clear hcut HO6 HO8 HR7 HC7 HO11 HB11 hne2
    obtain ⟨k3, r3, hr3, hl3, hb3⟩ := drawsha_f s HS.out
    have HL3 := ak hl3
    have HB3 := ak hb3
    have HR3 := ak hr3
    clear hr3 hl3 hb3
    simp only [Act.put, List.getElem_toArray, List.getElem_cons_zero, List.getElem_cons_succ, List.setIfInBounds_toArray, List.set_cons_zero, List.set_cons_succ]
    go_wp2_with (fail)
    refine (spec_DrawSha256.calls k3 A0 c0 s r3 w12 (Kd.C_below HR.out HB.out) HC.out HR3.out).mono ?_
    rintro e w13 ⟨v62, rfl, ho, hb⟩
    replace HB := b2s HB.out hb
    obtain ⟨A13, c13, eo⟩ := Kd.R_slice ho
    subst eo
    have HO13 := ak ho
    clear ho hb
    go_wp2_with (fail)
    refine (impl_Sha256.calls A13 c13 r3 (sumL r3) w13 (Kd.R_reads' HO13.out).2.2 (Kd.R_reads' HO13.out).2.1 (implSum r3 HL3.out HB3.out)).mono ?_
    rintro e w14 ⟨v64, rfl, ho, hb⟩
    replace HB := b2s HB.out hb
    have hl := sum_len r3
    generalize sumL r3 = sr at ho hl
    obtain ⟨A14, c14, eo⟩ := Kd.R_slice ho
    subst eo
    have heq : ((sr.length : Int) == 32) = true := by rw [hl]; rfl
    clear ho hb hl HO13
    go_wp2
    go_ret
    exact ⟨rfl, HB.out⟩
  · have hd : Pure.dhcidV l n = ([], false) := by unfold Pure.dhcidV; rw [if_neg hok]
    rw [hd] at hk
    have HK := ak hk
    clear hk hok hd
    refine (impl_Dhcid.calls k A c l A1 c1 n [] false w6 HCL.out HLC.out HCN.out HNC.out HK.out).mono ?_
    rintro e w7 ⟨v34, rfl, ho, hb⟩
    replace HB := b2s HB.out hb
    obtain ⟨A6, c6, eo⟩ := Kd.R_slice ho
    subst eo
    clear ho hb
    go_wp2
    go_ret
    exact ⟨rfl, HB.out⟩
theorem laws_FnSums.calls (k : Nat) (A0 : Option Addr) (c0 : Nat) (l0 : List Int) (r : Bool) (w : World) (hr0 : Kd.C (Kd.int .u8) w A0 l0.length l0) (hc0 : l0.length ≤ c0) (h : laws_FnSums.f k l0 = some r) :
    Calls Try.prog 6 #[.slice A0 l0.length c0] w fun e w' => e = .returned (.bool r) ∧ Below w.heap.size w w' := by
  unfold laws_FnSums.f at h
  split at h
  · rename_i hl
    obtain rfl := Option.some.inj h
    exact laws_FnSums.calls0 A0 c0 l0 w hl hr0 hc0
  · exact absurd h (by simp)
/-- THE ONE PURE STATEMENT of laws_FnSums: yours. -/
def laws_FnSums.Pure : Prop := ∀ (l0 : List Int), l0.length ≤ maxLen → l0.length * 1 ≤ 140737488351232 → (∀ x ∈ l0, (Lit.int .u8 x).wf = true) → ∃ k, laws_FnSums.f k l0 = some true
theorem laws_FnSums.walk (P : laws_FnSums.Pure) (a0 : Option Addr) (len0 cap0 : Nat) (z0 : List Int) (w : World) (w0 : (a0 = none ∧ len0 = 0 ∧ cap0 = 0 ∧ z0 = []) ∨ ∃ x, a0 = some x ∧ len0 ≤ cap0 ∧ cap0 ≤ maxLen ∧ z0.length = cap0 ∧ (∀ i, i < z0.length → w.cell? (x.add i) = some (.int .u8 (z0.getD i 0))) ∧ ∀ n ∈ z0, (Lit.int .u8 n).wf = true) (y0 : len0 * 1 ≤ 140737488351232) :
  Calls Try.prog 6 #[.slice a0 len0 cap0] w fun e w' => e = .returned (.bool true) ∧ Below w.heap.size w w' := by
 obtain ⟨l0, rfl, hr0, hm0, hw0, hc0⟩ := ReadsInt.ofRowC w0
 obtain ⟨k, h⟩ := P l0 hm0 y0 hw0
 refine (laws_FnSums.calls k _ _ l0 true w (Kd.C_of_reads (d := (0 : Int)) (h1 := fun _ => rfl) hr0) hc0 h).mono ?_
 rintro e w' ⟨rfl, hd⟩
 exact ⟨rfl, hd⟩
end Go.Proofs.Ytkmchjdioplfjaa.Q
namespace Go.Proofs.Ytkmchjdioplfjaa.Pure
open Go Go.RowKit Go.Proofs.Ytkmchjdioplfjaa.Q Go.Proofs.YtkmchjdioplfjaaW.PrintWords Go.Proofs.YtkmchjdioplfjaaW.PrintLast
theorem FnSums : laws_FnSums.Pure := fun l0 _ hl _ => ⟨0, by unfold laws_FnSums.f; rw [if_pos (by omega)]⟩
end Go.Proofs.Ytkmchjdioplfjaa.Pure

