/- Plain lemmas on the printed functions that read, measure and compare lists of lists of bytes, and names. -/
import Derived.Test.YtblmnkjiefanfaaPureA
import Derived.Test.YtblmnkjiefanfaaQ35
import Derived.Test.YtblmnkjiefanfaaQ37
import Derived.Test.YtblmnkjiefanfaaQ39
import Derived.Test.YtblmnkjiefanfaaQ55
import Derived.Test.YtblmnkjiefanfaaQ56
import Derived.Test.YtblmnkjiefanfaaQ58
import Derived.Test.YtblmnkjiefanfaaQ66
namespace Go.Proofs.Ytblmnkjiefanfaa.Pure
open Go Go.RowKit Go.Proofs.Ytblmnkjiefanfaa.Q Go.Proofs.YtblmnkjiefanfaaW.PrintWords Go.Proofs.YtblmnkjiefanfaaW.PrintLast Go.Proofs.YtblmnkjiefanfaaW.PrintMore
set_option linter.unusedVariables false
set_option linter.unusedSimpArgs false

theorem rdL_at (l : List (List Int)) (i : Nat) (h : i < l.length) : rd_L10 l (i : Int) = l[i] := by simp [rd_L10, List.getD_eq_getElem?_getD, h]
def lens (l : List (List Int)) : Nat := (l.map List.length).sum
theorem lens_drop (l : List (List Int)) (i : Nat) (h : i < l.length) : lens (l.drop i) = l[i].length + lens (l.drop (i + 1)) := by
  rw [List.drop_eq_getElem_cons h]; simp only [lens, List.map_cons, List.sum_cons]
theorem len_le_lens (l : List (List Int)) (i : Nat) (h : i < l.length) : l[i].length ≤ lens l := by
  induction l generalizing i with
  | nil => simp at h
  | cons x l ih =>
    cases i with
    | zero => simp [lens]
    | succ i => have := ih i (by simpa using h); simp [lens] at this ⊢; omega
theorem szByteS (l : List Int) (left : Int) (hl : l.length ≤ 9223372036854775807) (h0 : 0 ≤ left) (h1 : left ≤ 1048576) : ∃ t, laws_szByteS.f l left = some t ∧ (t < 0 ∨ (t = left - l.length ∧ 0 ≤ t)) := by
  unfold laws_szByteS.f
  rw [w64 (by omega) (by omega)]
  by_cases h : left - (l.length : Int) < 0
  · exact ⟨-1, by rw [if_pos h], Or.inl (by omega)⟩
  · exact ⟨left - l.length, by rw [if_neg h], Or.inr ⟨rfl, by omega⟩⟩
theorem szByteSS_l0 (l : List (List Int)) (hl : l.length ≤ 1048576) (he : ∀ x ∈ l, x.length ≤ 9223372036854775807) (m : Nat) : ∀ (i : Nat) (left : Int), l.length = i + m → 0 ≤ left → left ≤ 1048576 →
    ∃ t, Ev (fun k => laws_szByteSS.l0 k l left i) t ∧ (t < 0 ∨ (t = left - lens (l.drop i) ∧ 0 ≤ t)) := by
  induction m with
  | zero =>
    intro i left hi h0 h1
    refine ⟨left, Ev.step (f := fun _ => some left) (fun k => ?_) (Ev.now _), Or.inr ⟨by rw [List.drop_of_length_le (by omega)]; simp [lens], h0⟩⟩
    simp only [laws_szByteSS.l0]
    rw [if_neg (by omega)]
  | succ m ih =>
    intro i left hi h0 h1
    have hil : i < l.length := by omega
    obtain ⟨t, ht, hc⟩ := szByteS l[i] left (he _ (List.getElem_mem hil)) h0 h1
    by_cases hneg : t < 0
    · refine ⟨-1, Ev.step (f := fun _ => some (-1)) (fun k => ?_) (Ev.now _), Or.inl (by omega)⟩
      simp only [laws_szByteSS.l0]
      rw [if_pos (by omega), if_pos (by omega), rdL_at l i hil, ht]
      simp [hneg]
    · obtain ⟨u, hu, hcu⟩ := ih (i + 1) t (by omega) (by omega) (by omega)
      refine ⟨u, Ev.step (fun k => ?_) hu, ?_⟩
      · simp only [laws_szByteSS.l0]
        rw [if_pos (by omega), if_pos (by omega), rdL_at l i hil, ht, w64 (x := (i : Int) + 1) (by omega) (by omega)]
        simp [hneg]
      · rw [lens_drop l i hil]
        rcases hcu with h | h
        · exact Or.inl h
        · exact Or.inr (by omega)
theorem szByteSS (l : List (List Int)) (left : Int) (hl : l.length ≤ 9223372036854775807) (he : ∀ x ∈ l, x.length ≤ 9223372036854775807) (h0 : 0 ≤ left) (h1 : left ≤ 1048576) :
    ∃ t, Ev (fun k => laws_szByteSS.f k l left) t ∧ (t < 0 ∨ (t = left - l.length - lens l ∧ 0 ≤ t)) := by
  unfold laws_szByteSS.f
  rw [w64 (by omega) (by omega)]
  by_cases h : left - (l.length : Int) < 0
  · exact ⟨-1, by simp only [if_pos h]; exact Ev.now _, Or.inl (by omega)⟩
  · obtain ⟨t, ht, hc⟩ := szByteSS_l0 l (by omega) he l.length 0 (left - l.length) (by omega) (by omega) (by omega)
    exact ⟨t, by simp only [if_neg h]; exact ht, by rw [List.drop_zero] at hc; omega⟩
theorem szName (l : List (List Int)) (left : Int) (hl : l.length ≤ 9223372036854775807) (he : ∀ x ∈ l, x.length ≤ 9223372036854775807) (h0 : 0 ≤ left) (h1 : left ≤ 1048576) :
    ∃ t, Ev (fun k => laws_szName.f k l left) t ∧ (t < 0 ∨ (t = left - l.length - lens l ∧ 0 ≤ t)) := by
  obtain ⟨t, ht, hc⟩ := szByteSS l left hl he h0 h1
  unfold laws_szName.f
  by_cases h : t < 0
  · exact ⟨-1, Ev.bind ht (by simp only [if_pos h]; exact Ev.now _), Or.inl (by omega)⟩
  · exact ⟨t, Ev.bind ht (by simp only [if_neg h]; exact Ev.now _), hc⟩

theorem setL_prefix (l : List (List Int)) (i : Nat) (h : i < l.length) (m : Nat) (hm : l.length = i + m + 1) :
    (l.take i ++ List.replicate (m+1) []).set i l[i] = l.take (i+1) ++ List.replicate m [] := by
  rw [List.set_append_right _ _ (by simp; omega)]
  simp only [List.length_take, Nat.min_eq_left (Nat.le_of_lt h), Nat.sub_self, List.replicate_succ, List.set_cons_zero]
  rw [List.take_succ_eq_append_getElem h, List.append_assoc]
  simp
theorem toByteSS_l0 (l : List (List Int)) (hl : l.length ≤ 11728124029610) (he : ∀ x ∈ l, x.length ≤ 140737488351232) (m : Nat) : ∀ (i : Nat), l.length = i + m →
    Ev (fun k => laws_toByteSS.l0 k l (l.take i ++ List.replicate m []) i) l := by
  induction m with
  | zero =>
    intro i hi
    refine Ev.step (f := fun _ => some l) (fun k => ?_) (Ev.now _)
    simp only [laws_toByteSS.l0]
    rw [if_neg (by omega)]
    simp [List.take_of_length_le (show l.length ≤ i by omega)]
  | succ m ih =>
    intro i hi
    have hil : i < l.length := by omega
    refine Ev.step (f := fun k => (laws_toByteS.f k l[i]).bind fun t => laws_toByteSS.l0 k l ((l.take i ++ List.replicate (m + 1) []).set i t) ((i + 1 : Nat) : Int)) (fun k => ?_) ?_
    · simp only [laws_toByteSS.l0]
      rw [if_pos (by omega), if_pos (by omega), rdL_at l i hil, w64 (x := (i : Int) + 1) (by omega) (by omega)]
      simp only [if_pos (show (i : Int) < ((l.take i ++ List.replicate (m + 1) ([] : List Int)).length : Int) by simp; omega), show ((i : Int)).toNat = i by omega]
      rfl
    · refine Ev.bind (toByteS l[i] (he _ (List.getElem_mem hil))) ?_
      rw [setL_prefix l i hil m (by omega)]
      exact ih (i + 1) (by omega)
theorem toByteSS (l : List (List Int)) (hl : l.length ≤ 11728124029610) (he : ∀ x ∈ l, x.length ≤ 140737488351232) : Ev (fun k => laws_toByteSS.f k l) l := by
  unfold laws_toByteSS.f
  simp only [if_pos (show 0 ≤ (l.length : Int) by omega), if_pos (show ((l.length : Int)).toNat ≤ 11728124029610 by omega)]
  simpa using toByteSS_l0 l hl he l.length 0 (by omega)
theorem toName (l : List (List Int)) (hl : l.length ≤ 11728124029610) (he : ∀ x ∈ l, x.length ≤ 140737488351232) : Ev (fun k => laws_toName.f k l) l := by
  unfold laws_toName.f
  exact Ev.bind (toByteSS l hl he) (Ev.now _)

theorem eqByteSS_l0 (l : List (List Int)) (hl : l.length ≤ 11728124029610) (he : ∀ x ∈ l, x.length ≤ 140737488351232) (m : Nat) : ∀ (i : Nat), l.length = i + m →
    Ev (fun k => laws_eqByteSS.l0 k l l i) true := by
  induction m with
  | zero =>
    intro i hi
    refine Ev.step (f := fun _ => some true) (fun k => ?_) (Ev.now _)
    simp only [laws_eqByteSS.l0]
    rw [if_neg (by omega)]
  | succ m ih =>
    intro i hi
    have hil : i < l.length := by omega
    refine Ev.step (f := fun k => (laws_eqByteS.f k l[i] l[i]).bind fun t => if t = true then laws_eqByteSS.l0 k l l ((i + 1 : Nat) : Int) else some false) (fun k => ?_) ?_
    · simp only [laws_eqByteSS.l0]
      rw [if_pos (by omega), if_pos (by omega), rdL_at l i hil, w64 (x := (i : Int) + 1) (by omega) (by omega), if_pos (by omega)]
      rfl
    · refine Ev.bind (eqByteS l[i] (he _ (List.getElem_mem hil))) ?_
      simp only [if_true]
      exact ih (i + 1) (by omega)
theorem eqByteSS (l : List (List Int)) (hl : l.length ≤ 11728124029610) (he : ∀ x ∈ l, x.length ≤ 140737488351232) : Ev (fun k => laws_eqByteSS.f k l l) true := by
  unfold laws_eqByteSS.f
  simp only [if_pos]
  exact eqByteSS_l0 l hl he l.length 0 (by omega)
theorem eqName (l : List (List Int)) (hl : l.length ≤ 11728124029610) (he : ∀ x ∈ l, x.length ≤ 140737488351232) : Ev (fun k => laws_eqName.f k l l) true := by
  unfold laws_eqName.f
  refine Ev.bind (eqByteSS l hl he) ?_
  simp only [if_true]; exact Ev.now _
end Go.Proofs.Ytblmnkjiefanfaa.Pure
