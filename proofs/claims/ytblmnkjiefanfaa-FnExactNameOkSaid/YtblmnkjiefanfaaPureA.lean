/- Plain lemmas on the printed functions: a list of bytes read into a new one, two lists compared, a number read from bytes. -/
import Derived.Test.YtblmnkjiefanfaaQ17
import Derived.Test.YtblmnkjiefanfaaQ18
import Derived.Test.YtblmnkjiefanfaaQ20
import Derived.Test.YtblmnkjiefanfaaQ21
import Derived.Test.YtblmnkjiefanfaaQ46
namespace Go.Proofs.Ytblmnkjiefanfaa.Pure
open Go Go.RowKit Go.Proofs.Ytblmnkjiefanfaa.Q Go.Proofs.YtblmnkjiefanfaaW.PrintWords Go.Proofs.YtblmnkjiefanfaaW.PrintLast Go.Proofs.YtblmnkjiefanfaaW.PrintMore
set_option linter.unusedVariables false
set_option linter.unusedSimpArgs false

/-- Every element is a byte. -/
def Bytes (l : List Int) : Prop := ∀ x ∈ l, 0 ≤ x ∧ x ≤ 255
theorem Bytes.of_wf {l : List Int} (h : ∀ x ∈ l, (Lit.int .u8 x).wf = true) : Bytes l := fun x hx => by
  have := h x hx
  simp [Lit.wf, IntKind.min, IntKind.max, IntKind.signed, IntKind.bits] at this
  omega
theorem i64_of_wf {x : Int} (h : (Lit.int .i64 x).wf = true) : -9223372036854775808 ≤ x ∧ x ≤ 9223372036854775807 := by
  simp [Lit.wf, IntKind.min, IntKind.max, IntKind.signed, IntKind.bits] at h
  omega
theorem Bytes.rd {l : List Int} (h : Bytes l) (i : Int) : 0 ≤ rd l i ∧ rd l i ≤ 255 := by
  unfold Go.Proofs.YtblmnkjiefanfaaW.PrintWords.rd
  rw [List.getD_eq_getElem?_getD]
  by_cases hi : i.toNat < l.length
  · rw [List.getElem?_eq_getElem hi]; exact h _ (List.getElem_mem hi)
  · rw [List.getElem?_eq_none (by omega)]; simp
theorem w64 {x : Int} (h1 : -9223372036854775808 ≤ x) (h2 : x ≤ 9223372036854775807) : wrap64 x = x := by
  unfold wrap64; omega
theorem Ev.here {α : Type} {g : Nat → Option α} {r : α} (h : ∀ k, g k = some r) : Ev g r := ⟨0, fun k _ => h k⟩

theorem set_prefix (l : List Int) (i : Nat) (h : i < l.length) (m : Nat) (hm : l.length = i + m + 1) :
    (l.take i ++ List.replicate (m+1) 0).set i (l.getD i 0) = l.take (i+1) ++ List.replicate m 0 := by
  rw [List.set_append_right _ _ (by simp; omega)]
  simp only [List.length_take, Nat.min_eq_left (Nat.le_of_lt h), Nat.sub_self, List.replicate_succ, List.set_cons_zero]
  rw [List.take_succ_eq_append_getElem h, List.append_assoc]
  simp [List.getD_eq_getElem?_getD, h]

theorem toByteS_l0 (l : List Int) (hl : l.length ≤ 140737488351232) (m : Nat) : ∀ (i : Nat), l.length = i + m →
    Ev (fun k => laws_toByteS.l0 k l (l.take i ++ List.replicate m 0) i) l := by
  induction m with
  | zero =>
    intro i hi
    refine Ev.step (f := fun _ => some l) (fun k => ?_) (Ev.now _)
    simp only [laws_toByteS.l0]
    rw [if_neg (by omega)]
    simp [List.take_of_length_le (show l.length ≤ i by omega)]
  | succ m ih =>
    intro i hi
    refine Ev.step (fun k => ?_) (ih (i+1) (by omega))
    simp only [laws_toByteS.l0]
    rw [if_pos (by omega), if_pos (by omega), if_pos (by simp; omega), w64 (by omega) (by omega)]
    rw [show rd l (i : Int) = l.getD i 0 by simp [rd], show ((i : Int)).toNat = i by omega, set_prefix l i (by omega) m (by omega)]
    rfl
theorem toByteS (l : List Int) (hl : l.length ≤ 140737488351232) : Ev (fun k => laws_toByteS.f k l) l := by
  unfold laws_toByteS.f
  simp only [if_pos (show 0 ≤ (l.length : Int) by omega), if_pos (show ((l.length : Int)).toNat ≤ 281474976710656 by omega)]
  simpa using toByteS_l0 l hl l.length 0 (by omega)

theorem eqByteS_l0 (l : List Int) (hl : l.length ≤ 140737488351232) (m : Nat) : ∀ (i : Nat), l.length = i + m →
    Ev (fun k => laws_eqByteS.l0 k l l i) true := by
  induction m with
  | zero =>
    intro i hi
    refine Ev.step (f := fun _ => some true) (fun k => ?_) (Ev.now _)
    simp only [laws_eqByteS.l0]
    rw [if_neg (by omega)]
  | succ m ih =>
    intro i hi
    refine Ev.step (fun k => ?_) (ih (i+1) (by omega))
    simp only [laws_eqByteS.l0]
    rw [if_pos (by omega), if_pos (by omega), if_pos (by omega), if_pos trivial, w64 (by omega) (by omega)]
    rfl
theorem eqByteS (l : List Int) (hl : l.length ≤ 140737488351232) : Ev (fun k => laws_eqByteS.f k l l) true := by
  unfold laws_eqByteS.f
  simp only [if_pos]
  exact eqByteS_l0 l hl l.length 0 (by omega)

/-- The number that bytes make, the highest first. -/
def be (acc : Int) (l : List Int) : Int := l.foldl (fun a x => a * 256 + x) acc
theorem wraps_i64 (n : Int) (h0 : 0 ≤ n) (h1 : n < 2 ^ 63) : IntKind.i64.wrap n = n := by rw [IntKind.wrap_i64]; omega
theorem bits_or_byte (a x : Int) (h0 : 0 ≤ a) (h1 : a < 36028797018963968) (h2 : 0 ≤ x) (h3 : x ≤ 255) : Go.bits .or .i64 (a * 256) x = a * 256 + x :=
  bits_join .i64 63 (by decide) wraps_i64 8 (a * 256) x (by omega) (by omega) (by omega) (by omega) (by omega) (by omega)
theorem get_l0 (at_ n : Int) (l : List Int) (hb : Bytes l) (hl : l.length ≤ 7) (m : Nat) : ∀ (i : Nat) (acc : Int), l.length = i + m → 0 ≤ acc → acc < 256 ^ i →
    Ev (fun k => impl_get.l0 k at_ n acc l (l.length : Int) i) (be acc (l.drop i), wrap64 (at_ + n)) := by
  induction m with
  | zero =>
    intro i acc hi h0 h1
    refine Ev.step (f := fun _ => some (acc, wrap64 (at_ + n))) (fun k => ?_) ?_
    · simp only [impl_get.l0]
      rw [if_neg (by omega)]
    · rw [List.drop_of_length_le (by omega)]; exact Ev.now _
  | succ m ih =>
    intro i acc hi h0 h1
    have hil : i < l.length := by omega
    have hr := hb _ (List.getElem_mem hil)
    have h256 : (256 : Int) ^ i ≤ 256 ^ 6 := by
      have : i ≤ 6 := by omega
      rcases i with _|_|_|_|_|_|_|i <;> simp_all
    have h7 : (256 : Int) ^ 6 = 281474976710656 := by decide
    have hd : l.drop i = l[i] :: l.drop (i+1) := List.drop_eq_getElem_cons hil
    rw [hd]
    show Ev _ (be (acc * 256 + l[i]) (l.drop (i+1)), _)
    refine Ev.step (fun k => ?_) (ih (i+1) (acc * 256 + l[i]) (by omega) (by omega) (by rw [Int.pow_succ]; omega))
    simp only [impl_get.l0]
    have e : rd l (i : Int) = l[i] := by simp [rd, List.getD_eq_getElem?_getD, hil]
    rw [if_pos (by omega), if_pos (by omega), if_pos (by omega), e, w64 (show -9223372036854775808 ≤ acc * 256 by omega) (by omega), w64 (show -9223372036854775808 ≤ l[i] by omega) (by omega), w64 (show -9223372036854775808 ≤ (i : Int) + 1 by omega) (by omega), bits_or_byte _ _ h0 (by omega) hr.1 hr.2]
    rfl

/-- What 'get' tells. -/
def getV (l : List Int) (at_ n : Int) : Int × Int := if at_ < 0 ∨ n > l.length - at_ then (0, -1) else (be 0 ((l.take (at_ + n).toNat).drop at_.toNat), at_ + n)
theorem get_ev (l : List Int) (hb : Bytes l) (hl : l.length ≤ 140737488351232) (at_ n : Int) (ha : -9223372036854775808 ≤ at_ ∧ at_ ≤ 9223372036854775807) (hn : 0 ≤ n ∧ n ≤ 7) :
    Ev (fun k => impl_get.f k l at_ n) (getV l at_ n) := by
  unfold impl_get.f getV
  by_cases h1 : at_ < 0
  · simp only [if_pos h1, if_pos (Or.inl h1 : at_ < 0 ∨ n > l.length - at_)]
    refine Ev.step (f := fun _ => some (0, -1)) (fun k => ?_) (Ev.now _)
    simp [impl_get.j0]
  · simp only [if_neg h1]
    rw [w64 (by omega) (by omega)]
    by_cases h2 : n > l.length - at_
    · rw [if_pos (Or.inr h2 : at_ < 0 ∨ n > l.length - at_), decide_eq_true h2]
      refine Ev.step (f := fun _ => some (0, -1)) (fun k => ?_) (Ev.now _)
      simp [impl_get.j0]
    · have h3 : ¬ (at_ < 0 ∨ n > l.length - at_) := by omega
      rw [decide_eq_false h2, if_neg h3]
      have hlen : ((l.take (at_ + n).toNat).drop at_.toNat).length = n.toNat := by simp; omega
      have hbb : Bytes ((l.take (at_ + n).toNat).drop at_.toNat) := fun x hx => hb x (List.mem_of_mem_take (List.mem_of_mem_drop hx))
      have := get_l0 at_ n _ hbb (by omega) n.toNat 0 0 (by omega) (by omega) (by simp)
      rw [List.drop_zero, w64 (by omega) (by omega)] at this
      refine Ev.step (fun k => ?_) this
      simp only [impl_get.j0]
      rw [w64 (show -9223372036854775808 ≤ at_ + n by omega) (by omega)]
      rw [if_neg (by simp), if_pos (by omega), if_pos (by omega), if_pos (by omega)]
      rfl

theorem be_two (a b : Int) : be 0 [a, b] = a * 256 + b := by simp [be]
theorem be_four (a b c d : Int) : be 0 [a, b, c, d] = a * 16777216 + b * 65536 + c * 256 + d := by simp [be]; omega
theorem cut_two (l : List Int) (i : Nat) (h : i + 2 ≤ l.length) : (l.take (i + 2)).drop i = [rd l i, rd l (i + 1 : Nat)] := by
  apply List.ext_getElem
  · simp; omega
  · intro j h1 h2
    simp at h2
    rcases j with _ | _ | j
    · simp [rd, List.getD_eq_getElem?_getD, show i < l.length by omega]
    · simp [rd, List.getD_eq_getElem?_getD, show i + 1 < l.length by omega]
    · omega
theorem cut_four (l : List Int) (i : Nat) (h : i + 4 ≤ l.length) : (l.take (i + 4)).drop i = [rd l i, rd l (i + 1 : Nat), rd l (i + 2 : Nat), rd l (i + 3 : Nat)] := by
  apply List.ext_getElem
  · simp; omega
  · intro j h1 h2
    simp at h2
    rcases j with _ | _ | _ | _ | j
    · simp [rd, List.getD_eq_getElem?_getD, show i < l.length by omega]
    · simp [rd, List.getD_eq_getElem?_getD, show i + 1 < l.length by omega]
    · simp [rd, List.getD_eq_getElem?_getD, show ((i : Int) + 2).toNat = i + 2 by omega, show i + 2 < l.length by omega]
    · simp [rd, List.getD_eq_getElem?_getD, show ((i : Int) + 3).toNat = i + 3 by omega, show i + 3 < l.length by omega]
    · omega
theorem specGet16 (l : List Int) (hb : Bytes l) (hl : l.length ≤ 140737488351232) (at_ : Int) (ha : -9223372036854775808 ≤ at_ ∧ at_ ≤ 9223372036854775807) :
    spec_Get16.f l at_ = some (getV l at_ 2) := by
  unfold spec_Get16.f getV
  by_cases h1 : at_ < 0
  · rw [if_pos h1, if_pos (Or.inl h1)]
  rw [if_neg h1, w64 (show -9223372036854775808 ≤ (l.length : Int) - 2 by omega) (by omega)]
  by_cases h2 : at_ > (l.length : Int) - 2
  · rw [if_pos h2, if_pos (Or.inr (by omega))]
  rw [if_neg h2, if_neg (show ¬ (at_ < 0 ∨ 2 > (l.length : Int) - at_) by omega), w64 (show -9223372036854775808 ≤ at_ + 1 by omega) (by omega), if_pos (by omega), if_pos (by omega), if_pos (by omega), if_pos (by omega)]
  obtain ⟨i, rfl⟩ := Int.eq_ofNat_of_zero_le (show 0 ≤ at_ by omega)
  have r0 := hb.rd (i : Int); have r1 := hb.rd ((i : Int) + 1)
  rw [show ((i : Int) + 2).toNat = i + 2 by omega, show (i : Int).toNat = i by omega, cut_two l i (by omega), be_two, show ((i + 1 : Nat) : Int) = (i : Int) + 1 by omega]
  simp only [w64 (show -9223372036854775808 ≤ rd l (i : Int) by omega) (by omega), w64 (show -9223372036854775808 ≤ rd l (i : Int) * 256 by omega) (by omega), w64 (show -9223372036854775808 ≤ rd l ((i : Int) + 1) by omega) (by omega), w64 (show -9223372036854775808 ≤ (i : Int) + 2 by omega) (by omega)]
  rw [w64 (by omega) (by omega)]
theorem specGet32 (l : List Int) (hb : Bytes l) (hl : l.length ≤ 140737488351232) (at_ : Int) (ha : -9223372036854775808 ≤ at_ ∧ at_ ≤ 9223372036854775807) :
    spec_Get32.f l at_ = some (getV l at_ 4) := by
  unfold spec_Get32.f getV
  by_cases h1 : at_ < 0
  · rw [if_pos h1, if_pos (Or.inl h1)]
  rw [if_neg h1, w64 (show -9223372036854775808 ≤ (l.length : Int) - 4 by omega) (by omega)]
  by_cases h2 : at_ > (l.length : Int) - 4
  · rw [if_pos h2, if_pos (Or.inr (by omega))]
  rw [if_neg h2, if_neg (show ¬ (at_ < 0 ∨ 4 > (l.length : Int) - at_) by omega), w64 (show -9223372036854775808 ≤ at_ + 1 by omega) (by omega), w64 (show -9223372036854775808 ≤ at_ + 2 by omega) (by omega), w64 (show -9223372036854775808 ≤ at_ + 3 by omega) (by omega), if_pos (by omega), if_pos (by omega), if_pos (by omega), if_pos (by omega), if_pos (by omega), if_pos (by omega), if_pos (by omega), if_pos (by omega)]
  obtain ⟨i, rfl⟩ := Int.eq_ofNat_of_zero_le (show 0 ≤ at_ by omega)
  have r0 := hb.rd (i : Int); have r1 := hb.rd ((i : Int) + 1); have r2 := hb.rd ((i : Int) + 2); have r3 := hb.rd ((i : Int) + 3)
  rw [show ((i : Int) + 4).toNat = i + 4 by omega, show (i : Int).toNat = i by omega, cut_four l i (by omega), be_four, show ((i + 1 : Nat) : Int) = (i : Int) + 1 by omega, show ((i + 2 : Nat) : Int) = (i : Int) + 2 by omega, show ((i + 3 : Nat) : Int) = (i : Int) + 3 by omega]
  simp only [w64 (show -9223372036854775808 ≤ rd l (i : Int) by omega) (by omega), w64 (show -9223372036854775808 ≤ rd l (i : Int) * 16777216 by omega) (by omega), w64 (show -9223372036854775808 ≤ rd l ((i : Int) + 1) by omega) (by omega), w64 (show -9223372036854775808 ≤ rd l ((i : Int) + 1) * 65536 by omega) (by omega), w64 (show -9223372036854775808 ≤ rd l ((i : Int) + 2) by omega) (by omega), w64 (show -9223372036854775808 ≤ rd l ((i : Int) + 2) * 256 by omega) (by omega), w64 (show -9223372036854775808 ≤ rd l ((i : Int) + 3) by omega) (by omega), w64 (show -9223372036854775808 ≤ (i : Int) + 4 by omega) (by omega)]
  rw [w64 (x := rd l (i : Int) * 16777216 + rd l ((i : Int) + 1) * 65536) (by omega) (by omega), w64 (x := rd l (i : Int) * 16777216 + rd l ((i : Int) + 1) * 65536 + rd l ((i : Int) + 2) * 256) (by omega) (by omega), w64 (by omega) (by omega)]
end Go.Proofs.Ytblmnkjiefanfaa.Pure
