/- Plain lemmas for the statement FnExactNameGet. -/
import Derived.Test.YtedbpnfkeabpnaaZFnExactNameGet0
import Derived.Test.YtedbpnfkeabpnaaZFnExactNameGet1
/- Plain lemmas on the printed functions: a list of bytes read into a new one, two lists compared, a number read from bytes. -/
namespace Go.Proofs.Ytedbpnfkeabpnaa.Pure
open Go Go.RowKit Go.Proofs.Ytedbpnfkeabpnaa.Q Go.Proofs.YtedbpnfkeabpnaaW.PrintWords Go.Proofs.YtedbpnfkeabpnaaW.PrintLast Go.Proofs.YtedbpnfkeabpnaaW.PrintMore
set_option linter.unusedVariables false
set_option linter.unusedSimpArgs false

/-- Every element is a byte. -/
def Bytes (l : List Int) : Prop := ∀ x ∈ l, 0 ≤ x ∧ x ≤ 255
theorem Bytes.of_wf {l : List Int} (h : ∀ x ∈ l, (Lit.int .u8 x).wf = true) : Bytes l := fun x hx => by
  have := h x hx
  simp [Lit.wf, IntKind.min, IntKind.max, IntKind.signed, IntKind.bits] at this
  omega
theorem i64_of_wf {x : Int} (h : (Lit.int .i64 x).wf = true) : -9223372036854775808 ≤ x ∧ x ≤ 9223372036854775807 := by
  simp [Lit.wf, IntKind.min, IntKind.max, IntKind.signed, IntKind.bits] at h
  omega
theorem Bytes.rd {l : List Int} (h : Bytes l) (i : Int) : 0 ≤ rd l i ∧ rd l i ≤ 255 := by
  unfold Go.Proofs.YtedbpnfkeabpnaaW.PrintWords.rd
  rw [List.getD_eq_getElem?_getD]
  by_cases hi : i.toNat < l.length
  · rw [List.getElem?_eq_getElem hi]; exact h _ (List.getElem_mem hi)
  · rw [List.getElem?_eq_none (by omega)]; simp
theorem w64 {x : Int} (h1 : -9223372036854775808 ≤ x) (h2 : x ≤ 9223372036854775807) : wrap64 x = x := by
  unfold wrap64; omega
theorem Ev.here {α : Type} {g : Nat → Option α} {r : α} (h : ∀ k, g k = some r) : Ev g r := ⟨0, fun k _ => h k⟩

theorem set_prefix (l : List Int) (i : Nat) (h : i < l.length) (m : Nat) (hm : l.length = i + m + 1) :
    (l.take i ++ List.replicate (m+1) 0).set i (l.getD i 0) = l.take (i+1) ++ List.replicate m 0 := by
  rw [List.set_append_right _ _ (by simp; omega)]
  simp only [List.length_take, Nat.min_eq_left (Nat.le_of_lt h), Nat.sub_self, List.replicate_succ, List.set_cons_zero]
  rw [List.take_succ_eq_append_getElem h, List.append_assoc]
  simp [List.getD_eq_getElem?_getD, h]

theorem toByteS_l0 (l : List Int) (hl : l.length ≤ 140737488351232) (m : Nat) : ∀ (i : Nat), l.length = i + m →
    Ev (fun k => laws_toByteS.l0 k l (l.take i ++ List.replicate m 0) i) l := by
  induction m with
  | zero =>
    intro i hi
    refine Ev.step (f := fun _ => some l) (fun k => ?_) (Ev.now _)
    simp only [laws_toByteS.l0]
    rw [if_neg (by omega)]
    simp [List.take_of_length_le (show l.length ≤ i by omega)]
  | succ m ih =>
    intro i hi
    refine Ev.step (fun k => ?_) (ih (i+1) (by omega))
    simp only [laws_toByteS.l0]
    rw [if_pos (by omega), if_pos (by omega), if_pos (by simp; omega), w64 (by omega) (by omega)]
    rw [show rd l (i : Int) = l.getD i 0 by simp [rd], show ((i : Int)).toNat = i by omega, set_prefix l i (by omega) m (by omega)]
    rfl
theorem toByteS (l : List Int) (hl : l.length ≤ 140737488351232) : Ev (fun k => laws_toByteS.f k l) l := by
  unfold laws_toByteS.f
  simp only [if_pos (show 0 ≤ (l.length : Int) by omega), if_pos (show ((l.length : Int)).toNat ≤ 281474976710656 by omega)]
  simpa using toByteS_l0 l hl l.length 0 (by omega)

theorem eqByteS_l0 (l : List Int) (hl : l.length ≤ 140737488351232) (m : Nat) : ∀ (i : Nat), l.length = i + m →
    Ev (fun k => laws_eqByteS.l0 k l l i) true := by
  induction m with
  | zero =>
    intro i hi
    refine Ev.step (f := fun _ => some true) (fun k => ?_) (Ev.now _)
    simp only [laws_eqByteS.l0]
    rw [if_neg (by omega)]
  | succ m ih =>
    intro i hi
    refine Ev.step (fun k => ?_) (ih (i+1) (by omega))
    simp only [laws_eqByteS.l0]
    rw [if_pos (by omega), if_pos (by omega), if_pos (by omega), if_pos trivial, w64 (by omega) (by omega)]
    rfl
theorem eqByteS (l : List Int) (hl : l.length ≤ 140737488351232) : Ev (fun k => laws_eqByteS.f k l l) true := by
  unfold laws_eqByteS.f
  simp only [if_pos]
  exact eqByteS_l0 l hl l.length 0 (by omega)

/-- The number that bytes make, the highest first. -/
def be (acc : Int) (l : List Int) : Int := l.foldl (fun a x => a * 256 + x) acc
theorem wraps_i64 (n : Int) (h0 : 0 ≤ n) (h1 : n < 2 ^ 63) : IntKind.i64.wrap n = n := by rw [IntKind.wrap_i64]; omega
theorem bits_or_byte (a x : Int) (h0 : 0 ≤ a) (h1 : a < 36028797018963968) (h2 : 0 ≤ x) (h3 : x ≤ 255) : Go.bits .or .i64 (a * 256) x = a * 256 + x :=
  bits_join .i64 63 (by decide) wraps_i64 8 (a * 256) x (by omega) (by omega) (by omega) (by omega) (by omega) (by omega)
theorem get_l0 (at_ n : Int) (l : List Int) (hb : Bytes l) (hl : l.length ≤ 7) (m : Nat) : ∀ (i : Nat) (acc : Int), l.length = i + m → 0 ≤ acc → acc < 256 ^ i →
    Ev (fun k => impl_get.l0 k at_ n acc l (l.length : Int) i) (be acc (l.drop i), wrap64 (at_ + n)) := by
  induction m with
  | zero =>
    intro i acc hi h0 h1
    refine Ev.step (f := fun _ => some (acc, wrap64 (at_ + n))) (fun k => ?_) ?_
    · simp only [impl_get.l0]
      rw [if_neg (by omega)]
    · rw [List.drop_of_length_le (by omega)]; exact Ev.now _
  | succ m ih =>
    intro i acc hi h0 h1
    have hil : i < l.length := by omega
    have hr := hb _ (List.getElem_mem hil)
    have h256 : (256 : Int) ^ i ≤ 256 ^ 6 := by
      have : i ≤ 6 := by omega
      rcases i with _|_|_|_|_|_|_|i <;> simp_all
    have h7 : (256 : Int) ^ 6 = 281474976710656 := by decide
    have hd : l.drop i = l[i] :: l.drop (i+1) := List.drop_eq_getElem_cons hil
    rw [hd]
    show Ev _ (be (acc * 256 + l[i]) (l.drop (i+1)), _)
    refine Ev.step (fun k => ?_) (ih (i+1) (acc * 256 + l[i]) (by omega) (by omega) (by rw [Int.pow_succ]; omega))
    simp only [impl_get.l0]
    have e : rd l (i : Int) = l[i] := by simp [rd, List.getD_eq_getElem?_getD, hil]
    rw [if_pos (by omega), if_pos (by omega), if_pos (by omega), e, w64 (show -9223372036854775808 ≤ acc * 256 by omega) (by omega), w64 (show -9223372036854775808 ≤ l[i] by omega) (by omega), w64 (show -9223372036854775808 ≤ (i : Int) + 1 by omega) (by omega), bits_or_byte _ _ h0 (by omega) hr.1 hr.2]
    rfl

/-- What 'get' tells. -/

def getV (l : List Int) (at_ n : Int) : Int × Int := if at_ < 0 ∨ n > l.length - at_ then (0, -1) else (be 0 ((l.take (at_ + n).toNat).drop at_.toNat), at_ + n)
theorem get_ev (l : List Int) (hb : Bytes l) (hl : l.length ≤ 140737488351232) (at_ n : Int) (ha : -9223372036854775808 ≤ at_ ∧ at_ ≤ 9223372036854775807) (hn : 0 ≤ n ∧ n ≤ 7) :
    Ev (fun k => impl_get.f k l at_ n) (getV l at_ n) := by
  unfold impl_get.f getV
  by_cases h1 : at_ < 0
  · simp only [if_pos h1, if_pos (Or.inl h1 : at_ < 0 ∨ n > l.length - at_)]
    refine Ev.step (f := fun _ => some (0, -1)) (fun k => ?_) (Ev.now _)
    simp [impl_get.j0]
  · simp only [if_neg h1]
    rw [w64 (by omega) (by omega)]
    by_cases h2 : n > l.length - at_
    · rw [if_pos (Or.inr h2 : at_ < 0 ∨ n > l.length - at_), decide_eq_true h2]
      refine Ev.step (f := fun _ => some (0, -1)) (fun k => ?_) (Ev.now _)
      simp [impl_get.j0]
    · have h3 : ¬ (at_ < 0 ∨ n > l.length - at_) := by omega
      rw [decide_eq_false h2, if_neg h3]
      have hlen : ((l.take (at_ + n).toNat).drop at_.toNat).length = n.toNat := by simp; omega
      have hbb : Bytes ((l.take (at_ + n).toNat).drop at_.toNat) := fun x hx => hb x (List.mem_of_mem_take (List.mem_of_mem_drop hx))
      have := get_l0 at_ n _ hbb (by omega) n.toNat 0 0 (by omega) (by omega) (by simp)
      rw [List.drop_zero, w64 (by omega) (by omega)] at this
      refine Ev.step (fun k => ?_) this
      simp only [impl_get.j0]
      rw [w64 (show -9223372036854775808 ≤ at_ + n by omega) (by omega)]
      rw [if_neg (by simp), if_pos (by omega), if_pos (by omega), if_pos (by omega)]
      rfl

theorem be_two (a b : Int) : be 0 [a, b] = a * 256 + b := by simp [be]
theorem be_four (a b c d : Int) : be 0 [a, b, c, d] = a * 16777216 + b * 65536 + c * 256 + d := by simp [be]; omega
theorem cut_two (l : List Int) (i : Nat) (h : i + 2 ≤ l.length) : (l.take (i + 2)).drop i = [rd l i, rd l (i + 1 : Nat)] := by
  apply List.ext_getElem
  · simp; omega
  · intro j h1 h2
    simp at h2
    rcases j with _ | _ | j
    · simp [rd, List.getD_eq_getElem?_getD, show i < l.length by omega]
    · simp [rd, List.getD_eq_getElem?_getD, show i + 1 < l.length by omega]
    · omega
theorem cut_four (l : List Int) (i : Nat) (h : i + 4 ≤ l.length) : (l.take (i + 4)).drop i = [rd l i, rd l (i + 1 : Nat), rd l (i + 2 : Nat), rd l (i + 3 : Nat)] := by
  apply List.ext_getElem
  · simp; omega
  · intro j h1 h2
    simp at h2
    rcases j with _ | _ | _ | _ | j
    · simp [rd, List.getD_eq_getElem?_getD, show i < l.length by omega]
    · simp [rd, List.getD_eq_getElem?_getD, show i + 1 < l.length by omega]
    · simp [rd, List.getD_eq_getElem?_getD, show ((i : Int) + 2).toNat = i + 2 by omega, show i + 2 < l.length by omega]
    · simp [rd, List.getD_eq_getElem?_getD, show ((i : Int) + 3).toNat = i + 3 by omega, show i + 3 < l.length by omega]
    · omega
theorem specGet16 (l : List Int) (hb : Bytes l) (hl : l.length ≤ 140737488351232) (at_ : Int) (ha : -9223372036854775808 ≤ at_ ∧ at_ ≤ 9223372036854775807) :
    spec_Get16.f l at_ = some (getV l at_ 2) := by
  unfold spec_Get16.f getV
  by_cases h1 : at_ < 0
  · rw [if_pos h1, if_pos (Or.inl h1)]
  rw [if_neg h1, w64 (show -9223372036854775808 ≤ (l.length : Int) - 2 by omega) (by omega)]
  by_cases h2 : at_ > (l.length : Int) - 2
  · rw [if_pos h2, if_pos (Or.inr (by omega))]
  rw [if_neg h2, if_neg (show ¬ (at_ < 0 ∨ 2 > (l.length : Int) - at_) by omega), w64 (show -9223372036854775808 ≤ at_ + 1 by omega) (by omega), if_pos (by omega), if_pos (by omega), if_pos (by omega), if_pos (by omega)]
  obtain ⟨i, rfl⟩ := Int.eq_ofNat_of_zero_le (show 0 ≤ at_ by omega)
  have r0 := hb.rd (i : Int); have r1 := hb.rd ((i : Int) + 1)
  rw [show ((i : Int) + 2).toNat = i + 2 by omega, show (i : Int).toNat = i by omega, cut_two l i (by omega), be_two, show ((i + 1 : Nat) : Int) = (i : Int) + 1 by omega]
  simp only [w64 (show -9223372036854775808 ≤ rd l (i : Int) by omega) (by omega), w64 (show -9223372036854775808 ≤ rd l (i : Int) * 256 by omega) (by omega), w64 (show -9223372036854775808 ≤ rd l ((i : Int) + 1) by omega) (by omega), w64 (show -9223372036854775808 ≤ (i : Int) + 2 by omega) (by omega)]
  rw [w64 (by omega) (by omega)]
end Go.Proofs.Ytedbpnfkeabpnaa.Pure

/- Plain lemmas on the printed functions: marks laid over a list of bytes, and found again; two lists compared; Put, Take. -/
namespace Go.Proofs.Ytedbpnfkeabpnaa.Pure
open Go Go.RowKit Go.Proofs.Ytedbpnfkeabpnaa.Q Go.Proofs.YtedbpnfkeabpnaaW.PrintWords Go.Proofs.YtedbpnfkeabpnaaW.PrintLast Go.Proofs.YtedbpnfkeabpnaaW.PrintMore
set_option linter.unusedVariables false
set_option linter.unusedSimpArgs false

/-- n marks from a on. -/
def marks (a : Int) (n : Nat) : List Int := (List.range n).map fun (i : Nat) => (a + (i : Int)) % 256
theorem marks_len (a : Int) (n : Nat) : (marks a n).length = n := by simp [marks]
theorem marks_rd (a : Int) (n i : Nat) (h : i < n) : rd (marks a n) (i : Int) = (a + i) % 256 := by
  simp [rd, marks, List.getD_eq_getElem?_getD, h]
theorem marks_succ (a : Int) (i : Nat) : marks a (i + 1) = marks a i ++ [(a + i) % 256] := by simp [marks, List.range_succ]
theorem mark_l0 (l : List Int) (a : Int) (h0 : 0 ≤ a) (h1 : a ≤ 1099511627776) (hl : l.length ≤ 140737488351232) (m : Nat) : ∀ (i : Nat), l.length = i + m →
    Ev (fun k => laws_markByteS.l0 k (marks a i ++ l.drop i) (a + i) i) (a + l.length, marks a l.length) := by
  induction m with
  | zero =>
    intro i hi
    refine Ev.step (f := fun _ => some (a + l.length, marks a l.length)) (fun k => ?_) (Ev.now _)
    simp only [laws_markByteS.l0]
    rw [List.length_append, marks_len, List.length_drop, if_neg (by omega), List.drop_of_length_le (by omega), List.append_nil, show i = l.length by omega]
  | succ m ih =>
    intro i hi
    refine Ev.step (fun k => ?_) (ih (i + 1) (by omega))
    simp only [laws_markByteS.l0]
    rw [List.length_append, marks_len, List.length_drop, if_pos (by omega), if_pos (by omega), w64 (show -9223372036854775808 ≤ a + i + 1 by omega) (by omega), w64 (show -9223372036854775808 ≤ (i : Int) + 1 by omega) (by omega)]
    rw [show ((i : Int)).toNat = i by omega, List.set_append_right _ _ (by rw [marks_len]; omega), marks_len, Nat.sub_self, List.drop_eq_getElem_cons (show i < l.length by omega), List.set_cons_zero, marks_succ, List.append_assoc, List.singleton_append]
    rw [show a + (i : Int) + 1 = a + ((i + 1 : Nat) : Int) by omega, show (i : Int) + 1 = ((i + 1 : Nat) : Int) by omega]
theorem markByteS (l : List Int) (a : Int) (h0 : 0 ≤ a) (h1 : a ≤ 1099511627776) (hl : l.length ≤ 140737488351232) : Ev (fun k => laws_markByteS.f k l a) (a + l.length, marks a l.length) := by
  have := mark_l0 l a h0 h1 hl l.length 0 (by omega)
  simpa [laws_markByteS.f, marks] using this
theorem held_l0 (a : Int) (h0 : 0 ≤ a) (h1 : a ≤ 1099511627776) (n : Nat) (hl : n ≤ 140737488351232) (m : Nat) : ∀ (i : Nat), n = i + m →
    Ev (fun k => laws_heldByteS.l0 k (marks a n) (a + i) i) (a + n) := by
  induction m with
  | zero =>
    intro i hi
    refine Ev.step (f := fun _ => some (a + n)) (fun k => ?_) (Ev.now _)
    simp only [laws_heldByteS.l0]
    rw [marks_len, if_neg (by omega), show i = n by omega]
  | succ m ih =>
    intro i hi
    refine Ev.step (fun k => ?_) (ih (i + 1) (by omega))
    simp only [laws_heldByteS.l0]
    rw [marks_len, if_pos (by omega), if_pos (by omega), marks_rd a n i (by omega), if_pos rfl, w64 (show -9223372036854775808 ≤ a + i + 1 by omega) (by omega), w64 (show -9223372036854775808 ≤ (i : Int) + 1 by omega) (by omega)]
    rw [show a + (i : Int) + 1 = a + ((i + 1 : Nat) : Int) by omega, show (i : Int) + 1 = ((i + 1 : Nat) : Int) by omega]
theorem heldByteS (a : Int) (h0 : 0 ≤ a) (h1 : a ≤ 1099511627776) (n : Nat) (hl : n ≤ 140737488351232) : Ev (fun k => laws_heldByteS.f k (marks a n) a) (a + n) := by
  have := held_l0 a h0 h1 n hl n 0 (by omega)
  simpa [laws_heldByteS.f] using this
end Go.Proofs.Ytedbpnfkeabpnaa.Pure

/- Plain lemmas on the printed functions that read, measure and compare lists of lists of bytes, and names. -/
namespace Go.Proofs.Ytedbpnfkeabpnaa.Pure
open Go Go.RowKit Go.Proofs.Ytedbpnfkeabpnaa.Q Go.Proofs.YtedbpnfkeabpnaaW.PrintWords Go.Proofs.YtedbpnfkeabpnaaW.PrintLast Go.Proofs.YtedbpnfkeabpnaaW.PrintMore
set_option linter.unusedVariables false
set_option linter.unusedSimpArgs false

theorem rdL_at (l : List (List Int)) (i : Nat) (h : i < l.length) : rd_L10 l (i : Int) = l[i] := by simp [rd_L10, List.getD_eq_getElem?_getD, h]
def lens (l : List (List Int)) : Nat := (l.map List.length).sum
theorem lens_drop (l : List (List Int)) (i : Nat) (h : i < l.length) : lens (l.drop i) = l[i].length + lens (l.drop (i + 1)) := by
  rw [List.drop_eq_getElem_cons h]; simp only [lens, List.map_cons, List.sum_cons]
theorem len_le_lens (l : List (List Int)) (i : Nat) (h : i < l.length) : l[i].length ≤ lens l := by
  induction l generalizing i with
  | nil => simp at h
  | cons x l ih =>
    cases i with
    | zero => simp [lens]
    | succ i => have := ih i (by simpa using h); simp [lens] at this ⊢; omega
theorem setL_prefix (l : List (List Int)) (i : Nat) (h : i < l.length) (m : Nat) (hm : l.length = i + m + 1) :
    (l.take i ++ List.replicate (m+1) []).set i l[i] = l.take (i+1) ++ List.replicate m [] := by
  rw [List.set_append_right _ _ (by simp; omega)]
  simp only [List.length_take, Nat.min_eq_left (Nat.le_of_lt h), Nat.sub_self, List.replicate_succ, List.set_cons_zero]
  rw [List.take_succ_eq_append_getElem h, List.append_assoc]
  simp
theorem eqByteSS_l0 (l : List (List Int)) (hl : l.length ≤ 11728124029610) (he : ∀ x ∈ l, x.length ≤ 140737488351232) (m : Nat) : ∀ (i : Nat), l.length = i + m →
    Ev (fun k => laws_eqByteSS.l0 k l l i) true := by
  induction m with
  | zero =>
    intro i hi
    refine Ev.step (f := fun _ => some true) (fun k => ?_) (Ev.now _)
    simp only [laws_eqByteSS.l0]
    rw [if_neg (by omega)]
  | succ m ih =>
    intro i hi
    have hil : i < l.length := by omega
    refine Ev.step (f := fun k => (laws_eqByteS.f k l[i] l[i]).bind fun t => if t = true then laws_eqByteSS.l0 k l l ((i + 1 : Nat) : Int) else some false) (fun k => ?_) ?_
    · simp only [laws_eqByteSS.l0]
      rw [if_pos (by omega), if_pos (by omega), rdL_at l i hil, w64 (x := (i : Int) + 1) (by omega) (by omega), if_pos (by omega)]
      rfl
    · refine Ev.bind (eqByteS l[i] (he _ (List.getElem_mem hil))) ?_
      simp only [if_true]
      exact ih (i + 1) (by omega)
theorem eqByteSS (l : List (List Int)) (hl : l.length ≤ 11728124029610) (he : ∀ x ∈ l, x.length ≤ 140737488351232) : Ev (fun k => laws_eqByteSS.f k l l) true := by
  unfold laws_eqByteSS.f
  simp only [if_pos]
  exact eqByteSS_l0 l hl he l.length 0 (by omega)
theorem eqName (l : List (List Int)) (hl : l.length ≤ 11728124029610) (he : ∀ x ∈ l, x.length ≤ 140737488351232) : Ev (fun k => laws_eqName.f k l l) true := by
  unfold laws_eqName.f
  refine Ev.bind (eqByteSS l hl he) ?_
  simp only [if_true]; exact Ev.now _
end Go.Proofs.Ytedbpnfkeabpnaa.Pure

/- Plain lemmas on the printed functions that say whether labels and names are right, and whether one name lies under another. -/
namespace Go.Proofs.Ytedbpnfkeabpnaa.Pure
open Go Go.RowKit Go.Proofs.Ytedbpnfkeabpnaa.Q Go.Proofs.YtedbpnfkeabpnaaW.PrintWords Go.Proofs.YtedbpnfkeabpnaaW.PrintLast Go.Proofs.YtedbpnfkeabpnaaW.PrintMore
set_option linter.unusedVariables false
set_option linter.unusedSimpArgs false
theorem specLabelOk_l0 (l : List Int) (hl : l.length ≤ 140737488351232) (m : Nat) : ∀ (i : Nat), l.length = i + m →
    Ev (fun k => spec_LabelOk.l0 k l i) ((l.drop i).all impl_LabelOk.byte) := by
  induction m with
  | zero =>
    intro i hi
    rw [List.drop_of_length_le (by omega)]
    refine Ev.step (f := fun _ => some true) (fun k => ?_) (Ev.now _)
    simp only [spec_LabelOk.l0]
    rw [if_neg (by omega)]
  | succ m ih =>
    intro i hi
    have hil : i < l.length := by omega
    have e : rd l (i : Int) = l[i] := by simp [rd, List.getD_eq_getElem?_getD, hil]
    rw [List.drop_eq_getElem_cons hil, List.all_cons]
    by_cases hb : impl_LabelOk.byte l[i] = true
    · rw [hb, Bool.true_and]
      refine Ev.step (fun k => ?_) (ih (i+1) (by omega))
      simp only [spec_LabelOk.l0]
      rw [if_pos (by omega), if_pos (by omega), e, w64 (by omega) (by omega)]
      unfold impl_LabelOk.byte at hb
      generalize l[i] = x at *
      by_cases h1 : x ≥ 97 <;> by_cases h2 : x ≤ 122 <;> by_cases h3 : x ≥ 48 <;> by_cases h4 : x ≤ 57 <;> by_cases h5 : x = 45 <;> first | omega | (simp [h1, h2, h3, h4, h5] at hb ⊢; try omega)
    · rw [Bool.not_eq_true] at hb
      rw [hb, Bool.false_and]
      refine Ev.step (f := fun _ => some false) (fun k => ?_) (Ev.now _)
      simp only [spec_LabelOk.l0]
      rw [if_pos (by omega), if_pos (by omega), e]
      unfold impl_LabelOk.byte at hb
      generalize l[i] = x at *
      by_cases h1 : x ≥ 97 <;> by_cases h2 : x ≤ 122 <;> by_cases h3 : x ≥ 48 <;> by_cases h4 : x ≤ 57 <;> by_cases h5 : x = 45 <;> first | omega | (simp [h1, h2, h3, h4, h5] at hb ⊢; try omega)
theorem specLabelOk (l : List Int) (hl : l.length ≤ 140737488351232) : Ev (fun k => spec_LabelOk.f k l) (impl_LabelOk.v l) := by
  unfold spec_LabelOk.f impl_LabelOk.v
  by_cases h1 : (l.length : Int) < 1
  · simp only [if_pos h1]
    rw [decide_eq_false (show ¬ 1 ≤ l.length by omega)]
    refine Ev.step (f := fun _ => some false) (fun k => ?_) (Ev.now _)
    simp [spec_LabelOk.j0]
  · simp only [if_neg h1]
    rw [decide_eq_true (show 1 ≤ l.length by omega)]
    by_cases h2 : (l.length : Int) > 15
    · rw [decide_eq_true h2, decide_eq_false (show ¬ l.length ≤ 15 by omega)]
      refine Ev.step (f := fun _ => some false) (fun k => ?_) (Ev.now _)
      simp [spec_LabelOk.j0]
    · rw [decide_eq_false h2, decide_eq_true (show l.length ≤ 15 by omega)]
      have := specLabelOk_l0 l hl l.length 0 (by omega)
      rw [List.drop_zero] at this
      refine Ev.step (fun k => ?_) this
      simp [spec_LabelOk.j0]
theorem specNameOk_l0 (l : List (List Int)) (hl : l.length ≤ 1048576) (he : ∀ x ∈ l, x.length ≤ 140737488351232) (m : Nat) : ∀ (i : Nat), l.length = i + m →
    Ev (fun k => spec_NameOk.l0 k i l) ((l.drop i).all impl_LabelOk.v) := by
  induction m with
  | zero =>
    intro i hi
    rw [List.drop_of_length_le (by omega)]
    refine Ev.step (f := fun _ => some true) (fun k => ?_) (Ev.now _)
    simp only [spec_NameOk.l0]
    rw [if_neg (by omega)]
  | succ m ih =>
    intro i hi
    have hil : i < l.length := by omega
    rw [List.drop_eq_getElem_cons hil, List.all_cons]
    refine Ev.step (f := fun k => (spec_LabelOk.f k l[i]).bind fun t => if t = true then spec_NameOk.l0 k ((i + 1 : Nat) : Int) l else some false) (fun k => ?_) ?_
    · simp only [spec_NameOk.l0]
      rw [if_pos (by omega), if_pos (by omega), rdL_at l i hil, w64 (x := (i : Int) + 1) (by omega) (by omega)]
      rfl
    · refine Ev.bind (specLabelOk l[i] (he _ (List.getElem_mem hil))) ?_
      cases hb : impl_LabelOk.v l[i] with
      | true => simp only [if_true, Bool.true_and]; exact ih (i + 1) (by omega)
      | false => simp only [Bool.false_eq_true, if_false, Bool.false_and]; exact Ev.now _
theorem specNameOk (l : List (List Int)) (hl : l.length ≤ 1048576) (he : ∀ x ∈ l, x.length ≤ 140737488351232) : Ev (fun k => spec_NameOk.f k l) (impl_NameOk.v l) := by
  unfold spec_NameOk.f impl_NameOk.v
  by_cases h : (l.length : Int) > 6
  · simp only [if_pos h]
    rw [decide_eq_false (show ¬ l.length ≤ 6 by omega)]
    exact Ev.now _
  · simp only [if_neg h]
    rw [decide_eq_true (show l.length ≤ 6 by omega), Bool.true_and]
    simpa using specNameOk_l0 l hl he l.length 0 (by omega)
end Go.Proofs.Ytedbpnfkeabpnaa.Pure

/- Plain lemmas on the printed functions that read, measure and compare records, and say whether they are right. -/
namespace Go.Proofs.Ytedbpnfkeabpnaa.Pure
open Go Go.RowKit Go.Proofs.Ytedbpnfkeabpnaa.Q Go.Proofs.YtedbpnfkeabpnaaW.PrintWords Go.Proofs.YtedbpnfkeabpnaaW.PrintLast Go.Proofs.YtedbpnfkeabpnaaW.PrintMore
set_option linter.unusedVariables false
set_option linter.unusedSimpArgs false

/-- A name of any length that there can be, and one that fits. -/
def RawN (l : List (List Int)) : Prop := l.length ≤ 9223372036854775807 ∧ ∀ x ∈ l, x.length ≤ 9223372036854775807
def FitN (l : List (List Int)) : Prop := l.length ≤ 1048576 ∧ (∀ x ∈ l, x.length ≤ 1048576) ∧ lens l ≤ 1048576
theorem FitN.big {l : List (List Int)} (h : FitN l) : ∀ x ∈ l, x.length ≤ 140737488351232 := fun x hx => by have := h.2.1 x hx; omega
theorem lens_fit {l : List (List Int)} (h : l.length + lens l ≤ 1048576) : FitN l := ⟨by omega, fun x hx => by
  obtain ⟨i, hi, rfl⟩ := List.getElem_of_mem hx
  have := len_le_lens l i hi
  omega, by omega⟩
theorem eqName' (l : List (List Int)) (h : FitN l) : Ev (fun k => laws_eqName.f k l l) true := eqName l (by have := h.1; omega) h.big

end Go.Proofs.Ytedbpnfkeabpnaa.Pure

/- Plain lemmas on the printed functions: marks over names and records. -/
namespace Go.Proofs.Ytedbpnfkeabpnaa.Pure
open Go Go.RowKit Go.Proofs.Ytedbpnfkeabpnaa.Q Go.Proofs.YtedbpnfkeabpnaaW.PrintWords Go.Proofs.YtedbpnfkeabpnaaW.PrintLast Go.Proofs.YtedbpnfkeabpnaaW.PrintMore
set_option linter.unusedVariables false
set_option linter.unusedSimpArgs false
theorem markName (l : List (List Int)) (a : Int) (h0 : 0 ≤ a) (h1 : a ≤ 1099511627776) (hl : FitN l) : laws_markName.f l a = some (a + (lens l : Int), laws_markByteSS.all a l) := by
  unfold laws_markName.f laws_markByteSS.f
  have h2 := hl.2.2
  rw [if_pos (show 0 ≤ a ∧ a + (laws_markByteSS.sum l : Int) ≤ 4611686018427387904 from ⟨h0, by show a + (lens l : Int) ≤ _; omega⟩)]
  rfl
end Go.Proofs.Ytedbpnfkeabpnaa.Pure

/- Plain lemmas on the printed functions: a name is read out of a message. -/
namespace Go.Proofs.Ytedbpnfkeabpnaa.Pure
open Go Go.RowKit Go.Proofs.Ytedbpnfkeabpnaa.Q Go.Proofs.YtedbpnfkeabpnaaW.PrintWords Go.Proofs.YtedbpnfkeabpnaaW.PrintLast Go.Proofs.YtedbpnfkeabpnaaW.PrintMore
set_option linter.unusedVariables false
set_option linter.unusedSimpArgs false
theorem lens_le (l : List (List Int)) (m : Nat) (h : ∀ x ∈ l, x.length ≤ m) : lens l ≤ l.length * m := by
  induction l with
  | nil => simp [lens]
  | cons x l ih =>
    have h1 := h x (by simp)
    have h2 := ih (fun y hy => h y (by simp [hy]))
    simp only [lens, List.map_cons, List.sum_cons, List.length_cons, Nat.add_mul, Nat.one_mul] at h2 ⊢
    omega
theorem nameOk_len {l : List (List Int)} (h : impl_NameOk.v l = true) : l.length ≤ 6 ∧ ∀ x ∈ l, 1 ≤ x.length ∧ x.length ≤ 15 ∧ Bytes x := by
  unfold impl_NameOk.v at h
  rw [Bool.and_eq_true, decide_eq_true_iff, List.all_eq_true] at h
  refine ⟨h.1, fun x hx => ?_⟩
  have h2 := h.2 x hx
  unfold impl_LabelOk.v at h2
  simp only [Bool.and_eq_true, decide_eq_true_iff, List.all_eq_true] at h2
  refine ⟨by omega, by omega, fun y hy => ?_⟩
  have h3 := h2.2 y hy
  unfold impl_LabelOk.byte at h3
  simp at h3
  omega
def takeV (l : List Int) (i n : Int) : List Int × Int := if i < 0 ∨ n < 0 ∨ i > l.length ∨ n > l.length - i then ([], -1) else ((l.take (i + n).toNat).drop i.toNat, i + n)
theorem takeV_len (l : List Int) (i n : Int) : (takeV l i n).1.length ≤ l.length := by
  unfold takeV; split
  · simp
  · simp; omega
theorem specTake (l : List Int) (hl : l.length ≤ 140737488351232) (i n : Int) (hi : -9223372036854775808 ≤ i ∧ i ≤ 9223372036854775807) (hn : -9223372036854775808 ≤ n ∧ n ≤ 9223372036854775807) :
    spec_Take.f l i n = some (takeV l i n) := by
  unfold spec_Take.f takeV
  by_cases h1 : i < 0
  · rw [if_pos h1, if_pos (Or.inl h1)]
  by_cases h2 : n < 0
  · rw [if_neg h1, if_pos h2, if_pos (Or.inr (Or.inl h2))]
  by_cases h3 : i > (l.length : Int)
  · rw [if_neg h1, if_neg h2, if_pos h3, if_pos (Or.inr (Or.inr (Or.inl h3)))]
  rw [if_neg h1, if_neg h2, if_neg h3, w64 (x := (l.length : Int) - i) (by omega) (by omega)]
  by_cases h4 : n > (l.length : Int) - i
  · rw [if_pos h4, if_pos (Or.inr (Or.inr (Or.inr h4)))]
  rw [if_neg h4, w64 (x := i + n) (by omega) (by omega), if_neg (show ¬ (i < 0 ∨ n < 0 ∨ i > l.length ∨ n > l.length - i) by omega)]
  simp only [Option.bind_some]
  rw [if_pos (show 0 ≤ i by omega), if_pos (show i ≤ i + n by omega), if_pos (show i + n ≤ (l.length : Int) by omega), if_pos (by simp; omega)]
  simp
theorem implTake (l : List Int) (hl : l.length ≤ 140737488351232) (i n : Int) (hi : -9223372036854775808 ≤ i ∧ i ≤ 9223372036854775807) (hn : -9223372036854775808 ≤ n ∧ n ≤ 9223372036854775807) :
    impl_Take.f l i n = some (takeV l i n) := by
  unfold impl_Take.f takeV
  by_cases h1 : i < 0
  · rw [if_pos h1, if_pos (Or.inl h1)]
  by_cases h2 : n < 0
  · rw [if_neg h1, if_pos h2, if_pos (Or.inr (Or.inl h2))]
  by_cases h3 : i > (l.length : Int)
  · rw [if_neg h1, if_neg h2, if_pos h3, if_pos (Or.inr (Or.inr (Or.inl h3)))]
  rw [if_neg h1, if_neg h2, if_neg h3, w64 (x := (l.length : Int) - i) (by omega) (by omega)]
  by_cases h4 : n > (l.length : Int) - i
  · rw [if_pos h4, if_pos (Or.inr (Or.inr (Or.inr h4)))]
  rw [if_neg h4, w64 (x := i + n) (by omega) (by omega), if_neg (show ¬ (i < 0 ∨ n < 0 ∨ i > l.length ∨ n > l.length - i) by omega)]
  rw [if_pos (show 0 ≤ i by omega), if_pos (show i ≤ i + n by omega), if_pos (show i + n ≤ (l.length : Int) by omega)]
  unfold bytes_Clone.f
  rw [if_pos (by simp; omega)]
  rfl
theorem specLower_l0 (l : List Int) (hl : l.length ≤ 140737488351232) (m : Nat) : ∀ (i : Nat), l.length = i + m →
    Ev (fun k => spec_Lower.l0 k ((l.take i).map impl_Lower.byte ++ l.drop i) i) (l.map impl_Lower.byte) := by
  induction m with
  | zero =>
    intro i hi
    refine Ev.step (f := fun _ => some (l.map impl_Lower.byte)) (fun k => ?_) (Ev.now _)
    simp only [spec_Lower.l0]
    rw [if_neg (by simp; omega), List.take_of_length_le (by omega), List.drop_of_length_le (by omega), List.append_nil]
  | succ m ih =>
    intro i hi
    have hil : i < l.length := by omega
    have e := impl_Lower.at l i hil
    have e' : rd ((l.take i).map impl_Lower.byte ++ l.drop i) (i : Int) = rd l (i : Int) := e
    have hn := impl_Lower.next l i hil
    have hk := impl_Lower.keep l i hil
    refine Ev.step (fun k => ?_) (ih (i+1) (by omega))
    simp only [spec_Lower.l0]
    rw [if_pos (by simp; omega), if_pos (by omega), w64 (x := (i : Int) + 1) (by omega) (by omega), e', show ((i : Int)).toNat = i by omega]
    generalize rd l (i : Int) = x at *
    unfold impl_Lower.byte at hn hk
    by_cases h1 : x ≥ 65
    · by_cases h2 : x ≤ 90
      · rw [if_pos ⟨h1, h2⟩] at hn
        rw [if_pos h1, if_pos h2, show (x + 32) % 256 = x + 97 - 65 by omega]
        unfold impl_Lower.byte
        rw [hn]; rfl
      · rw [if_pos h1, if_neg h2]
        unfold impl_Lower.byte
        rw [hk (by rw [if_neg (by omega)])]; rfl
    · rw [if_neg h1]
      unfold impl_Lower.byte
      rw [hk (by rw [if_neg (by omega)])]; rfl
theorem specLower (l : List Int) (hl : l.length ≤ 1048576) : Ev (fun k => spec_Lower.f k l) (l.map impl_Lower.byte) := by
  unfold spec_Lower.f
  simp only [Option.bind_some, List.nil_append, List.length_nil, if_pos (show 0 + l.length < 140737488355328 by omega)]
  simpa using specLower_l0 l (by omega) l.length 0 (by omega)

/-- What is read at a place: the name, and the place behind it. -/
def nameV (l : List Int) : Nat → Int → Int → Int → List (List Int) → List (List Int) × Int
  | 0, _, _, _, _ => ([], -1)
  | m + 1, i, nx, hops, n =>
    if i < 0 ∨ (l.length : Int) ≤ i then ([], -1)
    else if rd l i = 0 then (if impl_NameOk.v n = true then (n, if nx < 0 then i + 1 else nx) else ([], -1))
    else if rd l i ≥ 192 then (if (getV l i 2).2 < 0 ∨ (getV l i 2).1 - 49152 ≥ i ∨ hops ≥ 8 then ([], -1) else nameV l m ((getV l i 2).1 - 49152) (if nx < 0 then (getV l i 2).2 else nx) (hops + 1) n)
    else if rd l i > 15 ∨ n.length ≥ 6 then ([], -1)
    else if (takeV l (i + 1) (rd l i)).2 < 0 then ([], -1)
    else nameV l m (takeV l (i + 1) (rd l i)).2 nx hops (n ++ [(takeV l (i + 1) (rd l i)).1.map impl_Lower.byte])
theorem get_two (l : List Int) (hb : Bytes l) (hl : l.length ≤ 1048576) (i : Int) (h0 : 0 ≤ i) (h1 : i < l.length) : (getV l i 2).2 < 0 ∨ (getV l i 2 = (rd l i * 256 + rd l (i + 1), i + 2) ∧ 0 ≤ rd l (i + 1) ∧ rd l (i + 1) ≤ 255) := by
  by_cases h : 2 > (l.length : Int) - i
  · left; unfold getV; rw [if_pos (Or.inr h)]; decide
  · right
    have e := specGet16 l hb (by omega) i (by omega)
    have b0 := hb.rd i
    have b1 := hb.rd (i + 1)
    unfold spec_Get16.f at e
    rw [if_neg (by omega), w64 (x := (l.length : Int) - 2) (by omega) (by omega), if_neg (by omega), if_pos (by omega), if_pos (by omega), w64 (x := i + 1) (by omega) (by omega), if_pos (by omega), if_pos (by omega)] at e
    rw [w64 (x := rd l i) (by omega) (by omega), w64 (x := rd l (i + 1)) (by omega) (by omega), w64 (x := rd l i * 256) (by omega) (by omega), w64 (x := rd l i * 256 + rd l (i + 1)) (by omega) (by omega), w64 (x := i + 2) (by omega) (by omega)] at e
    exact ⟨(Option.some.inj e).symm, b1.1, b1.2⟩
theorem take_at (l : List Int) (i n : Int) : (takeV l i n).2 < 0 ∨ ((takeV l i n).2 = i + n ∧ 0 ≤ i ∧ 0 ≤ n ∧ i + n ≤ l.length ∧ ((takeV l i n).1.length : Int) ≤ n) := by
  unfold takeV
  by_cases h : i < 0 ∨ n < 0 ∨ i > l.length ∨ n > l.length - i
  · left; rw [if_pos h]; decide
  · right; rw [if_neg h]
    refine ⟨rfl, by omega, by omega, by omega, ?_⟩
    simp only [List.length_drop, List.length_take]
    omega
def FitL (n : List (List Int)) : Prop := n.length ≤ 6 ∧ ∀ x ∈ n, x.length ≤ 1048576
theorem FitL.snoc {n : List (List Int)} {x : List Int} (h : FitL n) (h6 : n.length < 6) (hx : x.length ≤ 1048576) : FitL (n ++ [x]) :=
  ⟨by simp; omega, fun y hy => by
    rcases List.mem_append.1 hy with hy | hy
    · exact h.2 y hy
    · rw [List.mem_singleton.1 hy]; exact hx⟩
theorem specName_l0 (l : List Int) (hb : Bytes l) (hl : l.length ≤ 1048576) (m : Nat) : ∀ (i nx hops : Int) (n : List (List Int)), -9223372036854775808 ≤ i → i ≤ 9223372036854775807 → -1 ≤ nx → nx ≤ 1048578 → 0 ≤ hops → hops ≤ 8 → FitL n → (8 - hops).toNat + (6 - n.length) + 1 ≤ m →
    Ev (fun k => spec_l2get.l0 k l i nx hops n) (nameV l m i nx hops n) := by
  induction m with
  | zero => intro i nx hops n _ _ _ _ _ _ _ h; omega
  | succ m ih =>
    intro i nx hops n i0 i1 x0 x1 p0 p1 hn hm
    simp only [nameV]
    have hbad : Ev (fun k => spec_l2get.j1 k l i nx hops true n) (([] : List (List Int)), (-1 : Int)) := by
      refine Ev.step (f := fun _ => some (([] : List (List Int)), (-1 : Int))) (fun k => ?_) (Ev.now _)
      rw [spec_l2get.j1, if_pos rfl]
    by_cases hi : i < 0
    · rw [if_pos (Or.inl hi)]
      refine Ev.step (f := fun k => spec_l2get.j1 k l i nx hops true n) (fun k => ?_) hbad
      rw [spec_l2get.l0, if_pos hi]
    by_cases hi2 : (l.length : Int) ≤ i
    · rw [if_pos (Or.inr hi2)]
      refine Ev.step (f := fun k => spec_l2get.j1 k l i nx hops true n) (fun k => ?_) hbad
      rw [spec_l2get.l0, if_neg hi, decide_eq_true (show i ≥ (l.length : Int) from hi2)]
    rw [if_neg (by omega)]
    refine Ev.step (f := fun k => spec_l2get.j1 k l i nx hops false n) (fun k => by rw [spec_l2get.l0, if_neg hi, decide_eq_false (show ¬ i ≥ (l.length : Int) by omega)]) ?_
    have hx := hb.rd i
    have hw : wrap64 (rd l i) = rd l i := w64 (by omega) (by omega)
    by_cases hz : rd l i = 0
    · rw [if_pos hz]
      have hok := specNameOk n (by have := hn.1; omega) (fun x hx => by have := hn.2 x hx; omega)
      refine Ev.step (f := fun k => (spec_NameOk.f k n).bind fun t => if t = true then some (n, if nx < 0 then i + 1 else nx) else some (([] : List (List Int)), (-1 : Int))) (fun k => ?_) (Ev.bind hok ?_)
      · rw [spec_l2get.j1, if_neg (by decide), if_pos (by omega), if_pos (by omega), hw, if_pos hz, w64 (x := i + 1) (by omega) (by omega)]
        by_cases hnx : nx < 0
        · simp only [if_pos hnx]
        · simp only [if_neg hnx]
      · by_cases h : impl_NameOk.v n = true
        · simp only [if_pos h]; exact Ev.now _
        · simp only [if_neg h]; exact Ev.now _
    rw [if_neg hz]
    by_cases h192 : rd l i ≥ 192
    · rw [if_pos h192]
      have hj : ∀ b : Bool, ∀ a c : Int, (b = false → hops < 8 ∧ 0 ≤ a - 49152 ∧ a ≤ 65535 ∧ 0 ≤ c ∧ c ≤ 1048578) → Ev (fun k => spec_l2get.j2 k l nx hops a c b n) (if b = true then (([] : List (List Int)), (-1 : Int)) else nameV l m (a - 49152) (if nx < 0 then c else nx) (hops + 1) n) := by
        intro b a c hbc
        cases b with
        | true =>
          rw [if_pos rfl]
          refine Ev.step (f := fun _ => some (([] : List (List Int)), (-1 : Int))) (fun k => ?_) (Ev.now _)
          rw [spec_l2get.j2, if_pos rfl]
        | false =>
          obtain ⟨q1, q2, q3, q4, q5⟩ := hbc rfl
          rw [if_neg (by decide)]
          refine Ev.step (f := fun k => spec_l2get.l0 k l (a - 49152) (if nx < 0 then c else nx) (hops + 1) n) (fun k => ?_) (ih _ _ _ _ (by omega) (by omega) (by split <;> omega) (by split <;> omega) (by omega) (by omega) hn (by omega))
          rw [spec_l2get.j2, if_neg (by decide), w64 (x := a - 49152) (by omega) (by omega), w64 (x := hops + 1) (by omega) (by omega)]
          by_cases hnx : nx < 0
          · simp only [if_pos hnx]
          · simp only [if_neg hnx]
      have hst : ∀ k, spec_l2get.j1 (k + 1) l i nx hops false n = (if (getV l i 2).2 < 0 then spec_l2get.j2 k l nx hops (getV l i 2).1 (getV l i 2).2 true n else if wrap64 ((getV l i 2).1 - 49152) ≥ i then spec_l2get.j2 k l nx hops (getV l i 2).1 (getV l i 2).2 true n else spec_l2get.j2 k l nx hops (getV l i 2).1 (getV l i 2).2 (decide (hops ≥ 8)) n) := by
        intro k
        rw [spec_l2get.j1, if_neg (by decide), if_pos (by omega), if_pos (by omega), hw, if_neg hz, if_pos h192, specGet16 l hb (by omega) i (by omega), Option.bind_some]
      refine Ev.step hst ?_
      rcases get_two l hb hl i (by omega) (by omega) with hg | ⟨hg, g0, g1⟩
      · simp only [if_pos hg]
        rw [if_pos (Or.inl hg)]
        have := hj true (getV l i 2).1 (getV l i 2).2 (fun e => by cases e)
        simpa using this
      · rw [hg]
        simp only [if_neg (show ¬ i + 2 < 0 by omega)]
        rw [w64 (x := rd l i * 256 + rd l (i + 1) - 49152) (by omega) (by omega)]
        by_cases hq : rd l i * 256 + rd l (i + 1) - 49152 ≥ i
        · simp only [if_pos hq]
          rw [if_pos (Or.inr (Or.inl hq))]
          have := hj true (rd l i * 256 + rd l (i + 1)) (i + 2) (fun e => by cases e)
          simpa using this
        · simp only [if_neg hq]
          by_cases h8 : hops ≥ 8
          · rw [if_pos (Or.inr (Or.inr h8)), decide_eq_true h8]
            have := hj true (rd l i * 256 + rd l (i + 1)) (i + 2) (fun e => by cases e)
            simpa using this
          · rw [if_neg (by omega), decide_eq_false h8]
            have := hj false (rd l i * 256 + rd l (i + 1)) (i + 2) (fun _ => ⟨by omega, by omega, by omega, by omega, by omega⟩)
            simpa using this
    rw [if_neg h192]
    have hj : ∀ b : Bool, (b = false → n.length < 6 ∧ rd l i ≤ 15) → Ev (fun k => spec_l2get.j3 k l i nx hops (rd l i) b n) (if b = true then (([] : List (List Int)), (-1 : Int)) else if (takeV l (i + 1) (rd l i)).2 < 0 then ([], -1) else nameV l m (takeV l (i + 1) (rd l i)).2 nx hops (n ++ [(takeV l (i + 1) (rd l i)).1.map impl_Lower.byte])) := by
      intro b hbc
      cases b with
      | true =>
        rw [if_pos rfl]
        refine Ev.step (f := fun _ => some (([] : List (List Int)), (-1 : Int))) (fun k => ?_) (Ev.now _)
        rw [spec_l2get.j3, if_pos rfl]
      | false =>
        obtain ⟨q1, q2⟩ := hbc rfl
        rw [if_neg (by decide)]
        have hlen := takeV_len l (i + 1) (rd l i)
        rcases take_at l (i + 1) (rd l i) with ht | ⟨ht, t1, t2, t3, t4⟩
        · rw [if_pos ht]
          refine Ev.step (f := fun _ => some (([] : List (List Int)), (-1 : Int))) (fun k => ?_) (Ev.now _)
          rw [spec_l2get.j3, if_neg (by decide), w64 (x := i + 1) (by omega) (by omega), specTake l (by omega) (i + 1) (rd l i) (by omega) (by omega), Option.bind_some, if_pos ht]
        · rw [if_neg (by omega)]
          refine Ev.step (f := fun k => (spec_Lower.f k (takeV l (i + 1) (rd l i)).1).bind fun t => if n.length < 5864062014805 then spec_l2get.l0 k l (takeV l (i + 1) (rd l i)).2 nx hops (n ++ [t]) else none) (fun k => ?_) (Ev.bind (specLower _ (by omega)) ?_)
          · rw [spec_l2get.j3, if_neg (by decide), w64 (x := i + 1) (by omega) (by omega), specTake l (by omega) (i + 1) (rd l i) (by omega) (by omega), Option.bind_some, if_neg (by omega)]
          · simp only [if_pos (show n.length < 5864062014805 by omega)]
            exact ih _ _ _ _ (by omega) (by omega) x0 x1 p0 p1 (hn.snoc q1 (by simp; omega)) (by simp; omega)
    by_cases h15 : rd l i > 15
    · rw [if_pos (Or.inl h15)]
      refine Ev.step (f := fun k => spec_l2get.j3 k l i nx hops (rd l i) true n) (fun k => ?_) (by have := hj true (fun e => by cases e); simpa using this)
      rw [spec_l2get.j1, if_neg (by decide), if_pos (by omega), if_pos (by omega), hw, if_neg hz, if_neg h192, if_pos h15]
    · refine Ev.step (f := fun k => spec_l2get.j3 k l i nx hops (rd l i) (decide ((n.length : Int) ≥ 6)) n) (fun k => ?_) ?_
      · rw [spec_l2get.j1, if_neg (by decide), if_pos (by omega), if_pos (by omega), hw, if_neg hz, if_neg h192, if_neg h15]
      · by_cases h6 : n.length ≥ 6
        · rw [if_pos (Or.inr h6), decide_eq_true (show (n.length : Int) ≥ 6 by omega)]
          have := hj true (fun e => by cases e); simpa using this
        · rw [if_neg (by omega), decide_eq_false (show ¬ (n.length : Int) ≥ 6 by omega)]
          have := hj false (fun _ => ⟨by omega, by omega⟩)
          simpa using this
theorem implName_l0 (l : List Int) (hb : Bytes l) (hl : l.length ≤ 1048576) (m : Nat) : ∀ (i nx hops : Int) (n : List (List Int)), 0 ≤ i → i ≤ 9223372036854775807 → -1 ≤ nx → nx ≤ 1048578 → 0 ≤ hops → hops ≤ 8 → FitL n → (8 - hops).toNat + (6 - n.length) + 1 ≤ m →
    Ev (fun k => impl_NameGet.l0 k l i nx hops n) (nameV l m i nx hops n) := by
  induction m with
  | zero => intro i nx hops n _ _ _ _ _ _ _ h; omega
  | succ m ih =>
    intro i nx hops n i0 i1 x0 x1 p0 p1 hn hm
    simp only [nameV]
    by_cases hi2 : (l.length : Int) ≤ i
    · rw [if_pos (Or.inr hi2)]
      refine Ev.step (f := fun _ => some (([] : List (List Int)), (-1 : Int))) (fun k => ?_) (Ev.now _)
      rw [impl_NameGet.l0, if_pos hi2]
    rw [if_neg (by omega)]
    have hx := hb.rd i
    have hw : wrap64 (rd l i) = rd l i := w64 (by omega) (by omega)
    by_cases hz : rd l i = 0
    · rw [if_pos hz]
      refine Ev.step (f := fun _ => some (if impl_NameOk.v n = true then (n, if nx < 0 then i + 1 else nx) else (([] : List (List Int)), (-1 : Int)))) (fun k => ?_) (Ev.now _)
      rw [impl_NameGet.l0, if_neg (by omega), if_pos (by omega), if_pos (by omega), hw, if_pos hz, w64 (x := i + 1) (by omega) (by omega)]
      simp only [show impl_NameOk.f n = some (impl_NameOk.v n) from rfl, Option.bind_some]
      by_cases hnx : nx < 0
      · simp only [if_pos hnx]; split <;> rfl
      · simp only [if_neg hnx]; split <;> rfl
    rw [if_neg hz]
    by_cases h192 : rd l i ≥ 192
    · rw [if_pos h192]
      have hj : ∀ b : Bool, ∀ a c : Int, (b = false → hops < 8 ∧ 0 ≤ a ∧ a ≤ 65535 ∧ 0 ≤ c ∧ c ≤ 1048578) → Ev (fun k => impl_NameGet.j2 k l nx (hops + 1) a c b n) (if b = true then (([] : List (List Int)), (-1 : Int)) else nameV l m a (if nx < 0 then c else nx) (hops + 1) n) := by
        intro b a c hbc
        cases b with
        | true =>
          rw [if_pos rfl]
          refine Ev.step (f := fun _ => some (([] : List (List Int)), (-1 : Int))) (fun k => ?_) (Ev.now _)
          rw [impl_NameGet.j2, if_pos rfl]
        | false =>
          obtain ⟨q1, q2, q3, q4, q5⟩ := hbc rfl
          rw [if_neg (by decide)]
          refine Ev.step (f := fun k => impl_NameGet.l0 k l a (if nx < 0 then c else nx) (hops + 1) n) (fun k => ?_) (ih _ _ _ _ (by omega) (by omega) (by split <;> omega) (by split <;> omega) (by omega) (by omega) hn (by omega))
          rw [impl_NameGet.j2, if_neg (by decide)]
          by_cases hnx : nx < 0
          · simp only [if_pos hnx]
          · simp only [if_neg hnx]
      refine Ev.step (f := fun k => (impl_get.f k l i 2).bind fun bt => if bt.2 < 0 then impl_NameGet.j2 k l nx (hops + 1) (wrap64 (bt.1 - 49152)) bt.2 true n else if wrap64 (bt.1 - 49152) ≥ i then impl_NameGet.j2 k l nx (hops + 1) (wrap64 (bt.1 - 49152)) bt.2 true n else impl_NameGet.j2 k l nx (hops + 1) (wrap64 (bt.1 - 49152)) bt.2 (decide (hops + 1 > 8)) n) (fun k => ?_) (Ev.bind (get_ev l hb (by omega) i 2 (by omega) (by omega)) ?_)
      · rw [impl_NameGet.l0, if_neg (by omega), if_pos (by omega), if_pos (by omega), hw, if_neg hz, if_pos h192, w64 (x := hops + 1) (by omega) (by omega)]
      rcases get_two l hb hl i (by omega) (by omega) with hg | ⟨hg, g0, g1⟩
      · simp only [if_pos hg]
        rw [if_pos (Or.inl hg)]
        have := hj true (wrap64 ((getV l i 2).1 - 49152)) (getV l i 2).2 (fun e => by cases e)
        simpa using this
      · rw [hg]
        simp only [if_neg (show ¬ i + 2 < 0 by omega), w64 (x := rd l i * 256 + rd l (i + 1) - 49152) (by omega) (by omega)]
        by_cases hq : rd l i * 256 + rd l (i + 1) - 49152 ≥ i
        · simp only [if_pos hq]
          rw [if_pos (Or.inr (Or.inl hq))]
          have := hj true (rd l i * 256 + rd l (i + 1) - 49152) (i + 2) (fun e => by cases e)
          simpa using this
        · simp only [if_neg hq]
          by_cases h8 : hops ≥ 8
          · rw [if_pos (Or.inr (Or.inr h8))]
            have := hj true (rd l i * 256 + rd l (i + 1) - 49152) (i + 2) (fun e => by cases e)
            rw [show decide (hops + 1 > 8) = true from decide_eq_true (by omega)]
            simpa using this
          · rw [if_neg (by omega)]
            have := hj false (rd l i * 256 + rd l (i + 1) - 49152) (i + 2) (fun _ => ⟨by omega, by omega, by omega, by omega, by omega⟩)
            rw [show decide (hops + 1 > 8) = false from decide_eq_false (by omega)]
            simpa using this
    rw [if_neg h192]
    by_cases h15 : rd l i > 15
    · rw [if_pos (Or.inl h15)]
      refine Ev.step (f := fun _ => some (([] : List (List Int)), (-1 : Int))) (fun k => ?_) (Ev.now _)
      rw [impl_NameGet.l0, if_neg (by omega), if_pos (by omega), if_pos (by omega), hw, if_neg hz, if_neg h192, if_pos h15]
    have hlen := takeV_len l (i + 1) (rd l i)
    have hst : ∀ k, impl_NameGet.l0 (k + 1) l i nx hops n = if (takeV l (i + 1) (rd l i)).2 < 0 then some (([] : List (List Int)), (-1 : Int)) else if (n.length : Int) = 6 then some (([] : List (List Int)), (-1 : Int)) else if n.length < 5864062014805 then impl_NameGet.l0 k l (takeV l (i + 1) (rd l i)).2 nx hops (n ++ [(takeV l (i + 1) (rd l i)).1.map impl_Lower.byte]) else none := by
      intro k
      rw [impl_NameGet.l0, if_neg (by omega), if_pos (by omega), if_pos (by omega), hw, if_neg hz, if_neg h192, if_neg h15, w64 (x := i + 1) (by omega) (by omega), implTake l (by omega) (i + 1) (rd l i) (by omega) (by omega), Option.bind_some]
      unfold impl_Lower.f
      rw [if_pos (show (takeV l (i + 1) (rd l i)).1.length < 140737488355328 by omega), Option.bind_some]
    by_cases h6 : n.length ≥ 6
    · rw [if_pos (Or.inr h6)]
      refine Ev.step (f := fun _ => some (([] : List (List Int)), (-1 : Int))) (fun k => ?_) (Ev.now _)
      rw [hst k, if_pos (show (n.length : Int) = 6 by have := hn.1; omega)]
      split <;> rfl
    · rw [if_neg (by omega)]
      rcases take_at l (i + 1) (rd l i) with ht | ⟨ht, t1, t2, t3, t4⟩
      · rw [if_pos ht]
        refine Ev.step (f := fun _ => some (([] : List (List Int)), (-1 : Int))) (fun k => ?_) (Ev.now _)
        rw [hst k, if_pos ht]
      · rw [if_neg (by omega)]
        refine Ev.step (f := fun k => impl_NameGet.l0 k l (takeV l (i + 1) (rd l i)).2 nx hops (n ++ [(takeV l (i + 1) (rd l i)).1.map impl_Lower.byte])) (fun k => ?_) (ih _ _ _ _ (by omega) (by omega) x0 x1 p0 p1 (hn.snoc (by omega) (by simp; omega)) (by simp; omega))
        rw [hst k, if_neg (by omega), if_neg (by omega), if_pos (by omega)]
theorem nameV_fit (l : List Int) (m : Nat) : ∀ (i nx hops : Int) (n : List (List Int)), (nameV l m i nx hops n).1 = [] ∨ impl_NameOk.v (nameV l m i nx hops n).1 = true := by
  induction m with
  | zero => intro i nx hops n; exact Or.inl rfl
  | succ m ih =>
    intro i nx hops n
    simp only [nameV]
    split
    · exact Or.inl rfl
    split
    · split
      · rename_i h; exact Or.inr h
      · exact Or.inl rfl
    split
    · split
      · exact Or.inl rfl
      · exact ih _ _ _ _
    split
    · exact Or.inl rfl
    split
    · exact Or.inl rfl
    · exact ih _ _ _ _
theorem fit_of {n : List (List Int)} (h : n = [] ∨ impl_NameOk.v n = true) : FitN n := by
  rcases h with rfl | h
  · exact ⟨by simp, (fun x hx => by cases hx), by simp [lens]⟩
  · have hk := nameOk_len h
    have h2 := lens_le n 15 (fun x hx => (hk.2 x hx).2.1)
    have h3 : n.length * 15 ≤ 6 * 15 := Nat.mul_le_mul_right 15 hk.1
    exact ⟨by omega, fun x hx => by have := (hk.2 x hx).2.1; omega, by omega⟩
def nameGetV (l : List Int) (i : Int) : List (List Int) × Int := if (l.length : Int) > 512 then ([], -1) else nameV l 15 i (-1) 0 []
theorem nameGetV_fit (l : List Int) (i : Int) : FitN (nameGetV l i).1 := by
  unfold nameGetV
  split
  · exact fit_of (Or.inl rfl)
  · exact fit_of (nameV_fit l 15 i (-1) 0 [])
theorem specNameGet (l : List Int) (hb : Bytes l) (hl : l.length ≤ 1048576) (i : Int) (i0 : -9223372036854775808 ≤ i) (i1 : i ≤ 9223372036854775807) : Ev (fun k => spec_NameGet.f k l i) (nameGetV l i) := by
  unfold spec_NameGet.f nameGetV
  by_cases h : (l.length : Int) > 512
  · simp only [if_pos h]; exact Ev.now _
  · simp only [if_neg h]
    unfold spec_l2get.f
    exact Ev.bind (specName_l0 l hb hl 15 i (-1) 0 [] i0 i1 (by omega) (by omega) (by omega) (by omega) ⟨by simp, (fun x hx => by cases hx)⟩ (by simp)) (Ev.now _)
theorem implNameGet (l : List Int) (hb : Bytes l) (hl : l.length ≤ 1048576) (i : Int) (i1 : i ≤ 9223372036854775807) : Ev (fun k => impl_NameGet.f k l i) (nameGetV l i) := by
  unfold impl_NameGet.f nameGetV
  have hT : Ev (fun k => impl_NameGet.j0 k l i true) (([] : List (List Int)), (-1 : Int)) := by
    refine Ev.step (f := fun _ => some (([] : List (List Int)), (-1 : Int))) (fun k => ?_) (Ev.now _)
    rw [impl_NameGet.j0, if_pos rfl]
  by_cases h : (l.length : Int) > 512
  · simp only [if_pos h]; exact hT
  · simp only [if_neg h]
    by_cases hi : i < 0
    · rw [decide_eq_true hi]
      have e : nameV l 15 i (-1) 0 [] = ([], -1) := by rw [nameV, if_pos (Or.inl hi)]
      rw [e]; exact hT
    · rw [decide_eq_false hi]
      refine Ev.step (f := fun k => impl_NameGet.l0 k l i (-1) 0 []) (fun k => ?_) (implName_l0 l hb hl 15 i (-1) 0 [] (by omega) i1 (by omega) (by omega) (by omega) (by omega) ⟨by simp, (fun x hx => by cases hx)⟩ (by simp))
      rw [impl_NameGet.j0, if_neg (by decide)]
/-! ### marks over names, found again -/
theorem all_at (L : List (List Int)) : ∀ (a : Int) (i : Nat) (h : i < L.length), (laws_markByteSS.all a L)[i]'(by rw [laws_markByteSS.all_len]; exact h) = laws_markByteSS.mk (a + (lens (L.take i) : Int)) (L[i]).length := by
  induction L with
  | nil => intro a i h; simp at h
  | cons x L ih =>
    intro a i h
    cases i with
    | zero => simp [laws_markByteSS.all, lens]
    | succ i =>
      simp only [laws_markByteSS.all, List.getElem_cons_succ]
      rw [ih (a + x.length) i (by simpa using h)]
      congr 1
      simp only [List.take_succ_cons, lens, List.map_cons, List.sum_cons]
      omega
theorem heldSS_l0 (L : List (List Int)) (a : Int) (a0 : 0 ≤ a) (a1 : a ≤ 1000) (hL : FitN L) (m : Nat) : ∀ (i : Nat), L.length = i + m → Ev (fun k => laws_heldByteSS.l0 k (laws_markByteSS.all a L) (a + (lens (L.take i) : Int)) i) (a + (lens L : Int)) := by
  induction m with
  | zero =>
    intro i hi
    refine Ev.step (f := fun _ => some (a + (lens L : Int))) (fun k => ?_) (Ev.now _)
    rw [laws_heldByteSS.l0, if_neg (by rw [laws_markByteSS.all_len]; omega), List.take_of_length_le (by omega)]
  | succ m ih =>
    intro i hi
    have hil : i < L.length := by omega
    have h1 := hL.1
    have h2 := hL.2.2
    have h3 := hL.2.1 _ (List.getElem_mem hil)
    have hsum : lens (L.take (i + 1)) = lens (L.take i) + (L[i]).length := by
      rw [List.take_succ_eq_append_getElem hil]
      simp only [lens, List.map_append, List.sum_append, List.map_cons, List.map_nil, List.sum_cons, List.sum_nil]; omega
    have hle : lens (L.take (i + 1)) ≤ lens L := by
      have := congrArg lens (List.take_append_drop (i + 1) L)
      have h4 : lens (L.take (i + 1) ++ L.drop (i + 1)) = lens (L.take (i + 1)) + lens (L.drop (i + 1)) := by simp only [lens, List.map_append, List.sum_append]
      omega
    have hh := heldByteS (a + (lens (L.take i) : Int)) (by omega) (by omega) (L[i]).length (by omega)
    refine Ev.step (f := fun k => (laws_heldByteS.f k (marks (a + (lens (L.take i) : Int)) (L[i]).length) (a + (lens (L.take i) : Int))).bind fun t => if t < 0 then some (-1) else laws_heldByteSS.l0 k (laws_markByteSS.all a L) t ((i + 1 : Nat) : Int)) (fun k => ?_) (Ev.bind hh ?_)
    · rw [laws_heldByteSS.l0, if_pos (by rw [laws_markByteSS.all_len]; omega), if_pos (by omega), rdL_at _ i (by rw [laws_markByteSS.all_len]; exact hil), all_at L a i hil, w64 (x := (i : Int) + 1) (by omega) (by omega)]
      rfl
    · simp only [if_neg (show ¬ a + (lens (L.take i) : Int) + ((L[i]).length : Int) < 0 by omega)]
      have := ih (i + 1) (by omega)
      rw [hsum] at this
      rw [show a + (lens (L.take i) : Int) + ((L[i]).length : Int) = a + ((lens (L.take i) + (L[i]).length : Nat) : Int) by omega]
      exact this
theorem heldName (L : List (List Int)) (a : Int) (a0 : 0 ≤ a) (a1 : a ≤ 1000) (hL : FitN L) : Ev (fun k => laws_heldName.f k (laws_markByteSS.all a L) a) (a + (lens L : Int)) := by
  unfold laws_heldName.f laws_heldByteSS.f
  have := heldSS_l0 L a a0 a1 hL L.length 0 (by omega)
  have this : Ev (fun k => laws_heldByteSS.l0 k (laws_markByteSS.all a L) a 0) (a + (lens L : Int)) := by simpa [lens] using this
  refine Ev.bind this ?_
  simp only [if_neg (show ¬ a + (lens L : Int) < 0 by omega)]
  exact Ev.now _
end Go.Proofs.Ytedbpnfkeabpnaa.Pure

/- The statement FnExactNameGet: at every row of bytes and place the reference and the program read the same name. No condition. -/
namespace Go.Proofs.Ytedbpnfkeabpnaa.Pure
open Go Go.RowKit Go.Proofs.Ytedbpnfkeabpnaa.Q Go.Proofs.YtedbpnfkeabpnaaW.PrintWords Go.Proofs.YtedbpnfkeabpnaaW.PrintLast
set_option linter.unusedVariables false
set_option linter.unusedSimpArgs false
theorem FnExactNameGet : laws_FnExactNameGet.Pure := by
  intro l i hm hl hw hi
  have hb := Bytes.of_wf hw
  have hi := i64_of_wf hi
  apply Ev.rounds
  unfold laws_FnExactNameGet.f
  by_cases h : (l.length : Int) > 1048576
  · simp only [if_pos h]; exact Ev.now _
  simp only [if_neg h]
  have hl : l.length ≤ 1048576 := by omega
  have htb := toByteS l (by omega)
  have hs := specNameGet l hb hl i hi.1 hi.2
  have hp := implNameGet l hb hl i hi.2
  have fn := nameGetV_fit l i
  have heq := eqName' (nameGetV l i).1 fn
  have hln := fn.2.2
  have hheld := heldName (nameGetV l i).1 1 (by omega) (by omega) fn
  refine Ev.bind htb (Ev.bind hs (Ev.bind htb (Ev.bind hp (Ev.bind heq ?_))))
  simp only [if_true]
  refine Ev.bind htb (Ev.bind (eqByteS l (by omega)) ?_)
  simp only [if_true]
  refine Ev.bind (markByteS l 1 (by omega) (by omega) (by omega)) ?_
  simp only [if_neg (show ¬ (1 + (l.length : Int) < 0) by omega)]
  refine Ev.bind heq ?_
  simp only [if_true]
  simp only [markName (nameGetV l i).1 1 (by omega) (by omega) fn, Option.bind_some]
  refine Ev.bind hheld ?_
  simp only [if_neg (show ¬ (1 + (lens (nameGetV l i).1 : Int) < 0) by omega), if_true]
  refine Ev.bind htb (Ev.bind hp (Ev.bind heq ?_))
  simp only [if_true]
  refine Ev.bind hheld ?_
  simp only [if_neg (show ¬ (1 + (lens (nameGetV l i).1 : Int) < 0) by omega), if_true]
  exact Ev.now _
end Go.Proofs.Ytedbpnfkeabpnaa.Pure

