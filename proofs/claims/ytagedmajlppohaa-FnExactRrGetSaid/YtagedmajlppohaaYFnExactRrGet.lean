/- Plain lemmas for the statement FnExactRrGet. -/
import Derived.Test.YtagedmajlppohaaZFnExactRrGet0
import Derived.Test.YtagedmajlppohaaZFnExactRrGet1
import Derived.Test.YtagedmajlppohaaZFnExactRrGet2
import Derived.Test.YtagedmajlppohaaZFnExactRrGet3
/- Plain lemmas on the printed functions: a list of bytes read into a new one, two lists compared, a number read from bytes. -/
namespace Go.Proofs.Ytagedmajlppohaa.Pure
open Go Go.RowKit Go.Proofs.Ytagedmajlppohaa.Q Go.Proofs.YtagedmajlppohaaW.PrintWords Go.Proofs.YtagedmajlppohaaW.PrintLast Go.Proofs.YtagedmajlppohaaW.PrintMore
set_option linter.unusedVariables false
set_option linter.unusedSimpArgs false

/-- Every element is a byte. -/
def Bytes (l : List Int) : Prop := ∀ x ∈ l, 0 ≤ x ∧ x ≤ 255
theorem Bytes.of_wf {l : List Int} (h : ∀ x ∈ l, (Lit.int .u8 x).wf = true) : Bytes l := fun x hx => by
  have := h x hx;simp [Lit.wf, IntKind.min, IntKind.max, IntKind.signed, IntKind.bits] at this
  omega
theorem i64_of_wf {x : Int} (h : (Lit.int .i64 x).wf = true) : -9223372036854775808 ≤ x ∧ x ≤ 9223372036854775807 := by
  simp [Lit.wf, IntKind.min, IntKind.max, IntKind.signed, IntKind.bits] at h
  omega
theorem Bytes.rd {l : List Int} (h : Bytes l) (i : Int) : 0 ≤ rd l i ∧ rd l i ≤ 255 := by
  unfold Go.Proofs.YtagedmajlppohaaW.PrintWords.rd;rw [List.getD_eq_getElem?_getD];by_cases hi : i.toNat < l.length
  · rw [List.getElem?_eq_getElem hi]; exact h _ (List.getElem_mem hi)
  · rw [List.getElem?_eq_none (by omega)]; simp
theorem w64 {x : Int} (h1 : -9223372036854775808 ≤ x) (h2 : x ≤ 9223372036854775807) : wrap64 x = x := by
  unfold wrap64; omega
theorem set_prefix (l : List Int) (i : Nat) (h : i < l.length) (m : Nat) (hm : l.length = i + m + 1) :
    (l.take i ++ List.replicate (m+1) 0).set i (l.getD i 0) = l.take (i+1) ++ List.replicate m 0 := by
  rw [List.set_append_right _ _ (by simp; omega)];simp only [List.length_take, Nat.min_eq_left (Nat.le_of_lt h), Nat.sub_self, List.replicate_succ, List.set_cons_zero];rw [List.take_succ_eq_append_getElem h, List.append_assoc];simp [List.getD_eq_getElem?_getD, h]

theorem toByteS_l0 (l : List Int) (hl : l.length ≤ 140737488351232) (m : Nat) : ∀ (i : Nat), l.length = i + m →
    Ev (fun k => qU.l0 k l (l.take i ++ List.replicate m 0) i) l := by
  induction m with
  | zero =>
    intro i hi;refine Ev.step (f := fun _ => some l) (fun k => ?_) (Ev.now _);simp only [qU.l0];rw [if_neg (by omega)];simp [List.take_of_length_le (show l.length ≤ i by omega)]
  | succ m ih =>
    intro i hi;refine Ev.step (fun k => ?_) (ih (i+1) (by omega));simp only [qU.l0];rw [if_pos (by omega), if_pos (by omega), if_pos (by simp; omega), w64 (by omega) (by omega)];rw [show rd l (i : Int) = l.getD i 0 by simp [rd], show ((i : Int)).toNat = i by omega, set_prefix l i (by omega) m (by omega)];rfl
theorem toByteS (l : List Int) (hl : l.length ≤ 140737488351232) : Ev (fun k => qU.f k l) l := by
  unfold qU.f;simp only [if_pos (show 0 ≤ (l.length : Int) by omega), if_pos (show ((l.length : Int)).toNat ≤ 281474976710656 by omega)];simpa using toByteS_l0 l hl l.length 0 (by omega)

theorem eqByteS_l0 (l : List Int) (hl : l.length ≤ 140737488351232) (m : Nat) : ∀ (i : Nat), l.length = i + m →
    Ev (fun k => qz.l0 k l l i) true := by
  induction m with
  | zero =>
    intro i hi;refine Ev.step (f := fun _ => some true) (fun k => ?_) (Ev.now _);simp only [qz.l0];rw [if_neg (by omega)]
  | succ m ih =>
    intro i hi;refine Ev.step (fun k => ?_) (ih (i+1) (by omega));simp only [qz.l0];rw [if_pos (by omega), if_pos (by omega), if_pos (by omega), if_pos trivial, w64 (by omega) (by omega)];rfl
theorem eqByteS (l : List Int) (hl : l.length ≤ 140737488351232) : Ev (fun k => qz.f k l l) true := by
  unfold qz.f;simp only [if_pos];exact eqByteS_l0 l hl l.length 0 (by omega)

/-- The number that bytes make, the highest first. -/
def be (acc : Int) (l : List Int) : Int := l.foldl (fun a x => a * 256 + x) acc
theorem wraps_i64 (n : Int) (h0 : 0 ≤ n) (h1 : n < 2 ^ 63) : IntKind.i64.wrap n = n := by rw [IntKind.wrap_i64]; omega
theorem bits_or_byte (a x : Int) (h0 : 0 ≤ a) (h1 : a < 36028797018963968) (h2 : 0 ≤ x) (h3 : x ≤ 255) : Go.bits .or .i64 (a * 256) x = a * 256 + x :=
  bits_join .i64 63 (by decide) wraps_i64 8 (a * 256) x (by omega) (by omega) (by omega) (by omega) (by omega) (by omega)
theorem get_l0 (at_ n : Int) (l : List Int) (hb : Bytes l) (hl : l.length ≤ 7) (m : Nat) : ∀ (i : Nat) (acc : Int), l.length = i + m → 0 ≤ acc → acc < 256 ^ i →
    Ev (fun k => qw.l0 k at_ n acc l (l.length : Int) i) (be acc (l.drop i), wrap64 (at_ + n)) := by
  induction m with
  | zero =>
    intro i acc hi h0 h1;refine Ev.step (f := fun _ => some (acc, wrap64 (at_ + n))) (fun k => ?_) ?_
    · simp only [qw.l0]
      rw [if_neg (by omega)]
    · rw [List.drop_of_length_le (by omega)]; exact Ev.now _
  | succ m ih =>
    intro i acc hi h0 h1;have hil : i < l.length := by omega
    have hr := hb _ (List.getElem_mem hil)
    have qJz : (256 : Int) ^ i ≤ 256 ^ 6 := by
      have : i ≤ 6 := by omega
      rcases i with _|_|_|_|_|_|_|i <;> simp_all
    have h7 : (256 : Int) ^ 6 = 281474976710656 := by decide
    have hd : l.drop i = l[i] :: l.drop (i+1) := List.drop_eq_getElem_cons hil;rw [hd];show Ev _ (be (acc * 256 + l[i]) (l.drop (i+1)), _)
    refine Ev.step (fun k => ?_) (ih (i+1) (acc * 256 + l[i]) (by omega) (by omega) (by rw [Int.pow_succ]; omega));simp only [qw.l0];have e : rd l (i : Int) = l[i] := by simp [rd, List.getD_eq_getElem?_getD, hil]
    rw [if_pos (by omega), if_pos (by omega), if_pos (by omega), e, w64 (show -9223372036854775808 ≤ acc * 256 by omega) (by omega), w64 (show -9223372036854775808 ≤ l[i] by omega) (by omega), w64 (show -9223372036854775808 ≤ (i : Int) + 1 by omega) (by omega), bits_or_byte _ _ h0 (by omega) hr.1 hr.2];rfl

/-- What 'get' tells. -/

def getV (l : List Int) (at_ n : Int) : Int × Int := if at_ < 0 ∨ n > l.length - at_ then (0, -1) else (be 0 ((l.take (at_ + n).toNat).drop at_.toNat), at_ + n)
theorem get_ev (l : List Int) (hb : Bytes l) (hl : l.length ≤ 140737488351232) (at_ n : Int) (ha : -9223372036854775808 ≤ at_ ∧ at_ ≤ 9223372036854775807) (hn : 0 ≤ n ∧ n ≤ 7) :
    Ev (fun k => qw.f k l at_ n) (getV l at_ n) := by
  unfold qw.f getV;by_cases h1 : at_ < 0
  · simp only [if_pos h1, if_pos (Or.inl h1 : at_ < 0 ∨ n > l.length - at_)]
    refine Ev.step (f := fun _ => some (0, -1)) (fun k => ?_) (Ev.now _);simp [qw.j0]
  · simp only [if_neg h1]
    rw [w64 (by omega) (by omega)];by_cases h2 : n > l.length - at_
    · rw [if_pos (Or.inr h2 : at_ < 0 ∨ n > l.length - at_), decide_eq_true h2]
      refine Ev.step (f := fun _ => some (0, -1)) (fun k => ?_) (Ev.now _);simp [qw.j0]
    · have h3 : ¬ (at_ < 0 ∨ n > l.length - at_) := by omega
      rw [decide_eq_false h2, if_neg h3];have hlen : ((l.take (at_ + n).toNat).drop at_.toNat).length = n.toNat := by simp; omega
      have hbb : Bytes ((l.take (at_ + n).toNat).drop at_.toNat) := fun x hx => hb x (List.mem_of_mem_take (List.mem_of_mem_drop hx))
      have := get_l0 at_ n _ hbb (by omega) n.toNat 0 0 (by omega) (by omega) (by simp);rw [List.drop_zero, w64 (by omega) (by omega)] at this;refine Ev.step (fun k => ?_) this;simp only [qw.j0];rw [w64 (show -9223372036854775808 ≤ at_ + n by omega) (by omega)];rw [if_neg (by simp), if_pos (by omega), if_pos (by omega), if_pos (by omega)];rfl

theorem be_two (a b : Int) : be 0 [a, b] = a * 256 + b := by simp [be]
theorem be_four (a b c d : Int) : be 0 [a, b, c, d] = a * 16777216 + b * 65536 + c * 256 + d := by simp [be]; omega
theorem cut_two (l : List Int) (i : Nat) (h : i + 2 ≤ l.length) : (l.take (i + 2)).drop i = [rd l i, rd l (i + 1 : Nat)] := by
  apply List.ext_getElem
  · simp; omega
  · intro j h1 h2
    simp at h2
    rcases j with _ | _ | j
    · simp [rd, List.getD_eq_getElem?_getD, show i < l.length by omega]
    · simp [rd, List.getD_eq_getElem?_getD, show i + 1 < l.length by omega]
    · omega
theorem cut_four (l : List Int) (i : Nat) (h : i + 4 ≤ l.length) : (l.take (i + 4)).drop i = [rd l i, rd l (i + 1 : Nat), rd l (i + 2 : Nat), rd l (i + 3 : Nat)] := by
  apply List.ext_getElem
  · simp; omega
  · intro j h1 h2
    simp at h2
    rcases j with _ | _ | _ | _ | j
    · simp [rd, List.getD_eq_getElem?_getD, show i < l.length by omega]
    · simp [rd, List.getD_eq_getElem?_getD, show i + 1 < l.length by omega]
    · simp [rd, List.getD_eq_getElem?_getD, show ((i : Int) + 2).toNat = i + 2 by omega, show i + 2 < l.length by omega]
    · simp [rd, List.getD_eq_getElem?_getD, show ((i : Int) + 3).toNat = i + 3 by omega, show i + 3 < l.length by omega]
    · omega
theorem specGet16 (l : List Int) (hb : Bytes l) (hl : l.length ≤ 140737488351232) (at_ : Int) (ha : -9223372036854775808 ≤ at_ ∧ at_ ≤ 9223372036854775807) :
    jS.f l at_ = some (getV l at_ 2) := by
  unfold jS.f getV;by_cases h1 : at_ < 0
  · rw [if_pos h1, if_pos (Or.inl h1)]
  rw [if_neg h1, w64 (show -9223372036854775808 ≤ (l.length : Int) - 2 by omega) (by omega)];by_cases h2 : at_ > (l.length : Int) - 2
  · rw [if_pos h2, if_pos (Or.inr (by omega))]
  rw [if_neg h2, if_neg (show ¬ (at_ < 0 ∨ 2 > (l.length : Int) - at_) by omega), w64 (show -9223372036854775808 ≤ at_ + 1 by omega) (by omega), if_pos (by omega), if_pos (by omega), if_pos (by omega), if_pos (by omega)];obtain ⟨i, rfl⟩ := Int.eq_ofNat_of_zero_le (show 0 ≤ at_ by omega);have r0 := hb.rd (i : Int); have r1 := hb.rd ((i : Int) + 1);rw [show ((i : Int) + 2).toNat = i + 2 by omega, show (i : Int).toNat = i by omega, cut_two l i (by omega), be_two, show ((i + 1 : Nat) : Int) = (i : Int) + 1 by omega];simp only [w64 (show -9223372036854775808 ≤ rd l (i : Int) by omega) (by omega), w64 (show -9223372036854775808 ≤ rd l (i : Int) * 256 by omega) (by omega), w64 (show -9223372036854775808 ≤ rd l ((i : Int) + 1) by omega) (by omega), w64 (show -9223372036854775808 ≤ (i : Int) + 2 by omega) (by omega)];rw [w64 (by omega) (by omega)]
theorem specGet32 (l : List Int) (hb : Bytes l) (hl : l.length ≤ 140737488351232) (at_ : Int) (ha : -9223372036854775808 ≤ at_ ∧ at_ ≤ 9223372036854775807) :
    qR.f l at_ = some (getV l at_ 4) := by
  unfold qR.f getV;by_cases h1 : at_ < 0
  · rw [if_pos h1, if_pos (Or.inl h1)]
  rw [if_neg h1, w64 (show -9223372036854775808 ≤ (l.length : Int) - 4 by omega) (by omega)];by_cases h2 : at_ > (l.length : Int) - 4
  · rw [if_pos h2, if_pos (Or.inr (by omega))]
  rw [if_neg h2, if_neg (show ¬ (at_ < 0 ∨ 4 > (l.length : Int) - at_) by omega), w64 (show -9223372036854775808 ≤ at_ + 1 by omega) (by omega), w64 (show -9223372036854775808 ≤ at_ + 2 by omega) (by omega), w64 (show -9223372036854775808 ≤ at_ + 3 by omega) (by omega), if_pos (by omega), if_pos (by omega), if_pos (by omega), if_pos (by omega), if_pos (by omega), if_pos (by omega), if_pos (by omega), if_pos (by omega)];obtain ⟨i, rfl⟩ := Int.eq_ofNat_of_zero_le (show 0 ≤ at_ by omega);have r0 := hb.rd (i : Int); have r1 := hb.rd ((i : Int) + 1); have r2 := hb.rd ((i : Int) + 2); have r3 := hb.rd ((i : Int) + 3);rw [show ((i : Int) + 4).toNat = i + 4 by omega, show (i : Int).toNat = i by omega, cut_four l i (by omega), be_four, show ((i + 1 : Nat) : Int) = (i : Int) + 1 by omega, show ((i + 2 : Nat) : Int) = (i : Int) + 2 by omega, show ((i + 3 : Nat) : Int) = (i : Int) + 3 by omega];simp only [w64 (show -9223372036854775808 ≤ rd l (i : Int) by omega) (by omega), w64 (show -9223372036854775808 ≤ rd l (i : Int) * 16777216 by omega) (by omega), w64 (show -9223372036854775808 ≤ rd l ((i : Int) + 1) by omega) (by omega), w64 (show -9223372036854775808 ≤ rd l ((i : Int) + 1) * 65536 by omega) (by omega), w64 (show -9223372036854775808 ≤ rd l ((i : Int) + 2) by omega) (by omega), w64 (show -9223372036854775808 ≤ rd l ((i : Int) + 2) * 256 by omega) (by omega), w64 (show -9223372036854775808 ≤ rd l ((i : Int) + 3) by omega) (by omega), w64 (show -9223372036854775808 ≤ (i : Int) + 4 by omega) (by omega)];rw [w64 (x := rd l (i : Int) * 16777216 + rd l ((i : Int) + 1) * 65536) (by omega) (by omega), w64 (x := rd l (i : Int) * 16777216 + rd l ((i : Int) + 1) * 65536 + rd l ((i : Int) + 2) * 256) (by omega) (by omega), w64 (by omega) (by omega)]
end Go.Proofs.Ytagedmajlppohaa.Pure

/- Plain lemmas on the printed functions: marks laid over a list of bytes, and found again; two lists compared; Put, Take. -/
namespace Go.Proofs.Ytagedmajlppohaa.Pure
open Go Go.RowKit Go.Proofs.Ytagedmajlppohaa.Q Go.Proofs.YtagedmajlppohaaW.PrintWords Go.Proofs.YtagedmajlppohaaW.PrintLast Go.Proofs.YtagedmajlppohaaW.PrintMore
set_option linter.unusedVariables false
set_option linter.unusedSimpArgs false

/-- n marks from a on. -/
def marks (a : Int) (n : Nat) : List Int := (List.range n).map fun (i : Nat) => (a + (i : Int)) % 256
theorem marks_len (a : Int) (n : Nat) : (marks a n).length = n := by simp [marks]
theorem marks_rd (a : Int) (n i : Nat) (h : i < n) : rd (marks a n) (i : Int) = (a + i) % 256 := by
  simp [rd, marks, List.getD_eq_getElem?_getD, h]
theorem marks_succ (a : Int) (i : Nat) : marks a (i + 1) = marks a i ++ [(a + i) % 256] := by simp [marks, List.range_succ]
theorem mark_l0 (l : List Int) (a : Int) (h0 : 0 ≤ a) (h1 : a ≤ 1099511627776) (hl : l.length ≤ 140737488351232) (m : Nat) : ∀ (i : Nat), l.length = i + m →
    Ev (fun k => qV.l0 k (marks a i ++ l.drop i) (a + i) i) (a + l.length, marks a l.length) := by
  induction m with
  | zero =>
    intro i hi;refine Ev.step (f := fun _ => some (a + l.length, marks a l.length)) (fun k => ?_) (Ev.now _);simp only [qV.l0];rw [List.length_append, marks_len, List.length_drop, if_neg (by omega), List.drop_of_length_le (by omega), List.append_nil, show i = l.length by omega]
  | succ m ih =>
    intro i hi;refine Ev.step (fun k => ?_) (ih (i + 1) (by omega));simp only [qV.l0];rw [List.length_append, marks_len, List.length_drop, if_pos (by omega), if_pos (by omega), w64 (show -9223372036854775808 ≤ a + i + 1 by omega) (by omega), w64 (show -9223372036854775808 ≤ (i : Int) + 1 by omega) (by omega)];rw [show ((i : Int)).toNat = i by omega, List.set_append_right _ _ (by rw [marks_len]; omega), marks_len, Nat.sub_self, List.drop_eq_getElem_cons (show i < l.length by omega), List.set_cons_zero, marks_succ, List.append_assoc, List.singleton_append];rw [show a + (i : Int) + 1 = a + ((i + 1 : Nat) : Int) by omega, show (i : Int) + 1 = ((i + 1 : Nat) : Int) by omega]
theorem markByteS (l : List Int) (a : Int) (h0 : 0 ≤ a) (h1 : a ≤ 1099511627776) (hl : l.length ≤ 140737488351232) : Ev (fun k => qV.f k l a) (a + l.length, marks a l.length) := by
  have := mark_l0 l a h0 h1 hl l.length 0 (by omega);simpa [qV.f, marks] using this
theorem held_l0 (a : Int) (h0 : 0 ≤ a) (h1 : a ≤ 1099511627776) (n : Nat) (hl : n ≤ 140737488351232) (m : Nat) : ∀ (i : Nat), n = i + m →
    Ev (fun k => qC.l0 k (marks a n) (a + i) i) (a + n) := by
  induction m with
  | zero =>
    intro i hi;refine Ev.step (f := fun _ => some (a + n)) (fun k => ?_) (Ev.now _);simp only [qC.l0];rw [marks_len, if_neg (by omega), show i = n by omega]
  | succ m ih =>
    intro i hi;refine Ev.step (fun k => ?_) (ih (i + 1) (by omega));simp only [qC.l0];rw [marks_len, if_pos (by omega), if_pos (by omega), marks_rd a n i (by omega), if_pos rfl, w64 (show -9223372036854775808 ≤ a + i + 1 by omega) (by omega), w64 (show -9223372036854775808 ≤ (i : Int) + 1 by omega) (by omega)];rw [show a + (i : Int) + 1 = a + ((i + 1 : Nat) : Int) by omega, show (i : Int) + 1 = ((i + 1 : Nat) : Int) by omega]
theorem heldByteS (a : Int) (h0 : 0 ≤ a) (h1 : a ≤ 1099511627776) (n : Nat) (hl : n ≤ 140737488351232) : Ev (fun k => qC.f k (marks a n) a) (a + n) := by
  have := held_l0 a h0 h1 n hl n 0 (by omega);simpa [qC.f] using this
end Go.Proofs.Ytagedmajlppohaa.Pure

/- Plain lemmas on the printed functions that read, measure and compare lists of lists of bytes, and names. -/
namespace Go.Proofs.Ytagedmajlppohaa.Pure
open Go Go.RowKit Go.Proofs.Ytagedmajlppohaa.Q Go.Proofs.YtagedmajlppohaaW.PrintWords Go.Proofs.YtagedmajlppohaaW.PrintLast Go.Proofs.YtagedmajlppohaaW.PrintMore
set_option linter.unusedVariables false
set_option linter.unusedSimpArgs false

theorem rdL_at (l : List (List Int)) (i : Nat) (h : i < l.length) : ja l (i : Int) = l[i] := by simp [ja, List.getD_eq_getElem?_getD, h]
def lens (l : List (List Int)) : Nat := (l.map List.length).sum
theorem eqByteSS_l0 (l : List (List Int)) (hl : l.length ≤ 11728124029610) (he : ∀ x ∈ l, x.length ≤ 140737488351232) (m : Nat) : ∀ (i : Nat), l.length = i + m →
    Ev (fun k => qN.l0 k l l i) true := by
  induction m with
  | zero =>
    intro i hi;refine Ev.step (f := fun _ => some true) (fun k => ?_) (Ev.now _);simp only [qN.l0];rw [if_neg (by omega)]
  | succ m ih =>
    intro i hi;have hil : i < l.length := by omega
    refine Ev.step (f := fun k => (qz.f k l[i] l[i]).bind fun t => if t = true then qN.l0 k l l ((i + 1 : Nat) : Int) else some false) (fun k => ?_) ?_
    · simp only [qN.l0]
      rw [if_pos (by omega), if_pos (by omega), rdL_at l i hil, w64 (x := (i : Int) + 1) (by omega) (by omega), if_pos (by omega)];rfl
    · refine Ev.bind (eqByteS l[i] (he _ (List.getElem_mem hil))) ?_
      simp only [if_true];exact ih (i + 1) (by omega)
theorem eqByteSS (l : List (List Int)) (hl : l.length ≤ 11728124029610) (he : ∀ x ∈ l, x.length ≤ 140737488351232) : Ev (fun k => qN.f k l l) true := by
  unfold qN.f;simp only [if_pos];exact eqByteSS_l0 l hl he l.length 0 (by omega)
theorem eqName (l : List (List Int)) (hl : l.length ≤ 11728124029610) (he : ∀ x ∈ l, x.length ≤ 140737488351232) : Ev (fun k => qT.f k l l) true := by
  unfold qT.f;refine Ev.bind (eqByteSS l hl he) ?_;simp only [if_true]; exact Ev.now _
end Go.Proofs.Ytagedmajlppohaa.Pure

/- Plain lemmas on the printed functions that say whether labels and names are right, and whether one name lies under another. -/
namespace Go.Proofs.Ytagedmajlppohaa.Pure
open Go Go.RowKit Go.Proofs.Ytagedmajlppohaa.Q Go.Proofs.YtagedmajlppohaaW.PrintWords Go.Proofs.YtagedmajlppohaaW.PrintLast Go.Proofs.YtagedmajlppohaaW.PrintMore
set_option linter.unusedVariables false
set_option linter.unusedSimpArgs false
theorem specLabelOk_l0 (l : List Int) (hl : l.length ≤ 140737488351232) (m : Nat) : ∀ (i : Nat), l.length = i + m →
    Ev (fun k => qr.l0 k l i) ((l.drop i).all qB.byte) := by
  induction m with
  | zero =>
    intro i hi;rw [List.drop_of_length_le (by omega)];refine Ev.step (f := fun _ => some true) (fun k => ?_) (Ev.now _);simp only [qr.l0];rw [if_neg (by omega)]
  | succ m ih =>
    intro i hi;have hil : i < l.length := by omega
    have e : rd l (i : Int) = l[i] := by simp [rd, List.getD_eq_getElem?_getD, hil]
    rw [List.drop_eq_getElem_cons hil, List.all_cons];by_cases hb : qB.byte l[i] = true
    · rw [hb, Bool.true_and]
      refine Ev.step (fun k => ?_) (ih (i+1) (by omega));simp only [qr.l0];rw [if_pos (by omega), if_pos (by omega), e, w64 (by omega) (by omega)];unfold qB.byte at hb;generalize l[i] = x at *;by_cases h1 : x ≥ 97 <;> by_cases h2 : x ≤ 122 <;> by_cases h3 : x ≥ 48 <;> by_cases h4 : x ≤ 57 <;> by_cases h5 : x = 45 <;> first | omega | (simp [h1, h2, h3, h4, h5] at hb ⊢; try omega)
    · rw [Bool.not_eq_true] at hb
      rw [hb, Bool.false_and];refine Ev.step (f := fun _ => some false) (fun k => ?_) (Ev.now _);simp only [qr.l0];rw [if_pos (by omega), if_pos (by omega), e];unfold qB.byte at hb;generalize l[i] = x at *;by_cases h1 : x ≥ 97 <;> by_cases h2 : x ≤ 122 <;> by_cases h3 : x ≥ 48 <;> by_cases h4 : x ≤ 57 <;> by_cases h5 : x = 45 <;> first | omega | (simp [h1, h2, h3, h4, h5] at hb ⊢; try omega)
theorem specLabelOk (l : List Int) (hl : l.length ≤ 140737488351232) : Ev (fun k => qr.f k l) (qB.v l) := by
  unfold qr.f qB.v;by_cases h1 : (l.length : Int) < 1
  · simp only [if_pos h1]
    rw [decide_eq_false (show ¬ 1 ≤ l.length by omega)];refine Ev.step (f := fun _ => some false) (fun k => ?_) (Ev.now _);simp [qr.j0]
  · simp only [if_neg h1]
    rw [decide_eq_true (show 1 ≤ l.length by omega)];by_cases h2 : (l.length : Int) > 15
    · rw [decide_eq_true h2, decide_eq_false (show ¬ l.length ≤ 15 by omega)]
      refine Ev.step (f := fun _ => some false) (fun k => ?_) (Ev.now _);simp [qr.j0]
    · rw [decide_eq_false h2, decide_eq_true (show l.length ≤ 15 by omega)]
      have := specLabelOk_l0 l hl l.length 0 (by omega);rw [List.drop_zero] at this;refine Ev.step (fun k => ?_) this;simp [qr.j0]
theorem specNameOk_l0 (l : List (List Int)) (hl : l.length ≤ 1048576) (he : ∀ x ∈ l, x.length ≤ 140737488351232) (m : Nat) : ∀ (i : Nat), l.length = i + m →
    Ev (fun k => qx.l0 k i l) ((l.drop i).all qB.v) := by
  induction m with
  | zero =>
    intro i hi;rw [List.drop_of_length_le (by omega)];refine Ev.step (f := fun _ => some true) (fun k => ?_) (Ev.now _);simp only [qx.l0];rw [if_neg (by omega)]
  | succ m ih =>
    intro i hi;have hil : i < l.length := by omega
    rw [List.drop_eq_getElem_cons hil, List.all_cons];refine Ev.step (f := fun k => (qr.f k l[i]).bind fun t => if t = true then qx.l0 k ((i + 1 : Nat) : Int) l else some false) (fun k => ?_) ?_
    · simp only [qx.l0]
      rw [if_pos (by omega), if_pos (by omega), rdL_at l i hil, w64 (x := (i : Int) + 1) (by omega) (by omega)];rfl
    · refine Ev.bind (specLabelOk l[i] (he _ (List.getElem_mem hil))) ?_
      cases hb : qB.v l[i] with
      | true => simp only [if_true, Bool.true_and]; exact ih (i + 1) (by omega)
      | false => simp only [Bool.false_eq_true, if_false, Bool.false_and]; exact Ev.now _
theorem specNameOk (l : List (List Int)) (hl : l.length ≤ 1048576) (he : ∀ x ∈ l, x.length ≤ 140737488351232) : Ev (fun k => qx.f k l) (qq.v l) := by
  unfold qx.f qq.v;by_cases h : (l.length : Int) > 6
  · simp only [if_pos h]
    rw [decide_eq_false (show ¬ l.length ≤ 6 by omega)];exact Ev.now _
  · simp only [if_neg h]
    rw [decide_eq_true (show l.length ≤ 6 by omega), Bool.true_and];simpa using specNameOk_l0 l hl he l.length 0 (by omega)
end Go.Proofs.Ytagedmajlppohaa.Pure

/- Plain lemmas on the printed functions that read, measure and compare records, and say whether they are right. -/
namespace Go.Proofs.Ytagedmajlppohaa.Pure
open Go Go.RowKit Go.Proofs.Ytagedmajlppohaa.Q Go.Proofs.YtagedmajlppohaaW.PrintWords Go.Proofs.YtagedmajlppohaaW.PrintLast Go.Proofs.YtagedmajlppohaaW.PrintMore
set_option linter.unusedVariables false
set_option linter.unusedSimpArgs false

def FitN (l : List (List Int)) : Prop := l.length ≤ 1048576 ∧ (∀ x ∈ l, x.length ≤ 1048576) ∧ lens l ≤ 1048576
theorem FitN.big {l : List (List Int)} (h : FitN l) : ∀ x ∈ l, x.length ≤ 140737488351232 := fun x hx => by have := h.2.1 x hx; omega
theorem eqName' (l : List (List Int)) (h : FitN l) : Ev (fun k => qT.f k l l) true := eqName l (by have := h.1; omega) h.big

theorem eqIntS_l0 (l : List Int) (hl : l.length ≤ 140737488351232) (m : Nat) : ∀ (i : Nat), l.length = i + m →
    Ev (fun k => jj.l0 k l l i) true := by
  induction m with
  | zero =>
    intro i hi;refine Ev.step (f := fun _ => some true) (fun k => ?_) (Ev.now _);simp only [jj.l0];rw [if_neg (by omega)]
  | succ m ih =>
    intro i hi;refine Ev.step (fun k => ?_) (ih (i+1) (by omega));simp only [jj.l0];rw [if_pos (by omega), if_pos (by omega), if_pos (by omega), if_pos trivial, w64 (by omega) (by omega)];rfl
theorem eqIntS (l : List Int) (hl : l.length ≤ 140737488351232) : Ev (fun k => jj.f k l l) true := by
  unfold jj.f;simp only [if_pos];exact eqIntS_l0 l hl l.length 0 (by omega)
theorem eqRr (n : List (List Int)) (t ttl addr : Int) (dst : List (List Int)) (text nums : List Int) (hn : FitN n) (hto : FitN dst) (ht : text.length ≤ 1048576) (hnu : nums.length ≤ 1048576) :
    Ev (fun k => zR.f k n t ttl addr dst text nums n t ttl addr dst text nums) true := by
  unfold zR.f;refine Ev.bind (eqName' n hn) ?_;simp only [if_true];refine Ev.bind (eqName' dst hto) ?_;simp only [if_true];refine Ev.bind (eqByteS text (by omega)) ?_;simp only [if_true];refine Ev.bind (eqIntS nums (by omega)) ?_;simp only [if_true];exact Ev.now _
def typeOkV (t : Int) : Bool := t == 1 || t == 2 || t == 5 || t == 6 || t == 12 || t == 16 || t == 49
theorem specTypeOk (t : Int) : jM.f t = some (typeOkV t) := by
  unfold jM.f typeOkV;by_cases h1 : t = 1
  · simp [h1]
  by_cases h2 : t = 2
  · simp [h2]
  by_cases h3 : t = 5
  · simp [h3]
  by_cases h4 : t = 6
  · simp [h4]
  by_cases h5 : t = 12
  · simp [h5]
  by_cases h6 : t = 16
  · simp [h6]
  by_cases h7 : t = 49
  · simp [h7]
  simp [h1, h2, h3, h4, h5, h6, h7]
theorem implTypeOk (t : Int) (ht : -9223372036854775808 ≤ t ∧ t ≤ 9223372036854775807) : ju.f t = some (typeOkV t) := by
  unfold ju.f qD.f typeOkV qD.v;rw [if_pos ht];simp only [Option.bind_some, Go.ByteArray.toList_eq];by_cases h1 : t = 1
  · subst h1; decide
  by_cases h2 : t = 2
  · subst h2; decide
  by_cases h3 : t = 5
  · subst h3; decide
  by_cases h4 : t = 6
  · subst h4; decide
  by_cases h5 : t = 12
  · subst h5; decide
  by_cases h6 : t = 16
  · subst h6; decide
  by_cases h7 : t = 49
  · subst h7; decide
  rw [if_neg h1, if_neg h2, if_neg h3, if_neg h4, if_neg h5, if_neg h6, if_neg h7];simp [h1, h2, h3, h4, h5, h6, h7]
def namedV (t : Int) : Bool := t == 2 || t == 5 || t == 6 || t == 12
def textedV (t : Int) : Bool := t == 16 || t == 49
theorem specNamed (t : Int) : jy.f t = some (namedV t) := by
  unfold jy.f namedV;by_cases h1 : t = 2
  · simp [h1]
  by_cases h2 : t = 5
  · simp [h2]
  by_cases h3 : t = 6
  · simp [h3]
  simp [h1, h2, h3]
theorem implNamed (t : Int) : jO.f t = some (namedV t) := specNamed t
theorem specTexted (t : Int) : zB.f t = some (textedV t) := by
  unfold zB.f textedV;by_cases h1 : t = 16
  · simp [h1]
  simp [h1]
theorem implTexted (t : Int) : jJ.f t = some (textedV t) := specTexted t
theorem implWithin (a b c : Int) : jq.f a b c = some (decide (b ≤ a ∧ a ≤ c)) := by
  unfold jq.f;by_cases h : b ≤ a <;> simp [h]
theorem implIsWord (a : Int) : zn.f a = some (decide (0 ≤ a ∧ a ≤ 4294967295)) := by
  unfold zn.f;rw [implWithin]; rfl
def numsV (t : Int) (nums : List Int) : Bool := if t = 6 then decide (nums.length = 2 ∧ (0 ≤ rd nums 0 ∧ rd nums 0 ≤ 4294967295) ∧ 0 ≤ rd nums 1 ∧ rd nums 1 ≤ 100000) else decide (nums.length = 0)
def addrV (t addr : Int) : Bool := if t = 1 then decide (0 ≤ addr ∧ addr ≤ 4294967295) else decide (addr = 0)
def toV (t : Int) (dst : List (List Int)) : Bool := if namedV t = true then qq.v dst else decide (dst.length = 0)
def textV (t : Int) (text : List Int) : Bool := if textedV t = true then decide (text.length ≤ 40) else decide (text.length = 0)
def rrOkV (n : List (List Int)) (t ttl addr : Int) (dst : List (List Int)) (text nums : List Int) : Bool :=
  qq.v n && (typeOkV t && (decide (0 ≤ ttl ∧ ttl ≤ 100000) && (addrV t addr && (toV t dst && (textV t text && numsV t nums)))))
theorem specData_j2 (n : List (List Int)) (t ttl addr : Int) (dst : List (List Int)) (text nums : List Int) : Ev (fun k => qv.j2 k n t ttl addr dst text nums) (numsV t nums) := by
  refine Ev.step (f := fun _ => some (numsV t nums)) (fun k => ?_) (Ev.now _);simp only [qv.j2];unfold numsV;by_cases h6 : t = 6
  · rw [if_pos h6, if_pos h6]
    by_cases h2 : nums.length = 2
    · rw [if_pos (by omega), if_pos (by omega)]
      by_cases a1 : rd nums 0 < 0
      · rw [if_pos a1, decide_eq_false (by omega)]
      rw [if_neg a1];by_cases a2 : rd nums 0 ≥ 4294967296
      · rw [if_pos a2, decide_eq_false (by omega)]
      rw [if_neg a2, if_pos (by omega)];by_cases a3 : rd nums 1 ≥ 0
      · rw [if_pos a3]; congr 1; apply decide_eq_decide.2; constructor <;> intro h <;> omega
      · rw [if_neg a3, decide_eq_false (by omega)]
    · rw [if_neg (by omega), decide_eq_false (by omega)]
  · rw [if_neg h6, if_neg h6]
    congr 1
    rw [Bool.eq_iff_iff, beq_iff_eq, decide_eq_true_iff]; omega
theorem specData_j1 (n : List (List Int)) (t ttl addr : Int) (dst : List (List Int)) (text nums : List Int) : Ev (fun k => qv.j1 k n t ttl addr dst text nums) (textV t text && numsV t nums) := by
  refine Ev.step (f := fun k => if textV t text = true then qv.j2 k n t ttl addr dst text nums else some false) (fun k => ?_) ?_
  · simp only [qv.j1]
    rw [specTexted, Option.bind_some];unfold textV;cases textedV t
    · simp only [Bool.false_eq_true, if_false, decide_eq_true_iff]
      by_cases h : text.length = 0
      · rw [if_neg (by omega), if_pos h]
      · rw [if_pos (by omega), if_neg h]
    · simp only [if_true, decide_eq_true_iff]
      by_cases h : text.length ≤ 40
      · rw [if_neg (by omega), if_pos h]
      · rw [if_pos (by omega), if_neg h]
  · cases textV t text
    · simp only [Bool.false_eq_true, if_false, Bool.false_and]; exact Ev.now _
    · simp only [if_true, Bool.true_and]; exact specData_j2 ..
theorem specData_j0 (n : List (List Int)) (t ttl addr : Int) (dst : List (List Int)) (text nums : List Int) (hto : FitN dst) : Ev (fun k => qv.j0 k n t ttl addr dst text nums) (toV t dst && (textV t text && numsV t nums)) := by
  refine Ev.step (f := fun k => if namedV t = true then ((qx.f k dst).bind fun qE => (if qE = true then (qv.j1 k n t ttl addr dst text nums) else (some false))) else (if (dst.length : Int) > 0 then (some false) else (qv.j1 k n t ttl addr dst text nums))) (fun k => ?_) ?_
  · simp only [qv.j0]
    rw [specNamed, Option.bind_some]
  · unfold toV
    cases namedV t
    · simp only [Bool.false_eq_true, if_false]
      by_cases h : dst.length = 0
      · simp only [if_neg (show ¬ (dst.length : Int) > 0 by omega)]
        rw [decide_eq_true h, Bool.true_and]; exact specData_j1 ..
      · simp only [if_pos (show (dst.length : Int) > 0 by omega)]
        rw [decide_eq_false h, Bool.false_and]; exact Ev.now _
    · simp only [if_true]
      refine Ev.bind (specNameOk dst hto.1 hto.big) ?_;cases qq.v dst
      · simp only [Bool.false_eq_true, if_false, Bool.false_and]; exact Ev.now _
      · simp only [if_true, Bool.true_and]; exact specData_j1 ..
theorem specData (n : List (List Int)) (t ttl addr : Int) (dst : List (List Int)) (text nums : List Int) (hto : FitN dst) : Ev (fun k => qv.f k n t ttl addr dst text nums) (addrV t addr && (toV t dst && (textV t text && numsV t nums))) := by
  unfold qv.f addrV;by_cases h1 : t = 1
  · simp only [if_pos h1]
    by_cases a1 : addr < 0
    · simp only [if_pos a1]; rw [decide_eq_false (by omega), Bool.false_and]; exact Ev.now _
    simp only [if_neg a1];by_cases a2 : addr ≥ 4294967296
    · simp only [if_pos a2]; rw [decide_eq_false (by omega), Bool.false_and]; exact Ev.now _
    simp only [if_neg a2]; rw [decide_eq_true (show 0 ≤ addr ∧ addr ≤ 4294967295 by omega), Bool.true_and]; exact specData_j0 _ _ _ _ _ _ _ hto
  · simp only [if_neg h1]
    by_cases a1 : addr = 0
    · simp only [if_pos a1]; rw [decide_eq_true a1, Bool.true_and]; exact specData_j0 _ _ _ _ _ _ _ hto
    · simp only [if_neg a1]; rw [decide_eq_false a1, Bool.false_and]; exact Ev.now _
theorem specRrOk (n : List (List Int)) (t ttl addr : Int) (dst : List (List Int)) (text nums : List Int) (hn : FitN n) (hto : FitN dst) : Ev (fun k => qZ.f k n t ttl addr dst text nums) (rrOkV n t ttl addr dst text nums) := by
  unfold qZ.f rrOkV;refine Ev.bind (specNameOk n hn.1 hn.big) ?_;cases qq.v n
  · simp only [Bool.false_eq_true, if_false, Bool.false_and]; exact Ev.now _
  simp only [if_true, Bool.true_and, specTypeOk, Option.bind_some];cases typeOkV t
  · simp only [Bool.false_eq_true, if_false, Bool.false_and]; exact Ev.now _
  simp only [if_true, Bool.true_and];by_cases a1 : ttl ≥ 0
  · simp only [if_pos a1]
    by_cases a2 : ttl ≤ 100000
    · simp only [if_pos a2]; rw [decide_eq_true (show 0 ≤ ttl ∧ ttl ≤ 100000 by omega), Bool.true_and]
      exact Ev.bind (specData _ _ _ _ _ _ _ hto) (Ev.now _)
    · simp only [if_neg a2]; rw [decide_eq_false (by omega), Bool.false_and]; exact Ev.now _
  · simp only [if_neg a1]; rw [decide_eq_false (by omega), Bool.false_and]; exact Ev.now _
theorem rrOk_j3 (x3 x4 x5 : Bool) (n : List (List Int)) (t ttl addr : Int) (dst : List (List Int)) (text nums : List Int) : Ev (fun k => qk.j3 k x3 x4 x5 n t ttl addr dst text nums) (x3 && (x4 && (x5 && textV t text))) := by
  refine Ev.step (f := fun _ => some (x3 && (x4 && (x5 && textV t text)))) (fun k => ?_) (Ev.now _);simp only [qk.j3];rw [implTexted, Option.bind_some];unfold textV;by_cases h : text.length = 0
  · rw [if_pos (by omega), decide_eq_true h, decide_eq_true (show text.length ≤ 40 by omega)]
    cases x3 <;> cases x4 <;> cases x5 <;> cases textedV t <;> rfl
  · rw [if_neg (by omega), decide_eq_false h, show decide ((text.length : Int) ≤ 40) = decide (text.length ≤ 40) from decide_eq_decide.2 (by omega)]
    cases x3 <;> cases x4 <;> cases x5 <;> cases textedV t <;> simp
theorem rrOk_j2 (x3 x4 : Bool) (n : List (List Int)) (t ttl addr : Int) (dst : List (List Int)) (text nums : List Int) : Ev (fun k => qk.j2 k x3 x4 n t ttl addr dst text nums) (x3 && (x4 && (toV t dst && textV t text))) := by
  refine Ev.step (f := fun k => qk.j3 k x3 x4 (toV t dst) n t ttl addr dst text nums) (fun k => ?_) (rrOk_j3 ..);simp only [qk.j2];rw [implNamed, Option.bind_some];unfold toV qq.f;by_cases h : dst.length = 0
  · have := List.eq_nil_of_length_eq_zero h
    subst this;cases namedV t <;> simp [qq.v]
  · rw [if_neg (by omega), decide_eq_false h]
    cases namedV t <;> simp
theorem rrOk_j1 (x3 : Bool) (n : List (List Int)) (t ttl addr : Int) (dst : List (List Int)) (text nums : List Int) : Ev (fun k => qk.j1 k x3 n t ttl addr dst text nums) (x3 && (addrV t addr && (toV t dst && textV t text))) := by
  refine Ev.step (f := fun k => qk.j2 k x3 (addrV t addr) n t ttl addr dst text nums) (fun k => ?_) (rrOk_j2 ..);simp only [qk.j1];rw [implIsWord, Option.bind_some];unfold addrV;by_cases h : addr = 0
  · subst h; simp
  · rw [if_neg h, decide_eq_false h]
    by_cases h1 : t = 1
    · rw [if_pos h1, if_pos h1]
    · rw [if_neg h1, if_neg h1]
theorem rrOk_j0 (x22 : Bool) (n : List (List Int)) (t ttl addr : Int) (dst : List (List Int)) (text nums : List Int) : Ev (fun k => qk.j0 k x22 n t ttl addr dst text nums) (!x22 && (numsV t nums && (addrV t addr && (toV t dst && textV t text)))) := by
  cases x22
  · refine Ev.step (f := fun k => qk.j1 k (numsV t nums) n t ttl addr dst text nums) (fun k => ?_) ?_
    · simp only [qk.j0, Bool.false_eq_true, if_false]
      simp only [implIsWord, implWithin, Option.bind_some];unfold numsV;by_cases h6 : t = 6
      · simp only [if_pos h6]
        by_cases h2 : nums.length = 2
        · rw [if_pos (by omega), if_pos (by omega)]
          by_cases a1 : 0 ≤ rd nums 0 ∧ rd nums 0 ≤ 4294967295
          · simp only [decide_eq_true_iff, if_pos a1]
            rw [if_pos (by omega)];congr 1; apply decide_eq_decide.2; constructor <;> intro h <;> omega
          · simp only [decide_eq_true_iff, if_neg a1]
            rw [decide_eq_false (by omega)]
        · rw [if_neg (by omega), decide_eq_false (by omega)]
      · simp only [if_neg h6]
        congr 1
        rw [Bool.eq_iff_iff, beq_iff_eq, decide_eq_true_iff]; omega
    · simpa using rrOk_j1 (numsV t nums) n t ttl addr dst text nums
  · refine Ev.step (f := fun _ => some false) (fun k => ?_) (Ev.now _)
    simp only [qk.j0, if_true]
theorem implRrOk (n : List (List Int)) (t ttl addr : Int) (dst : List (List Int)) (text nums : List Int) (ht : -9223372036854775808 ≤ t ∧ t ≤ 9223372036854775807) : Ev (fun k => qk.f k n t ttl addr dst text nums) (rrOkV n t ttl addr dst text nums) := by
  have e : rrOkV n t ttl addr dst text nums = (!(!(qq.v n && (typeOkV t && decide (0 ≤ ttl ∧ ttl ≤ 100000)))) && (numsV t nums && (addrV t addr && (toV t dst && textV t text)))) := by
    unfold rrOkV;cases qq.v n <;> cases typeOkV t <;> cases decide (0 ≤ ttl ∧ ttl ≤ 100000) <;> cases numsV t nums <;> cases addrV t addr <;> cases toV t dst <;> cases textV t text <;> rfl
  rw [e];unfold qk.f qq.f;simp only [Option.bind_some, implTypeOk t ht, implWithin];cases qq.v n
  · simp only [Bool.false_eq_true, if_false, Bool.false_and, Bool.not_false]; exact rrOk_j0 ..
  cases typeOkV t
  · simp only [Bool.false_eq_true, if_false, if_true, Bool.false_and, Bool.true_and, Bool.not_false]; exact rrOk_j0 ..
  simp only [if_true, Bool.true_and]; exact rrOk_j0 ..
end Go.Proofs.Ytagedmajlppohaa.Pure

/- Plain lemmas on the printed functions: marks over names and records. -/
namespace Go.Proofs.Ytagedmajlppohaa.Pure
open Go Go.RowKit Go.Proofs.Ytagedmajlppohaa.Q Go.Proofs.YtagedmajlppohaaW.PrintWords Go.Proofs.YtagedmajlppohaaW.PrintLast Go.Proofs.YtagedmajlppohaaW.PrintMore
set_option linter.unusedVariables false
set_option linter.unusedSimpArgs false
end Go.Proofs.Ytagedmajlppohaa.Pure

/- Plain lemmas on the printed functions: a name is read out of a message. -/
namespace Go.Proofs.Ytagedmajlppohaa.Pure
open Go Go.RowKit Go.Proofs.Ytagedmajlppohaa.Q Go.Proofs.YtagedmajlppohaaW.PrintWords Go.Proofs.YtagedmajlppohaaW.PrintLast Go.Proofs.YtagedmajlppohaaW.PrintMore
set_option linter.unusedVariables false
set_option linter.unusedSimpArgs false
theorem lens_le (l : List (List Int)) (m : Nat) (h : ∀ x ∈ l, x.length ≤ m) : lens l ≤ l.length * m := by
  induction l with
  | nil => simp [lens]
  | cons x l ih =>
    have h1 := h x (by simp);have h2 := ih (fun y hy => h y (by simp [hy]));simp only [lens, List.map_cons, List.sum_cons, List.length_cons, Nat.add_mul, Nat.one_mul] at h2 ⊢;omega
theorem nameOk_len {l : List (List Int)} (h : qq.v l = true) : l.length ≤ 6 ∧ ∀ x ∈ l, 1 ≤ x.length ∧ x.length ≤ 15 ∧ Bytes x := by
  unfold qq.v at h;rw [Bool.and_eq_true, decide_eq_true_iff, List.all_eq_true] at h;refine ⟨h.1, fun x hx => ?_⟩;have h2 := h.2 x hx;unfold qB.v at h2;simp only [Bool.and_eq_true, decide_eq_true_iff, List.all_eq_true] at h2;refine ⟨by omega, by omega, fun y hy => ?_⟩;have h3 := h2.2 y hy;unfold qB.byte at h3;simp at h3
  omega
def takeV (l : List Int) (i n : Int) : List Int × Int := if i < 0 ∨ n < 0 ∨ i > l.length ∨ n > l.length - i then ([], -1) else ((l.take (i + n).toNat).drop i.toNat, i + n)
theorem takeV_len (l : List Int) (i n : Int) : (takeV l i n).1.length ≤ l.length := by
  unfold takeV; split
  · simp
  · simp; omega
theorem specTake (l : List Int) (hl : l.length ≤ 140737488351232) (i n : Int) (hi : -9223372036854775808 ≤ i ∧ i ≤ 9223372036854775807) (hn : -9223372036854775808 ≤ n ∧ n ≤ 9223372036854775807) :
    jt.f l i n = some (takeV l i n) := by
  unfold jt.f takeV;by_cases h1 : i < 0
  · rw [if_pos h1, if_pos (Or.inl h1)]
  by_cases h2 : n < 0
  · rw [if_neg h1, if_pos h2, if_pos (Or.inr (Or.inl h2))]
  by_cases h3 : i > (l.length : Int)
  · rw [if_neg h1, if_neg h2, if_pos h3, if_pos (Or.inr (Or.inr (Or.inl h3)))]
  rw [if_neg h1, if_neg h2, if_neg h3, w64 (x := (l.length : Int) - i) (by omega) (by omega)];by_cases h4 : n > (l.length : Int) - i
  · rw [if_pos h4, if_pos (Or.inr (Or.inr (Or.inr h4)))]
  rw [if_neg h4, w64 (x := i + n) (by omega) (by omega), if_neg (show ¬ (i < 0 ∨ n < 0 ∨ i > l.length ∨ n > l.length - i) by omega)];simp only [Option.bind_some];rw [if_pos (show 0 ≤ i by omega), if_pos (show i ≤ i + n by omega), if_pos (show i + n ≤ (l.length : Int) by omega), if_pos (by simp; omega)];simp
theorem implTake (l : List Int) (hl : l.length ≤ 140737488351232) (i n : Int) (hi : -9223372036854775808 ≤ i ∧ i ≤ 9223372036854775807) (hn : -9223372036854775808 ≤ n ∧ n ≤ 9223372036854775807) :
    zi.f l i n = some (takeV l i n) := by
  unfold zi.f takeV;by_cases h1 : i < 0
  · rw [if_pos h1, if_pos (Or.inl h1)]
  by_cases h2 : n < 0
  · rw [if_neg h1, if_pos h2, if_pos (Or.inr (Or.inl h2))]
  by_cases h3 : i > (l.length : Int)
  · rw [if_neg h1, if_neg h2, if_pos h3, if_pos (Or.inr (Or.inr (Or.inl h3)))]
  rw [if_neg h1, if_neg h2, if_neg h3, w64 (x := (l.length : Int) - i) (by omega) (by omega)];by_cases h4 : n > (l.length : Int) - i
  · rw [if_pos h4, if_pos (Or.inr (Or.inr (Or.inr h4)))]
  rw [if_neg h4, w64 (x := i + n) (by omega) (by omega), if_neg (show ¬ (i < 0 ∨ n < 0 ∨ i > l.length ∨ n > l.length - i) by omega)];rw [if_pos (show 0 ≤ i by omega), if_pos (show i ≤ i + n by omega), if_pos (show i + n ≤ (l.length : Int) by omega)];unfold zf.f;rw [if_pos (by simp; omega)];rfl
theorem specLower_l0 (l : List Int) (hl : l.length ≤ 140737488351232) (m : Nat) : ∀ (i : Nat), l.length = i + m →
    Ev (fun k => jd.l0 k ((l.take i).map qn.byte ++ l.drop i) i) (l.map qn.byte) := by
  induction m with
  | zero =>
    intro i hi;refine Ev.step (f := fun _ => some (l.map qn.byte)) (fun k => ?_) (Ev.now _);simp only [jd.l0];rw [if_neg (by simp; omega), List.take_of_length_le (by omega), List.drop_of_length_le (by omega), List.append_nil]
  | succ m ih =>
    intro i hi;have hil : i < l.length := by omega
    have e := qn.at l i hil;have e' : rd ((l.take i).map qn.byte ++ l.drop i) (i : Int) = rd l (i : Int) := e;have hn := qn.next l i hil
    have hk := qn.keep l i hil;refine Ev.step (fun k => ?_) (ih (i+1) (by omega));simp only [jd.l0];rw [if_pos (by simp; omega), if_pos (by omega), w64 (x := (i : Int) + 1) (by omega) (by omega), e', show ((i : Int)).toNat = i by omega];generalize rd l (i : Int) = x at *;unfold qn.byte at hn hk;by_cases h1 : x ≥ 65
    · by_cases h2 : x ≤ 90
      · rw [if_pos ⟨h1, h2⟩] at hn
        rw [if_pos h1, if_pos h2, show (x + 32) % 256 = x + 97 - 65 by omega];unfold qn.byte;rw [hn]; rfl
      · rw [if_pos h1, if_neg h2]
        unfold qn.byte;rw [hk (by rw [if_neg (by omega)])]; rfl
    · rw [if_neg h1]
      unfold qn.byte;rw [hk (by rw [if_neg (by omega)])]; rfl
theorem specLower (l : List Int) (hl : l.length ≤ 1048576) : Ev (fun k => jd.f k l) (l.map qn.byte) := by
  unfold jd.f;simp only [Option.bind_some, List.nil_append, List.length_nil, if_pos (show 0 + l.length < 140737488355328 by omega)];simpa using specLower_l0 l (by omega) l.length 0 (by omega)

/-- What is read at a place: the name, and the place behind it. -/
def nameV (l : List Int) : Nat → Int → Int → Int → List (List Int) → List (List Int) × Int
  | 0, _, _, _, _ => ([], -1)
  | m + 1, i, nx, hops, n =>
    if i < 0 ∨ (l.length : Int) ≤ i then ([], -1)
    else if rd l i = 0 then (if qq.v n = true then (n, if nx < 0 then i + 1 else nx) else ([], -1))
    else if rd l i ≥ 192 then (if (getV l i 2).2 < 0 ∨ (getV l i 2).1 - 49152 ≥ i ∨ hops ≥ 8 then ([], -1) else nameV l m ((getV l i 2).1 - 49152) (if nx < 0 then (getV l i 2).2 else nx) (hops + 1) n)
    else if rd l i > 15 ∨ n.length ≥ 6 then ([], -1)
    else if (takeV l (i + 1) (rd l i)).2 < 0 then ([], -1)
    else nameV l m (takeV l (i + 1) (rd l i)).2 nx hops (n ++ [(takeV l (i + 1) (rd l i)).1.map qn.byte])
theorem get_two (l : List Int) (hb : Bytes l) (hl : l.length ≤ 1048576) (i : Int) (h0 : 0 ≤ i) (h1 : i < l.length) : (getV l i 2).2 < 0 ∨ (getV l i 2 = (rd l i * 256 + rd l (i + 1), i + 2) ∧ 0 ≤ rd l (i + 1) ∧ rd l (i + 1) ≤ 255) := by
  by_cases h : 2 > (l.length : Int) - i
  · left; unfold getV; rw [if_pos (Or.inr h)]; decide
  · right
    have e := specGet16 l hb (by omega) i (by omega);have b0 := hb.rd i;have b1 := hb.rd (i + 1);unfold jS.f at e;rw [if_neg (by omega), w64 (x := (l.length : Int) - 2) (by omega) (by omega), if_neg (by omega), if_pos (by omega), if_pos (by omega), w64 (x := i + 1) (by omega) (by omega), if_pos (by omega), if_pos (by omega)] at e;rw [w64 (x := rd l i) (by omega) (by omega), w64 (x := rd l (i + 1)) (by omega) (by omega), w64 (x := rd l i * 256) (by omega) (by omega), w64 (x := rd l i * 256 + rd l (i + 1)) (by omega) (by omega), w64 (x := i + 2) (by omega) (by omega)] at e;exact ⟨(Option.some.inj e).symm, b1.1, b1.2⟩
theorem take_at (l : List Int) (i n : Int) : (takeV l i n).2 < 0 ∨ ((takeV l i n).2 = i + n ∧ 0 ≤ i ∧ 0 ≤ n ∧ i + n ≤ l.length ∧ ((takeV l i n).1.length : Int) ≤ n) := by
  unfold takeV;by_cases h : i < 0 ∨ n < 0 ∨ i > l.length ∨ n > l.length - i
  · left; rw [if_pos h]; decide
  · right; rw [if_neg h]
    refine ⟨rfl, by omega, by omega, by omega, ?_⟩;simp only [List.length_drop, List.length_take];omega
def FitL (n : List (List Int)) : Prop := n.length ≤ 6 ∧ ∀ x ∈ n, x.length ≤ 1048576
theorem FitL.snoc {n : List (List Int)} {x : List Int} (h : FitL n) (h6 : n.length < 6) (hx : x.length ≤ 1048576) : FitL (n ++ [x]) :=
  ⟨by simp; omega, fun y hy => by
    rcases List.mem_append.1 hy with hy | hy
    · exact h.2 y hy
    · rw [List.mem_singleton.1 hy]; exact hx⟩
theorem specName_l0 (l : List Int) (hb : Bytes l) (hl : l.length ≤ 1048576) (m : Nat) : ∀ (i nx hops : Int) (n : List (List Int)), -9223372036854775808 ≤ i → i ≤ 9223372036854775807 → -1 ≤ nx → nx ≤ 1048578 → 0 ≤ hops → hops ≤ 8 → FitL n → (8 - hops).toNat + (6 - n.length) + 1 ≤ m →
    Ev (fun k => qh.l0 k l i nx hops n) (nameV l m i nx hops n) := by
  induction m with
  | zero => intro i nx hops n _ _ _ _ _ _ _ h; omega
  | succ m ih =>
    intro i nx hops n i0 i1 x0 x1 p0 p1 hn hm;simp only [nameV]
    have hbad : Ev (fun k => qh.j1 k l i nx hops true n) (([] : List (List Int)), (-1 : Int)) := by
      refine Ev.step (f := fun _ => some (([] : List (List Int)), (-1 : Int))) (fun k => ?_) (Ev.now _);rw [qh.j1, if_pos rfl]
    by_cases hi : i < 0
    · rw [if_pos (Or.inl hi)]
      refine Ev.step (f := fun k => qh.j1 k l i nx hops true n) (fun k => ?_) hbad;rw [qh.l0, if_pos hi]
    by_cases hi2 : (l.length : Int) ≤ i
    · rw [if_pos (Or.inr hi2)]
      refine Ev.step (f := fun k => qh.j1 k l i nx hops true n) (fun k => ?_) hbad;rw [qh.l0, if_neg hi, decide_eq_true (show i ≥ (l.length : Int) from hi2)]
    rw [if_neg (by omega)];refine Ev.step (f := fun k => qh.j1 k l i nx hops false n) (fun k => by rw [qh.l0, if_neg hi, decide_eq_false (show ¬ i ≥ (l.length : Int) by omega)]) ?_;have hx := hb.rd i;have hw : wrap64 (rd l i) = rd l i := w64 (by omega) (by omega);by_cases hz : rd l i = 0
    · rw [if_pos hz]
      have hok := specNameOk n (by have := hn.1; omega) (fun x hx => by have := hn.2 x hx; omega);refine Ev.step (f := fun k => (qx.f k n).bind fun t => if t = true then some (n, if nx < 0 then i + 1 else nx) else some (([] : List (List Int)), (-1 : Int))) (fun k => ?_) (Ev.bind hok ?_)
      · rw [qh.j1, if_neg (by decide), if_pos (by omega), if_pos (by omega), hw, if_pos hz, w64 (x := i + 1) (by omega) (by omega)]
        by_cases hnx : nx < 0
        · simp only [if_pos hnx]
        · simp only [if_neg hnx]
      · by_cases h : qq.v n = true
        · simp only [if_pos h]; exact Ev.now _
        · simp only [if_neg h]; exact Ev.now _
    rw [if_neg hz];by_cases QE : rd l i ≥ 192
    · rw [if_pos QE]
      have hj : ∀ b : Bool, ∀ a c : Int, (b = false → hops < 8 ∧ 0 ≤ a - 49152 ∧ a ≤ 65535 ∧ 0 ≤ c ∧ c ≤ 1048578) → Ev (fun k => qh.j2 k l nx hops a c b n) (if b = true then (([] : List (List Int)), (-1 : Int)) else nameV l m (a - 49152) (if nx < 0 then c else nx) (hops + 1) n) := by
        intro b a c hbc;cases b with
        | true =>
          rw [if_pos rfl];refine Ev.step (f := fun _ => some (([] : List (List Int)), (-1 : Int))) (fun k => ?_) (Ev.now _);rw [qh.j2, if_pos rfl]
        | false =>
          obtain ⟨q1, q2, q3, q4, q5⟩ := hbc rfl;rw [if_neg (by decide)];refine Ev.step (f := fun k => qh.l0 k l (a - 49152) (if nx < 0 then c else nx) (hops + 1) n) (fun k => ?_) (ih _ _ _ _ (by omega) (by omega) (by split <;> omega) (by split <;> omega) (by omega) (by omega) hn (by omega));rw [qh.j2, if_neg (by decide), w64 (x := a - 49152) (by omega) (by omega), w64 (x := hops + 1) (by omega) (by omega)];by_cases hnx : nx < 0
          · simp only [if_pos hnx]
          · simp only [if_neg hnx]
      have hst : ∀ k, qh.j1 (k + 1) l i nx hops false n = (if (getV l i 2).2 < 0 then qh.j2 k l nx hops (getV l i 2).1 (getV l i 2).2 true n else if wrap64 ((getV l i 2).1 - 49152) ≥ i then qh.j2 k l nx hops (getV l i 2).1 (getV l i 2).2 true n else qh.j2 k l nx hops (getV l i 2).1 (getV l i 2).2 (decide (hops ≥ 8)) n) := by
        intro k;rw [qh.j1, if_neg (by decide), if_pos (by omega), if_pos (by omega), hw, if_neg hz, if_pos QE, specGet16 l hb (by omega) i (by omega), Option.bind_some]
      refine Ev.step hst ?_;rcases get_two l hb hl i (by omega) (by omega) with hg | ⟨hg, g0, g1⟩
      · simp only [if_pos hg]
        rw [if_pos (Or.inl hg)];have := hj true (getV l i 2).1 (getV l i 2).2 (fun e => by cases e);simpa using this
      · rw [hg]
        simp only [if_neg (show ¬ i + 2 < 0 by omega)];rw [w64 (x := rd l i * 256 + rd l (i + 1) - 49152) (by omega) (by omega)];by_cases hq : rd l i * 256 + rd l (i + 1) - 49152 ≥ i
        · simp only [if_pos hq]
          rw [if_pos (Or.inr (Or.inl hq))];have := hj true (rd l i * 256 + rd l (i + 1)) (i + 2) (fun e => by cases e);simpa using this
        · simp only [if_neg hq]
          by_cases h8 : hops ≥ 8
          · rw [if_pos (Or.inr (Or.inr h8)), decide_eq_true h8]
            have := hj true (rd l i * 256 + rd l (i + 1)) (i + 2) (fun e => by cases e);simpa using this
          · rw [if_neg (by omega), decide_eq_false h8]
            have := hj false (rd l i * 256 + rd l (i + 1)) (i + 2) (fun _ => ⟨by omega, by omega, by omega, by omega, by omega⟩);simpa using this
    rw [if_neg QE]
    have hj : ∀ b : Bool, (b = false → n.length < 6 ∧ rd l i ≤ 15) → Ev (fun k => qh.j3 k l i nx hops (rd l i) b n) (if b = true then (([] : List (List Int)), (-1 : Int)) else if (takeV l (i + 1) (rd l i)).2 < 0 then ([], -1) else nameV l m (takeV l (i + 1) (rd l i)).2 nx hops (n ++ [(takeV l (i + 1) (rd l i)).1.map qn.byte])) := by
      intro b hbc;cases b with
      | true =>
        rw [if_pos rfl];refine Ev.step (f := fun _ => some (([] : List (List Int)), (-1 : Int))) (fun k => ?_) (Ev.now _);rw [qh.j3, if_pos rfl]
      | false =>
        obtain ⟨q1, q2⟩ := hbc rfl;rw [if_neg (by decide)];have hlen := takeV_len l (i + 1) (rd l i);rcases take_at l (i + 1) (rd l i) with ht | ⟨ht, t1, t2, t3, t4⟩
        · rw [if_pos ht]
          refine Ev.step (f := fun _ => some (([] : List (List Int)), (-1 : Int))) (fun k => ?_) (Ev.now _);rw [qh.j3, if_neg (by decide), w64 (x := i + 1) (by omega) (by omega), specTake l (by omega) (i + 1) (rd l i) (by omega) (by omega), Option.bind_some, if_pos ht]
        · rw [if_neg (by omega)]
          refine Ev.step (f := fun k => (jd.f k (takeV l (i + 1) (rd l i)).1).bind fun t => if n.length < 5864062014805 then qh.l0 k l (takeV l (i + 1) (rd l i)).2 nx hops (n ++ [t]) else none) (fun k => ?_) (Ev.bind (specLower _ (by omega)) ?_)
          · rw [qh.j3, if_neg (by decide), w64 (x := i + 1) (by omega) (by omega), specTake l (by omega) (i + 1) (rd l i) (by omega) (by omega), Option.bind_some, if_neg (by omega)]
          · simp only [if_pos (show n.length < 5864062014805 by omega)]
            exact ih _ _ _ _ (by omega) (by omega) x0 x1 p0 p1 (hn.snoc q1 (by simp; omega)) (by simp; omega)
    by_cases h15 : rd l i > 15
    · rw [if_pos (Or.inl h15)]
      refine Ev.step (f := fun k => qh.j3 k l i nx hops (rd l i) true n) (fun k => ?_) (by have := hj true (fun e => by cases e); simpa using this);rw [qh.j1, if_neg (by decide), if_pos (by omega), if_pos (by omega), hw, if_neg hz, if_neg QE, if_pos h15]
    · refine Ev.step (f := fun k => qh.j3 k l i nx hops (rd l i) (decide ((n.length : Int) ≥ 6)) n) (fun k => ?_) ?_
      · rw [qh.j1, if_neg (by decide), if_pos (by omega), if_pos (by omega), hw, if_neg hz, if_neg QE, if_neg h15]
      · by_cases h6 : n.length ≥ 6
        · rw [if_pos (Or.inr h6), decide_eq_true (show (n.length : Int) ≥ 6 by omega)]
          have := hj true (fun e => by cases e); simpa using this
        · rw [if_neg (by omega), decide_eq_false (show ¬ (n.length : Int) ≥ 6 by omega)]
          have := hj false (fun _ => ⟨by omega, by omega⟩);simpa using this
theorem implName_l0 (l : List Int) (hb : Bytes l) (hl : l.length ≤ 1048576) (m : Nat) : ∀ (i nx hops : Int) (n : List (List Int)), 0 ≤ i → i ≤ 9223372036854775807 → -1 ≤ nx → nx ≤ 1048578 → 0 ≤ hops → hops ≤ 8 → FitL n → (8 - hops).toNat + (6 - n.length) + 1 ≤ m →
    Ev (fun k => qi.l0 k l i nx hops n) (nameV l m i nx hops n) := by
  induction m with
  | zero => intro i nx hops n _ _ _ _ _ _ _ h; omega
  | succ m ih =>
    intro i nx hops n i0 i1 x0 x1 p0 p1 hn hm;simp only [nameV];by_cases hi2 : (l.length : Int) ≤ i
    · rw [if_pos (Or.inr hi2)]
      refine Ev.step (f := fun _ => some (([] : List (List Int)), (-1 : Int))) (fun k => ?_) (Ev.now _);rw [qi.l0, if_pos hi2]
    rw [if_neg (by omega)];have hx := hb.rd i;have hw : wrap64 (rd l i) = rd l i := w64 (by omega) (by omega);by_cases hz : rd l i = 0
    · rw [if_pos hz]
      refine Ev.step (f := fun _ => some (if qq.v n = true then (n, if nx < 0 then i + 1 else nx) else (([] : List (List Int)), (-1 : Int)))) (fun k => ?_) (Ev.now _);rw [qi.l0, if_neg (by omega), if_pos (by omega), if_pos (by omega), hw, if_pos hz, w64 (x := i + 1) (by omega) (by omega)];simp only [show qq.f n = some (qq.v n) from rfl, Option.bind_some];by_cases hnx : nx < 0
      · simp only [if_pos hnx]; split <;> rfl
      · simp only [if_neg hnx]; split <;> rfl
    rw [if_neg hz];by_cases QE : rd l i ≥ 192
    · rw [if_pos QE]
      have hj : ∀ b : Bool, ∀ a c : Int, (b = false → hops < 8 ∧ 0 ≤ a ∧ a ≤ 65535 ∧ 0 ≤ c ∧ c ≤ 1048578) → Ev (fun k => qi.j2 k l nx (hops + 1) a c b n) (if b = true then (([] : List (List Int)), (-1 : Int)) else nameV l m a (if nx < 0 then c else nx) (hops + 1) n) := by
        intro b a c hbc;cases b with
        | true =>
          rw [if_pos rfl];refine Ev.step (f := fun _ => some (([] : List (List Int)), (-1 : Int))) (fun k => ?_) (Ev.now _);rw [qi.j2, if_pos rfl]
        | false =>
          obtain ⟨q1, q2, q3, q4, q5⟩ := hbc rfl;rw [if_neg (by decide)];refine Ev.step (f := fun k => qi.l0 k l a (if nx < 0 then c else nx) (hops + 1) n) (fun k => ?_) (ih _ _ _ _ (by omega) (by omega) (by split <;> omega) (by split <;> omega) (by omega) (by omega) hn (by omega));rw [qi.j2, if_neg (by decide)];by_cases hnx : nx < 0
          · simp only [if_pos hnx]
          · simp only [if_neg hnx]
      refine Ev.step (f := fun k => (qw.f k l i 2).bind fun bt => if bt.2 < 0 then qi.j2 k l nx (hops + 1) (wrap64 (bt.1 - 49152)) bt.2 true n else if wrap64 (bt.1 - 49152) ≥ i then qi.j2 k l nx (hops + 1) (wrap64 (bt.1 - 49152)) bt.2 true n else qi.j2 k l nx (hops + 1) (wrap64 (bt.1 - 49152)) bt.2 (decide (hops + 1 > 8)) n) (fun k => ?_) (Ev.bind (get_ev l hb (by omega) i 2 (by omega) (by omega)) ?_)
      · rw [qi.l0, if_neg (by omega), if_pos (by omega), if_pos (by omega), hw, if_neg hz, if_pos QE, w64 (x := hops + 1) (by omega) (by omega)]
      rcases get_two l hb hl i (by omega) (by omega) with hg | ⟨hg, g0, g1⟩
      · simp only [if_pos hg]
        rw [if_pos (Or.inl hg)];have := hj true (wrap64 ((getV l i 2).1 - 49152)) (getV l i 2).2 (fun e => by cases e);simpa using this
      · rw [hg]
        simp only [if_neg (show ¬ i + 2 < 0 by omega), w64 (x := rd l i * 256 + rd l (i + 1) - 49152) (by omega) (by omega)];by_cases hq : rd l i * 256 + rd l (i + 1) - 49152 ≥ i
        · simp only [if_pos hq]
          rw [if_pos (Or.inr (Or.inl hq))];have := hj true (rd l i * 256 + rd l (i + 1) - 49152) (i + 2) (fun e => by cases e);simpa using this
        · simp only [if_neg hq]
          by_cases h8 : hops ≥ 8
          · rw [if_pos (Or.inr (Or.inr h8))]
            have := hj true (rd l i * 256 + rd l (i + 1) - 49152) (i + 2) (fun e => by cases e);rw [show decide (hops + 1 > 8) = true from decide_eq_true (by omega)];simpa using this
          · rw [if_neg (by omega)]
            have := hj false (rd l i * 256 + rd l (i + 1) - 49152) (i + 2) (fun _ => ⟨by omega, by omega, by omega, by omega, by omega⟩);rw [show decide (hops + 1 > 8) = false from decide_eq_false (by omega)];simpa using this
    rw [if_neg QE];by_cases h15 : rd l i > 15
    · rw [if_pos (Or.inl h15)]
      refine Ev.step (f := fun _ => some (([] : List (List Int)), (-1 : Int))) (fun k => ?_) (Ev.now _);rw [qi.l0, if_neg (by omega), if_pos (by omega), if_pos (by omega), hw, if_neg hz, if_neg QE, if_pos h15]
    have hlen := takeV_len l (i + 1) (rd l i)
    have hst : ∀ k, qi.l0 (k + 1) l i nx hops n = if (takeV l (i + 1) (rd l i)).2 < 0 then some (([] : List (List Int)), (-1 : Int)) else if (n.length : Int) = 6 then some (([] : List (List Int)), (-1 : Int)) else if n.length < 5864062014805 then qi.l0 k l (takeV l (i + 1) (rd l i)).2 nx hops (n ++ [(takeV l (i + 1) (rd l i)).1.map qn.byte]) else none := by
      intro k;rw [qi.l0, if_neg (by omega), if_pos (by omega), if_pos (by omega), hw, if_neg hz, if_neg QE, if_neg h15, w64 (x := i + 1) (by omega) (by omega), implTake l (by omega) (i + 1) (rd l i) (by omega) (by omega), Option.bind_some];unfold qn.f;rw [if_pos (show (takeV l (i + 1) (rd l i)).1.length < 140737488355328 by omega), Option.bind_some]
    by_cases h6 : n.length ≥ 6
    · rw [if_pos (Or.inr h6)]
      refine Ev.step (f := fun _ => some (([] : List (List Int)), (-1 : Int))) (fun k => ?_) (Ev.now _);rw [hst k, if_pos (show (n.length : Int) = 6 by have := hn.1; omega)];split <;> rfl
    · rw [if_neg (by omega)]
      rcases take_at l (i + 1) (rd l i) with ht | ⟨ht, t1, t2, t3, t4⟩
      · rw [if_pos ht]
        refine Ev.step (f := fun _ => some (([] : List (List Int)), (-1 : Int))) (fun k => ?_) (Ev.now _);rw [hst k, if_pos ht]
      · rw [if_neg (by omega)]
        refine Ev.step (f := fun k => qi.l0 k l (takeV l (i + 1) (rd l i)).2 nx hops (n ++ [(takeV l (i + 1) (rd l i)).1.map qn.byte])) (fun k => ?_) (ih _ _ _ _ (by omega) (by omega) x0 x1 p0 p1 (hn.snoc (by omega) (by simp; omega)) (by simp; omega));rw [hst k, if_neg (by omega), if_neg (by omega), if_pos (by omega)]
theorem nameV_fit (l : List Int) (m : Nat) : ∀ (i nx hops : Int) (n : List (List Int)), (nameV l m i nx hops n).1 = [] ∨ qq.v (nameV l m i nx hops n).1 = true := by
  induction m with
  | zero => intro i nx hops n; exact Or.inl rfl
  | succ m ih =>
    intro i nx hops n;simp only [nameV];split
    · exact Or.inl rfl
    split
    · split
      · rename_i h; exact Or.inr h
      · exact Or.inl rfl
    split
    · split
      · exact Or.inl rfl
      · exact ih _ _ _ _
    split
    · exact Or.inl rfl
    split
    · exact Or.inl rfl
    · exact ih _ _ _ _
theorem fit_of {n : List (List Int)} (h : n = [] ∨ qq.v n = true) : FitN n := by
  rcases h with rfl | h
  · exact ⟨by simp, (fun x hx => by cases hx), by simp [lens]⟩
  · have hk := nameOk_len h
    have h2 := lens_le n 15 (fun x hx => (hk.2 x hx).2.1);have h3 : n.length * 15 ≤ 6 * 15 := Nat.mul_le_mul_right 15 hk.1;exact ⟨by omega, fun x hx => by have := (hk.2 x hx).2.1; omega, by omega⟩
def nameGetV (l : List Int) (i : Int) : List (List Int) × Int := if (l.length : Int) > 512 then ([], -1) else nameV l 15 i (-1) 0 []
theorem nameGetV_fit (l : List Int) (i : Int) : FitN (nameGetV l i).1 := by
  unfold nameGetV;split
  · exact fit_of (Or.inl rfl)
  · exact fit_of (nameV_fit l 15 i (-1) 0 [])
theorem implNameGet (l : List Int) (hb : Bytes l) (hl : l.length ≤ 1048576) (i : Int) (i1 : i ≤ 9223372036854775807) : Ev (fun k => qi.f k l i) (nameGetV l i) := by
  unfold qi.f nameGetV
  have hT : Ev (fun k => qi.j0 k l i true) (([] : List (List Int)), (-1 : Int)) := by
    refine Ev.step (f := fun _ => some (([] : List (List Int)), (-1 : Int))) (fun k => ?_) (Ev.now _);rw [qi.j0, if_pos rfl]
  by_cases h : (l.length : Int) > 512
  · simp only [if_pos h]; exact hT
  · simp only [if_neg h]
    by_cases hi : i < 0
    · rw [decide_eq_true hi]
      have e : nameV l 15 i (-1) 0 [] = ([], -1) := by rw [nameV, if_pos (Or.inl hi)]
      rw [e]; exact hT
    · rw [decide_eq_false hi]
      refine Ev.step (f := fun k => qi.l0 k l i (-1) 0 []) (fun k => ?_) (implName_l0 l hb hl 15 i (-1) 0 [] (by omega) i1 (by omega) (by omega) (by omega) (by omega) ⟨by simp, (fun x hx => by cases hx)⟩ (by simp));rw [qi.j0, if_neg (by decide)]
/-! ### marks over names, found again -/
theorem all_at (L : List (List Int)) : ∀ (a : Int) (i : Nat) (h : i < L.length), (qd.all a L)[i]'(by rw [qd.all_len]; exact h) = qd.mk (a + (lens (L.take i) : Int)) (L[i]).length := by
  induction L with
  | nil => intro a i h; simp at h
  | cons x L ih =>
    intro a i h;cases i with
    | zero => simp [qd.all, lens]
    | succ i =>
      simp only [qd.all, List.getElem_cons_succ];rw [ih (a + x.length) i (by simpa using h)];congr 1
      simp only [List.take_succ_cons, lens, List.map_cons, List.sum_cons];omega
theorem heldSS_l0 (L : List (List Int)) (a : Int) (a0 : 0 ≤ a) (a1 : a ≤ 1000) (hL : FitN L) (m : Nat) : ∀ (i : Nat), L.length = i + m → Ev (fun k => qH.l0 k (qd.all a L) (a + (lens (L.take i) : Int)) i) (a + (lens L : Int)) := by
  induction m with
  | zero =>
    intro i hi;refine Ev.step (f := fun _ => some (a + (lens L : Int))) (fun k => ?_) (Ev.now _);rw [qH.l0, if_neg (by rw [qd.all_len]; omega), List.take_of_length_le (by omega)]
  | succ m ih =>
    intro i hi;have hil : i < L.length := by omega
    have h1 := hL.1;have h2 := hL.2.2;have h3 := hL.2.1 _ (List.getElem_mem hil)
    have hsum : lens (L.take (i + 1)) = lens (L.take i) + (L[i]).length := by
      rw [List.take_succ_eq_append_getElem hil];simp only [lens, List.map_append, List.sum_append, List.map_cons, List.map_nil, List.sum_cons, List.sum_nil]; omega
    have hle : lens (L.take (i + 1)) ≤ lens L := by
      have := congrArg lens (List.take_append_drop (i + 1) L);have h4 : lens (L.take (i + 1) ++ L.drop (i + 1)) = lens (L.take (i + 1)) + lens (L.drop (i + 1)) := by simp only [lens, List.map_append, List.sum_append]
      omega
    have hh := heldByteS (a + (lens (L.take i) : Int)) (by omega) (by omega) (L[i]).length (by omega);refine Ev.step (f := fun k => (qC.f k (marks (a + (lens (L.take i) : Int)) (L[i]).length) (a + (lens (L.take i) : Int))).bind fun t => if t < 0 then some (-1) else qH.l0 k (qd.all a L) t ((i + 1 : Nat) : Int)) (fun k => ?_) (Ev.bind hh ?_)
    · rw [qH.l0, if_pos (by rw [qd.all_len]; omega), if_pos (by omega), rdL_at _ i (by rw [qd.all_len]; exact hil), all_at L a i hil, w64 (x := (i : Int) + 1) (by omega) (by omega)]
      rfl
    · simp only [if_neg (show ¬ a + (lens (L.take i) : Int) + ((L[i]).length : Int) < 0 by omega)]
      have := ih (i + 1) (by omega);rw [hsum] at this;rw [show a + (lens (L.take i) : Int) + ((L[i]).length : Int) = a + ((lens (L.take i) + (L[i]).length : Nat) : Int) by omega];exact this
theorem heldName (L : List (List Int)) (a : Int) (a0 : 0 ≤ a) (a1 : a ≤ 1000) (hL : FitN L) : Ev (fun k => qW.f k (qd.all a L) a) (a + (lens L : Int)) := by
  unfold qW.f qH.f;have := heldSS_l0 L a a0 a1 hL L.length 0 (by omega);have this : Ev (fun k => qH.l0 k (qd.all a L) a 0) (a + (lens L : Int)) := by simpa [lens] using this
  refine Ev.bind this ?_;simp only [if_neg (show ¬ a + (lens L : Int) < 0 by omega)];exact Ev.now _
end Go.Proofs.Ytagedmajlppohaa.Pure

/- The statement FnExactDataGet: data are read as the specification says; what comes back is its caller's own. No condition. -/
namespace Go.Proofs.Ytagedmajlppohaa.Pure
open Go Go.RowKit Go.Proofs.Ytagedmajlppohaa.Q Go.Proofs.YtagedmajlppohaaW.PrintWords Go.Proofs.YtagedmajlppohaaW.PrintLast Go.Proofs.YtagedmajlppohaaW.PrintMore
set_option linter.unusedVariables false
set_option linter.unusedSimpArgs false
theorem Ev.bindStep {α β : Type} {g f : Nat → Option α} {F : α → Option β} {r : β} (h : ∀ k, g (k + 1) = f k) (k : Ev (fun k => (f k).bind F) r) : Ev (fun k => (g k).bind F) r := Ev.step (f := fun k => (f k).bind F) (fun k => by rw [h]) k
abbrev RT := List (List Int) × Int × Int × Int × List (List Int) × List Int × List Int × Bool
def zeroR : RT := ([], 0, 0, 0, [], [], [], false)
def finV (t i n addr : Int) (dst : List (List Int)) (text nums : List Int) (e : Int) : RT := if e = i + n ∧ rrOkV [] t 0 addr dst text nums = true then ([], t, 0, addr, dst, text, nums, true) else zeroR
def dataGetV (t : Int) (l : List Int) (i n : Int) : RT :=
  if typeOkV t = true ∧ (l.length : Int) ≤ 512 ∧ 0 ≤ i ∧ 0 ≤ n ∧ n ≤ 512 then
    if t = 1 then finV t i n (getV l i 4).1 [] [] [] (getV l i 4).2
    else if namedV t = true then
      (if t = 6 then (if (nameGetV l i).2 < 0 ∨ (getV l (nameGetV l i).2 4).2 < 0 then zeroR else finV t i n 0 (nameGetV l i).1 [] [(getV l (nameGetV l i).2 4).1, (getV l (getV l (nameGetV l i).2 4).2 4).1] (getV l (getV l (nameGetV l i).2 4).2 4).2)
      else finV t i n 0 (nameGetV l i).1 [] [] (nameGetV l i).2)
    else if i < l.length then finV t i n 0 [] (takeV l (i + 1) (rd l i)).1 [] (takeV l (i + 1) (rd l i)).2 else zeroR
  else zeroR
theorem getV_end (l : List Int) (i n : Int) : (getV l i n).2 ≤ l.length := by unfold getV; split <;> simp <;> omega
theorem getV_neg (l : List Int) (i n : Int) (hn : 0 ≤ n) : (getV l i n).2 < 0 ∨ (0 ≤ i ∧ (getV l i n).2 = i + n) := by unfold getV; split <;> simp; omega
theorem takeV_end (l : List Int) (i n : Int) : (takeV l i n).2 ≤ l.length := by unfold takeV; split <;> simp <;> omega
theorem nameV_end (l : List Int) (m : Nat) : ∀ (i nx hops : Int) (n : List (List Int)), nx ≤ l.length → (nameV l m i nx hops n).2 ≤ l.length := by
  induction m with
  | zero => intro i nx hops n h; simp only [nameV]; omega
  | succ m ih =>
    intro i nx hops n h;simp only [nameV];split
    · simp only; omega
    split
    · split
      · simp only; split <;> omega
      · simp only; omega
    split
    · split
      · simp only; omega
      · apply ih; split
        · exact getV_end l i 2
        · exact h
    split
    · simp only; omega
    split
    · simp only; omega
    · exact ih _ _ _ _ h
theorem nameGetV_end (l : List Int) (i : Int) : (nameGetV l i).2 ≤ l.length := by
  unfold nameGetV; split
  · simp only; omega
  · exact nameV_end l 15 i (-1) 0 [] (by omega)
theorem nameGetV_far (l : List Int) (i : Int) (h : (l.length : Int) ≤ i) : (nameGetV l i).2 < 0 := by
  unfold nameGetV; split
  · simp
  · rw [nameV, if_pos (Or.inr h)]; simp
theorem finV_no {t i n addr : Int} {dst : List (List Int)} {text nums : List Int} {e : Int} (h : e ≠ i + n) : finV t i n addr dst text nums e = zeroR := by unfold finV; rw [if_neg (fun c => h c.1)]
theorem specL2get (l : List Int) (hb : Bytes l) (hl : (l.length : Int) ≤ 512) (i : Int) (i0 : 0 ≤ i) (i1 : i ≤ 9223372036854775807) : Ev (fun k => qh.f k l i) (nameGetV l i) := by
  unfold qh.f nameGetV;rw [if_neg (by omega)];exact specName_l0 l hb (by omega) 15 i (-1) 0 [] (by omega) i1 (by omega) (by omega) (by omega) (by omega) ⟨by simp, (fun x hx => by cases hx)⟩ (by simp)
def outR (bt : RT) : Option RT := if bt.2.2.2.2.2.2.2 = true then some (bt.1, bt.2.1, bt.2.2.1, bt.2.2.2.1, bt.2.2.2.2.1, bt.2.2.2.2.2.1, bt.2.2.2.2.2.2.1, true) else some zeroR
theorem take_one (l : List Int) (i : Int) (h0 : 0 ≤ i) (h1 : i < l.length) : takeV l i 1 = ([rd l i], i + 1) := by
  unfold takeV;rw [if_neg (by omega)];obtain ⟨j, rfl⟩ : ∃ j : Nat, i = (j : Int) := ⟨i.toNat, by omega⟩;have hj : j < l.length := by omega
  rw [show ((j : Int) + 1).toNat = j + 1 by omega, show ((j : Int)).toNat = j by omega, List.take_succ_eq_append_getElem hj, List.drop_append_of_le_length (by simp; omega), List.drop_of_length_le (by rw [List.length_take]; omega), List.nil_append];simp [rd, List.getD_eq_getElem?_getD, hj]
def inR (t : Int) (addr : Int) (dst : List (List Int)) (text nums : List Int) (b : Bool) : Option RT := if b = true then some (([] : List (List Int)), t, (0 : Int), addr, dst, text, nums, true) else some zeroR
theorem implFin (t i n addr : Int) (dst : List (List Int)) (text nums : List Int) (e : Int) (ht : -9223372036854775808 ≤ t ∧ t ≤ 9223372036854775807) (hi : 0 ≤ i ∧ i ≤ 512) (hn : 0 ≤ n ∧ n ≤ 512) :
    Ev (fun k => if e = wrap64 (i + n) then (qk.f k ([] : List (List Int)) t 0 addr dst text nums).bind (inR t addr dst text nums) else some zeroR) (finV t i n addr dst text nums e) := by
  simp only [w64 (x := i + n) (by omega) (by omega)];by_cases h1 : e = i + n
  · simp only [if_pos h1]
    refine Ev.bind (implRrOk ([] : List (List Int)) t 0 addr dst text nums ht) ?_;unfold finV inR;cases hv : rrOkV [] t 0 addr dst text nums with
    | true => simp only [h1, and_self, if_true]; exact Ev.now _
    | false => simp only [Bool.false_eq_true, and_false, if_false]; exact Ev.now _
  · simp only [if_neg h1]
    rw [finV_no h1]; exact Ev.now _
theorem XV (t : Int) (l : List Int) (i n e addr : Int) (dst : List (List Int)) (nums : List Int) (ht : -9223372036854775808 ≤ t ∧ t ≤ 9223372036854775807) (hi : 0 ≤ i ∧ i ≤ 512) (hn : 0 ≤ n ∧ n ≤ 512) :
    Ev (fun k => qm.l0 k t l i n e 2 t 0 addr dst nums) (finV t i n addr dst [] nums e) := by
  refine Ev.step (fun k => ?_) (implFin t i n addr dst [] nums e ht hi hn);rw [qm.l0, if_neg (by omega)];rfl
theorem yG (t : Int) (l : List Int) (i n e x addr : Int) (dst : List (List Int)) (nums : List Int) (h : t ≠ 6 ∨ e < 0) (hx : 0 ≤ x ∧ x < 2) (R : RT) (hR : Ev (fun k => qm.l0 k t l i n e (x + 1) t 0 addr dst nums) R) :
    Ev (fun k => qm.l0 k t l i n e x t 0 addr dst nums) R := by
  refine Ev.step (fun k => ?_) hR;rw [qm.l0, if_pos (by omega), w64 (x := x + 1) (by omega) (by omega)];by_cases h6 : t = 6
  · rw [if_pos h6, if_neg (by omega)]
  · rw [if_neg h6]
theorem Jy (t : Int) (l : List Int) (hb : Bytes l) (hl : (l.length : Int) ≤ 512) (i n e x addr : Int) (dst : List (List Int)) (nums : List Int) (h6 : t = 6) (he : 0 ≤ e ∧ e ≤ 1048576) (hx : 0 ≤ x ∧ x < 2) (hnl : nums.length ≤ 2) (R : RT) (hR : Ev (fun k => qm.l0 k t l i n (getV l e 4).2 (x + 1) t 0 addr dst (nums ++ [(getV l e 4).1])) R) :
    Ev (fun k => qm.l0 k t l i n e x t 0 addr dst nums) R := by
  refine Ev.step (f := fun k => (qw.f k l e 4).bind fun bt => if nums.length < 17592186044416 then qm.l0 k t l i n bt.2 (wrap64 (x + 1)) t 0 addr dst (nums ++ [bt.1]) else none) (fun k => ?_) ?_
  · rw [qm.l0, if_pos (by omega), if_pos h6, if_pos (by omega)]
  refine Ev.bind (get_ev l hb (by omega) e 4 ⟨by omega, by omega⟩ (by omega)) ?_;simp only [if_pos (show nums.length < 17592186044416 by omega), w64 (x := x + 1) (by omega) (by omega)];exact hR
theorem implDataGet (t : Int) (l : List Int) (hb : Bytes l) (i n : Int) (ht : -9223372036854775808 ≤ t ∧ t ≤ 9223372036854775807) (hi : -9223372036854775808 ≤ i ∧ i ≤ 9223372036854775807) : Ev (fun k => qm.f k t l i n) (dataGetV t l i n) := by
  have hT : Ev (fun k => qm.j0 k t l i n true) zeroR := by
    refine Ev.step (f := fun _ => some zeroR) (fun k => ?_) (Ev.now _);rw [qm.j0, if_pos rfl]; rfl
  have hno : ¬ (typeOkV t = true ∧ (l.length : Int) ≤ 512 ∧ 0 ≤ i ∧ 0 ≤ n ∧ n ≤ 512) → dataGetV t l i n = zeroR := fun h => by unfold dataGetV; rw [if_neg h]
  unfold qm.f;simp only [implTypeOk t ht, implWithin, Option.bind_some, decide_eq_true_eq];by_cases c0 : typeOkV t = true
  case neg => rw [hno (fun c => c0 c.1)]; simp only [if_neg c0]; exact hT
  simp only [if_pos c0];by_cases c1 : (l.length : Int) > 512
  · rw [hno (by omega)]; simp only [if_pos c1]; exact hT
  simp only [if_neg c1];by_cases c2 : i < 0
  · rw [hno (by omega)]; simp only [if_pos c2]; exact hT
  simp only [if_neg c2];by_cases c3 : 0 ≤ n ∧ n ≤ 512
  case neg => rw [hno (by omega)]; simp only [if_neg c3]; exact hT
  simp only [if_pos c3, w64 (x := (l.length : Int) - i) (by omega) (by omega)]
  have hV : dataGetV t l i n = if t = 1 then finV t i n (getV l i 4).1 [] [] [] (getV l i 4).2
    else if namedV t = true then
      (if t = 6 then (if (nameGetV l i).2 < 0 ∨ (getV l (nameGetV l i).2 4).2 < 0 then zeroR else finV t i n 0 (nameGetV l i).1 [] [(getV l (nameGetV l i).2 4).1, (getV l (getV l (nameGetV l i).2 4).2 4).1] (getV l (getV l (nameGetV l i).2 4).2 4).2)
      else finV t i n 0 (nameGetV l i).1 [] [] (nameGetV l i).2)
    else if i < l.length then finV t i n 0 [] (takeV l (i + 1) (rd l i)).1 [] (takeV l (i + 1) (rd l i)).2 else zeroR := by unfold dataGetV; rw [if_pos ⟨c0, by omega, by omega, c3.1, c3.2⟩]
  by_cases c4 : n > (l.length : Int) - i
  · rw [decide_eq_true c4]
    have hz : dataGetV t l i n = zeroR := by
      rw [hV];have e1 := getV_end l i 4;have e2 := nameGetV_end l i;have e3 := getV_end l (getV l (nameGetV l i).2 4).2 4;have e4 := takeV_end l (i + 1) (rd l i);split
      · exact finV_no (by omega)
      split
      · split
        · split
          · rfl
          · exact finV_no (by omega)
        · exact finV_no (by omega)
      · split
        · exact finV_no (by omega)
        · rfl
    rw [hz]; exact hT
  rw [decide_eq_false c4, hV];have hi5 : 0 ≤ i ∧ i ≤ 512 := by omega
  by_cases h1 : t = 1
  · rw [if_pos h1]
    refine Ev.step (f := fun k => (qw.f k l i 4).bind fun bt => if bt.2 = wrap64 (i + n) then (qk.f k ([] : List (List Int)) t 0 bt.1 ([] : List (List Int)) ([] : List Int) ([] : List Int)).bind (inR t bt.1 [] [] []) else some zeroR) (fun k => ?_) ?_
    · rw [qm.j0, if_neg (by decide), if_pos h1]
      rfl
    refine Ev.bind (get_ev l hb (by omega) i 4 hi (by omega)) ?_;exact implFin t i n (getV l i 4).1 [] [] [] (getV l i 4).2 ht hi5 c3
  rw [if_neg h1];by_cases h2 : namedV t = true
  · rw [if_pos h2]
    refine Ev.step (f := fun k => (qi.f k l i).bind fun bt => qm.l0 k t l i n bt.2 0 t 0 0 bt.1 ([] : List Int)) (fun k => ?_) ?_
    · rw [qm.j0, if_neg (by decide), if_neg h1, implNamed, Option.bind_some, if_pos h2]
    refine Ev.bind (implNameGet l hb (by omega) i hi.2) ?_;have hend := nameGetV_end l i;generalize nameGetV l i = q at hend;have z : ∀ (e : Int) (nums : List Int), Ev (fun k => qm.l0 k t l i n e 2 t 0 0 q.1 nums) (finV t i n 0 q.1 [] nums e) := fun e nums => XV t l i n e 0 q.1 nums ht hi5 c3
    by_cases h6 : t = 6
    · rw [if_pos h6]
      by_cases hq : q.2 < 0
      · rw [if_pos (Or.inl hq)]
        have := z q.2 [];rw [finV_no (by omega)] at this;exact yG t l i n q.2 0 0 q.1 [] (Or.inr hq) (by omega) _ (yG t l i n q.2 (0 + 1) 0 q.1 [] (Or.inr hq) (by omega) _ this)
      · refine Jy t l hb (by omega) i n q.2 0 0 q.1 [] h6 (by omega) (by omega) (by simp) _ ?_
        rw [List.nil_append];have hae := getV_end l q.2 4;by_cases ha : (getV l q.2 4).2 < 0
        · rw [if_pos (Or.inr ha)]
          have := z (getV l q.2 4).2 [(getV l q.2 4).1];rw [finV_no (by omega)] at this;exact yG t l i n (getV l q.2 4).2 (0 + 1) 0 q.1 _ (Or.inr ha) (by omega) _ this
        · rw [if_neg (by omega)]
          refine Jy t l hb (by omega) i n (getV l q.2 4).2 (0 + 1) 0 q.1 [(getV l q.2 4).1] h6 (by omega) (by omega) (by simp) _ ?_;exact z _ _
    · rw [if_neg h6]
      exact yG t l i n q.2 0 0 q.1 [] (Or.inl h6) (by omega) _ (yG t l i n q.2 (0 + 1) 0 q.1 [] (Or.inl h6) (by omega) _ (z q.2 []))
  · rw [if_neg h2]
    by_cases hn0 : n > 0
    · have hil : i < l.length := by omega
      have hr := hb.rd i;rw [if_pos hil];refine Ev.step (fun k => ?_) (implFin t i n 0 [] (takeV l (i + 1) (rd l i)).1 [] (takeV l (i + 1) (rd l i)).2 ht hi5 c3);rw [qm.j0, if_neg (by decide), if_neg h1, implNamed, Option.bind_some, if_neg h2, if_pos hn0, if_pos (by omega), if_pos hil, w64 (x := i + 1) (by omega) (by omega), w64 (x := rd l i) (by omega) (by omega), implTake l (by omega) (i + 1) (rd l i) ⟨by omega, by omega⟩ ⟨by omega, by omega⟩, Option.bind_some];rfl
    · have e4 := takeV_end l (i + 1) (rd l i)
      have hr := hb.rd i
      have e5 : (if i < (l.length : Int) then finV t i n 0 [] (takeV l (i + 1) (rd l i)).1 [] (takeV l (i + 1) (rd l i)).2 else zeroR) = zeroR := by
        split
        · apply finV_no
          unfold takeV;split <;> simp <;> omega
        · rfl
      rw [e5];refine Ev.step (f := fun _ => some zeroR) (fun k => ?_) (Ev.now _);rw [qm.j0, if_neg (by decide), if_neg h1, implNamed, Option.bind_some, if_neg h2, if_neg hn0, if_neg (by rw [w64 (by omega) (by omega)]; omega)];rfl
theorem finV_fit (t i n addr : Int) (dst : List (List Int)) (text nums : List Int) (e : Int) (hd : FitN dst) (hx : text.length ≤ 600) (hm : nums.length ≤ 2) : (finV t i n addr dst text nums e).1 = [] ∧ FitN (finV t i n addr dst text nums e).2.2.2.2.1 ∧ (finV t i n addr dst text nums e).2.2.2.2.2.1.length ≤ 600 ∧ (finV t i n addr dst text nums e).2.2.2.2.2.2.1.length ≤ 2 := by
  unfold finV;split
  · exact ⟨rfl, hd, hx, hm⟩
  · refine ⟨rfl, ⟨by simp [zeroR], ?_, ?_⟩, by simp [zeroR], by simp [zeroR]⟩ <;> simp [zeroR, lens]
theorem dataGetV_fit (t : Int) (l : List Int) (i n : Int) : (dataGetV t l i n).1 = [] ∧ FitN (dataGetV t l i n).2.2.2.2.1 ∧ (dataGetV t l i n).2.2.2.2.2.1.length ≤ 600 ∧ (dataGetV t l i n).2.2.2.2.2.2.1.length ≤ 2 := by
  have fN : FitN ([] : List (List Int)) := by refine ⟨by simp, ?_, ?_⟩ <;> simp [lens]
  have z : zeroR.1 = [] ∧ FitN zeroR.2.2.2.2.1 ∧ zeroR.2.2.2.2.2.1.length ≤ 600 ∧ zeroR.2.2.2.2.2.2.1.length ≤ 2 := ⟨rfl, fN, by simp [zeroR], by simp [zeroR]⟩;unfold dataGetV;split
  case isFalse => exact z
  rename_i hc
  split
  · exact finV_fit _ _ _ _ _ _ _ _ fN (by simp) (by simp)
  split
  · split
    · split
      · exact z
      · exact finV_fit _ _ _ _ _ _ _ _ (nameGetV_fit l i) (by simp) (by simp)
    · exact finV_fit _ _ _ _ _ _ _ _ (nameGetV_fit l i) (by simp) (by simp)
  · split
    · exact finV_fit _ _ _ _ _ _ _ _ fN (by have := takeV_len l (i + 1) (rd l i); omega) (by simp)
    · exact z
theorem heldInts_l0 (a : Int) (n : Nat) (ha : 0 ≤ a ∧ a ≤ 1099511627776) (hn : n ≤ 1048576) (m : Nat) : ∀ (i : Nat), n = i + m → Ev (fun k => qS.l0 k (qj.mkI a n) (a + i) i) (a + n) := by
  induction m with
  | zero =>
    intro i hi;refine Ev.step (f := fun _ => some (a + n)) (fun k => ?_) (Ev.now _);rw [qS.l0, if_neg (by rw [qj.mkI_len]; omega), show (n : Int) = i by omega]
  | succ m ih =>
    intro i hi
    have hr : rd (qj.mkI a n) (i : Int) = a + i := by
      simp [rd, qj.mkI, List.getD_eq_getElem?_getD, show i < n by omega]
    refine Ev.step (fun k => ?_) (ih (i + 1) (by omega));rw [qS.l0, if_pos (by rw [qj.mkI_len]; omega), if_pos (by omega), if_pos hr, w64 (x := a + i + 1) (by omega) (by omega), w64 (x := (i : Int) + 1) (by omega) (by omega)];rw [show a + (i : Int) + 1 = a + ((i + 1 : Nat) : Int) by omega];rfl
theorem heldInts (a : Int) (n : Nat) (ha : 0 ≤ a ∧ a ≤ 1099511627776) (hn : n ≤ 1048576) : Ev (fun k => qS.f k (qj.mkI a n) a) (a + n) := by
  unfold qS.f;simpa using heldInts_l0 a n ha hn n 0 (by omega)
theorem sum_lens (l : List (List Int)) : qd.sum l = lens l := by
  induction l with
  | nil => rfl
  | cons x l ih => simp only [qd.sum, List.map_cons, List.sum_cons, lens] at ih ⊢ <;> try omega
end Go.Proofs.Ytagedmajlppohaa.Pure

/- The statement FnExactRrGet: at every row of bytes and every place the reference and the program read the same record, its caller's own. No condition. -/
namespace Go.Proofs.Ytagedmajlppohaa.Pure
open Go Go.RowKit Go.Proofs.Ytagedmajlppohaa.Q Go.Proofs.YtagedmajlppohaaW.PrintWords Go.Proofs.YtagedmajlppohaaW.PrintLast Go.Proofs.YtagedmajlppohaaW.PrintMore
set_option linter.unusedVariables false
set_option linter.unusedSimpArgs false
def dataGetW (t : Int) (l : List Int) (i n : Int) : RT :=
    if t = 1 then finV t i n (getV l i 4).1 [] [] [] (getV l i 4).2
    else if namedV t = true then
      (if t = 6 then (if (nameGetV l i).2 < 0 ∨ (getV l (nameGetV l i).2 4).2 < 0 then zeroR else finV t i n 0 (nameGetV l i).1 [] [(getV l (nameGetV l i).2 4).1, (getV l (getV l (nameGetV l i).2 4).2 4).1] (getV l (getV l (nameGetV l i).2 4).2 4).2)
      else finV t i n 0 (nameGetV l i).1 [] [] (nameGetV l i).2)
    else if i < l.length then finV t i n 0 [] (takeV l (i + 1) (rd l i)).1 [] (takeV l (i + 1) (rd l i)).2 else zeroR
theorem specFinW (t i n addr : Int) (dst : List (List Int)) (text nums : List Int) (e : Int) (hi : 0 ≤ i) (hn : 0 ≤ n ∧ n ≤ 65535) (hd : FitN dst) (he : e < 0 ∨ i ≤ 512) :
    Ev (fun k => (if e ≥ 0 then (if e = wrap64 (i + n) then (qZ.f k ([] : List (List Int)) t 0 addr dst text nums).bind fun b => some (([] : List (List Int)), t, (0 : Int), addr, dst, text, nums, b) else some (([] : List (List Int)), t, (0 : Int), addr, dst, text, nums, false)) else some (([] : List (List Int)), t, (0 : Int), addr, dst, text, nums, false)).bind outR) (finV t i n addr dst text nums e) := by
  by_cases h0 : e ≥ 0
  · have hi5 : i ≤ 512 := by omega
    simp only [if_pos h0, w64 (x := i + n) (by omega) (by omega)];by_cases h1 : e = i + n
    · simp only [if_pos h1]
      have hr := specRrOk ([] : List (List Int)) t 0 addr dst text nums (by refine ⟨by simp, ?_, ?_⟩ <;> simp [lens]) hd;refine Ev.bind (Ev.bind hr (Ev.now _)) ?_;unfold finV;cases hv : rrOkV [] t 0 addr dst text nums with
      | true => rw [if_pos ⟨h1, rfl⟩]; exact Ev.now _
      | false => rw [if_neg (fun c => by cases c.2)]; exact Ev.now _
    · simp only [if_neg h1]
      rw [finV_no h1]; exact Ev.now _
  · simp only [if_neg h0]
    rw [finV_no (by omega)]; exact Ev.now _
theorem specL3W (t : Int) (l : List Int) (hb : Bytes l) (hl : (l.length : Int) ≤ 512) (i n : Int) (hi : 0 ≤ i ∧ i ≤ 9223372036854775807) (hn : 0 ≤ n ∧ n ≤ 65535) (ht : typeOkV t = true) :
    Ev (fun k => (ql.f k t l i n).bind outR) (dataGetW t l i n) := by
  unfold ql.f dataGetW;have fN : FitN ([] : List (List Int)) := by refine ⟨by simp, ?_, ?_⟩ <;> simp [lens]
  by_cases h1 : t = 1
  · simp only [if_pos h1, specGet32 l hb (by omega) i ⟨by omega, hi.2⟩, Option.bind_some]
    exact specFinW t i n (getV l i 4).1 [] [] [] (getV l i 4).2 hi.1 hn fN (by have := getV_neg l i 4 (by omega); have := getV_end l i 4; omega)
  simp only [if_neg h1, specNamed, Option.bind_some];by_cases h2 : namedV t = true
  · simp only [if_pos h2, Option.bind_assoc]
    refine Ev.bind (specL2get l hb hl i hi.1 hi.2) ?_;have hend := nameGetV_end l i
    have hfar : (nameGetV l i).2 < 0 ∨ i ≤ 512 := by
      by_cases h : (l.length : Int) ≤ i
      · exact Or.inl (nameGetV_far l i h)
      · omega
    have hfit := nameGetV_fit l i;generalize nameGetV l i = q at hend hfar hfit;by_cases h6 : t = 6
    · simp only [if_pos h6]
      by_cases hq : q.2 ≥ 0
      · rw [decide_eq_true hq]
        simp only [show ¬ q.2 < 0 by omega, false_or];have ha := getV_neg l q.2 4 (by omega);have hae := getV_end l q.2 4;refine Ev.bindStep (fun k => by rw [ql.j0, if_pos rfl]) ?_;simp only [specGet32 l hb (by omega) q.2 ⟨by omega, by omega⟩, w64 (x := q.2 + 4) (by omega) (by omega), specGet32 l hb (by omega) (q.2 + 4) ⟨by omega, by omega⟩, Option.bind_some];by_cases h3 : (getV l q.2 4).2 < 0
        · simp only [if_pos h3]; exact Ev.now _
        · simp only [if_neg h3]
          have hqa : (getV l q.2 4).2 = q.2 + 4 := by omega
          rw [hqa];by_cases h4 : (getV l (q.2 + 4) 4).2 < 0
          · simp only [if_pos h4]; rw [finV_no (by omega)]; exact Ev.now _
          · simp only [if_neg h4]
            exact specFinW t i n 0 q.1 [] [(getV l q.2 4).1, (getV l (q.2 + 4) 4).1] (getV l (q.2 + 4) 4).2 hi.1 hn hfit (by omega)
      · rw [decide_eq_false hq, if_pos (Or.inl (by omega))]
        refine Ev.bindStep (fun k => by rw [ql.j0, if_neg (by decide)]) ?_;simp only [if_neg hq]; exact Ev.now _
    · simp only [if_neg h6]
      refine Ev.bindStep (fun k => by rw [ql.j0, if_neg (by decide)]) ?_;exact specFinW t i n 0 q.1 [] [] q.2 hi.1 hn hfit hfar
  · simp only [if_neg h2, specTake l (by omega) i 1 ⟨by omega, hi.2⟩ ⟨by omega, by omega⟩, Option.bind_some]
    by_cases h3 : i < l.length
    · rw [take_one l i hi.1 h3]
      have hr := hb.rd i;simp only [if_neg (show ¬ i + 1 < 0 by omega), if_pos h3, List.length_singleton, if_pos (show (0 : Int) < ((1 : Nat) : Int) by omega), show rd [rd l i] 0 = rd l i from rfl, w64 (x := rd l i) (by omega) (by omega)];simp only [specTake l (by omega) (i + 1) (rd l i) ⟨by omega, by omega⟩ ⟨by omega, by omega⟩, Option.bind_some];exact specFinW t i n 0 [] _ [] _ hi.1 hn fN (by omega)
    · rw [if_neg h3]
      have e : takeV l i 1 = ([], -1) := by unfold takeV; rw [if_pos (by omega)]
      rw [e];simp only [if_pos (show (-1 : Int) < 0 by omega)];exact Ev.now _
theorem dataGetW_eq (t : Int) (l : List Int) (hl : (l.length : Int) ≤ 512) (i n : Int) (hi : 0 ≤ i) (hn : 0 ≤ n) (ht : typeOkV t = true) : dataGetW t l i n = dataGetV t l i n := by
  unfold dataGetV;by_cases h : n ≤ 512
  · rw [if_pos ⟨ht, hl, hi, hn, h⟩]; rfl
  · rw [if_neg (fun c => h c.2.2.2.2)]
    unfold dataGetW;split
    · exact finV_no (by have := getV_end l i 4; omega)
    split
    · split
      · split
        · rfl
        · exact finV_no (by have := getV_end l (getV l (nameGetV l i).2 4).2 4; omega)
      · exact finV_no (by have := nameGetV_end l i; omega)
    · split
      · exact finV_no (by have := takeV_end l (i + 1) (rd l i); omega)
      · rfl
theorem l3_true {t i n : Int} {l : List Int} {D : RT} (h : Ev (fun k => (ql.f k t l i n).bind outR) D) (hD : D.2.2.2.2.2.2.2 = true) : Ev (fun k => ql.f k t l i n) D := by
  obtain ⟨m, hm⟩ := h;refine ⟨m, fun k hk => ?_⟩;obtain ⟨bt, hb, ho⟩ := Option.bind_eq_some_iff.1 (hm k hk);show ql.f k t l i n = some D
  rw [hb];unfold outR at ho;split at ho
  · rename_i h2
    obtain ⟨b1, b2, b3, b4, b5, b6, b7, b8⟩ := bt;simp only at h2;subst h2;exact ho
  · have := Option.some.inj ho
    subst this;simp [zeroR] at hD
theorem l3_false {t i n : Int} {l : List Int} {D : RT} (h : Ev (fun k => (ql.f k t l i n).bind outR) D) (hD : D.2.2.2.2.2.2.2 = false) (F : Nat → RT → Option RrW) :
    Ev (fun k => (ql.f k t l i n).bind fun d => if d.2.2.2.2.2.2.2 = true then F k d else some rwZ) rwZ := by
  obtain ⟨m, hm⟩ := h;refine ⟨m, fun k hk => ?_⟩;obtain ⟨bt, hb, ho⟩ := Option.bind_eq_some_iff.1 (hm k hk);show (ql.f k t l i n).bind _ = _
  rw [hb, Option.bind_some];unfold outR at ho;split at ho
  · have := Option.some.inj ho
    subst this;simp at hD
  · rename_i h2
    rw [if_neg h2]
theorem specL2getA (l : List Int) (hb : Bytes l) (hl : (l.length : Int) ≤ 512) (i : Int) (i0 : -9223372036854775808 ≤ i) (i1 : i ≤ 9223372036854775807) : Ev (fun k => qh.f k l i) (nameGetV l i) := by
  unfold qh.f nameGetV;rw [if_neg (by omega)];exact specName_l0 l hb (by omega) 15 i (-1) 0 [] i0 i1 (by omega) (by omega) (by omega) (by omega) ⟨by simp, (fun x hx => by cases hx)⟩ (by simp)
def rrGetV (l : List Int) (a : Int) : RrV :=
  if (nameGetV l a).2 < 0 ∨ (nameGetV l a).2 + 10 > l.length ∨ (getV l ((nameGetV l a).2 + 2) 2).1 ≠ 1 then rrZ
  else if (dataGetV (getV l (nameGetV l a).2 2).1 l ((nameGetV l a).2 + 10) (getV l ((nameGetV l a).2 + 8) 2).1).2.2.2.2.2.2.2 = true ∧ rrOkV (nameGetV l a).1 (dataGetV (getV l (nameGetV l a).2 2).1 l ((nameGetV l a).2 + 10) (getV l ((nameGetV l a).2 + 8) 2).1).2.1 (getV l ((nameGetV l a).2 + 4) 4).1 (dataGetV (getV l (nameGetV l a).2 2).1 l ((nameGetV l a).2 + 10) (getV l ((nameGetV l a).2 + 8) 2).1).2.2.2.1 (dataGetV (getV l (nameGetV l a).2 2).1 l ((nameGetV l a).2 + 10) (getV l ((nameGetV l a).2 + 8) 2).1).2.2.2.2.1 (dataGetV (getV l (nameGetV l a).2 2).1 l ((nameGetV l a).2 + 10) (getV l ((nameGetV l a).2 + 8) 2).1).2.2.2.2.2.1 (dataGetV (getV l (nameGetV l a).2 2).1 l ((nameGetV l a).2 + 10) (getV l ((nameGetV l a).2 + 8) 2).1).2.2.2.2.2.2.1 = true
    then ((nameGetV l a).1, (dataGetV (getV l (nameGetV l a).2 2).1 l ((nameGetV l a).2 + 10) (getV l ((nameGetV l a).2 + 8) 2).1).2.1, (getV l ((nameGetV l a).2 + 4) 4).1, (dataGetV (getV l (nameGetV l a).2 2).1 l ((nameGetV l a).2 + 10) (getV l ((nameGetV l a).2 + 8) 2).1).2.2.2.1, (dataGetV (getV l (nameGetV l a).2 2).1 l ((nameGetV l a).2 + 10) (getV l ((nameGetV l a).2 + 8) 2).1).2.2.2.2.1, (dataGetV (getV l (nameGetV l a).2 2).1 l ((nameGetV l a).2 + 10) (getV l ((nameGetV l a).2 + 8) 2).1).2.2.2.2.2.1, (dataGetV (getV l (nameGetV l a).2 2).1 l ((nameGetV l a).2 + 10) (getV l ((nameGetV l a).2 + 8) 2).1).2.2.2.2.2.2.1, (nameGetV l a).2 + 10 + (getV l ((nameGetV l a).2 + 8) 2).1)
    else rrZ
theorem getV_in (l : List Int) (i n : Int) (h0 : 0 ≤ i) (h : i + n ≤ l.length) : (getV l i n).2 = i + n := by unfold getV; rw [if_neg (by omega)]
theorem getV_out (l : List Int) (i n : Int) (h : l.length < i + n) : getV l i n = (0, -1) := by unfold getV; rw [if_pos (by omega)]
theorem getV_two_range (l : List Int) (hb : Bytes l) (i : Int) : 0 ≤ (getV l i 2).1 ∧ (getV l i 2).1 ≤ 65535 := by
  unfold getV;split
  · simp
  · obtain ⟨j, rfl⟩ : ∃ j : Nat, i = (j : Int) := ⟨i.toNat, by omega⟩
    have r0 := hb.rd (j : Int); have r1 := hb.rd ((j : Int) + 1);rw [show ((j : Int) + 2).toNat = j + 2 by omega, show (j : Int).toNat = j by omega, cut_two l j (by omega), be_two, show ((j + 1 : Nat) : Int) = (j : Int) + 1 by omega];simp only
    omega
theorem dataGetV_ty (t : Int) (l : List Int) (i n : Int) (h : (dataGetV t l i n).2.2.2.2.2.2.2 = true) : (dataGetV t l i n).2.1 = t ∧ typeOkV t = true := by
  have f : ∀ (addr : Int) (dst : List (List Int)) (text nums : List Int) (e : Int), (finV t i n addr dst text nums e).2.2.2.2.2.2.2 = true → (finV t i n addr dst text nums e).2.1 = t := by
    intro addr dst text nums e h;unfold finV at h ⊢;split at h
    · rename_i hc; rw [if_pos hc]
    · simp [zeroR] at h
  unfold dataGetV at h ⊢;split at h
  · rename_i hc
    rw [if_pos hc];refine ⟨?_, hc.1⟩;split at h
    · rename_i h1; rw [if_pos h1]; exact f _ _ _ _ _ h
    · rename_i h1
      rw [if_neg h1];split at h
      · rename_i h2
        rw [if_pos h2];split at h
        · rename_i h3
          rw [if_pos h3];split at h
          · simp [zeroR] at h
          · rename_i h4; rw [if_neg h4]; exact f _ _ _ _ _ h
        · rename_i h3; rw [if_neg h3]; exact f _ _ _ _ _ h
      · rename_i h2
        rw [if_neg h2];split at h
        · rename_i h3; rw [if_pos h3]; exact f _ _ _ _ _ h
        · simp [zeroR] at h
  · simp [zeroR] at h
/-! ### the program -/
def headV (l : List Int) (a : Int) : HdV := if (nameGetV l a).2 < 0 ∨ (nameGetV l a).2 + 10 > l.length then hgZ else ((nameGetV l a).1, (getV l (nameGetV l a).2 2).1, (getV l ((nameGetV l a).2 + 2) 2).1, (getV l ((nameGetV l a).2 + 4) 4).1, (getV l ((nameGetV l a).2 + 8) 2).1, (nameGetV l a).2 + 10)
theorem hg_more {l : List Int} {m i : Nat} {s t R : HdV} (hs : Ev (fun k => hgStep k l i s) t) (h : if t.2.2.2.2.2 < 0 then R = hgZ else Ev (fun k => hgGo k l m (i + 1) t) R) : Ev (fun k => hgGo k l (m + 1) i s) R := by
  simp only [hgGo];refine Ev.bind hs ?_;by_cases hn : t.2.2.2.2.2 < 0
  · rw [if_pos hn] at h
    simp only [if_pos hn];rw [h]; exact Ev.now _
  · rw [if_neg hn] at h
    simp only [if_neg hn];exact h
theorem implHead (l : List Int) (hb : Bytes l) (hl : l.length ≤ 1048576) (a : Int) (a1 : a ≤ 9223372036854775807) : Ev (fun k => yf.f k l a) (headV l a) := by
  unfold yf.f;have hn := implNameGet l hb hl a a1;have he := nameGetV_end l a

  unfold headV;generalize nameGetV l a = q at hn he;obtain ⟨nm, q⟩ := q;simp only at he;have g2 : ∀ x : Int, 0 ≤ x → x ≤ 1048600 → Ev (fun k => qw.f k l x 2) (getV l x 2) := fun x h0 h1 => get_ev l hb (by omega) x 2 ⟨by omega, by omega⟩ ⟨by omega, by omega⟩
  have g4 : ∀ x : Int, 0 ≤ x → x ≤ 1048600 → Ev (fun k => qw.f k l x 4) (getV l x 4) := fun x h0 h1 => get_ev l hb (by omega) x 4 ⟨by omega, by omega⟩ ⟨by omega, by omega⟩
  refine hg_more (t := (nm, 0, 0, 0, 0, q)) (by
    show Ev (fun k => hgA k l ([], 0, 0, 0, 0, a)) _
    unfold hgA
    exact Ev.bind hn (Ev.now _)) ?_
  by_cases hq : q < 0
  · simp only [if_pos hq, if_pos (show q < 0 ∨ q + 10 > (l.length : Int) from Or.inl hq)]
  simp only [if_neg hq];have step : ∀ (x : Int) (n : Int), 0 ≤ x → (getV l x n).2 < 0 ∨ (getV l x n).2 = x + n := fun x n h0 => by unfold getV; split <;> simp
  -- the type
  refine hg_more (t := (nm, (getV l q 2).1, 0, 0, 0, (getV l q 2).2)) (by
    show Ev (fun k => hgB k l (nm, 0, 0, 0, 0, q)) _
    unfold hgB
    exact Ev.bind (g2 q (by omega) (by omega)) (Ev.now _)) ?_
  by_cases h1 : q + 2 > (l.length : Int)
  · rw [getV_out l q 2 (by omega)]
    simp only [if_pos (show (-1 : Int) < 0 by omega), if_pos (show q < 0 ∨ q + 10 > (l.length : Int) from Or.inr (by omega))]
  have e1 := getV_in l q 2 (by omega) (by omega);rw [e1];simp only [if_neg (show ¬ q + 2 < 0 by omega)]
  refine hg_more (t := (nm, (getV l q 2).1, (getV l (q + 2) 2).1, 0, 0, (getV l (q + 2) 2).2)) (by
    show Ev (fun k => hgC k l (nm, (getV l q 2).1, 0, 0, 0, q + 2)) _
    unfold hgC
    exact Ev.bind (g2 (q + 2) (by omega) (by omega)) (Ev.now _)) ?_
  by_cases h2 : q + 4 > (l.length : Int)
  · rw [getV_out l (q + 2) 2 (by omega)]
    simp only [if_pos (show (-1 : Int) < 0 by omega), if_pos (show q < 0 ∨ q + 10 > (l.length : Int) from Or.inr (by omega))]
  have e2 := getV_in l (q + 2) 2 (by omega) (by omega);rw [e2, show q + 2 + 2 = q + 4 by omega];simp only [if_neg (show ¬ q + 4 < 0 by omega)]
  refine hg_more (t := (nm, (getV l q 2).1, (getV l (q + 2) 2).1, (getV l (q + 4) 4).1, 0, (getV l (q + 4) 4).2)) (by
    show Ev (fun k => hgD k l (nm, (getV l q 2).1, (getV l (q + 2) 2).1, 0, 0, q + 4)) _
    unfold hgD
    exact Ev.bind (g4 (q + 4) (by omega) (by omega)) (Ev.now _)) ?_
  by_cases h3 : q + 8 > (l.length : Int)
  · rw [getV_out l (q + 4) 4 (by omega)]
    simp only [if_pos (show (-1 : Int) < 0 by omega), if_pos (show q < 0 ∨ q + 10 > (l.length : Int) from Or.inr (by omega))]
  have e3 := getV_in l (q + 4) 4 (by omega) (by omega);rw [e3, show q + 4 + 4 = q + 8 by omega];simp only [if_neg (show ¬ q + 8 < 0 by omega)]
  refine hg_more (t := (nm, (getV l q 2).1, (getV l (q + 2) 2).1, (getV l (q + 4) 4).1, (getV l (q + 8) 2).1, (getV l (q + 8) 2).2)) (by
    show Ev (fun k => hgE k l (nm, (getV l q 2).1, (getV l (q + 2) 2).1, (getV l (q + 4) 4).1, 0, q + 8)) _
    unfold hgE
    exact Ev.bind (g2 (q + 8) (by omega) (by omega)) (Ev.now _)) ?_
  by_cases h4 : q + 10 > (l.length : Int)
  · rw [getV_out l (q + 8) 2 (by omega)]
    simp only [if_pos (show (-1 : Int) < 0 by omega), if_pos (show q < 0 ∨ q + 10 > (l.length : Int) from Or.inr h4)]
  have e4 := getV_in l (q + 8) 2 (by omega) (by omega);rw [e4, show q + 8 + 2 = q + 10 by omega];simp only [if_neg (show ¬ q + 10 < 0 by omega), if_neg (show ¬ (q < 0 ∨ q + 10 > (l.length : Int)) by omega), hgGo];exact Ev.now _
theorem implRrGet (l : List Int) (hb : Bytes l) (hl : l.length ≤ 1048576) (a : Int) (a1 : a ≤ 9223372036854775807) : Ev (fun k => yl.f k l a) (rrGetV l a) := by
  unfold yl.f;refine Ev.bind (implHead l hb hl a a1) ?_;unfold headV rrGetV;have he := nameGetV_end l a;by_cases h1 : (nameGetV l a).2 < 0 ∨ (nameGetV l a).2 + 10 > l.length
  · simp only [if_pos h1]
    rw [if_pos (by rcases h1 with h | h; exact Or.inl h; exact Or.inr (Or.inl h))];simp only [hgZ, if_pos (show (-1 : Int) < 0 by omega)];exact Ev.now _
  simp only [if_neg h1, if_neg (show ¬ (nameGetV l a).2 + 10 < 0 by omega)];by_cases h2 : (getV l ((nameGetV l a).2 + 2) 2).1 = 1
  · simp only [if_pos h2]
    rw [if_neg (by omega)];have hk := getV_two_range l hb (nameGetV l a).2;have hd := implDataGet (getV l (nameGetV l a).2 2).1 l hb ((nameGetV l a).2 + 10) (getV l ((nameGetV l a).2 + 8) 2).1 ⟨by omega, by omega⟩ ⟨by omega, by omega⟩;have hty := dataGetV_ty (getV l (nameGetV l a).2 2).1 l ((nameGetV l a).2 + 10) (getV l ((nameGetV l a).2 + 8) 2).1;have hs := getV_two_range l hb ((nameGetV l a).2 + 8);refine Ev.bind hd ?_;generalize dataGetV (getV l (nameGetV l a).2 2).1 l ((nameGetV l a).2 + 10) (getV l ((nameGetV l a).2 + 8) 2).1 = D at hty;by_cases hok : D.2.2.2.2.2.2.2 = true
    · simp only [if_pos hok]
      have ht := (hty hok).1;refine Ev.bind (implRrOk _ _ _ _ _ _ _ ⟨by omega, by omega⟩) ?_;by_cases h3 : rrOkV (nameGetV l a).1 D.2.1 (getV l ((nameGetV l a).2 + 4) 4).1 D.2.2.2.1 D.2.2.2.2.1 D.2.2.2.2.2.1 D.2.2.2.2.2.2.1 = true
      · simp only [if_pos h3, if_pos (And.intro hok h3)]
        rw [w64 (x := (nameGetV l a).2 + 10 + (getV l ((nameGetV l a).2 + 8) 2).1) (by omega) (by omega)];exact Ev.now _
      · simp only [if_neg h3]
        rw [if_neg (fun c => h3 c.2)];exact Ev.now _
    · simp only [if_neg hok]
      rw [if_neg (fun c => hok c.1)];exact Ev.now _
  · simp only [if_neg h2]
    rw [if_pos (Or.inr (Or.inr h2))];exact Ev.now _
/-! ### the reference -/
theorem specRrGet (l : List Int) (hb : Bytes l) (a : Int) (ha : -9223372036854775808 ≤ a ∧ a ≤ 9223372036854775807) : Ev (fun k => zO.f k l a) (rrGetV l a) := by
  unfold zO.f;by_cases hl : (l.length : Int) > 512
  · simp only [if_pos hl]
    have e : rrGetV l a = rrZ := by unfold rrGetV nameGetV; rw [if_pos hl]; rfl
    rw [e]; exact Ev.now _
  simp only [if_neg hl];have he := nameGetV_end l a;have fN := nameGetV_fit l a;unfold rrGetV
  -- what l3read gives
  have key : ∀ W : RrW, Ev (fun k => zc.f k l a) W → ∀ R : RrV, (if W.2.2.2.2.2.2.2.2 < 0 ∨ W.2.2.2.2.2.2.2.1 ≠ 1 then R = rrZ else R = (W.1, W.2.1, W.2.2.1, W.2.2.2.1, W.2.2.2.2.1, W.2.2.2.2.2.1, W.2.2.2.2.2.2.1, W.2.2.2.2.2.2.2.2)) →
      Ev (fun k => (zc.f k l a).bind fun r => if r.2.2.2.2.2.2.2.2 < 0 ∨ r.2.2.2.2.2.2.2.1 ≠ 1 then some rrZ else some (r.1, r.2.1, r.2.2.1, r.2.2.2.1, r.2.2.2.2.1, r.2.2.2.2.2.1, r.2.2.2.2.2.2.1, r.2.2.2.2.2.2.2.2)) R := by
    intro W hW R hR;refine Ev.bind hW ?_;by_cases h : W.2.2.2.2.2.2.2.2 < 0 ∨ W.2.2.2.2.2.2.2.1 ≠ 1
    · rw [if_pos h] at hR; simp only [if_pos h]; rw [hR]; exact Ev.now _
    · rw [if_neg h] at hR; simp only [if_neg h]; rw [hR]; exact Ev.now _
  have zero : Ev (fun k => zc.f k l a) rwZ → ∀ R : RrV, R = rrZ → Ev (fun k => (zc.f k l a).bind fun r => if r.2.2.2.2.2.2.2.2 < 0 ∨ r.2.2.2.2.2.2.2.1 ≠ 1 then some rrZ else some (r.1, r.2.1, r.2.2.1, r.2.2.2.1, r.2.2.2.2.1, r.2.2.2.2.2.1, r.2.2.2.2.2.2.1, r.2.2.2.2.2.2.2.2)) R := by
    intro h R hR;refine key rwZ h R ?_;rw [if_pos (Or.inl (by decide))]; exact hR
  have hn := specL2getA l hb (by omega) a ha.1 ha.2;by_cases h1 : (nameGetV l a).2 < 0
  · refine zero ?_ _ (by rw [if_pos (Or.inl h1)])
    unfold zc.f;refine Ev.bind hn ?_;simp only [if_pos h1]; exact Ev.now _
  have g1 := specGet16 l hb (by omega) (nameGetV l a).2 ⟨by omega, by omega⟩;have g2 := specGet16 l hb (by omega) ((nameGetV l a).2 + 2) ⟨by omega, by omega⟩;have g3 := specGet32 l hb (by omega) ((nameGetV l a).2 + 4) ⟨by omega, by omega⟩;have g4 := specGet16 l hb (by omega) ((nameGetV l a).2 + 8) ⟨by omega, by omega⟩
  have unf : ∀ W : RrW, Ev (fun k => if (getV l (nameGetV l a).2 2).2 < 0 ∨ (getV l ((nameGetV l a).2 + 2) 2).2 < 0 ∨ (getV l ((nameGetV l a).2 + 4) 4).2 < 0 ∨ (getV l ((nameGetV l a).2 + 8) 2).2 < 0 then some rwZ else (jM.f (getV l (nameGetV l a).2 2).1).bind fun tok => if tok = true then (ql.f k (getV l (nameGetV l a).2 2).1 l (getV l ((nameGetV l a).2 + 8) 2).2 (getV l ((nameGetV l a).2 + 8) 2).1).bind fun d => if d.2.2.2.2.2.2.2 = true then (qZ.f k (nameGetV l a).1 d.2.1 (getV l ((nameGetV l a).2 + 4) 4).1 d.2.2.2.1 d.2.2.2.2.1 d.2.2.2.2.2.1 d.2.2.2.2.2.2.1).bind fun ok => if ok = true then some ((nameGetV l a).1, d.2.1, (getV l ((nameGetV l a).2 + 4) 4).1, d.2.2.2.1, d.2.2.2.2.1, d.2.2.2.2.2.1, d.2.2.2.2.2.2.1, (getV l ((nameGetV l a).2 + 2) 2).1, wrap64 ((getV l ((nameGetV l a).2 + 8) 2).2 + (getV l ((nameGetV l a).2 + 8) 2).1)) else some rwZ else some rwZ else some rwZ) W → Ev (fun k => zc.f k l a) W := by
    intro W hW;unfold zc.f;refine Ev.bind hn ?_;simp only [if_neg h1, w64 (x := (nameGetV l a).2 + 2) (by omega) (by omega), w64 (x := (nameGetV l a).2 + 4) (by omega) (by omega), w64 (x := (nameGetV l a).2 + 8) (by omega) (by omega), g1, g2, g3, g4, Option.bind_some];exact hW
  by_cases h2 : (nameGetV l a).2 + 10 > l.length
  · refine zero (unf _ ?_) _ (by rw [if_pos (Or.inr (Or.inl h2))])
    rw [getV_out l ((nameGetV l a).2 + 8) 2 (by omega)];simp only [if_pos (show (getV l (nameGetV l a).2 2).2 < 0 ∨ (getV l ((nameGetV l a).2 + 2) 2).2 < 0 ∨ (getV l ((nameGetV l a).2 + 4) 4).2 < 0 ∨ (-1 : Int) < 0 from Or.inr (Or.inr (Or.inr (by omega))))];exact Ev.now _
  have e1 := getV_in l (nameGetV l a).2 2 (by omega) (by omega);have e2 := getV_in l ((nameGetV l a).2 + 2) 2 (by omega) (by omega);have e3 := getV_in l ((nameGetV l a).2 + 4) 4 (by omega) (by omega);have e4 := getV_in l ((nameGetV l a).2 + 8) 2 (by omega) (by omega);have e5 : (nameGetV l a).2 + 8 + 2 = (nameGetV l a).2 + 10 := by omega
  rw [e1, e2, e3, e4, e5] at unf;simp only [if_neg (show ¬ ((nameGetV l a).2 + 2 < 0 ∨ (nameGetV l a).2 + 2 + 2 < 0 ∨ (nameGetV l a).2 + 4 + 4 < 0 ∨ (nameGetV l a).2 + 10 < 0) by omega), specTypeOk, Option.bind_some] at unf;have hs := getV_two_range l hb ((nameGetV l a).2 + 8);by_cases ht : typeOkV (getV l (nameGetV l a).2 2).1 = true
  · simp only [if_pos ht] at unf
    have hL := specL3W (getV l (nameGetV l a).2 2).1 l hb (by omega) ((nameGetV l a).2 + 10) (getV l ((nameGetV l a).2 + 8) 2).1 ⟨by omega, by omega⟩ hs ht;rw [dataGetW_eq _ l (by omega) _ _ (by omega) hs.1 ht] at hL;obtain ⟨_, fD, _, _⟩ := dataGetV_fit (getV l (nameGetV l a).2 2).1 l ((nameGetV l a).2 + 10) (getV l ((nameGetV l a).2 + 8) 2).1;generalize dataGetV (getV l (nameGetV l a).2 2).1 l ((nameGetV l a).2 + 10) (getV l ((nameGetV l a).2 + 8) 2).1 = D at hL fD;by_cases hok : D.2.2.2.2.2.2.2 = true
    · by_cases h3 : rrOkV (nameGetV l a).1 D.2.1 (getV l ((nameGetV l a).2 + 4) 4).1 D.2.2.2.1 D.2.2.2.2.1 D.2.2.2.2.2.1 D.2.2.2.2.2.2.1 = true
      · refine key ((nameGetV l a).1, D.2.1, (getV l ((nameGetV l a).2 + 4) 4).1, D.2.2.2.1, D.2.2.2.2.1, D.2.2.2.2.2.1, D.2.2.2.2.2.2.1, (getV l ((nameGetV l a).2 + 2) 2).1, (nameGetV l a).2 + 10 + (getV l ((nameGetV l a).2 + 8) 2).1) (unf _ (Ev.bind (l3_true hL hok) ?_)) _ ?_
        · simp only [if_pos hok]
          refine Ev.bind (specRrOk _ _ _ _ _ _ _ fN fD) ?_;simp only [if_pos h3];rw [w64 (x := (nameGetV l a).2 + 10 + (getV l ((nameGetV l a).2 + 8) 2).1) (by omega) (by omega)];exact Ev.now _
        · by_cases hc : (getV l ((nameGetV l a).2 + 2) 2).1 = 1
          · rw [if_neg (by simp only [hc]; omega), if_neg (by omega), if_pos ⟨hok, h3⟩]
          · rw [if_pos (Or.inr hc), if_pos (Or.inr (Or.inr hc))]
      · refine zero (unf _ (Ev.bind (l3_true hL hok) ?_)) _ ?_
        · simp only [if_pos hok]
          refine Ev.bind (specRrOk _ _ _ _ _ _ _ fN fD) ?_;simp only [if_neg h3]; exact Ev.now _
        · split
          · rfl
          · rw [if_neg (fun c => h3 c.2)]
    · refine zero (unf _ (l3_false hL (by simpa using hok) (fun k d => (qZ.f k (nameGetV l a).1 d.2.1 (getV l ((nameGetV l a).2 + 4) 4).1 d.2.2.2.1 d.2.2.2.2.1 d.2.2.2.2.2.1 d.2.2.2.2.2.2.1).bind fun ok => if ok = true then some ((nameGetV l a).1, d.2.1, (getV l ((nameGetV l a).2 + 4) 4).1, d.2.2.2.1, d.2.2.2.2.1, d.2.2.2.2.2.1, d.2.2.2.2.2.2.1, (getV l ((nameGetV l a).2 + 2) 2).1, wrap64 ((nameGetV l a).2 + 10 + (getV l ((nameGetV l a).2 + 8) 2).1)) else some rwZ))) _ ?_
      split
      · rfl
      · rw [if_neg (fun c => hok c.1)]
  · simp only [if_neg ht] at unf
    refine zero (unf _ (Ev.now _)) _ ?_;split
    · rfl
    · rw [if_neg (fun c => ht (dataGetV_ty _ _ _ _ c.1).2)]
/-! ### the marks -/
theorem qkP {n : List (List Int)} (h : n = [] ∨ qq.v n = true) : lens n ≤ 90 := by
  rcases h with rfl | h
  · simp [lens]
  · have h2 := nameOk_len h
    have := lens_le n 15 (fun x hx => (h2.2 x hx).2.1);omega
theorem rrGetV_fit (l : List Int) (a : Int) : ((rrGetV l a).1 = [] ∨ qq.v (rrGetV l a).1 = true) ∧ ((rrGetV l a).2.2.2.2.1 = [] ∨ qq.v (rrGetV l a).2.2.2.2.1 = true) ∧ (rrGetV l a).2.2.2.2.2.1.length ≤ 40 ∧ (rrGetV l a).2.2.2.2.2.2.1.length ≤ 2 := by
  have z : (rrZ.1 = [] ∨ qq.v rrZ.1 = true) ∧ (rrZ.2.2.2.2.1 = [] ∨ qq.v rrZ.2.2.2.2.1 = true) ∧ rrZ.2.2.2.2.2.1.length ≤ 40 ∧ rrZ.2.2.2.2.2.2.1.length ≤ 2 := ⟨.inl rfl, .inl rfl, by simp [rrZ], by simp [rrZ]⟩;unfold rrGetV;split
  · exact z
  split
  · rename_i hc
    obtain ⟨_, h⟩ := hc;unfold rrOkV at h;simp only [Bool.and_eq_true] at h;obtain ⟨h1, _, _, _, h5, h6, h7⟩ := h;refine ⟨.inr h1, ?_, ?_, ?_⟩
    · unfold toV at h5
      split at h5
      · exact .inr h5
      · exact .inl (List.eq_nil_of_length_eq_zero (of_decide_eq_true h5))
    · unfold textV at h6
      split at h6
      · exact of_decide_eq_true h6
      · have h6 := of_decide_eq_true h6; simp only; omega
    · unfold numsV at h7
      split at h7
      · have h7 := of_decide_eq_true h7; simp only; omega
      · have h7 := of_decide_eq_true h7; simp only; omega
  · exact z
/-- The walk, with what it computes told. -/
theorem FnExactRrGet (A : Option Addr) (c : Nat) (b : List Int) (a : Int) (w : World) (hr : Kd.C (Kd.int .u8) w A b.length b) (hc : b.length ≤ c) (hb : Bytes b) (ha : -9223372036854775808 ≤ a ∧ a ≤ 9223372036854775807) :
    Calls Try.prog 6 #[.slice A b.length c, .int .i64 a] w fun e w' => e = .returned (.bool true) ∧ Below w.heap.size w w' := by
  by_cases hl : b.length ≤ 1048576
  · obtain ⟨n1, h1⟩ := toByteS b (by omega)
    obtain ⟨n2, h2⟩ := specRrGet b hb a ha;obtain ⟨n3, h3⟩ := implRrGet b hb hl a ha.2;obtain ⟨f1, f2, f3, f4⟩ := rrGetV_fit b a;generalize rrGetV b a = R at h2 h3 f1 f2 f3 f4;obtain ⟨nm, ty, tl, ad, dst, tx, nu, nx⟩ := R;simp only at f1 f2 f3 f4;have fn := fit_of f1;have fd := fit_of f2;have l1 := qkP f1;have l2 := qkP f2;obtain ⟨n4, h4⟩ := eqRr nm ty tl ad dst tx nu fn fd (by omega) (by omega);obtain ⟨n5, h5⟩ := eqByteS b (by omega);obtain ⟨n6, h6⟩ := markByteS b 1 (by omega) (by omega) (by omega)
    have hheld : Ev (fun k => zT.f k (JG nm) ty tl ad (JF nm dst) (Jp nm dst tx) (Jo nm dst tx nu) 1) (1 + (qj.n nm dst tx nu : Int)) := by
      unfold zT.f JG JF Jp Jo;simp only [sum_lens];have e : 1 + (qj.n nm dst tx nu : Int) = 1 + (lens nm : Int) + (lens dst : Int) + (tx.length : Int) + (nu.length : Int) := by unfold qj.n; simp only [sum_lens]; omega
      rw [e];refine Ev.bind (heldName nm 1 (by omega) (by omega) fn) ?_;simp only [if_neg (show ¬ ((1 : Int) + (lens nm : Int) < 0) by omega)];refine Ev.bind (heldName dst (1 + (lens nm : Int)) (by omega) (by omega) fd) ?_;simp only [if_neg (show ¬ ((1 : Int) + (lens nm : Int) + (lens dst : Int) < 0) by omega)];refine Ev.bind (heldByteS (1 + (lens nm : Int) + (lens dst : Int)) (by omega) (by omega) tx.length (by omega)) ?_;simp only [if_neg (show ¬ ((1 : Int) + (lens nm : Int) + (lens dst : Int) + (tx.length : Int) < 0) by omega)];refine Ev.bind (heldInts (1 + (lens nm : Int) + (lens dst : Int) + (tx.length : Int)) nu.length (by omega) (by omega)) ?_;simp only [if_neg (show ¬ ((1 : Int) + (lens nm : Int) + (lens dst : Int) + (tx.length : Int) + (nu.length : Int) < 0) by omega)];exact Ev.now _
    obtain ⟨n7, h7⟩ := hheld;have hmk : qj.n nm dst tx nu ≤ 8000000 := by unfold qj.n; simp only [sum_lens]; omega
    exact rrget_law (n1 + n2 + n3 + n4 + n5 + n6 + n7) A c b a w hr hc hl nm ty tl ad dst tx nu nx (marks 1 b.length) (h1 _ (by omega)) (h2 _ (by omega)) (h3 _ (by omega)) (h4 _ (by omega)) (h5 _ (by omega)) (h6 _ (by omega)) hmk (h7 _ (by omega))
      ⟨qd.all_len _ _, qd.all_len _ _, by simp [Jp, qd.mk], by simp [Jo, qj.mkI_len]⟩
  · exact rrget_big A c b a w hl
end Go.Proofs.Ytagedmajlppohaa.Pure

