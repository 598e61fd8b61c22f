/- Plain lemmas for the statement FnExactDotted. -/
import Derived.Test.YtkmchjdioplfjaaDoorZFnExactDotted0
/- Plain lemmas on the printed functions: a list of bytes read into a new one, two lists compared, a number read from bytes. -/
namespace Go.Proofs.YtkmchjdioplfjaaDoor.Pure
open Go Go.RowKit Go.Proofs.YtkmchjdioplfjaaDoor.Q Go.Proofs.YtkmchjdioplfjaaDoorW.PrintWords Go.Proofs.YtkmchjdioplfjaaDoorW.PrintLast Go.Proofs.YtkmchjdioplfjaaDoorW.PrintMore
set_option linter.unusedVariables false
set_option linter.unusedSimpArgs false

theorem w64 {x : Int} (h1 : -9223372036854775808 ≤ x) (h2 : x ≤ 9223372036854775807) : wrap64 x = x := by
  unfold wrap64; omega
theorem eqByteS_l0 (l : List Int) (hl : l.length ≤ 140737488351232) (m : Nat) : ∀ (i : Nat), l.length = i + m →
    Ev (fun k => laws_eqByteS.l0 k l l i) true := by
  induction m with
  | zero =>
    intro i hi
    refine Ev.step (f := fun _ => some true) (fun k => ?_) (Ev.now _)
    simp only [laws_eqByteS.l0]
    rw [if_neg (by omega)]
  | succ m ih =>
    intro i hi
    refine Ev.step (fun k => ?_) (ih (i+1) (by omega))
    simp only [laws_eqByteS.l0]
    rw [if_pos (by omega), if_pos (by omega), if_pos (by omega), if_pos trivial, w64 (by omega) (by omega)]
    rfl
theorem eqByteS (l : List Int) (hl : l.length ≤ 140737488351232) : Ev (fun k => laws_eqByteS.f k l l) true := by
  unfold laws_eqByteS.f
  simp only [if_pos]
  exact eqByteS_l0 l hl l.length 0 (by omega)

end Go.Proofs.YtkmchjdioplfjaaDoor.Pure

/- Plain lemmas on the printed functions: marks laid over a list of bytes, and found again; two lists compared; Put, Take. -/
namespace Go.Proofs.YtkmchjdioplfjaaDoor.Pure
open Go Go.RowKit Go.Proofs.YtkmchjdioplfjaaDoor.Q Go.Proofs.YtkmchjdioplfjaaDoorW.PrintWords Go.Proofs.YtkmchjdioplfjaaDoorW.PrintLast Go.Proofs.YtkmchjdioplfjaaDoorW.PrintMore
set_option linter.unusedVariables false
set_option linter.unusedSimpArgs false

/-- n marks from a on. -/
def marks (a : Int) (n : Nat) : List Int := (List.range n).map fun (i : Nat) => (a + (i : Int)) % 256
theorem marks_len (a : Int) (n : Nat) : (marks a n).length = n := by simp [marks]
theorem marks_rd (a : Int) (n i : Nat) (h : i < n) : rd (marks a n) (i : Int) = (a + i) % 256 := by
  simp [rd, marks, List.getD_eq_getElem?_getD, h]
theorem marks_succ (a : Int) (i : Nat) : marks a (i + 1) = marks a i ++ [(a + i) % 256] := by simp [marks, List.range_succ]
theorem mark_l0 (l : List Int) (a : Int) (h0 : 0 ≤ a) (h1 : a ≤ 1099511627776) (hl : l.length ≤ 140737488351232) (m : Nat) : ∀ (i : Nat), l.length = i + m →
    Ev (fun k => laws_markByteS.l0 k (marks a i ++ l.drop i) (a + i) i) (a + l.length, marks a l.length) := by
  induction m with
  | zero =>
    intro i hi
    refine Ev.step (f := fun _ => some (a + l.length, marks a l.length)) (fun k => ?_) (Ev.now _)
    simp only [laws_markByteS.l0]
    rw [List.length_append, marks_len, List.length_drop, if_neg (by omega), List.drop_of_length_le (by omega), List.append_nil, show i = l.length by omega]
  | succ m ih =>
    intro i hi
    refine Ev.step (fun k => ?_) (ih (i + 1) (by omega))
    simp only [laws_markByteS.l0]
    rw [List.length_append, marks_len, List.length_drop, if_pos (by omega), if_pos (by omega), w64 (show -9223372036854775808 ≤ a + i + 1 by omega) (by omega), w64 (show -9223372036854775808 ≤ (i : Int) + 1 by omega) (by omega)]
    rw [show ((i : Int)).toNat = i by omega, List.set_append_right _ _ (by rw [marks_len]; omega), marks_len, Nat.sub_self, List.drop_eq_getElem_cons (show i < l.length by omega), List.set_cons_zero, marks_succ, List.append_assoc, List.singleton_append]
    rw [show a + (i : Int) + 1 = a + ((i + 1 : Nat) : Int) by omega, show (i : Int) + 1 = ((i + 1 : Nat) : Int) by omega]
theorem markByteS (l : List Int) (a : Int) (h0 : 0 ≤ a) (h1 : a ≤ 1099511627776) (hl : l.length ≤ 140737488351232) : Ev (fun k => laws_markByteS.f k l a) (a + l.length, marks a l.length) := by
  have := mark_l0 l a h0 h1 hl l.length 0 (by omega)
  simpa [laws_markByteS.f, marks] using this
theorem held_l0 (a : Int) (h0 : 0 ≤ a) (h1 : a ≤ 1099511627776) (n : Nat) (hl : n ≤ 140737488351232) (m : Nat) : ∀ (i : Nat), n = i + m →
    Ev (fun k => laws_heldByteS.l0 k (marks a n) (a + i) i) (a + n) := by
  induction m with
  | zero =>
    intro i hi
    refine Ev.step (f := fun _ => some (a + n)) (fun k => ?_) (Ev.now _)
    simp only [laws_heldByteS.l0]
    rw [marks_len, if_neg (by omega), show i = n by omega]
  | succ m ih =>
    intro i hi
    refine Ev.step (fun k => ?_) (ih (i + 1) (by omega))
    simp only [laws_heldByteS.l0]
    rw [marks_len, if_pos (by omega), if_pos (by omega), marks_rd a n i (by omega), if_pos rfl, w64 (show -9223372036854775808 ≤ a + i + 1 by omega) (by omega), w64 (show -9223372036854775808 ≤ (i : Int) + 1 by omega) (by omega)]
    rw [show a + (i : Int) + 1 = a + ((i + 1 : Nat) : Int) by omega, show (i : Int) + 1 = ((i + 1 : Nat) : Int) by omega]
theorem heldByteS (a : Int) (h0 : 0 ≤ a) (h1 : a ≤ 1099511627776) (n : Nat) (hl : n ≤ 140737488351232) : Ev (fun k => laws_heldByteS.f k (marks a n) a) (a + n) := by
  have := held_l0 a h0 h1 n hl n 0 (by omega)
  simpa [laws_heldByteS.f] using this
end Go.Proofs.YtkmchjdioplfjaaDoor.Pure

/- The statement FnExactDotted: at every whole number the reference and the program tell the same address in dots, their caller's own. The row's listed tables of the library are tied to the program's text by the card. -/
namespace Go.Proofs.YtkmchjdioplfjaaDoor.Pure
open Go Go.RowKit Go.Proofs.YtkmchjdioplfjaaDoor.Q Go.Proofs.YtkmchjdioplfjaaDoorW.PrintWords Go.Proofs.YtkmchjdioplfjaaDoorW.PrintLast
set_option linter.unusedVariables false
def digL (c : Int) : List Int := (Lib.itoa c).map fun b => (b.toNat : Int)
theorem and255 (n : Int) : Go.bits .and .i64 n 255 = n % 256 := by
  have h255 : (BitVec.ofInt 64 255).toNat = 2 ^ 8 - 1 := by decide
  have key : (BitVec.ofInt 64 n &&& BitVec.ofInt 64 255).toNat = (n % ((2 ^ 64 : Nat) : Int)).toNat % 2 ^ 8 := by
    rw [BitVec.toNat_and, BitVec.toNat_ofInt, h255, Nat.and_two_pow_sub_one_eq_mod]
  show IntKind.i64.wrap ((BitVec.ofInt 64 n &&& BitVec.ofInt 64 255).toNat : Nat) = n % 256
  rw [key, IntKind.wrap_i64]
  omega
theorem u8_dig (u : Nat) (h : u < 10) : ((UInt8.ofNat (48 + u)).toNat : Int) = 48 + u := by
  rw [UInt8.toNat_ofNat']
  omega
def decL (u : Nat) : List Int := (Lib.decDigits u).map fun b => (b.toNat : Int)
theorem decL_one (u : Nat) (h : u < 10) : decL u = [48 + (u : Int)] := by
  unfold decL
  rw [Lib.decDigits, dif_pos h]
  simp only [List.map_cons, List.map_nil, u8_dig u h]
theorem decL_more (u : Nat) (h : ¬ u < 10) : decL u = decL (u / 10) ++ [48 + ((u % 10 : Nat) : Int)] := by
  unfold decL
  rw [Lib.decDigits, dif_neg h]
  simp only [List.map_append, List.map_cons, List.map_nil, u8_dig (u % 10) (by omega)]
theorem digits_one (k u : Nat) (h : u < 10) : spec_l1digits.f (k + 1) (u : Int) = some (decL u) := by
  simp only [spec_l1digits.f]
  rw [if_pos (by omega), decL_one u h, w64 (by omega) (by omega)]
  congr 2
  omega
theorem digits_more (k u : Nat) (h : ¬ u < 10) (hu : u < 1000000) (hk : spec_l1digits.f k ((u / 10 : Nat) : Int) = some (decL (u / 10))) (hl : (decL (u / 10)).length < 1000) : spec_l1digits.f (k + 1) (u : Int) = some (decL u) := by
  simp only [spec_l1digits.f]
  have e1 : Int.tdiv (u : Int) 10 = ((u / 10 : Nat) : Int) := by rw [Int.tdiv_eq_ediv_of_nonneg (by omega)]; omega
  have e2 : Int.tmod (u : Int) 10 = ((u % 10 : Nat) : Int) := by rw [Int.tmod_eq_emod_of_nonneg (by omega)]; omega
  rw [if_neg (by omega), e1, e2, w64 (by omega) (by omega), hk, Option.bind_some, if_pos (by omega), decL_more u h, w64 (by omega) (by omega)]
  congr 3
  omega
theorem digits_3 (u : Nat) (h : u ≤ 255) : spec_l1digits.f 3 (u : Int) = some (decL u) ∧ (decL u).length ≤ 3 := by
  by_cases h1 : u < 10
  · exact ⟨digits_one 2 u h1, by rw [decL_one u h1]; simp⟩
  · by_cases h2 : u / 10 < 10
    · exact ⟨digits_more 2 u h1 (by omega) (digits_one 1 _ h2) (by rw [decL_one _ h2]; simp), by rw [decL_more u h1, decL_one _ h2]; simp⟩
    · have h3 : u / 10 / 10 < 10 := by omega
      have l2 : decL (u / 10) = decL (u / 10 / 10) ++ [48 + ((u / 10 % 10 : Nat) : Int)] := decL_more _ h2
      exact ⟨digits_more 2 u h1 (by omega) (digits_more 1 _ h2 (by omega) (digits_one 0 _ h3) (by rw [decL_one _ h3]; simp)) (by rw [l2, decL_one _ h3]; simp), by rw [decL_more u h1, l2, decL_one _ h3]; simp⟩
theorem digL_dec (c : Int) (h : 0 ≤ c) : digL c = decL c.toNat := by
  unfold digL decL Lib.itoa
  rw [if_neg (by omega)]
theorem digits_ev (c : Int) (h0 : 0 ≤ c) (h1 : c ≤ 255) : Ev (fun k => spec_l1digits.f k c) (digL c) := by
  refine ⟨3, fun k hk => ?_⟩
  have h := (digits_3 c.toNat (by omega)).1
  rw [Int.toNat_of_nonneg h0] at h
  rw [digL_dec c h0]
  have : ∀ m, spec_l1digits.f (3 + m) c = some (decL c.toNat) := fun m => by
    induction m with
    | zero => exact h
    | succ m ih => exact spec_l1digits.mono c (3 + m) _ ih
  have := this (k - 3)
  rwa [show 3 + (k - 3) = k by omega] at this
theorem digL_len (c : Int) (h0 : 0 ≤ c) (h1 : c ≤ 255) : (digL c).length ≤ 3 := by
  rw [digL_dec c h0]
  exact (digits_3 c.toNat (by omega)).2
theorem dotV_list (x : Int) (h : 0 ≤ x ∧ x < 4294967296) : dotV x = digL (x / 16777216 % 256) ++ 46 :: (digL (x / 65536 % 256) ++ 46 :: (digL (x / 256 % 256) ++ 46 :: digL (x % 256))) := by
  unfold dotV
  rw [if_pos h]
  unfold strBytes
  rw [dot_list]
  simp [digL]
theorem dotV_len (x : Int) : (dotV x).length ≤ 15 := by
  by_cases h : 0 ≤ x ∧ x < 4294967296
  · rw [dotV_list x h]
    have a := digL_len (x / 16777216 % 256) (by omega) (by omega)
    have b := digL_len (x / 65536 % 256) (by omega) (by omega)
    have c := digL_len (x / 256 % 256) (by omega) (by omega)
    have d := digL_len (x % 256) (by omega) (by omega)
    simp only [List.length_append, List.length_cons]
    omega
  · unfold dotV
    rw [if_neg h]
    simp
theorem byte_at (x : Int) (i : Nat) (hi : i ≤ 3) : Go.bits .and .i64 (shr .i64 x (8 * (i : Int))) 255 = x / 2 ^ (8 * i) % 256 := by
  rw [and255]
  unfold shr
  rw [show (8 * (i : Int)).toNat = 8 * i by omega, Nat.min_eq_left (by simp [IntKind.bits]; omega)]
theorem dotted_more (x : Int) (i : Nat) (hi : i ≤ 2) (acc r : List Int) (hl : acc.length ≤ 100) (h : Ev (fun k => spec_l1dotted.l0 k x (acc ++ digL (x / 2 ^ (8 * (i + 1)) % 256) ++ [46]) (i : Int)) r) : Ev (fun k => spec_l1dotted.l0 k x acc ((i + 1 : Nat) : Int)) r := by
  have hb := byte_at x (i + 1) (by omega)
  have hd := digits_ev (x / 2 ^ (8 * (i + 1)) % 256) (by omega) (by omega)
  have hn := digL_len (x / 2 ^ (8 * (i + 1)) % 256) (by omega) (by omega)
  generalize x / 2 ^ (8 * (i + 1)) % 256 = c at hb hd hn h
  refine Ev.step (f := fun k => (spec_l1digits.f k c).bind fun t => if acc.length + t.length < 140737488355328 then ((some (acc ++ t : List Int)).bind fun y104 => (if ((i + 1 : Nat) : Int) > 0 then (if y104.length < 140737488355328 then (spec_l1dotted.l0 k x (y104 ++ [46]) (wrap64 (((i + 1 : Nat) : Int) - 1))) else (none)) else (spec_l1dotted.l0 k x y104 (wrap64 (((i + 1 : Nat) : Int) - 1))))) else none) (fun k => ?_) ?_
  · simp only [spec_l1dotted.l0]
    rw [if_pos (by omega), w64 (show -9223372036854775808 ≤ 8 * ((i + 1 : Nat) : Int) by omega) (by omega), if_pos (by omega), hb]
  · refine Ev.bind hd ?_
    simp only [if_pos (show acc.length + (digL c).length < 140737488355328 by omega), Option.bind_some, if_pos (show ((i + 1 : Nat) : Int) > 0 by omega), if_pos (show (acc ++ digL c).length < 140737488355328 by rw [List.length_append]; omega), show ((i + 1 : Nat) : Int) - 1 = (i : Int) by omega, w64 (show -9223372036854775808 ≤ (i : Int) by omega) (by omega)]
    exact h
theorem dotted_last (x : Int) (acc : List Int) (hl : acc.length ≤ 100) : Ev (fun k => spec_l1dotted.l0 k x acc 0) (acc ++ digL (x % 256)) := by
  have hb := byte_at x 0 (by omega)
  have hd := digits_ev (x % 256) (by omega) (by omega)
  have hn := digL_len (x % 256) (by omega) (by omega)
  rw [show x / 2 ^ (8 * 0) % 256 = x % 256 by simp] at hb
  generalize x % 256 = c at hb hd hn ⊢
  refine Ev.step (f := fun k => (spec_l1digits.f k c).bind fun t => if acc.length + t.length < 140737488355328 then ((some (acc ++ t : List Int)).bind fun y104 => (spec_l1dotted.l0 k x y104 (-1))) else none) (fun k => ?_) ?_
  · simp only [spec_l1dotted.l0]
    rw [if_pos (by omega), w64 (show -9223372036854775808 ≤ 8 * (0 : Int) by omega) (by omega), if_pos (by omega)]
    rw [show (8 * (0 : Int)) = 8 * ((0 : Nat) : Int) from rfl, hb, w64 (show -9223372036854775808 ≤ (0 : Int) - 1 by omega) (by omega)]
    rfl
  · refine Ev.bind hd ?_
    simp only [if_pos (show acc.length + (digL c).length < 140737488355328 by omega), Option.bind_some]
    refine Ev.step (f := fun _ => some (acc ++ digL c)) (fun k => ?_) (Ev.now _)
    simp only [spec_l1dotted.l0]
    rw [if_neg (by omega)]
theorem specDotted (x : Int) : Ev (fun k => spec_Dotted.f k x) (dotV x) := by
  unfold spec_Dotted.f
  by_cases h1 : x < 0
  · simp only [if_pos h1]
    rw [show dotV x = [] by unfold dotV; rw [if_neg (by omega)]]
    exact Ev.now _
  · simp only [if_neg h1]
    by_cases h2 : x ≥ 4294967296
    · simp only [if_pos h2]
      rw [show dotV x = [] by unfold dotV; rw [if_neg (by omega)]]
      exact Ev.now _
    · simp only [if_neg h2]
      refine Ev.bind (a := dotV x) ?_ (Ev.now _)
      unfold spec_l1dotted.f
      have a := digL_len (x / 16777216 % 256) (by omega) (by omega)
      have b := digL_len (x / 65536 % 256) (by omega) (by omega)
      have c := digL_len (x / 256 % 256) (by omega) (by omega)
      refine dotted_more x 2 (by omega) [] _ (by simp) ?_
      refine dotted_more x 1 (by omega) _ _ (by simp; omega) ?_
      refine dotted_more x 0 (by omega) _ _ (by simp; omega) ?_
      have h := dotted_last x (([] ++ digL (x / 2 ^ (8 * (2 + 1)) % 256) ++ [46]) ++ digL (x / 2 ^ (8 * (1 + 1)) % 256) ++ [46] ++ digL (x / 2 ^ (8 * (0 + 1)) % 256) ++ [46]) (by simp; omega)
      rw [dotV_list x (by omega)]
      simpa using h
theorem FnExactDotted : laws_FnExactDotted.Pure := by
  intro x hx
  apply Ev.rounds
  unfold laws_FnExactDotted.f impl_Dotted.f
  have hs := specDotted x
  have hlen := dotV_len x
  generalize dotV x = v at hs hlen ⊢
  simp only [Option.bind_some]
  refine Ev.bind hs ?_
  refine Ev.bind (eqByteS _ (by omega)) ?_
  simp only [if_true]
  refine Ev.bind (markByteS _ 1 (by omega) (by omega) (by omega)) ?_
  refine Ev.bind (heldByteS 1 (by omega) (by omega) _ (by omega)) ?_
  simp only [if_neg (show ¬ (1 + (v.length : Int) < 0) by omega), if_true]
  refine Ev.bind (eqByteS _ (by omega)) ?_
  simp only [if_true]
  refine Ev.bind (heldByteS 1 (by omega) (by omega) _ (by omega)) ?_
  simp only [if_neg (show ¬ (1 + (v.length : Int) < 0) by omega), if_true]
  exact Ev.now _
end Go.Proofs.YtkmchjdioplfjaaDoor.Pure

