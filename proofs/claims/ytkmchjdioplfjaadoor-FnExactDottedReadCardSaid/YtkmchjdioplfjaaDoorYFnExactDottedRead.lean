/- Plain lemmas for the statement FnExactDottedRead. -/
import Derived.Test.YtkmchjdioplfjaaDoorZFnExactDottedRead0
import Derived.Lib.Split
import Derived.Lib.SplitLaws
import Derived.Lib.Atoi
import Derived.Lib.ItoaNum
/- Rows of bytes cut at dots, and numbers of at most three digits: plain laws, of no program. -/
namespace Go.Proofs.YtkmchjdioplfjaaDoor.Pure
open Go
set_option linter.unusedVariables false
theorem idx_dot (x r : List UInt8) (h : ∀ b ∈ x, b ≠ 46) : Lib.index (x ++ 46 :: r) [46] = (x.length : Int) := by
  induction x with
  | nil => simp [Lib.index, List.isPrefixOf]
  | cons b x ih =>
    have hb : b ≠ 46 := h b (by simp)
    have hi := ih fun y hy => h y (by simp [hy])
    have hp : ([46] : List UInt8).isPrefixOf (b :: (x ++ 46 :: r)) = false := by simp [List.isPrefixOf, Ne.symm hb]
    rw [List.cons_append, Lib.index, hp, hi]
    rw [if_neg (by decide), if_neg (by rw [beq_iff_eq]; omega)]
    simp
theorem split_dot (x r : List UInt8) (k : Nat) (h : ∀ b ∈ x, b ≠ 46) : Lib.splitK [46] 0 (k + 1) (x ++ 46 :: r) = x :: Lib.splitK [46] 0 k r := by
  have e := idx_dot x r h
  rw [Lib.splitK, if_neg (by rw [e, beq_iff_eq]; omega), e]
  simp
theorem count_none (x : List UInt8) (h : ∀ b ∈ x, b ≠ 46) : x.count 46 = 0 := List.count_eq_zero.2 fun hm => h 46 hm rfl
/-- Four parts with dots between: cut, they come back. -/
theorem split_four (a b c d : List UInt8) (ha : ∀ x ∈ a, x ≠ 46) (hb : ∀ x ∈ b, x ≠ 46) (hc : ∀ x ∈ c, x ≠ 46) (hd : ∀ x ∈ d, x ≠ 46) :
    Lib.splitK [46] 0 (Lib.count (a ++ 46 :: (b ++ 46 :: (c ++ 46 :: d))) [46]) (a ++ 46 :: (b ++ 46 :: (c ++ 46 :: d))) = [a, b, c, d] := by
  have e : Lib.count (a ++ 46 :: (b ++ 46 :: (c ++ 46 :: d))) [46] = 3 := by
    rw [Lib.count_one]
    simp only [List.count_append, List.count_cons_self, count_none a ha, count_none b hb, count_none c hc, count_none d hd]
  rw [e, split_dot a _ 2 ha, split_dot b _ 1 hb, split_dot c _ 0 hc]
  rfl
def d3 (u : Nat) : List UInt8 := if u < 10 then [UInt8.ofNat (48 + u)] else if u < 100 then [UInt8.ofNat (48 + u / 10), UInt8.ofNat (48 + u % 10)] else [UInt8.ofNat (48 + u / 100), UInt8.ofNat (48 + u / 10 % 10), UInt8.ofNat (48 + u % 10)]
theorem d3_eq (u : Nat) (h : u < 1000) : Lib.decDigits u = d3 u := by
  unfold d3
  by_cases h1 : u < 10
  · rw [if_pos h1, Lib.decDigits, dif_pos h1]
  · rw [if_neg h1, Lib.decDigits, dif_neg h1]
    by_cases h2 : u < 100
    · rw [if_pos h2, Lib.decDigits, dif_pos (by omega)]; rfl
    · rw [if_neg h2, Lib.decDigits, dif_neg (by omega), Lib.decDigits, dif_pos (by omega), Nat.div_div_eq_div_mul]; rfl
theorem d3_atoi : ∀ u : Fin 256, Lib.atoi (d3 u.val) = some (u.val : Int) := by decide +kernel
theorem d3_dot : ∀ u : Fin 256, ∀ b ∈ d3 u.val, b ≠ 46 := by decide +kernel
theorem itoa_small (c : Int) (h0 : 0 ≤ c) (h1 : c ≤ 255) : Lib.atoi (Lib.itoa c) = some c ∧ ∀ b ∈ Lib.itoa c, b ≠ 46 := by
  have e : Lib.itoa c = d3 c.toNat := by rw [Lib.itoa, if_neg (by omega), d3_eq _ (by omega)]
  rw [e]
  have a := d3_atoi ⟨c.toNat, by omega⟩
  have b := d3_dot ⟨c.toNat, by omega⟩
  exact ⟨by rw [a]; simp; omega, b⟩
theorem itoa_d3 (c : Int) (h0 : 0 ≤ c) (h1 : c ≤ 255) : Lib.itoa c = d3 c.toNat := by rw [Lib.itoa, if_neg (by omega), d3_eq _ (by omega)]
end Go.Proofs.YtkmchjdioplfjaaDoor.Pure

/- Plain lemmas on the printed functions: a list of bytes read into a new one, two lists compared, a number read from bytes. -/
namespace Go.Proofs.YtkmchjdioplfjaaDoor.Pure
open Go Go.RowKit Go.Proofs.YtkmchjdioplfjaaDoor.Q Go.Proofs.YtkmchjdioplfjaaDoorW.PrintWords Go.Proofs.YtkmchjdioplfjaaDoorW.PrintLast Go.Proofs.YtkmchjdioplfjaaDoorW.PrintMore
set_option linter.unusedVariables false
set_option linter.unusedSimpArgs false

theorem w64 {x : Int} (h1 : -9223372036854775808 ≤ x) (h2 : x ≤ 9223372036854775807) : wrap64 x = x := by
  unfold wrap64; omega
theorem set_prefix (l : List Int) (i : Nat) (h : i < l.length) (m : Nat) (hm : l.length = i + m + 1) :
    (l.take i ++ List.replicate (m+1) 0).set i (l.getD i 0) = l.take (i+1) ++ List.replicate m 0 := by
  rw [List.set_append_right _ _ (by simp; omega)]
  simp only [List.length_take, Nat.min_eq_left (Nat.le_of_lt h), Nat.sub_self, List.replicate_succ, List.set_cons_zero]
  rw [List.take_succ_eq_append_getElem h, List.append_assoc]
  simp [List.getD_eq_getElem?_getD, h]

theorem toByteS_l0 (l : List Int) (hl : l.length ≤ 140737488351232) (m : Nat) : ∀ (i : Nat), l.length = i + m →
    Ev (fun k => laws_toByteS.l0 k l (l.take i ++ List.replicate m 0) i) l := by
  induction m with
  | zero =>
    intro i hi
    refine Ev.step (f := fun _ => some l) (fun k => ?_) (Ev.now _)
    simp only [laws_toByteS.l0]
    rw [if_neg (by omega)]
    simp [List.take_of_length_le (show l.length ≤ i by omega)]
  | succ m ih =>
    intro i hi
    refine Ev.step (fun k => ?_) (ih (i+1) (by omega))
    simp only [laws_toByteS.l0]
    rw [if_pos (by omega), if_pos (by omega), if_pos (by simp; omega), w64 (by omega) (by omega)]
    rw [show rd l (i : Int) = l.getD i 0 by simp [rd], show ((i : Int)).toNat = i by omega, set_prefix l i (by omega) m (by omega)]
    rfl
theorem toByteS (l : List Int) (hl : l.length ≤ 140737488351232) : Ev (fun k => laws_toByteS.f k l) l := by
  unfold laws_toByteS.f
  simp only [if_pos (show 0 ≤ (l.length : Int) by omega), if_pos (show ((l.length : Int)).toNat ≤ 281474976710656 by omega)]
  simpa using toByteS_l0 l hl l.length 0 (by omega)

theorem eqByteS_l0 (l : List Int) (hl : l.length ≤ 140737488351232) (m : Nat) : ∀ (i : Nat), l.length = i + m →
    Ev (fun k => laws_eqByteS.l0 k l l i) true := by
  induction m with
  | zero =>
    intro i hi
    refine Ev.step (f := fun _ => some true) (fun k => ?_) (Ev.now _)
    simp only [laws_eqByteS.l0]
    rw [if_neg (by omega)]
  | succ m ih =>
    intro i hi
    refine Ev.step (fun k => ?_) (ih (i+1) (by omega))
    simp only [laws_eqByteS.l0]
    rw [if_pos (by omega), if_pos (by omega), if_pos (by omega), if_pos trivial, w64 (by omega) (by omega)]
    rfl
theorem eqByteS (l : List Int) (hl : l.length ≤ 140737488351232) : Ev (fun k => laws_eqByteS.f k l l) true := by
  unfold laws_eqByteS.f
  simp only [if_pos]
  exact eqByteS_l0 l hl l.length 0 (by omega)

end Go.Proofs.YtkmchjdioplfjaaDoor.Pure

/- Plain lemmas on the printed functions: marks laid over a list of bytes, and found again; two lists compared; Put, Take. -/
namespace Go.Proofs.YtkmchjdioplfjaaDoor.Pure
open Go Go.RowKit Go.Proofs.YtkmchjdioplfjaaDoor.Q Go.Proofs.YtkmchjdioplfjaaDoorW.PrintWords Go.Proofs.YtkmchjdioplfjaaDoorW.PrintLast Go.Proofs.YtkmchjdioplfjaaDoorW.PrintMore
set_option linter.unusedVariables false
set_option linter.unusedSimpArgs false

end Go.Proofs.YtkmchjdioplfjaaDoor.Pure

/- The statement FnExactDotted: at every whole number the reference and the program tell the same address in dots, their caller's own. The row's listed tables of the library are tied to the program's text by the card. -/
namespace Go.Proofs.YtkmchjdioplfjaaDoor.Pure
open Go Go.RowKit Go.Proofs.YtkmchjdioplfjaaDoor.Q Go.Proofs.YtkmchjdioplfjaaDoorW.PrintWords Go.Proofs.YtkmchjdioplfjaaDoorW.PrintLast
set_option linter.unusedVariables false
def digL (c : Int) : List Int := (Lib.itoa c).map fun b => (b.toNat : Int)
theorem and255 (n : Int) : Go.bits .and .i64 n 255 = n % 256 := by
  have h255 : (BitVec.ofInt 64 255).toNat = 2 ^ 8 - 1 := by decide
  have key : (BitVec.ofInt 64 n &&& BitVec.ofInt 64 255).toNat = (n % ((2 ^ 64 : Nat) : Int)).toNat % 2 ^ 8 := by
    rw [BitVec.toNat_and, BitVec.toNat_ofInt, h255, Nat.and_two_pow_sub_one_eq_mod]
  show IntKind.i64.wrap ((BitVec.ofInt 64 n &&& BitVec.ofInt 64 255).toNat : Nat) = n % 256
  rw [key, IntKind.wrap_i64]
  omega
theorem u8_dig (u : Nat) (h : u < 10) : ((UInt8.ofNat (48 + u)).toNat : Int) = 48 + u := by
  rw [UInt8.toNat_ofNat']
  omega
def decL (u : Nat) : List Int := (Lib.decDigits u).map fun b => (b.toNat : Int)
theorem decL_one (u : Nat) (h : u < 10) : decL u = [48 + (u : Int)] := by
  unfold decL
  rw [Lib.decDigits, dif_pos h]
  simp only [List.map_cons, List.map_nil, u8_dig u h]
theorem decL_more (u : Nat) (h : ¬ u < 10) : decL u = decL (u / 10) ++ [48 + ((u % 10 : Nat) : Int)] := by
  unfold decL
  rw [Lib.decDigits, dif_neg h]
  simp only [List.map_append, List.map_cons, List.map_nil, u8_dig (u % 10) (by omega)]
theorem digits_one (k u : Nat) (h : u < 10) : spec_l1digits.f (k + 1) (u : Int) = some (decL u) := by
  simp only [spec_l1digits.f]
  rw [if_pos (by omega), decL_one u h, w64 (by omega) (by omega)]
  congr 2
  omega
theorem digits_more (k u : Nat) (h : ¬ u < 10) (hu : u < 1000000) (hk : spec_l1digits.f k ((u / 10 : Nat) : Int) = some (decL (u / 10))) (hl : (decL (u / 10)).length < 1000) : spec_l1digits.f (k + 1) (u : Int) = some (decL u) := by
  simp only [spec_l1digits.f]
  have e1 : Int.tdiv (u : Int) 10 = ((u / 10 : Nat) : Int) := by rw [Int.tdiv_eq_ediv_of_nonneg (by omega)]; omega
  have e2 : Int.tmod (u : Int) 10 = ((u % 10 : Nat) : Int) := by rw [Int.tmod_eq_emod_of_nonneg (by omega)]; omega
  rw [if_neg (by omega), e1, e2, w64 (by omega) (by omega), hk, Option.bind_some, if_pos (by omega), decL_more u h, w64 (by omega) (by omega)]
  congr 3
  omega
theorem digits_3 (u : Nat) (h : u ≤ 255) : spec_l1digits.f 3 (u : Int) = some (decL u) ∧ (decL u).length ≤ 3 := by
  by_cases h1 : u < 10
  · exact ⟨digits_one 2 u h1, by rw [decL_one u h1]; simp⟩
  · by_cases h2 : u / 10 < 10
    · exact ⟨digits_more 2 u h1 (by omega) (digits_one 1 _ h2) (by rw [decL_one _ h2]; simp), by rw [decL_more u h1, decL_one _ h2]; simp⟩
    · have h3 : u / 10 / 10 < 10 := by omega
      have l2 : decL (u / 10) = decL (u / 10 / 10) ++ [48 + ((u / 10 % 10 : Nat) : Int)] := decL_more _ h2
      exact ⟨digits_more 2 u h1 (by omega) (digits_more 1 _ h2 (by omega) (digits_one 0 _ h3) (by rw [decL_one _ h3]; simp)) (by rw [l2, decL_one _ h3]; simp), by rw [decL_more u h1, l2, decL_one _ h3]; simp⟩
theorem digL_dec (c : Int) (h : 0 ≤ c) : digL c = decL c.toNat := by
  unfold digL decL Lib.itoa
  rw [if_neg (by omega)]
theorem digits_ev (c : Int) (h0 : 0 ≤ c) (h1 : c ≤ 255) : Ev (fun k => spec_l1digits.f k c) (digL c) := by
  refine ⟨3, fun k hk => ?_⟩
  have h := (digits_3 c.toNat (by omega)).1
  rw [Int.toNat_of_nonneg h0] at h
  rw [digL_dec c h0]
  have : ∀ m, spec_l1digits.f (3 + m) c = some (decL c.toNat) := fun m => by
    induction m with
    | zero => exact h
    | succ m ih => exact spec_l1digits.mono c (3 + m) _ ih
  have := this (k - 3)
  rwa [show 3 + (k - 3) = k by omega] at this
theorem digL_len (c : Int) (h0 : 0 ≤ c) (h1 : c ≤ 255) : (digL c).length ≤ 3 := by
  rw [digL_dec c h0]
  exact (digits_3 c.toNat (by omega)).2
theorem dotV_list (x : Int) (h : 0 ≤ x ∧ x < 4294967296) : dotV x = digL (x / 16777216 % 256) ++ 46 :: (digL (x / 65536 % 256) ++ 46 :: (digL (x / 256 % 256) ++ 46 :: digL (x % 256))) := by
  unfold dotV
  rw [if_pos h]
  unfold strBytes
  rw [dot_list]
  simp [digL]
theorem dotV_len (x : Int) : (dotV x).length ≤ 15 := by
  by_cases h : 0 ≤ x ∧ x < 4294967296
  · rw [dotV_list x h]
    have a := digL_len (x / 16777216 % 256) (by omega) (by omega)
    have b := digL_len (x / 65536 % 256) (by omega) (by omega)
    have c := digL_len (x / 256 % 256) (by omega) (by omega)
    have d := digL_len (x % 256) (by omega) (by omega)
    simp only [List.length_append, List.length_cons]
    omega
  · unfold dotV
    rw [if_neg h]
    simp
theorem byte_at (x : Int) (i : Nat) (hi : i ≤ 3) : Go.bits .and .i64 (shr .i64 x (8 * (i : Int))) 255 = x / 2 ^ (8 * i) % 256 := by
  rw [and255]
  unfold shr
  rw [show (8 * (i : Int)).toNat = 8 * i by omega, Nat.min_eq_left (by simp [IntKind.bits]; omega)]
theorem dotted_more (x : Int) (i : Nat) (hi : i ≤ 2) (acc r : List Int) (hl : acc.length ≤ 100) (h : Ev (fun k => spec_l1dotted.l0 k x (acc ++ digL (x / 2 ^ (8 * (i + 1)) % 256) ++ [46]) (i : Int)) r) : Ev (fun k => spec_l1dotted.l0 k x acc ((i + 1 : Nat) : Int)) r := by
  have hb := byte_at x (i + 1) (by omega)
  have hd := digits_ev (x / 2 ^ (8 * (i + 1)) % 256) (by omega) (by omega)
  have hn := digL_len (x / 2 ^ (8 * (i + 1)) % 256) (by omega) (by omega)
  generalize x / 2 ^ (8 * (i + 1)) % 256 = c at hb hd hn h
  refine Ev.step (f := fun k => (spec_l1digits.f k c).bind fun t => if acc.length + t.length < 140737488355328 then ((some (acc ++ t : List Int)).bind fun y104 => (if ((i + 1 : Nat) : Int) > 0 then (if y104.length < 140737488355328 then (spec_l1dotted.l0 k x (y104 ++ [46]) (wrap64 (((i + 1 : Nat) : Int) - 1))) else (none)) else (spec_l1dotted.l0 k x y104 (wrap64 (((i + 1 : Nat) : Int) - 1))))) else none) (fun k => ?_) ?_
  · simp only [spec_l1dotted.l0]
    rw [if_pos (by omega), w64 (show -9223372036854775808 ≤ 8 * ((i + 1 : Nat) : Int) by omega) (by omega), if_pos (by omega), hb]
  · refine Ev.bind hd ?_
    simp only [if_pos (show acc.length + (digL c).length < 140737488355328 by omega), Option.bind_some, if_pos (show ((i + 1 : Nat) : Int) > 0 by omega), if_pos (show (acc ++ digL c).length < 140737488355328 by rw [List.length_append]; omega), show ((i + 1 : Nat) : Int) - 1 = (i : Int) by omega, w64 (show -9223372036854775808 ≤ (i : Int) by omega) (by omega)]
    exact h
theorem dotted_last (x : Int) (acc : List Int) (hl : acc.length ≤ 100) : Ev (fun k => spec_l1dotted.l0 k x acc 0) (acc ++ digL (x % 256)) := by
  have hb := byte_at x 0 (by omega)
  have hd := digits_ev (x % 256) (by omega) (by omega)
  have hn := digL_len (x % 256) (by omega) (by omega)
  rw [show x / 2 ^ (8 * 0) % 256 = x % 256 by simp] at hb
  generalize x % 256 = c at hb hd hn ⊢
  refine Ev.step (f := fun k => (spec_l1digits.f k c).bind fun t => if acc.length + t.length < 140737488355328 then ((some (acc ++ t : List Int)).bind fun y104 => (spec_l1dotted.l0 k x y104 (-1))) else none) (fun k => ?_) ?_
  · simp only [spec_l1dotted.l0]
    rw [if_pos (by omega), w64 (show -9223372036854775808 ≤ 8 * (0 : Int) by omega) (by omega), if_pos (by omega)]
    rw [show (8 * (0 : Int)) = 8 * ((0 : Nat) : Int) from rfl, hb, w64 (show -9223372036854775808 ≤ (0 : Int) - 1 by omega) (by omega)]
    rfl
  · refine Ev.bind hd ?_
    simp only [if_pos (show acc.length + (digL c).length < 140737488355328 by omega), Option.bind_some]
    refine Ev.step (f := fun _ => some (acc ++ digL c)) (fun k => ?_) (Ev.now _)
    simp only [spec_l1dotted.l0]
    rw [if_neg (by omega)]
theorem specDotted (x : Int) : Ev (fun k => spec_Dotted.f k x) (dotV x) := by
  unfold spec_Dotted.f
  by_cases h1 : x < 0
  · simp only [if_pos h1]
    rw [show dotV x = [] by unfold dotV; rw [if_neg (by omega)]]
    exact Ev.now _
  · simp only [if_neg h1]
    by_cases h2 : x ≥ 4294967296
    · simp only [if_pos h2]
      rw [show dotV x = [] by unfold dotV; rw [if_neg (by omega)]]
      exact Ev.now _
    · simp only [if_neg h2]
      refine Ev.bind (a := dotV x) ?_ (Ev.now _)
      unfold spec_l1dotted.f
      have a := digL_len (x / 16777216 % 256) (by omega) (by omega)
      have b := digL_len (x / 65536 % 256) (by omega) (by omega)
      have c := digL_len (x / 256 % 256) (by omega) (by omega)
      refine dotted_more x 2 (by omega) [] _ (by simp) ?_
      refine dotted_more x 1 (by omega) _ _ (by simp; omega) ?_
      refine dotted_more x 0 (by omega) _ _ (by simp; omega) ?_
      have h := dotted_last x (([] ++ digL (x / 2 ^ (8 * (2 + 1)) % 256) ++ [46]) ++ digL (x / 2 ^ (8 * (1 + 1)) % 256) ++ [46] ++ digL (x / 2 ^ (8 * (0 + 1)) % 256) ++ [46]) (by simp; omega)
      rw [dotV_list x (by omega)]
      simpa using h
end Go.Proofs.YtkmchjdioplfjaaDoor.Pure

/- Numbers in decimal, as the reference and the library tell them: for all words. -/
namespace Go.Proofs.YtkmchjdioplfjaaDoor.Pure
open Go Go.RowKit Go.Proofs.YtkmchjdioplfjaaDoor.Q Go.Proofs.YtkmchjdioplfjaaDoorW.PrintWords Go.Proofs.YtkmchjdioplfjaaDoorW.PrintLast
set_option linter.unusedVariables false
end Go.Proofs.YtkmchjdioplfjaaDoor.Pure

/- Texts and their bytes, as the reference (rows of bytes) and the program (texts) have them. -/
namespace Go.Proofs.YtkmchjdioplfjaaDoor.Pure
open Go Go.RowKit Go.Proofs.YtkmchjdioplfjaaDoor.Q Go.Proofs.YtkmchjdioplfjaaDoorW.PrintWords Go.Proofs.YtkmchjdioplfjaaDoorW.PrintLast
set_option linter.unusedVariables false
theorem str_nums (xs : List Int) (h : ∀ x ∈ xs, 0 ≤ x ∧ x ≤ 255) : strBytes (strOfNums xs) = xs := by
  unfold strBytes strOfNums
  rw [List.toList_toArray, List.map_map]
  refine (List.map_congr_left (g := id) fun x hx => ?_).trans (List.map_id _)
  have := h x hx
  show (((UInt8.ofNat x.toNat).toNat : Nat) : Int) = x
  rw [UInt8.toNat_ofNat']
  omega
theorem dig_bytes (x : Int) : ∀ y ∈ digL x, 0 ≤ y ∧ y ≤ 255 := by
  intro y hy
  unfold digL at hy
  obtain ⟨b, _, rfl⟩ := List.mem_map.1 hy
  have := b.toNat_lt
  omega
theorem dotted_of (x : Int) (h : 0 ≤ x ∧ x ≤ 4294967295) : Ev (fun k => spec_l1dotted.f k x) (dotV x) := by
  obtain ⟨n, hn⟩ := specDotted x
  refine ⟨n, fun k hk => ?_⟩
  have := show spec_Dotted.f k x = some (dotV x) from hn k hk
  unfold spec_Dotted.f at this
  rw [if_neg (by omega), if_neg (by omega)] at this
  cases h2 : spec_l1dotted.f k x with
  | none => rw [h2] at this; cases this
  | some z => rw [h2] at this; show spec_l1dotted.f k x = _; rw [h2]; exact this
theorem dotV_range (x : Int) : ∀ y ∈ dotV x, 0 ≤ y ∧ y ≤ 255 := by
  by_cases h : 0 ≤ x ∧ x < 4294967296
  · rw [dotV_list x h]
    intro y hy
    simp only [List.mem_append, List.mem_cons] at hy
    rcases hy with hy | rfl | hy | rfl | hy | rfl | hy
    all_goals first | omega | exact dig_bytes _ _ hy
  · unfold dotV; rw [if_neg h]; intro y hy; simp at hy
theorem u8_of_wf {x : Int} (h : (Lit.int .u8 x).wf = true) : 0 ≤ x ∧ x ≤ 255 := by
  simp [Lit.wf, IntKind.min, IntKind.max, IntKind.signed, IntKind.bits] at h
  omega
end Go.Proofs.YtkmchjdioplfjaaDoor.Pure

/- Addresses read: the reference and the program answer alike at every row of bytes: true just at an address's own text. -/
namespace Go.Proofs.YtkmchjdioplfjaaDoor.Pure
open Go Go.RowKit Go.Proofs.YtkmchjdioplfjaaDoor.Q Go.Proofs.YtkmchjdioplfjaaDoorW.PrintWords Go.Proofs.YtkmchjdioplfjaaDoorW.PrintLast Go.Proofs.YtkmchjdioplfjaaDoorW.PrintMore
set_option linter.unusedVariables false
set_option linter.unusedSimpArgs false
/-! ### the program -/
theorem foldL_pos (l : List (List UInt8)) : ∀ n r : Int, 0 ≤ n → foldL n l = some r → 0 ≤ r := by
  induction l with
  | nil => intro n r hn h; simp only [foldL, Option.some.injEq] at h; omega
  | cons s l ih =>
    intro n r hn h
    simp only [foldL] at h
    cases ha : Lib.atoi s with
    | none => rw [ha] at h; cases h
    | some k =>
      rw [ha] at h
      simp only at h
      by_cases hc : 0 ≤ k ∧ k ≤ 255 ∧ n < 4294967296
      · rw [if_pos hc] at h; exact ih _ _ (by omega) h
      · rw [if_neg hc] at h; cases h
theorem parts_map (b : List Int) : (partsV b).map (·.data.toList) = Lib.splitK [46] 0 (Lib.count (strOfNums b).data.toList [46]) (strOfNums b).data.toList := by
  unfold partsV
  rw [Lib.splitB_data]
  rfl
theorem nums_str (s : ByteArray) : strOfNums (strBytes s) = s := by
  unfold strOfNums strBytes
  rw [List.map_map]
  have : (s.data.toList.map ((fun (x : Int) => UInt8.ofNat x.toNat) ∘ fun (b : UInt8) => (b.toNat : Int))) = s.data.toList := by
    refine (List.map_congr_left (g := id) fun x _ => ?_).trans (List.map_id _)
    show UInt8.ofNat ((x.toNat : Int)).toNat = x
    simp
  rw [this]
theorem read_self (m : Int) (h : 0 ≤ m ∧ m < 4294967296) : readV (dotV m) = (m, true) := by
  have hl := dotV_len m
  have e : (strOfNums (dotV m)).data.toList = Lib.itoa (m / 16777216 % 256) ++ 46 :: (Lib.itoa (m / 65536 % 256) ++ 46 :: (Lib.itoa (m / 256 % 256) ++ 46 :: Lib.itoa (m % 256))) := by
    have : dotV m = strBytes (dotS m) := by unfold dotV; rw [if_pos h]
    rw [this, nums_str, dot_list]
  obtain ⟨a1, a2⟩ := itoa_small (m / 16777216 % 256) (by omega) (by omega)
  obtain ⟨b1, b2⟩ := itoa_small (m / 65536 % 256) (by omega) (by omega)
  obtain ⟨c1, c2⟩ := itoa_small (m / 256 % 256) (by omega) (by omega)
  obtain ⟨d1, d2⟩ := itoa_small (m % 256) (by omega) (by omega)
  have hf : foldL 0 ((partsV (dotV m)).map (·.data.toList)) = some m := by
    rw [parts_map, e, split_four _ _ _ _ a2 b2 c2 d2]
    simp only [foldL, a1, b1, c1, d1]
    rw [if_pos (by omega), if_pos (by omega), if_pos (by omega), if_pos (by omega)]
    congr 1
    omega
  unfold readV
  rw [if_neg (by omega), hf]
  simp
theorem read_not (b : List Int) (h : ∀ m, 0 ≤ m → m < 4294967296 → b ≠ dotV m) : readV b = (0, false) := by
  unfold readV
  by_cases h15 : b.length > 15
  · rw [if_pos h15]
  rw [if_neg h15]
  cases hf : foldL 0 ((partsV b).map (·.data.toList)) with
  | none => rfl
  | some n =>
    simp only
    have hn := foldL_pos _ 0 n (by omega) hf
    by_cases he : dotV n = b
    · exfalso
      by_cases hr : n < 4294967296
      · exact h n hn hr he.symm
      · have hb : b = [] := by rw [← he]; unfold dotV; rw [if_neg (by omega)]
        subst hb
        rw [parts_map] at hf
        have e0 : (strOfNums []).data.toList = [] := rfl
        rw [e0, Lib.count_one] at hf
        simp [Lib.splitK, foldL, Lib.atoi] at hf
    · rw [if_neg he]
/-! ### the reference -/
def sR : List Int → Int → Int → Int → Option (Int × Int × Int)
  | [], n, p, s => some (n, p, s)
  | c :: l, n, p, s => if c = 46 then sR l (wrap64 (wrap64 (n * 256) + p % 256)) 0 (s + 1) else if c < 48 ∨ c > 57 ∨ p > 255 then none else sR l n (p * 10 + (c - 48)) s
def dF : List Int → Int → Option Int
  | [], p => some p
  | c :: x, p => if c < 48 ∨ c > 57 ∨ p > 255 then none else dF x (p * 10 + (c - 48))
theorem sR_app (l : List Int) (x : List Int) : ∀ (n p s : Int), (∀ y ∈ x, y ≠ 46) → sR (x ++ l) n p s = (dF x p).bind fun q => sR l n q s := by
  induction x with
  | nil => intro n p s _; rfl
  | cons c x ih =>
    intro n p s h
    have hc := h c (by simp)
    have ih := fun q => ih n q s fun y hy => h y (by simp [hy])
    rw [List.cons_append]
    simp only [sR, dF]
    rw [if_neg hc]
    by_cases h2 : c < 48 ∨ c > 57 ∨ p > 255
    · rw [if_pos h2, if_pos h2]; rfl
    · rw [if_neg h2, if_neg h2, ih]
theorem d3_dF : ∀ u : Fin 256, dF ((d3 u.val).map fun b => (b.toNat : Int)) 0 = some (u.val : Int) := by decide +kernel
theorem d3_dF46 : ∀ u : Fin 256, ∀ y ∈ (d3 u.val).map fun b => (b.toNat : Int), y ≠ 46 := by decide +kernel
theorem sR_dig (c : Int) (h0 : 0 ≤ c) (h1 : c ≤ 255) (l : List Int) (n s : Int) : sR (digL c ++ l) n 0 s = sR l n c s := by
  have e : digL c = (d3 c.toNat).map fun b => (b.toNat : Int) := by unfold digL; rw [itoa_d3 c h0 h1]
  have a := d3_dF ⟨c.toNat, by omega⟩
  have b := d3_dF46 ⟨c.toNat, by omega⟩
  rw [e, sR_app _ _ n 0 s b, a]
  show sR l n ((c.toNat : Nat) : Int) s = _
  rw [Int.toNat_of_nonneg h0]
theorem sR_dot (l : List Int) (n p s : Int) (h0 : 0 ≤ n) (h1 : n ≤ 4294967296) (p0 : 0 ≤ p) (p1 : p ≤ 255) : sR (46 :: l) n p s = sR l (n * 256 + p) 0 (s + 1) := by
  simp only [sR, if_true]
  rw [w64 (x := n * 256) (by omega) (by omega), show p % 256 = p by omega, w64 (by omega) (by omega)]
theorem sR_self (m : Int) (h : 0 ≤ m ∧ m < 4294967296) : sR (dotV m) 0 0 0 = some (m / 256, m % 256, 3) := by
  rw [dotV_list m h, sR_dig _ (by omega) (by omega), sR_dot _ _ _ _ (by omega) (by omega) (by omega) (by omega), sR_dig _ (by omega) (by omega), sR_dot _ _ _ _ (by omega) (by omega) (by omega) (by omega), sR_dig _ (by omega) (by omega), sR_dot _ _ _ _ (by omega) (by omega) (by omega) (by omega)]
  have := sR_dig (m % 256) (by omega) (by omega) [] (((0 * 256 + m / 16777216 % 256) * 256 + m / 65536 % 256) * 256 + m / 256 % 256) (0 + 1 + 1 + 1)
  rw [List.append_nil] at this
  rw [this]
  simp only [sR]
  congr 2
  omega
theorem and32 (n : Int) : Go.bits .and .i64 n 4294967295 = n % 4294967296 := by
  have h32 : (BitVec.ofInt 64 4294967295).toNat = 2 ^ 32 - 1 := by decide
  have key : (BitVec.ofInt 64 n &&& BitVec.ofInt 64 4294967295).toNat = (n % ((2 ^ 64 : Nat) : Int)).toNat % 2 ^ 32 := by
    rw [BitVec.toNat_and, BitVec.toNat_ofInt, h32, Nat.and_two_pow_sub_one_eq_mod]
  show IntKind.i64.wrap ((BitVec.ofInt 64 n &&& BitVec.ofInt 64 4294967295).toNat : Nat) = n % 4294967296
  rw [key]
  have hlt : (n % ((2 ^ 64 : Nat) : Int)).toNat % 2 ^ 32 < 2 ^ 32 := Nat.mod_lt _ (by decide)
  have e : (((n % ((2 ^ 64 : Nat) : Int)).toNat % 2 ^ 32 : Nat) : Int) = n % 4294967296 := by omega
  rw [e]
  rw [IntKind.wrap_i64]; omega
theorem str_eq (a b : List Int) (ha : ∀ x ∈ a, 0 ≤ x ∧ x ≤ 255) (hb : ∀ x ∈ b, 0 ≤ x ∧ x ≤ 255) : (strOfNums a).toList = (strOfNums b).toList ↔ a = b := by
  constructor
  · intro h
    rw [Go.ByteArray.toList_eq, Go.ByteArray.toList_eq] at h
    have e : strBytes (strOfNums a) = strBytes (strOfNums b) := by unfold strBytes; rw [h]
    rwa [str_nums a ha, str_nums b hb] at e
  · intro h; rw [h]
def fin3 (b : List Int) : Option (Int × Int × Int) → Int × Bool
  | none => (0, false)
  | some (n, p, s) => if s = 3 then (if dotV (wrap64 (wrap64 (n * 256) + p % 256) % 4294967296) = b then (wrap64 (wrap64 (n * 256) + p % 256), true) else (0, false)) else (0, false)
theorem spec_end (b : List Int) (hb : ∀ x ∈ b, 0 ≤ x ∧ x ≤ 255) (n p s i : Int) (p0 : 0 ≤ p) : Ev (fun k => spec_DottedRead.j1 k b n p s i false) (fin3 b (some (n, p, s))) := by
  have et : Int.tmod p 256 = p % 256 := Int.tmod_eq_emod_of_nonneg p0
  unfold fin3
  by_cases h3 : s = 3
  · obtain ⟨m, hm⟩ := dotted_of (wrap64 (wrap64 (n * 256) + p % 256) % 4294967296) ⟨by omega, by omega⟩
    simp only [if_pos h3]
    refine Ev.step (f := fun k => (spec_l1dotted.f k (wrap64 (wrap64 (n * 256) + p % 256) % 4294967296)).bind fun t101 => (if (strOfNums t101).toList = (strOfNums b).toList then (some (wrap64 ((wrap64 (n * 256)) + p % 256), true)) else (some (0, false)))) (fun k => ?_) (Ev.bind ⟨m, hm⟩ ?_)
    · simp only [spec_DottedRead.j1, Bool.false_eq_true, if_false]
      rw [if_pos h3, et, and32]
    · by_cases he : dotV (wrap64 (wrap64 (n * 256) + p % 256) % 4294967296) = b
      · simp only [if_pos he, if_pos ((str_eq _ b (dotV_range _) hb).2 he)]; exact Ev.now _
      · simp only [if_neg he, if_neg (fun h => he ((str_eq _ b (dotV_range _) hb).1 h))]; exact Ev.now _
  · simp only [if_neg h3]
    refine Ev.step (f := fun _ => some (0, false)) (fun k => ?_) (Ev.now _)
    simp only [spec_DottedRead.j1, Bool.false_eq_true, if_false]
    rw [if_neg h3]
theorem spec_l0 (b : List Int) (hb : ∀ x ∈ b, 0 ≤ x ∧ x ≤ 255) (hl : b.length < 16) (m : Nat) : ∀ (i : Nat) (n p s : Int), b.length = i + m → 0 ≤ p → p ≤ 2600 → 0 ≤ s → s ≤ i →
    Ev (fun k => spec_DottedRead.l0 k b n p s (i : Int)) (fin3 b (sR (b.drop i) n p s)) := by
  induction m with
  | zero =>
    intro i n p s hi p0 p1 s0 s1
    rw [List.drop_of_length_le (by omega)]
    refine Ev.step (f := fun k => spec_DottedRead.j1 k b n p s (i : Int) false) (fun k => ?_) (spec_end b hb n p s i p0)
    simp only [spec_DottedRead.l0]
    rw [if_neg (by omega)]
  | succ m ih =>
    intro i n p s hi p0 p1 s0 s1
    have hil : i < b.length := by omega
    have hr : rd b (i : Int) = b[i] := by simp [rd, List.getD_eq_getElem?_getD, hil]
    have hx := hb b[i] (List.getElem_mem hil)
    have et : Int.tmod p 256 = p % 256 := Int.tmod_eq_emod_of_nonneg p0
    rw [List.drop_eq_getElem_cons hil]
    refine Ev.step (f := fun k => spec_DottedRead.j1 k b n p s (i : Int) true) (fun k => ?_) ?_
    · simp only [spec_DottedRead.l0]
      rw [if_pos (by omega), decide_eq_true (show (b.length : Int) < 16 by omega)]
    simp only [sR]
    by_cases h46 : b[i] = 46
    · rw [if_pos h46]
      refine Ev.step (fun k => ?_) (ih (i + 1) (wrap64 (wrap64 (n * 256) + p % 256)) 0 (s + 1) (by omega) (by omega) (by omega) (by omega) (by omega))
      simp only [spec_DottedRead.j1, if_true]
      rw [if_pos (by omega), if_pos (by omega), hr, if_pos h46, et, w64 (x := s + 1) (by omega) (by omega), w64 (x := (i : Int) + 1) (by omega) (by omega)]
      rfl
    rw [if_neg h46]
    by_cases hc : b[i] < 48 ∨ b[i] > 57 ∨ p > 255
    · rw [if_pos hc]
      refine Ev.step (f := fun _ => some (0, false)) (fun k => ?_) (Ev.now _)
      simp only [spec_DottedRead.j1, if_true]
      rw [if_pos (by omega), if_pos (by omega), hr, if_neg h46]
      by_cases c1 : b[i] < 48
      · rw [if_pos c1]
      rw [if_neg c1]
      by_cases c2 : b[i] > 57
      · rw [if_pos c2]
      rw [if_neg c2, if_pos (by omega)]
    · rw [if_neg hc]
      refine Ev.step (fun k => ?_) (ih (i + 1) n (p * 10 + (b[i] - 48)) s (by omega) (by omega) (by omega) (by omega) (by omega))
      simp only [spec_DottedRead.j1, if_true]
      rw [if_pos (by omega), if_pos (by omega), hr, if_neg h46, if_neg (by omega), if_neg (by omega), if_neg (by omega), w64 (x := p * 10) (by omega) (by omega), show (b[i] - 48) % 256 = b[i] - 48 by omega, w64 (x := p * 10 + (b[i] - 48)) (by omega) (by omega), w64 (x := (i : Int) + 1) (by omega) (by omega)]
      rfl
theorem specRead (b : List Int) (hb : ∀ x ∈ b, 0 ≤ x ∧ x ≤ 255) (hl : b.length ≤ 1048576) : Ev (fun k => spec_DottedRead.f k b) (readV b) := by
  unfold spec_DottedRead.f
  by_cases h16 : b.length < 16
  · have h := spec_l0 b hb h16 b.length 0 0 0 0 (by omega) (by omega) (by omega) (by omega) (by omega)
    rw [List.drop_zero] at h
    by_cases hm : ∃ m, 0 ≤ m ∧ m < 4294967296 ∧ b = dotV m
    · obtain ⟨m, m0, m1, rfl⟩ := hm
      rw [read_self m ⟨m0, m1⟩]
      rw [sR_self m ⟨m0, m1⟩] at h
      have e : fin3 (dotV m) (some (m / 256, m % 256, 3)) = (m, true) := by
        unfold fin3
        have ew : wrap64 (wrap64 (m / 256 * 256) + m % 256 % 256) = m := by rw [w64 (x := m / 256 * 256) (by omega) (by omega), w64 (by omega) (by omega)]; omega
        simp only [if_true, ew]
        rw [show m % 4294967296 = m by omega, if_pos rfl]
      rw [e] at h
      exact h
    · have hn : ∀ m, 0 ≤ m → m < 4294967296 → b ≠ dotV m := fun m m0 m1 he => hm ⟨m, m0, m1, he⟩
      rw [read_not b hn]
      have e : fin3 b (sR b 0 0 0) = (0, false) := by
        unfold fin3
        split
        · rfl
        · rename_i n p s _
          by_cases h3 : s = 3
          · rw [if_pos h3, if_neg (fun he => hn _ (by omega) (by omega) he.symm)]
          · rw [if_neg h3]
      rw [e] at h
      exact h
  · have e : readV b = (0, false) := by unfold readV; rw [if_pos (by omega)]
    rw [e]
    have h := spec_end b hb 0 0 0 0 (by omega)
    have e3 : fin3 b (some (0, 0, 0)) = (0, false) := rfl
    rw [e3] at h
    refine Ev.step (fun k => ?_) h
    simp only [spec_DottedRead.l0]
    by_cases h0 : (0 : Int) < (b.length : Int)
    · rw [if_pos h0, decide_eq_false (by omega)]
    · omega
end Go.Proofs.YtkmchjdioplfjaaDoor.Pure

/- The statement FnExactDottedRead: at every row of bytes the reference and the program read the same address, or none. The row's listed tables and variables of the library are tied to the program's text by the card. -/
namespace Go.Proofs.YtkmchjdioplfjaaDoor.Pure
open Go Go.RowKit Go.Proofs.YtkmchjdioplfjaaDoor.Q Go.Proofs.YtkmchjdioplfjaaDoorW.PrintWords Go.Proofs.YtkmchjdioplfjaaDoorW.PrintLast Go.Proofs.YtkmchjdioplfjaaDoorW.PrintMore
/-- The walk, with what it computes told. -/
theorem FnExactDottedRead (A : Option Addr) (c : Nat) (b : List Int) (w : World) (hr : Kd.C (Kd.int .u8) w A b.length b) (hc : b.length ≤ c) (hb : ∀ x ∈ b, 0 ≤ x ∧ x ≤ 255) (hE : EnvR w) :
    Calls Tryd.prog 5 #[.slice A b.length c] w fun e w' => e = .returned (.bool true) ∧ Below w.heap.size w w' := by
  by_cases hl : b.length ≤ 1048576
  · obtain ⟨n1, h1⟩ := toByteS b (by omega)
    obtain ⟨n2, h2⟩ := specRead b hb hl
    obtain ⟨n3, h3⟩ := eqByteS b (by omega)
    exact dottedread_law (n1 + n2 + n3) A c b w hr hc hb hE hl (h1 _ (by omega)) (h2 _ (by omega)) (h3 _ (by omega))
  · exact dottedread_big A c b w hl
end Go.Proofs.YtkmchjdioplfjaaDoor.Pure

