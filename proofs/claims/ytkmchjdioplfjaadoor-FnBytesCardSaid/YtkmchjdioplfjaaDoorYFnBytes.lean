/- Plain lemmas for the statement FnBytes. -/
import Derived.Test.YtkmchjdioplfjaaDoorZFnBytes0
import Derived.Test.YtkmchjdioplfjaaDoorZFnBytes1
import Derived.Lib.Split
import Derived.Lib.SplitLaws
import Derived.Lib.Atoi
import Derived.Lib.ItoaNum
/- Rows of bytes cut at dots, and numbers of at most three digits: plain laws, of no program. -/
namespace Go.Proofs.YtkmchjdioplfjaaDoor.Pure
open Go
set_option linter.unusedVariables false
theorem idx_dot (x r : List UInt8) (h : ∀ b ∈ x, b ≠ 46) : Lib.index (x ++ 46 :: r) [46] = (x.length : Int) := by
  induction x with
  | nil => simp [Lib.index, List.isPrefixOf]
  | cons b x ih =>
    have hb : b ≠ 46 := h b (by simp)
    have hi := ih fun y hy => h y (by simp [hy])
    have hp : ([46] : List UInt8).isPrefixOf (b :: (x ++ 46 :: r)) = false := by simp [List.isPrefixOf, Ne.symm hb]
    rw [List.cons_append, Lib.index, hp, hi]
    rw [if_neg (by decide), if_neg (by rw [beq_iff_eq]; omega)]
    simp
theorem split_dot (x r : List UInt8) (k : Nat) (h : ∀ b ∈ x, b ≠ 46) : Lib.splitK [46] 0 (k + 1) (x ++ 46 :: r) = x :: Lib.splitK [46] 0 k r := by
  have e := idx_dot x r h
  rw [Lib.splitK, if_neg (by rw [e, beq_iff_eq]; omega), e]
  simp
theorem count_none (x : List UInt8) (h : ∀ b ∈ x, b ≠ 46) : x.count 46 = 0 := List.count_eq_zero.2 fun hm => h 46 hm rfl
/-- Four parts with dots between: cut, they come back. -/
theorem split_four (a b c d : List UInt8) (ha : ∀ x ∈ a, x ≠ 46) (hb : ∀ x ∈ b, x ≠ 46) (hc : ∀ x ∈ c, x ≠ 46) (hd : ∀ x ∈ d, x ≠ 46) :
    Lib.splitK [46] 0 (Lib.count (a ++ 46 :: (b ++ 46 :: (c ++ 46 :: d))) [46]) (a ++ 46 :: (b ++ 46 :: (c ++ 46 :: d))) = [a, b, c, d] := by
  have e : Lib.count (a ++ 46 :: (b ++ 46 :: (c ++ 46 :: d))) [46] = 3 := by
    rw [Lib.count_one]
    simp only [List.count_append, List.count_cons_self, count_none a ha, count_none b hb, count_none c hc, count_none d hd]
  rw [e, split_dot a _ 2 ha, split_dot b _ 1 hb, split_dot c _ 0 hc]
  rfl
def d3 (u : Nat) : List UInt8 := if u < 10 then [UInt8.ofNat (48 + u)] else if u < 100 then [UInt8.ofNat (48 + u / 10), UInt8.ofNat (48 + u % 10)] else [UInt8.ofNat (48 + u / 100), UInt8.ofNat (48 + u / 10 % 10), UInt8.ofNat (48 + u % 10)]
theorem d3_eq (u : Nat) (h : u < 1000) : Lib.decDigits u = d3 u := by
  unfold d3
  by_cases h1 : u < 10
  · rw [if_pos h1, Lib.decDigits, dif_pos h1]
  · rw [if_neg h1, Lib.decDigits, dif_neg h1]
    by_cases h2 : u < 100
    · rw [if_pos h2, Lib.decDigits, dif_pos (by omega)]; rfl
    · rw [if_neg h2, Lib.decDigits, dif_neg (by omega), Lib.decDigits, dif_pos (by omega), Nat.div_div_eq_div_mul]; rfl
theorem d3_atoi : ∀ u : Fin 256, Lib.atoi (d3 u.val) = some (u.val : Int) := by decide +kernel
theorem d3_dot : ∀ u : Fin 256, ∀ b ∈ d3 u.val, b ≠ 46 := by decide +kernel
theorem itoa_small (c : Int) (h0 : 0 ≤ c) (h1 : c ≤ 255) : Lib.atoi (Lib.itoa c) = some c ∧ ∀ b ∈ Lib.itoa c, b ≠ 46 := by
  have e : Lib.itoa c = d3 c.toNat := by rw [Lib.itoa, if_neg (by omega), d3_eq _ (by omega)]
  rw [e]
  have a := d3_atoi ⟨c.toNat, by omega⟩
  have b := d3_dot ⟨c.toNat, by omega⟩
  exact ⟨by rw [a]; simp; omega, b⟩
theorem itoa_d3 (c : Int) (h0 : 0 ≤ c) (h1 : c ≤ 255) : Lib.itoa c = d3 c.toNat := by rw [Lib.itoa, if_neg (by omega), d3_eq _ (by omega)]
end Go.Proofs.YtkmchjdioplfjaaDoor.Pure

/- Plain lemmas on the printed functions: a list of bytes read into a new one, two lists compared, a number read from bytes. -/
namespace Go.Proofs.YtkmchjdioplfjaaDoor.Pure
open Go Go.RowKit Go.Proofs.YtkmchjdioplfjaaDoor.Q Go.Proofs.YtkmchjdioplfjaaDoorW.PrintWords Go.Proofs.YtkmchjdioplfjaaDoorW.PrintLast Go.Proofs.YtkmchjdioplfjaaDoorW.PrintMore
set_option linter.unusedVariables false
set_option linter.unusedSimpArgs false

/-- Every element is a byte. -/
def Bytes (l : List Int) : Prop := ∀ x ∈ l, 0 ≤ x ∧ x ≤ 255
theorem w64 {x : Int} (h1 : -9223372036854775808 ≤ x) (h2 : x ≤ 9223372036854775807) : wrap64 x = x := by
  unfold wrap64; omega
/-- The number that bytes make, the highest first. -/
def be (acc : Int) (l : List Int) : Int := l.foldl (fun a x => a * 256 + x) acc
theorem wraps_i64 (n : Int) (h0 : 0 ≤ n) (h1 : n < 2 ^ 63) : IntKind.i64.wrap n = n := by rw [IntKind.wrap_i64]; omega
theorem bits_or_byte (a x : Int) (h0 : 0 ≤ a) (h1 : a < 36028797018963968) (h2 : 0 ≤ x) (h3 : x ≤ 255) : Go.bits .or .i64 (a * 256) x = a * 256 + x :=
  bits_join .i64 63 (by decide) wraps_i64 8 (a * 256) x (by omega) (by omega) (by omega) (by omega) (by omega) (by omega)
theorem get_l0 (at_ n : Int) (l : List Int) (hb : Bytes l) (hl : l.length ≤ 7) (m : Nat) : ∀ (i : Nat) (acc : Int), l.length = i + m → 0 ≤ acc → acc < 256 ^ i →
    Ev (fun k => impl_get.l0 k at_ n acc l (l.length : Int) i) (be acc (l.drop i), wrap64 (at_ + n)) := by
  induction m with
  | zero =>
    intro i acc hi h0 h1
    refine Ev.step (f := fun _ => some (acc, wrap64 (at_ + n))) (fun k => ?_) ?_
    · simp only [impl_get.l0]
      rw [if_neg (by omega)]
    · rw [List.drop_of_length_le (by omega)]; exact Ev.now _
  | succ m ih =>
    intro i acc hi h0 h1
    have hil : i < l.length := by omega
    have hr := hb _ (List.getElem_mem hil)
    have h256 : (256 : Int) ^ i ≤ 256 ^ 6 := by
      have : i ≤ 6 := by omega
      rcases i with _|_|_|_|_|_|_|i <;> simp_all
    have h7 : (256 : Int) ^ 6 = 281474976710656 := by decide
    have hd : l.drop i = l[i] :: l.drop (i+1) := List.drop_eq_getElem_cons hil
    rw [hd]
    show Ev _ (be (acc * 256 + l[i]) (l.drop (i+1)), _)
    refine Ev.step (fun k => ?_) (ih (i+1) (acc * 256 + l[i]) (by omega) (by omega) (by rw [Int.pow_succ]; omega))
    simp only [impl_get.l0]
    have e : rd l (i : Int) = l[i] := by simp [rd, List.getD_eq_getElem?_getD, hil]
    rw [if_pos (by omega), if_pos (by omega), if_pos (by omega), e, w64 (show -9223372036854775808 ≤ acc * 256 by omega) (by omega), w64 (show -9223372036854775808 ≤ l[i] by omega) (by omega), w64 (show -9223372036854775808 ≤ (i : Int) + 1 by omega) (by omega), bits_or_byte _ _ h0 (by omega) hr.1 hr.2]
    rfl

/-- What 'get' tells. -/

def getV (l : List Int) (at_ n : Int) : Int × Int := if at_ < 0 ∨ n > l.length - at_ then (0, -1) else (be 0 ((l.take (at_ + n).toNat).drop at_.toNat), at_ + n)
theorem get_ev (l : List Int) (hb : Bytes l) (hl : l.length ≤ 140737488351232) (at_ n : Int) (ha : -9223372036854775808 ≤ at_ ∧ at_ ≤ 9223372036854775807) (hn : 0 ≤ n ∧ n ≤ 7) :
    Ev (fun k => impl_get.f k l at_ n) (getV l at_ n) := by
  unfold impl_get.f getV
  by_cases h1 : at_ < 0
  · simp only [if_pos h1, if_pos (Or.inl h1 : at_ < 0 ∨ n > l.length - at_)]
    refine Ev.step (f := fun _ => some (0, -1)) (fun k => ?_) (Ev.now _)
    simp [impl_get.j0]
  · simp only [if_neg h1]
    rw [w64 (by omega) (by omega)]
    by_cases h2 : n > l.length - at_
    · rw [if_pos (Or.inr h2 : at_ < 0 ∨ n > l.length - at_), decide_eq_true h2]
      refine Ev.step (f := fun _ => some (0, -1)) (fun k => ?_) (Ev.now _)
      simp [impl_get.j0]
    · have h3 : ¬ (at_ < 0 ∨ n > l.length - at_) := by omega
      rw [decide_eq_false h2, if_neg h3]
      have hlen : ((l.take (at_ + n).toNat).drop at_.toNat).length = n.toNat := by simp; omega
      have hbb : Bytes ((l.take (at_ + n).toNat).drop at_.toNat) := fun x hx => hb x (List.mem_of_mem_take (List.mem_of_mem_drop hx))
      have := get_l0 at_ n _ hbb (by omega) n.toNat 0 0 (by omega) (by omega) (by simp)
      rw [List.drop_zero, w64 (by omega) (by omega)] at this
      refine Ev.step (fun k => ?_) this
      simp only [impl_get.j0]
      rw [w64 (show -9223372036854775808 ≤ at_ + n by omega) (by omega)]
      rw [if_neg (by simp), if_pos (by omega), if_pos (by omega), if_pos (by omega)]
      rfl

end Go.Proofs.YtkmchjdioplfjaaDoor.Pure

/- Plain lemmas on the printed functions: marks laid over a list of bytes, and found again; two lists compared; Put, Take. -/
namespace Go.Proofs.YtkmchjdioplfjaaDoor.Pure
open Go Go.RowKit Go.Proofs.YtkmchjdioplfjaaDoor.Q Go.Proofs.YtkmchjdioplfjaaDoorW.PrintWords Go.Proofs.YtkmchjdioplfjaaDoorW.PrintLast Go.Proofs.YtkmchjdioplfjaaDoorW.PrintMore
set_option linter.unusedVariables false
set_option linter.unusedSimpArgs false

end Go.Proofs.YtkmchjdioplfjaaDoor.Pure

/- The statement FnExactDotted: at every whole number the reference and the program tell the same address in dots, their caller's own. The row's listed tables of the library are tied to the program's text by the card. -/
namespace Go.Proofs.YtkmchjdioplfjaaDoor.Pure
open Go Go.RowKit Go.Proofs.YtkmchjdioplfjaaDoor.Q Go.Proofs.YtkmchjdioplfjaaDoorW.PrintWords Go.Proofs.YtkmchjdioplfjaaDoorW.PrintLast
set_option linter.unusedVariables false
def digL (c : Int) : List Int := (Lib.itoa c).map fun b => (b.toNat : Int)
theorem and255 (n : Int) : Go.bits .and .i64 n 255 = n % 256 := by
  have h255 : (BitVec.ofInt 64 255).toNat = 2 ^ 8 - 1 := by decide
  have key : (BitVec.ofInt 64 n &&& BitVec.ofInt 64 255).toNat = (n % ((2 ^ 64 : Nat) : Int)).toNat % 2 ^ 8 := by
    rw [BitVec.toNat_and, BitVec.toNat_ofInt, h255, Nat.and_two_pow_sub_one_eq_mod]
  show IntKind.i64.wrap ((BitVec.ofInt 64 n &&& BitVec.ofInt 64 255).toNat : Nat) = n % 256
  rw [key, IntKind.wrap_i64]
  omega
theorem u8_dig (u : Nat) (h : u < 10) : ((UInt8.ofNat (48 + u)).toNat : Int) = 48 + u := by
  rw [UInt8.toNat_ofNat']
  omega
def decL (u : Nat) : List Int := (Lib.decDigits u).map fun b => (b.toNat : Int)
theorem decL_one (u : Nat) (h : u < 10) : decL u = [48 + (u : Int)] := by
  unfold decL
  rw [Lib.decDigits, dif_pos h]
  simp only [List.map_cons, List.map_nil, u8_dig u h]
theorem decL_more (u : Nat) (h : ¬ u < 10) : decL u = decL (u / 10) ++ [48 + ((u % 10 : Nat) : Int)] := by
  unfold decL
  rw [Lib.decDigits, dif_neg h]
  simp only [List.map_append, List.map_cons, List.map_nil, u8_dig (u % 10) (by omega)]
theorem digits_one (k u : Nat) (h : u < 10) : spec_l1digits.f (k + 1) (u : Int) = some (decL u) := by
  simp only [spec_l1digits.f]
  rw [if_pos (by omega), decL_one u h, w64 (by omega) (by omega)]
  congr 2
  omega
theorem digits_more (k u : Nat) (h : ¬ u < 10) (hu : u < 1000000) (hk : spec_l1digits.f k ((u / 10 : Nat) : Int) = some (decL (u / 10))) (hl : (decL (u / 10)).length < 1000) : spec_l1digits.f (k + 1) (u : Int) = some (decL u) := by
  simp only [spec_l1digits.f]
  have e1 : Int.tdiv (u : Int) 10 = ((u / 10 : Nat) : Int) := by rw [Int.tdiv_eq_ediv_of_nonneg (by omega)]; omega
  have e2 : Int.tmod (u : Int) 10 = ((u % 10 : Nat) : Int) := by rw [Int.tmod_eq_emod_of_nonneg (by omega)]; omega
  rw [if_neg (by omega), e1, e2, w64 (by omega) (by omega), hk, Option.bind_some, if_pos (by omega), decL_more u h, w64 (by omega) (by omega)]
  congr 3
  omega
theorem digits_3 (u : Nat) (h : u ≤ 255) : spec_l1digits.f 3 (u : Int) = some (decL u) ∧ (decL u).length ≤ 3 := by
  by_cases h1 : u < 10
  · exact ⟨digits_one 2 u h1, by rw [decL_one u h1]; simp⟩
  · by_cases h2 : u / 10 < 10
    · exact ⟨digits_more 2 u h1 (by omega) (digits_one 1 _ h2) (by rw [decL_one _ h2]; simp), by rw [decL_more u h1, decL_one _ h2]; simp⟩
    · have h3 : u / 10 / 10 < 10 := by omega
      have l2 : decL (u / 10) = decL (u / 10 / 10) ++ [48 + ((u / 10 % 10 : Nat) : Int)] := decL_more _ h2
      exact ⟨digits_more 2 u h1 (by omega) (digits_more 1 _ h2 (by omega) (digits_one 0 _ h3) (by rw [decL_one _ h3]; simp)) (by rw [l2, decL_one _ h3]; simp), by rw [decL_more u h1, l2, decL_one _ h3]; simp⟩
theorem digL_dec (c : Int) (h : 0 ≤ c) : digL c = decL c.toNat := by
  unfold digL decL Lib.itoa
  rw [if_neg (by omega)]
theorem digits_ev (c : Int) (h0 : 0 ≤ c) (h1 : c ≤ 255) : Ev (fun k => spec_l1digits.f k c) (digL c) := by
  refine ⟨3, fun k hk => ?_⟩
  have h := (digits_3 c.toNat (by omega)).1
  rw [Int.toNat_of_nonneg h0] at h
  rw [digL_dec c h0]
  have : ∀ m, spec_l1digits.f (3 + m) c = some (decL c.toNat) := fun m => by
    induction m with
    | zero => exact h
    | succ m ih => exact spec_l1digits.mono c (3 + m) _ ih
  have := this (k - 3)
  rwa [show 3 + (k - 3) = k by omega] at this
theorem digL_len (c : Int) (h0 : 0 ≤ c) (h1 : c ≤ 255) : (digL c).length ≤ 3 := by
  rw [digL_dec c h0]
  exact (digits_3 c.toNat (by omega)).2
theorem dotV_list (x : Int) (h : 0 ≤ x ∧ x < 4294967296) : dotV x = digL (x / 16777216 % 256) ++ 46 :: (digL (x / 65536 % 256) ++ 46 :: (digL (x / 256 % 256) ++ 46 :: digL (x % 256))) := by
  unfold dotV
  rw [if_pos h]
  unfold strBytes
  rw [dot_list]
  simp [digL]
theorem dotV_len (x : Int) : (dotV x).length ≤ 15 := by
  by_cases h : 0 ≤ x ∧ x < 4294967296
  · rw [dotV_list x h]
    have a := digL_len (x / 16777216 % 256) (by omega) (by omega)
    have b := digL_len (x / 65536 % 256) (by omega) (by omega)
    have c := digL_len (x / 256 % 256) (by omega) (by omega)
    have d := digL_len (x % 256) (by omega) (by omega)
    simp only [List.length_append, List.length_cons]
    omega
  · unfold dotV
    rw [if_neg h]
    simp
theorem byte_at (x : Int) (i : Nat) (hi : i ≤ 3) : Go.bits .and .i64 (shr .i64 x (8 * (i : Int))) 255 = x / 2 ^ (8 * i) % 256 := by
  rw [and255]
  unfold shr
  rw [show (8 * (i : Int)).toNat = 8 * i by omega, Nat.min_eq_left (by simp [IntKind.bits]; omega)]
theorem dotted_more (x : Int) (i : Nat) (hi : i ≤ 2) (acc r : List Int) (hl : acc.length ≤ 100) (h : Ev (fun k => spec_l1dotted.l0 k x (acc ++ digL (x / 2 ^ (8 * (i + 1)) % 256) ++ [46]) (i : Int)) r) : Ev (fun k => spec_l1dotted.l0 k x acc ((i + 1 : Nat) : Int)) r := by
  have hb := byte_at x (i + 1) (by omega)
  have hd := digits_ev (x / 2 ^ (8 * (i + 1)) % 256) (by omega) (by omega)
  have hn := digL_len (x / 2 ^ (8 * (i + 1)) % 256) (by omega) (by omega)
  generalize x / 2 ^ (8 * (i + 1)) % 256 = c at hb hd hn h
  refine Ev.step (f := fun k => (spec_l1digits.f k c).bind fun t => if acc.length + t.length < 140737488355328 then ((some (acc ++ t : List Int)).bind fun y104 => (if ((i + 1 : Nat) : Int) > 0 then (if y104.length < 140737488355328 then (spec_l1dotted.l0 k x (y104 ++ [46]) (wrap64 (((i + 1 : Nat) : Int) - 1))) else (none)) else (spec_l1dotted.l0 k x y104 (wrap64 (((i + 1 : Nat) : Int) - 1))))) else none) (fun k => ?_) ?_
  · simp only [spec_l1dotted.l0]
    rw [if_pos (by omega), w64 (show -9223372036854775808 ≤ 8 * ((i + 1 : Nat) : Int) by omega) (by omega), if_pos (by omega), hb]
  · refine Ev.bind hd ?_
    simp only [if_pos (show acc.length + (digL c).length < 140737488355328 by omega), Option.bind_some, if_pos (show ((i + 1 : Nat) : Int) > 0 by omega), if_pos (show (acc ++ digL c).length < 140737488355328 by rw [List.length_append]; omega), show ((i + 1 : Nat) : Int) - 1 = (i : Int) by omega, w64 (show -9223372036854775808 ≤ (i : Int) by omega) (by omega)]
    exact h
theorem dotted_last (x : Int) (acc : List Int) (hl : acc.length ≤ 100) : Ev (fun k => spec_l1dotted.l0 k x acc 0) (acc ++ digL (x % 256)) := by
  have hb := byte_at x 0 (by omega)
  have hd := digits_ev (x % 256) (by omega) (by omega)
  have hn := digL_len (x % 256) (by omega) (by omega)
  rw [show x / 2 ^ (8 * 0) % 256 = x % 256 by simp] at hb
  generalize x % 256 = c at hb hd hn ⊢
  refine Ev.step (f := fun k => (spec_l1digits.f k c).bind fun t => if acc.length + t.length < 140737488355328 then ((some (acc ++ t : List Int)).bind fun y104 => (spec_l1dotted.l0 k x y104 (-1))) else none) (fun k => ?_) ?_
  · simp only [spec_l1dotted.l0]
    rw [if_pos (by omega), w64 (show -9223372036854775808 ≤ 8 * (0 : Int) by omega) (by omega), if_pos (by omega)]
    rw [show (8 * (0 : Int)) = 8 * ((0 : Nat) : Int) from rfl, hb, w64 (show -9223372036854775808 ≤ (0 : Int) - 1 by omega) (by omega)]
    rfl
  · refine Ev.bind hd ?_
    simp only [if_pos (show acc.length + (digL c).length < 140737488355328 by omega), Option.bind_some]
    refine Ev.step (f := fun _ => some (acc ++ digL c)) (fun k => ?_) (Ev.now _)
    simp only [spec_l1dotted.l0]
    rw [if_neg (by omega)]
theorem specDotted (x : Int) : Ev (fun k => spec_Dotted.f k x) (dotV x) := by
  unfold spec_Dotted.f
  by_cases h1 : x < 0
  · simp only [if_pos h1]
    rw [show dotV x = [] by unfold dotV; rw [if_neg (by omega)]]
    exact Ev.now _
  · simp only [if_neg h1]
    by_cases h2 : x ≥ 4294967296
    · simp only [if_pos h2]
      rw [show dotV x = [] by unfold dotV; rw [if_neg (by omega)]]
      exact Ev.now _
    · simp only [if_neg h2]
      refine Ev.bind (a := dotV x) ?_ (Ev.now _)
      unfold spec_l1dotted.f
      have a := digL_len (x / 16777216 % 256) (by omega) (by omega)
      have b := digL_len (x / 65536 % 256) (by omega) (by omega)
      have c := digL_len (x / 256 % 256) (by omega) (by omega)
      refine dotted_more x 2 (by omega) [] _ (by simp) ?_
      refine dotted_more x 1 (by omega) _ _ (by simp; omega) ?_
      refine dotted_more x 0 (by omega) _ _ (by simp; omega) ?_
      have h := dotted_last x (([] ++ digL (x / 2 ^ (8 * (2 + 1)) % 256) ++ [46]) ++ digL (x / 2 ^ (8 * (1 + 1)) % 256) ++ [46] ++ digL (x / 2 ^ (8 * (0 + 1)) % 256) ++ [46]) (by simp; omega)
      rw [dotV_list x (by omega)]
      simpa using h
end Go.Proofs.YtkmchjdioplfjaaDoor.Pure

/- Numbers in decimal, as the reference and the library tell them: for all words. -/
namespace Go.Proofs.YtkmchjdioplfjaaDoor.Pure
open Go Go.RowKit Go.Proofs.YtkmchjdioplfjaaDoor.Q Go.Proofs.YtkmchjdioplfjaaDoorW.PrintWords Go.Proofs.YtkmchjdioplfjaaDoorW.PrintLast
set_option linter.unusedVariables false
end Go.Proofs.YtkmchjdioplfjaaDoor.Pure

/- Texts and their bytes, as the reference (rows of bytes) and the program (texts) have them. -/
namespace Go.Proofs.YtkmchjdioplfjaaDoor.Pure
open Go Go.RowKit Go.Proofs.YtkmchjdioplfjaaDoor.Q Go.Proofs.YtkmchjdioplfjaaDoorW.PrintWords Go.Proofs.YtkmchjdioplfjaaDoorW.PrintLast
set_option linter.unusedVariables false
theorem dig_bytes (x : Int) : ∀ y ∈ digL x, 0 ≤ y ∧ y ≤ 255 := by
  intro y hy
  unfold digL at hy
  obtain ⟨b, _, rfl⟩ := List.mem_map.1 hy
  have := b.toNat_lt
  omega
theorem dotted_of (x : Int) (h : 0 ≤ x ∧ x ≤ 4294967295) : Ev (fun k => spec_l1dotted.f k x) (dotV x) := by
  obtain ⟨n, hn⟩ := specDotted x
  refine ⟨n, fun k hk => ?_⟩
  have := show spec_Dotted.f k x = some (dotV x) from hn k hk
  unfold spec_Dotted.f at this
  rw [if_neg (by omega), if_neg (by omega)] at this
  cases h2 : spec_l1dotted.f k x with
  | none => rw [h2] at this; cases this
  | some z => rw [h2] at this; show spec_l1dotted.f k x = _; rw [h2]; exact this
theorem dotV_range (x : Int) : ∀ y ∈ dotV x, 0 ≤ y ∧ y ≤ 255 := by
  by_cases h : 0 ≤ x ∧ x < 4294967296
  · rw [dotV_list x h]
    intro y hy
    simp only [List.mem_append, List.mem_cons] at hy
    rcases hy with hy | rfl | hy | rfl | hy | rfl | hy
    all_goals first | omega | exact dig_bytes _ _ hy
  · unfold dotV; rw [if_neg h]; intro y hy; simp at hy
end Go.Proofs.YtkmchjdioplfjaaDoor.Pure

/- Addresses read: the reference and the program answer alike at every row of bytes: true just at an address's own text. -/
namespace Go.Proofs.YtkmchjdioplfjaaDoor.Pure
open Go Go.RowKit Go.Proofs.YtkmchjdioplfjaaDoor.Q Go.Proofs.YtkmchjdioplfjaaDoorW.PrintWords Go.Proofs.YtkmchjdioplfjaaDoorW.PrintLast Go.Proofs.YtkmchjdioplfjaaDoorW.PrintMore
set_option linter.unusedVariables false
set_option linter.unusedSimpArgs false
/-! ### the program -/
theorem foldL_pos (l : List (List UInt8)) : ∀ n r : Int, 0 ≤ n → foldL n l = some r → 0 ≤ r := by
  induction l with
  | nil => intro n r hn h; simp only [foldL, Option.some.injEq] at h; omega
  | cons s l ih =>
    intro n r hn h
    simp only [foldL] at h
    cases ha : Lib.atoi s with
    | none => rw [ha] at h; cases h
    | some k =>
      rw [ha] at h
      simp only at h
      by_cases hc : 0 ≤ k ∧ k ≤ 255 ∧ n < 4294967296
      · rw [if_pos hc] at h; exact ih _ _ (by omega) h
      · rw [if_neg hc] at h; cases h
theorem parts_map (b : List Int) : (partsV b).map (·.data.toList) = Lib.splitK [46] 0 (Lib.count (strOfNums b).data.toList [46]) (strOfNums b).data.toList := by
  unfold partsV
  rw [Lib.splitB_data]
  rfl
theorem nums_str (s : ByteArray) : strOfNums (strBytes s) = s := by
  unfold strOfNums strBytes
  rw [List.map_map]
  have : (s.data.toList.map ((fun (x : Int) => UInt8.ofNat x.toNat) ∘ fun (b : UInt8) => (b.toNat : Int))) = s.data.toList := by
    refine (List.map_congr_left (g := id) fun x _ => ?_).trans (List.map_id _)
    show UInt8.ofNat ((x.toNat : Int)).toNat = x
    simp
  rw [this]
theorem read_self (m : Int) (h : 0 ≤ m ∧ m < 4294967296) : readV (dotV m) = (m, true) := by
  have hl := dotV_len m
  have e : (strOfNums (dotV m)).data.toList = Lib.itoa (m / 16777216 % 256) ++ 46 :: (Lib.itoa (m / 65536 % 256) ++ 46 :: (Lib.itoa (m / 256 % 256) ++ 46 :: Lib.itoa (m % 256))) := by
    have : dotV m = strBytes (dotS m) := by unfold dotV; rw [if_pos h]
    rw [this, nums_str, dot_list]
  obtain ⟨a1, a2⟩ := itoa_small (m / 16777216 % 256) (by omega) (by omega)
  obtain ⟨b1, b2⟩ := itoa_small (m / 65536 % 256) (by omega) (by omega)
  obtain ⟨c1, c2⟩ := itoa_small (m / 256 % 256) (by omega) (by omega)
  obtain ⟨d1, d2⟩ := itoa_small (m % 256) (by omega) (by omega)
  have hf : foldL 0 ((partsV (dotV m)).map (·.data.toList)) = some m := by
    rw [parts_map, e, split_four _ _ _ _ a2 b2 c2 d2]
    simp only [foldL, a1, b1, c1, d1]
    rw [if_pos (by omega), if_pos (by omega), if_pos (by omega), if_pos (by omega)]
    congr 1
    omega
  unfold readV
  rw [if_neg (by omega), hf]
  simp
theorem read_not (b : List Int) (h : ∀ m, 0 ≤ m → m < 4294967296 → b ≠ dotV m) : readV b = (0, false) := by
  unfold readV
  by_cases h15 : b.length > 15
  · rw [if_pos h15]
  rw [if_neg h15]
  cases hf : foldL 0 ((partsV b).map (·.data.toList)) with
  | none => rfl
  | some n =>
    simp only
    have hn := foldL_pos _ 0 n (by omega) hf
    by_cases he : dotV n = b
    · exfalso
      by_cases hr : n < 4294967296
      · exact h n hn hr he.symm
      · have hb : b = [] := by rw [← he]; unfold dotV; rw [if_neg (by omega)]
        subst hb
        rw [parts_map] at hf
        have e0 : (strOfNums []).data.toList = [] := rfl
        rw [e0, Lib.count_one] at hf
        simp [Lib.splitK, foldL, Lib.atoi] at hf
    · rw [if_neg he]
/-! ### the reference -/
end Go.Proofs.YtkmchjdioplfjaaDoor.Pure

/- The statement FnBytes: drawn numbers come back from their bytes and their texts, a drawn row that reads is its address's text; small letters stay. The listed tables and variables of the library are tied to the program's text by the card. -/
namespace Go.Proofs.YtkmchjdioplfjaaDoor.Pure
open Go Go.RowKit Go.Proofs.YtkmchjdioplfjaaDoor.Q Go.Proofs.YtkmchjdioplfjaaDoorW.PrintWords Go.Proofs.YtkmchjdioplfjaaDoorW.PrintLast Go.Proofs.YtkmchjdioplfjaaDoorW.PrintMore
set_option linter.unusedVariables false
set_option linter.unusedSimpArgs false
/-! ### what is drawn -/
theorem w64c {x : Int} (h1 : -9223372036854775808 ≤ x) (h2 : x ≤ 9223372036854775807) : wrap64 x = x := by unfold wrap64; omega
theorem byte_ex (s : List Int) (i h : Int) (hs : s.length ≤ 140737488351232) (hi : 0 ≤ i) : ∃ x i' h', spec_l1Byte.f s i h = some (x, i', h') ∧ 0 ≤ x ∧ x ≤ 255 ∧ 0 ≤ i' := by
  unfold spec_l1Byte.f
  by_cases h1 : i < (s.length : Int)
  · rw [if_pos h1, if_pos hi]
    refine ⟨_, _, _, rfl, ?_, ?_, ?_⟩
    · rw [and255]; omega
    · rw [and255]; omega
    · rw [w64c (by omega) (by omega)]; omega
  · rw [if_neg h1]
    exact ⟨_, _, _, rfl, by rw [and255]; omega, by rw [and255]; omega, hi⟩
theorem below_f (s : List Int) (i h a : Int) (hs : s.length ≤ 140737488351232) (hi : 0 ≤ i) (h0 : 0 < a) (h1 : a ≤ 256) : ∃ x i' h', spec_l1Below.f s i h a = some (x, i', h') ∧ 0 ≤ x ∧ x < a ∧ 0 ≤ i' := by
  obtain ⟨x, i', h', e, hx0, hx1, hi'⟩ := byte_ex s i h hs hi
  unfold spec_l1Below.f
  rw [if_neg (by omega), if_pos h1, e, Option.bind_some, if_neg (by omega)]
  refine ⟨_, _, _, rfl, Int.tmod_nonneg _ hx0, ?_, hi'⟩
  rw [Int.tmod_eq_emod_of_nonneg hx0]
  exact Int.emod_lt_of_pos _ h0
theorem below_big (s : List Int) (i h a : Int) (hs : s.length ≤ 140737488351232) (hi : 0 ≤ i) (h0 : 256 < a) (h1 : a ≤ 1073741824) : ∃ x i' h', spec_l1Below.f s i h a = some (x, i', h') ∧ 0 ≤ x ∧ x < a ∧ 0 ≤ i' := by
  obtain ⟨x1, i1, h1', e1, a1, b1, hi1⟩ := byte_ex s i h hs hi
  obtain ⟨x2, i2, h2, e2, a2, b2, hi2⟩ := byte_ex s i1 h1' hs hi1
  obtain ⟨x3, i3, h3, e3, a3, b3, hi3⟩ := byte_ex s i2 h2 hs hi2
  obtain ⟨x4, i4, h4, e4, a4, b4, hi4⟩ := byte_ex s i3 h3 hs hi3
  unfold spec_l1Below.f
  rw [if_neg (by omega), if_neg (by omega), e1]
  simp only [Option.bind_some]
  rw [e2]
  simp only [Option.bind_some]
  rw [e3]
  simp only [Option.bind_some]
  rw [e4]
  simp only [Option.bind_some]
  rw [if_neg (by omega)]
  rw [w64c (x := x1 * 16777216) (by omega) (by omega), w64c (x := x2 * 65536) (by omega) (by omega), w64c (x := x3 * 256) (by omega) (by omega), w64c (x := x1 * 16777216 + x2 * 65536) (by omega) (by omega), w64c (x := x1 * 16777216 + x2 * 65536 + x3 * 256) (by omega) (by omega), w64c (x := x1 * 16777216 + x2 * 65536 + x3 * 256 + x4) (by omega) (by omega)]
  have hp : 0 ≤ x1 * 16777216 + x2 * 65536 + x3 * 256 + x4 := by omega
  refine ⟨_, _, _, rfl, Int.tmod_nonneg _ hp, ?_, hi4⟩
  rw [Int.tmod_eq_emod_of_nonneg hp]
  exact Int.emod_lt_of_pos _ (by omega)
theorem new_l0 (s : List Int) (hs : s.length ≤ 140737488351232) (m : Nat) : ∀ (i : Int) (h : Int), 0 ≤ i → (s.length : Int) ≤ i + m → ∃ h', spec_l1New.l0 (m + 1) s h i = some (s, 0, h') := by
  induction m with
  | zero =>
    intro i h hi hm
    simp only [spec_l1New.l0]
    rw [if_neg (by omega)]
    exact ⟨_, rfl⟩
  | succ m ih =>
    intro i h hi hm
    simp only [spec_l1New.l0]
    by_cases h1 : i < (s.length : Int)
    · rw [if_pos h1]
      by_cases h2 : i < 4000
      · rw [if_pos h2, if_pos hi, w64c (show -9223372036854775808 ≤ i + 1 by omega) (by omega)]
        exact ih (i + 1) _ (by omega) (by omega)
      · rw [if_neg h2]; exact ⟨_, rfl⟩
    · rw [if_neg h1]; exact ⟨_, rfl⟩
theorem ev_up {α : Type} {r : α} {n : Nat} (g : Nat → Option α) (hg : ∀ k, LeO (g k) (g (k + 1))) (h : g n = some r) : Ev g r := by
  refine ⟨n, fun k hk => ?_⟩
  obtain ⟨m, rfl⟩ : ∃ m, k = n + m := ⟨k - n, by omega⟩
  clear hk
  induction m with
  | zero => exact h
  | succ m ih => exact hg (n + m) r ih
theorem new_ev (l : List Int) (hl : l.length ≤ 140737488351232) : ∃ h', Ev (fun k => spec_l1New.f k l) (l, 0, h') := by
  obtain ⟨h', e⟩ := new_l0 l hl l.length 0 (wrap64 (42222 + (l.length : Int))) (by omega) (by omega)
  exact ⟨h', ev_up (fun k => spec_l1New.f k l) (fun k => spec_l1New.mono _ _) e⟩
theorem some_l0 (s : List Int) (hs : s.length ≤ 140737488351232) (n : Int) (hn : n ≤ 256) (d : Nat) : ∀ (j i h : Int) (b : List Int), 0 ≤ i → 0 ≤ j → j ≤ n → n - j = d → (b.length : Int) = j → Bytes b →
    ∃ r i' h', spec_l1some.l0 (d + 1) b n j s i h = some (r, i', h') ∧ r.length ≤ 256 ∧ Bytes r ∧ 0 ≤ i' := by
  induction d with
  | zero =>
    intro j i h b hi hj hjn hd hb hx
    simp only [spec_l1some.l0]
    rw [if_neg (by omega)]
    exact ⟨_, _, _, rfl, by omega, hx, hi⟩
  | succ d ih =>
    intro j i h b hi hj hjn hd hb hx
    obtain ⟨x, i', h', e, hx0, hx1, hi'⟩ := byte_ex s i h hs hi
    simp only [spec_l1some.l0] at ih ⊢
    rw [if_pos (by omega), e, Option.bind_some, if_pos (by omega), w64c (by omega) (by omega)]
    refine ih (j + 1) i' h' _ hi' (by omega) (by omega) (by omega) (by simp; omega) (fun y hy => ?_)
    rcases List.mem_append.1 hy with h1 | h1
    · exact hx y h1
    · rw [List.mem_singleton.1 h1]; dsimp only; omega
theorem put_ev (l : List Int) (hl : l.length ≤ 140737488351232) : ∃ b n, Ev (fun k => spec_DrawPut16.f k l) (b, n) ∧ b.length ≤ 256 ∧ Bytes b := by
  obtain ⟨h', e⟩ := new_ev l hl
  obtain ⟨x, i1, h1, e1, hx0, hx1, hi1⟩ := below_f l 0 h' 4 hl (by omega) (by omega) (by omega)
  obtain ⟨b, i2, h2, e2, hb, hby, hi2⟩ := some_l0 l hl x (by omega) x.toNat 0 i1 h1 [] hi1 (by omega) (by omega) (by omega) rfl (fun _ h => absurd h (by simp))
  obtain ⟨y, i3, h3, e3, hy0, hy1, hi3⟩ := below_big l i2 h2 1073741824 hl hi2 (by omega) (by omega)
  obtain ⟨z, i4, h4, e4, hz0, hz1, hi4⟩ := below_f l i3 h3 11 hl hi3 (by omega) (by omega)
  have num : spec_l1num.f l i2 h2 = some (rd [0, 1, 255, 256, 65535, 65536, 4294967295, 4294967296, (-1), 9223372036854775807, y] z, i4, h4) := by
    unfold spec_l1num.f spec_l1PickInt.f
    rw [e3]
    simp only [Option.bind_some, List.length_cons, List.length_nil]
    rw [show ((0 + 1 + 1 + 1 + 1 + 1 + 1 + 1 + 1 + 1 + 1 + 1 : Nat) : Int) = 11 from rfl, e4]
    simp only [Option.bind_some]
    rw [if_pos hz0, if_pos hz1]
    rfl
  refine ⟨b, rd [0, 1, 255, 256, 65535, 65536, 4294967295, 4294967296, (-1), 9223372036854775807, y] z, ?_, hb, hby⟩
  unfold spec_DrawPut16.f
  refine Ev.bind e ?_
  have es : Ev (fun k => spec_l1some.f k l 0 h' 4) (b, i2, h2) := by
    unfold spec_l1some.f
    rw [e1]
    simp only [Option.bind_some]
    exact ev_up (fun k => spec_l1some.l0 k [] x 0 l i1 h1) (fun k => spec_l1some.mono_l k _ _ _ _ _ _) e2
  refine Ev.bind es ?_
  simp only [num, Option.bind_some]
  exact Ev.now _
/-! ### texts of addresses -/
theorem d3_dig : ∀ u : Fin 256, ∀ y ∈ (d3 u.val).map fun b => (b.toNat : Int), 48 ≤ y ∧ y ≤ 57 := by decide +kernel
theorem d3_len : ∀ u : Fin 256, (d3 u.val).length ≤ 3 := by decide +kernel
theorem dig_d3 (c : Int) (h0 : 0 ≤ c) (h1 : c ≤ 255) : digL c = (d3 c.toNat).map fun b => (b.toNat : Int) := by unfold digL; rw [itoa_d3 c h0 h1]
theorem dig_low (c : Int) (h0 : 0 ≤ c) (h1 : c ≤ 255) : ∀ y ∈ digL c, 48 ≤ y ∧ y ≤ 57 := by
  intro y hy
  rw [dig_d3 c h0 h1] at hy
  exact d3_dig ⟨c.toNat, by omega⟩ y hy
theorem dig_short (c : Int) (h0 : 0 ≤ c) (h1 : c ≤ 255) : (digL c).length ≤ 3 := by
  rw [dig_d3 c h0 h1, List.length_map]
  exact d3_len ⟨c.toNat, by omega⟩
theorem dotV_low (x : Int) : ∀ y ∈ dotV x, 46 ≤ y ∧ y ≤ 57 := by
  by_cases h : 0 ≤ x ∧ x < 4294967296
  · rw [dotV_list x h]
    intro y hy
    simp only [List.mem_append, List.mem_cons] at hy
    rcases hy with hy | rfl | hy | rfl | hy | rfl | hy
    all_goals first | omega | (have := dig_low _ (by omega) (by omega) _ hy; omega)
  · unfold dotV; rw [if_neg h]; intro y hy; simp at hy
theorem dotV_short (x : Int) : (dotV x).length ≤ 15 := by
  by_cases h : 0 ≤ x ∧ x < 4294967296
  · rw [dotV_list x h]
    simp only [List.length_append, List.length_cons]
    have a := dig_short (x / 16777216 % 256) (by omega) (by omega)
    have b := dig_short (x / 65536 % 256) (by omega) (by omega)
    have c := dig_short (x / 256 % 256) (by omega) (by omega)
    have d := dig_short (x % 256) (by omega) (by omega)
    omega
  · unfold dotV; rw [if_neg h]; simp
/-- No great letter. -/
def Small (l : List Int) : Prop := ∀ y ∈ l, 0 ≤ y ∧ y ≤ 255 ∧ (y < 65 ∨ 90 < y)
theorem words_small : ∀ j : Fin 6, ∀ y ∈ bytesOf (words6.getD j.val ByteArray.empty), 0 ≤ y ∧ y ≤ 255 ∧ (y < 65 ∨ 90 < y) := by decide +kernel
theorem words_short : ∀ j : Fin 6, (bytesOf (words6.getD j.val ByteArray.empty)).length ≤ 3 := by decide +kernel
theorem read_ev (l : List Int) (hl : l.length ≤ 140737488351232) : ∃ a, Ev (fun k => spec_DrawDottedRead.f k l) a ∧ a.length ≤ 1000 ∧ Small a := by
  obtain ⟨h', e⟩ := new_ev l hl
  obtain ⟨n, i1, h1, e1, hn0, hn1, hi1⟩ := below_big l 0 h' 1073741824 hl (by omega) (by omega) (by omega)
  obtain ⟨x, i2, h2, e2, hx0, hx1, hi2⟩ := below_f l i1 h1 3 hl hi1 (by omega) (by omega)
  have hd := dotV_short n
  have hds : Small (dotV n) := fun y hy => by have := dotV_low n y hy; omega
  obtain ⟨i, i3, h3, e3, hi0, hi1', hi3⟩ := below_f l i2 h2 (((dotV n).length : Int) + 1) hl hi2 (by omega) (by omega)
  obtain ⟨j, i4, h4, e4, hj0, hj1, hi4⟩ := below_f l i3 h3 6 hl hi3 (by omega) (by omega)
  have once : spec_l1Once.f l i1 h1 3 = some (x == 0, i2, h2) := by unfold spec_l1Once.f; rw [e2]; rfl
  by_cases ho : (x == 0) = true
  · refine ⟨(dotV n).take i.toNat ++ bytesOf (words6.getD j.toNat ByteArray.empty) ++ (dotV n).drop i.toNat, ?_, ?_, ?_⟩
    · unfold spec_DrawDottedRead.f
      refine Ev.bind e ?_
      simp only [e1, Option.bind_some]
      refine Ev.bind (dotted_of n (by omega)) ?_
      simp only [once, Option.bind_some]
      simp only [if_pos (show (dotV n).length ≤ 1000 by omega), if_pos ho, e3, Option.bind_some, e4]
      simp only [if_pos (show 0 ≤ i ∧ i ≤ ((dotV n).length : Int) ∧ 0 ≤ j ∧ j < 6 by omega)]
      exact Ev.now _
    · have := words_short ⟨j.toNat, by omega⟩
      dsimp only at this
      simp only [List.length_append, List.length_take, List.length_drop]
      omega
    · intro y hy
      rcases List.mem_append.1 hy with h5 | h5
      · rcases List.mem_append.1 h5 with h6 | h6
        · exact hds y (List.mem_of_mem_take h6)
        · exact words_small ⟨j.toNat, by omega⟩ y h6
      · exact hds y (List.mem_of_mem_drop h5)
  · refine ⟨dotV n, ?_, by omega, hds⟩
    unfold spec_DrawDottedRead.f
    refine Ev.bind e ?_
    simp only [e1, Option.bind_some]
    refine Ev.bind (dotted_of n (by omega)) ?_
    simp only [once, Option.bind_some]
    simp only [if_pos (show (dotV n).length ≤ 1000 by omega), if_neg ho]
    exact Ev.now _
/-! ### numbers in bytes -/
def put16V (l : List Int) (n : Int) : List Int := if 0 ≤ n ∧ n ≤ 65535 then l ++ [(n / 256) % 256, n % 256] else l
theorem put16V_len (l : List Int) (n : Int) : (put16V l n).length ≤ l.length + 2 := by unfold put16V; split <;> simp
theorem implPut16 (l : List Int) (hl : l.length ≤ 1048576) (n : Int) : impl_Put16.f l n = some (put16V l n) := by
  unfold impl_Put16.f put16V impl_within.f
  by_cases h1 : 0 ≤ n
  · by_cases h2 : n ≤ 65535
    · rw [if_pos h1, decide_eq_true h2, if_pos ⟨h1, h2⟩]
      simp only [Option.bind_some, if_true, impl_two.f, slices_Concat_byte_byte.f]
      rw [if_pos (by simp [slices_Concat_byte_byte.total]; omega)]
      simp
    · rw [if_pos h1, decide_eq_false h2, if_neg (by omega)]
      simp only [Option.bind_some, Bool.false_eq_true, if_false, bytes_Clone.f]
      rw [if_pos (by omega)]; rfl
  · rw [if_neg h1, if_neg (by omega)]
    simp only [Option.bind_some, Bool.false_eq_true, if_false, bytes_Clone.f]
    rw [if_pos (by omega)]; rfl
def put32V (l : List Int) (n : Int) : List Int := if 0 ≤ n ∧ n ≤ 4294967295 then l ++ [(n / 16777216) % 256, (n / 65536) % 256, (n / 256) % 256, n % 256] else l
theorem put32V_len (l : List Int) (n : Int) : (put32V l n).length ≤ l.length + 4 := by unfold put32V; split <;> simp
theorem implFour (n : Int) : impl_four.f n = some [(n / 16777216) % 256, (n / 65536) % 256, (n / 256) % 256, n % 256] := by
  unfold impl_four.f impl_two.f
  simp only [Option.bind_some]
  rw [if_pos (by simp)]
  simp; omega
theorem implPut32 (l : List Int) (hl : l.length ≤ 1048576) (n : Int) : impl_Put32.f l n = some (put32V l n) := by
  unfold impl_Put32.f put32V impl_isWord.f impl_within.f
  rw [implFour]
  by_cases h1 : 0 ≤ n
  · by_cases h2 : n ≤ 4294967295
    · rw [if_pos h1, decide_eq_true h2, if_pos ⟨h1, h2⟩]
      simp only [Option.bind_some, if_true, slices_Concat_byte_byte.f]
      rw [if_pos (by simp [slices_Concat_byte_byte.total]; omega)]
      simp
    · rw [if_pos h1, decide_eq_false h2, if_neg (by omega)]
      simp only [Option.bind_some, Bool.false_eq_true, if_false, bytes_Clone.f]
      rw [if_pos (by omega)]; rfl
  · rw [if_neg h1, if_neg (by omega)]
    simp only [Option.bind_some, Bool.false_eq_true, if_false, bytes_Clone.f]
    rw [if_pos (by omega)]; rfl
theorem mid_two (b : List Int) (x y : Int) (z : List Int) : ((b ++ x :: y :: z).take (b.length + 2)).drop b.length = [x, y] := by
  rw [show b ++ x :: y :: z = (b ++ [x, y]) ++ z by simp, List.take_left' (by simp), List.drop_left]
theorem mid_four (b : List Int) (x y u v : Int) (z : List Int) : ((b ++ x :: y :: u :: v :: z).take (b.length + 4)).drop b.length = [x, y, u, v] := by
  rw [show b ++ x :: y :: u :: v :: z = (b ++ [x, y, u, v]) ++ z by simp, List.take_left' (by simp), List.drop_left]
theorem get16_back (b : List Int) (n : Int) (h : 0 ≤ n ∧ n ≤ 65535) : getV (put16V b n ++ [9]) (b.length : Int) 2 = (n, ((put16V b n).length : Int)) := by
  unfold put16V getV
  rw [if_pos h, if_neg (by simp; omega)]
  rw [show ((b.length : Int) + 2).toNat = b.length + 2 by omega, show ((b.length : Int)).toNat = b.length by omega, List.append_assoc]
  rw [show ([n / 256 % 256, n % 256] : List Int) ++ [9] = n / 256 % 256 :: n % 256 :: [9] from rfl, mid_two]
  simp only [be, List.foldl_cons, List.foldl_nil, Prod.mk.injEq]
  refine ⟨by omega, by simp⟩
theorem get32_back (b : List Int) (n : Int) (h : 0 ≤ n ∧ n ≤ 4294967295) : getV (put32V b n ++ [9]) (b.length : Int) 4 = (n, ((put32V b n).length : Int)) := by
  unfold put32V getV
  rw [if_pos h, if_neg (by simp; omega)]
  rw [show ((b.length : Int) + 4).toNat = b.length + 4 by omega, show ((b.length : Int)).toNat = b.length by omega, List.append_assoc]
  rw [show ([n / 16777216 % 256, n / 65536 % 256, n / 256 % 256, n % 256] : List Int) ++ [9] = n / 16777216 % 256 :: n / 65536 % 256 :: n / 256 % 256 :: n % 256 :: [9] from rfl, mid_four]
  simp only [be, List.foldl_cons, List.foldl_nil, Prod.mk.injEq]
  refine ⟨by omega, by simp⟩
theorem bytes_app9 {b : List Int} (h : Bytes b) : Bytes (b ++ [9]) := fun y hy => by
  rcases List.mem_append.1 hy with h1 | h1
  · exact h y h1
  · rw [List.mem_singleton.1 h1]; omega
theorem put16_bytes {b : List Int} (h : Bytes b) (n : Int) : Bytes (put16V b n) := by
  unfold put16V
  split
  · intro y hy
    simp only [List.mem_append, List.mem_cons, List.not_mem_nil, or_false] at hy
    rcases hy with h1 | rfl | rfl
    · exact h y h1
    all_goals omega
  · exact h
theorem put32_bytes {b : List Int} (h : Bytes b) (n : Int) : Bytes (put32V b n) := by
  unfold put32V
  split
  · intro y hy
    simp only [List.mem_append, List.mem_cons, List.not_mem_nil, or_false] at hy
    rcases hy with h1 | rfl | rfl | rfl | rfl
    · exact h y h1
    all_goals omega
  · exact h
theorem get16_ev (b : List Int) (n : Int) (hb : b.length ≤ 256) (hx : Bytes b) : Ev (fun k => impl_Get16.f k (put16V b n ++ [9]) (b.length : Int)) ((getV (put16V b n ++ [9]) (b.length : Int) 2).1, (getV (put16V b n ++ [9]) (b.length : Int) 2).2) := by
  have hl := put16V_len b n
  unfold impl_Get16.f
  exact Ev.bind (get_ev _ (bytes_app9 (put16_bytes hx n)) (by simp; omega) _ 2 (by omega) (by omega)) (Ev.now _)
theorem get32_ev (b : List Int) (n : Int) (hb : b.length ≤ 256) (hx : Bytes b) : Ev (fun k => impl_Get32.f k (put32V b n ++ [9]) (b.length : Int)) ((getV (put32V b n ++ [9]) (b.length : Int) 4).1, (getV (put32V b n ++ [9]) (b.length : Int) 4).2) := by
  have hl := put32V_len b n
  unfold impl_Get32.f
  exact Ev.bind (get_ev _ (bytes_app9 (put32_bytes hx n)) (by simp; omega) _ 4 (by omega) (by omega)) (Ev.now _)
/-! ### behind the third check -/
abbrev restF (k : Nat) (l0 : List Int) : Option Bool := ((spec_DrawDottedRead.f k l0).bind fun t322 => ((impl_DottedRead.f t322).bind fun bt325 => ((impl_Lower.f t322).bind fun t327 => ((impl_Take.f t322 0 (t322.length : Int)).bind fun bt330 => (if bt325.2 = true then ((impl_Dotted.f bt325.1).bind fun t334 => ((laws_same.f t334 t322).bind fun t337 => (if t337 = true then ((laws_same.f t327 t322).bind fun t338 => (if t338 = true then (if bt330.2 = (t322.length : Int) then ((laws_same.f bt330.1 t322).bind fun t339 => (if t339 = true then ((impl_Lower.f (([65, 98] : List Int))).bind fun t343 => ((laws_same.f t343 (([97, 98] : List Int))).bind fun t349 => (some t349))) else (none))) else (none)) else (none))) else (none)))) else ((laws_same.f t327 t322).bind fun t350 => (if t350 = true then (if bt330.2 = (t322.length : Int) then ((laws_same.f bt330.1 t322).bind fun t351 => (if t351 = true then ((impl_Lower.f (([65, 98] : List Int))).bind fun t355 => ((laws_same.f t355 (([97, 98] : List Int))).bind fun t361 => (some t361))) else (none))) else (none)) else (none))))))))
theorem same_self (a : List Int) : laws_same.f a a = some true := by unfold laws_same.f; simp
theorem lower_self (a : List Int) (h : Small a) (hl : a.length ≤ 1000) : impl_Lower.f a = some a := by
  unfold impl_Lower.f
  rw [if_pos (by omega)]
  congr 1
  conv => rhs; rw [← List.map_id a]
  refine List.map_congr_left (fun y hy => ?_)
  have := h y hy
  unfold impl_Lower.byte
  rw [if_neg (by omega)]
  rfl
theorem take_self (a : List Int) (hl : a.length ≤ 1000) : impl_Take.f a 0 (a.length : Int) = some (a, (a.length : Int)) := by
  unfold impl_Take.f bytes_Clone.f
  rw [if_neg (by omega), if_neg (by omega), if_neg (by omega), w64 (x := (a.length : Int) - 0) (by omega) (by omega), if_neg (by omega), if_pos (by omega), w64 (x := 0 + (a.length : Int)) (by omega) (by omega), if_pos (by omega), if_pos (by omega)]
  have e : (a.take (0 + (a.length : Int)).toNat).drop (0 : Int).toNat = a := by
    rw [show (0 + (a.length : Int)).toNat = a.length by omega, List.take_length]; rfl
  rw [e, if_pos (by omega)]
  simp
theorem read_f (a : List Int) (hb : Bytes a) (hl : a.length ≤ 1000) : impl_DottedRead.f a = some (readV a) := by
  unfold impl_DottedRead.f
  rw [if_pos ⟨by omega, hb⟩]
theorem dotted_f (n : Int) : impl_Dotted.f n = some (dotV n) := rfl
theorem rest_ev (l : List Int) (hl : l.length ≤ 140737488351232) : Ev (fun k => restF k l) true := by
  obtain ⟨a, e, ha, hs⟩ := read_ev l hl
  unfold restF
  refine Ev.bind e ?_
  rw [read_f a (fun y hy => ⟨(hs y hy).1, (hs y hy).2.1⟩) ha, lower_self a hs ha, take_self a ha]
  simp only [Option.bind_some]
  have l2 : impl_Lower.f [65, 98] = some [97, 98] := rfl
  by_cases hr : (readV a).2 = true
  · obtain ⟨m, hm0, hm1, hm⟩ : ∃ m, 0 ≤ m ∧ m < 4294967296 ∧ a = dotV m := by
      by_cases hx : ∃ m, 0 ≤ m ∧ m < 4294967296 ∧ a = dotV m
      · exact hx
      · rw [read_not a (fun m h0 h1 h2 => hx ⟨m, h0, h1, h2⟩)] at hr
        exact absurd hr (by simp)
    have e1 : dotV (readV a).1 = a := by rw [hm, read_self m ⟨hm0, hm1⟩]
    simp only [if_pos hr, dotted_f, Option.bind_some, e1, same_self, l2, if_true]
    exact Ev.now _
  · simp only [if_neg hr, Option.bind_some, same_self, l2, if_true]
    exact Ev.now _
/-! ### the law -/
theorem fnbytes_ev (l : List Int) (hl : l.length ≤ 140737488351232) : Ev (fun k => laws_FnBytes.f k l) true := by
  obtain ⟨b, n, e, hb, hx⟩ := put_ev l hl
  have hr := rest_ev l hl
  have g16 := get16_ev b n hb hx
  have g32 := get32_ev b n hb hx
  have hl16 := put16V_len b n
  have hl32 := put32V_len b n
  have hd : impl_DottedRead.f (dotV n) = some (readV (dotV n)) := read_f _ (dotV_range n) (by have := dotV_short n; omega)
  unfold laws_FnBytes.f
  refine Ev.bind e ?_
  simp only [implPut16 b (by omega) n, implPut32 b (by omega) n, Option.bind_some, dotted_f, hd]
  simp only [if_pos (show (put16V b n).length < 140737488355328 by omega), if_pos (show (put32V b n).length < 140737488355328 by omega)]
  refine Ev.bind g16 ?_
  by_cases h0 : n ≥ 0
  · simp only [if_pos h0]
    by_cases h1 : n ≤ 65535
    · have k16 := get16_back b n ⟨h0, h1⟩
      have k32 := get32_back b n ⟨h0, by omega⟩
      simp only [if_pos h1, k16, if_true]
      refine Ev.bind g32 ?_
      simp only [if_pos (show n < 4294967296 by omega), k32, if_true, read_self n ⟨h0, by omega⟩]
      exact hr
    · simp only [if_neg h1]
      refine Ev.bind g32 ?_
      by_cases h2 : n < 4294967296
      · have k32 := get32_back b n ⟨h0, by omega⟩
        simp only [if_pos h2, k32, if_true, read_self n ⟨h0, h2⟩]
        exact hr
      · simp only [if_neg h2]
        exact hr
  · simp only [if_neg h0]
    refine Ev.bind g32 ?_
    exact hr
/-- The walk, with what it computes told. -/
theorem FnBytes (A : Option Addr) (c : Nat) (b : List Int) (w : World) (hr : Kd.C (Kd.int .u8) w A b.length b) (hc : b.length ≤ c) (hl : b.length ≤ 140737488351232) (hE : EnvR w) :
    Calls Tryd.prog 6 #[.slice A b.length c] w fun e w' => e = .returned (.bool true) ∧ Below w.heap.size w w' := by
  obtain ⟨k, h⟩ := fnbytes_ev b hl
  refine (laws_FnBytes.calls k A c b true w hr hc (h k (Nat.le_refl _)) hE.tab hE).mono ?_
  rintro e w' ⟨rfl, hd⟩
  exact ⟨rfl, hd⟩
end Go.Proofs.YtkmchjdioplfjaaDoor.Pure

