/- Plain lemmas for the statement FnExactReverse. -/
import Derived.Test.YtkmchjdioplfjaaDoorZFnExactReverse0
/- Plain lemmas on the printed functions: a list of bytes read into a new one, two lists compared, a number read from bytes. -/
namespace Go.Proofs.YtkmchjdioplfjaaDoor.Pure
open Go Go.RowKit Go.Proofs.YtkmchjdioplfjaaDoor.Q Go.Proofs.YtkmchjdioplfjaaDoorW.PrintWords Go.Proofs.YtkmchjdioplfjaaDoorW.PrintLast Go.Proofs.YtkmchjdioplfjaaDoorW.PrintMore
set_option linter.unusedVariables false
set_option linter.unusedSimpArgs false

theorem w64 {x : Int} (h1 : -9223372036854775808 ≤ x) (h2 : x ≤ 9223372036854775807) : wrap64 x = x := by
  unfold wrap64; omega
theorem eqByteS_l0 (l : List Int) (hl : l.length ≤ 140737488351232) (m : Nat) : ∀ (i : Nat), l.length = i + m →
    Ev (fun k => laws_eqByteS.l0 k l l i) true := by
  induction m with
  | zero =>
    intro i hi
    refine Ev.step (f := fun _ => some true) (fun k => ?_) (Ev.now _)
    simp only [laws_eqByteS.l0]
    rw [if_neg (by omega)]
  | succ m ih =>
    intro i hi
    refine Ev.step (fun k => ?_) (ih (i+1) (by omega))
    simp only [laws_eqByteS.l0]
    rw [if_pos (by omega), if_pos (by omega), if_pos (by omega), if_pos trivial, w64 (by omega) (by omega)]
    rfl
theorem eqByteS (l : List Int) (hl : l.length ≤ 140737488351232) : Ev (fun k => laws_eqByteS.f k l l) true := by
  unfold laws_eqByteS.f
  simp only [if_pos]
  exact eqByteS_l0 l hl l.length 0 (by omega)

end Go.Proofs.YtkmchjdioplfjaaDoor.Pure

/- Plain lemmas on the printed functions: marks laid over a list of bytes, and found again; two lists compared; Put, Take. -/
namespace Go.Proofs.YtkmchjdioplfjaaDoor.Pure
open Go Go.RowKit Go.Proofs.YtkmchjdioplfjaaDoor.Q Go.Proofs.YtkmchjdioplfjaaDoorW.PrintWords Go.Proofs.YtkmchjdioplfjaaDoorW.PrintLast Go.Proofs.YtkmchjdioplfjaaDoorW.PrintMore
set_option linter.unusedVariables false
set_option linter.unusedSimpArgs false

/-- n marks from a on. -/
def marks (a : Int) (n : Nat) : List Int := (List.range n).map fun (i : Nat) => (a + (i : Int)) % 256
theorem marks_len (a : Int) (n : Nat) : (marks a n).length = n := by simp [marks]
theorem marks_rd (a : Int) (n i : Nat) (h : i < n) : rd (marks a n) (i : Int) = (a + i) % 256 := by
  simp [rd, marks, List.getD_eq_getElem?_getD, h]
theorem held_l0 (a : Int) (h0 : 0 ≤ a) (h1 : a ≤ 1099511627776) (n : Nat) (hl : n ≤ 140737488351232) (m : Nat) : ∀ (i : Nat), n = i + m →
    Ev (fun k => laws_heldByteS.l0 k (marks a n) (a + i) i) (a + n) := by
  induction m with
  | zero =>
    intro i hi
    refine Ev.step (f := fun _ => some (a + n)) (fun k => ?_) (Ev.now _)
    simp only [laws_heldByteS.l0]
    rw [marks_len, if_neg (by omega), show i = n by omega]
  | succ m ih =>
    intro i hi
    refine Ev.step (fun k => ?_) (ih (i + 1) (by omega))
    simp only [laws_heldByteS.l0]
    rw [marks_len, if_pos (by omega), if_pos (by omega), marks_rd a n i (by omega), if_pos rfl, w64 (show -9223372036854775808 ≤ a + i + 1 by omega) (by omega), w64 (show -9223372036854775808 ≤ (i : Int) + 1 by omega) (by omega)]
    rw [show a + (i : Int) + 1 = a + ((i + 1 : Nat) : Int) by omega, show (i : Int) + 1 = ((i + 1 : Nat) : Int) by omega]
theorem heldByteS (a : Int) (h0 : 0 ≤ a) (h1 : a ≤ 1099511627776) (n : Nat) (hl : n ≤ 140737488351232) : Ev (fun k => laws_heldByteS.f k (marks a n) a) (a + n) := by
  have := held_l0 a h0 h1 n hl n 0 (by omega)
  simpa [laws_heldByteS.f] using this
end Go.Proofs.YtkmchjdioplfjaaDoor.Pure

/- The statement FnExactDotted: at every whole number the reference and the program tell the same address in dots, their caller's own. The row's listed tables of the library are tied to the program's text by the card. -/
namespace Go.Proofs.YtkmchjdioplfjaaDoor.Pure
open Go Go.RowKit Go.Proofs.YtkmchjdioplfjaaDoor.Q Go.Proofs.YtkmchjdioplfjaaDoorW.PrintWords Go.Proofs.YtkmchjdioplfjaaDoorW.PrintLast
set_option linter.unusedVariables false
def digL (c : Int) : List Int := (Lib.itoa c).map fun b => (b.toNat : Int)
theorem and255 (n : Int) : Go.bits .and .i64 n 255 = n % 256 := by
  have h255 : (BitVec.ofInt 64 255).toNat = 2 ^ 8 - 1 := by decide
  have key : (BitVec.ofInt 64 n &&& BitVec.ofInt 64 255).toNat = (n % ((2 ^ 64 : Nat) : Int)).toNat % 2 ^ 8 := by
    rw [BitVec.toNat_and, BitVec.toNat_ofInt, h255, Nat.and_two_pow_sub_one_eq_mod]
  show IntKind.i64.wrap ((BitVec.ofInt 64 n &&& BitVec.ofInt 64 255).toNat : Nat) = n % 256
  rw [key, IntKind.wrap_i64]
  omega
theorem u8_dig (u : Nat) (h : u < 10) : ((UInt8.ofNat (48 + u)).toNat : Int) = 48 + u := by
  rw [UInt8.toNat_ofNat']
  omega
def decL (u : Nat) : List Int := (Lib.decDigits u).map fun b => (b.toNat : Int)
theorem decL_one (u : Nat) (h : u < 10) : decL u = [48 + (u : Int)] := by
  unfold decL
  rw [Lib.decDigits, dif_pos h]
  simp only [List.map_cons, List.map_nil, u8_dig u h]
theorem decL_more (u : Nat) (h : ¬ u < 10) : decL u = decL (u / 10) ++ [48 + ((u % 10 : Nat) : Int)] := by
  unfold decL
  rw [Lib.decDigits, dif_neg h]
  simp only [List.map_append, List.map_cons, List.map_nil, u8_dig (u % 10) (by omega)]
theorem digits_one (k u : Nat) (h : u < 10) : spec_l1digits.f (k + 1) (u : Int) = some (decL u) := by
  simp only [spec_l1digits.f]
  rw [if_pos (by omega), decL_one u h, w64 (by omega) (by omega)]
  congr 2
  omega
theorem digits_more (k u : Nat) (h : ¬ u < 10) (hu : u < 1000000) (hk : spec_l1digits.f k ((u / 10 : Nat) : Int) = some (decL (u / 10))) (hl : (decL (u / 10)).length < 1000) : spec_l1digits.f (k + 1) (u : Int) = some (decL u) := by
  simp only [spec_l1digits.f]
  have e1 : Int.tdiv (u : Int) 10 = ((u / 10 : Nat) : Int) := by rw [Int.tdiv_eq_ediv_of_nonneg (by omega)]; omega
  have e2 : Int.tmod (u : Int) 10 = ((u % 10 : Nat) : Int) := by rw [Int.tmod_eq_emod_of_nonneg (by omega)]; omega
  rw [if_neg (by omega), e1, e2, w64 (by omega) (by omega), hk, Option.bind_some, if_pos (by omega), decL_more u h, w64 (by omega) (by omega)]
  congr 3
  omega
theorem digits_3 (u : Nat) (h : u ≤ 255) : spec_l1digits.f 3 (u : Int) = some (decL u) ∧ (decL u).length ≤ 3 := by
  by_cases h1 : u < 10
  · exact ⟨digits_one 2 u h1, by rw [decL_one u h1]; simp⟩
  · by_cases h2 : u / 10 < 10
    · exact ⟨digits_more 2 u h1 (by omega) (digits_one 1 _ h2) (by rw [decL_one _ h2]; simp), by rw [decL_more u h1, decL_one _ h2]; simp⟩
    · have h3 : u / 10 / 10 < 10 := by omega
      have l2 : decL (u / 10) = decL (u / 10 / 10) ++ [48 + ((u / 10 % 10 : Nat) : Int)] := decL_more _ h2
      exact ⟨digits_more 2 u h1 (by omega) (digits_more 1 _ h2 (by omega) (digits_one 0 _ h3) (by rw [decL_one _ h3]; simp)) (by rw [l2, decL_one _ h3]; simp), by rw [decL_more u h1, l2, decL_one _ h3]; simp⟩
theorem digL_dec (c : Int) (h : 0 ≤ c) : digL c = decL c.toNat := by
  unfold digL decL Lib.itoa
  rw [if_neg (by omega)]
theorem digits_ev (c : Int) (h0 : 0 ≤ c) (h1 : c ≤ 255) : Ev (fun k => spec_l1digits.f k c) (digL c) := by
  refine ⟨3, fun k hk => ?_⟩
  have h := (digits_3 c.toNat (by omega)).1
  rw [Int.toNat_of_nonneg h0] at h
  rw [digL_dec c h0]
  have : ∀ m, spec_l1digits.f (3 + m) c = some (decL c.toNat) := fun m => by
    induction m with
    | zero => exact h
    | succ m ih => exact spec_l1digits.mono c (3 + m) _ ih
  have := this (k - 3)
  rwa [show 3 + (k - 3) = k by omega] at this
theorem digL_len (c : Int) (h0 : 0 ≤ c) (h1 : c ≤ 255) : (digL c).length ≤ 3 := by
  rw [digL_dec c h0]
  exact (digits_3 c.toNat (by omega)).2
theorem byte_at (x : Int) (i : Nat) (hi : i ≤ 3) : Go.bits .and .i64 (shr .i64 x (8 * (i : Int))) 255 = x / 2 ^ (8 * i) % 256 := by
  rw [and255]
  unfold shr
  rw [show (8 * (i : Int)).toNat = 8 * i by omega, Nat.min_eq_left (by simp [IntKind.bits]; omega)]
end Go.Proofs.YtkmchjdioplfjaaDoor.Pure

/- The statement FnExactReverse: at every whole number the reference and the program tell the same name of an address, its caller's own. The row's listed tables of the library are tied to the program's text by the card. -/
namespace Go.Proofs.YtkmchjdioplfjaaDoor.Pure
open Go Go.RowKit Go.Proofs.YtkmchjdioplfjaaDoor.Q Go.Proofs.YtkmchjdioplfjaaDoorW.PrintWords Go.Proofs.YtkmchjdioplfjaaDoorW.PrintLast
set_option linter.unusedVariables false
theorem rev_rd (l : List (List Int)) (i : Nat) (h : i < l.length) : rd_L10 l (i : Int) = l[i] := by simp [rd_L10, List.getD_eq_getElem?_getD, h]
theorem rev_eqSS (l : List (List Int)) (hl : l.length ≤ 11728124029610) (he : ∀ x ∈ l, x.length ≤ 140737488351232) (m : Nat) : ∀ (i : Nat), l.length = i + m →
    Ev (fun k => laws_eqByteSS.l0 k l l i) true := by
  induction m with
  | zero =>
    intro i hi
    refine Ev.step (f := fun _ => some true) (fun k => ?_) (Ev.now _)
    simp only [laws_eqByteSS.l0]
    rw [if_neg (by omega)]
  | succ m ih =>
    intro i hi
    have hil : i < l.length := by omega
    refine Ev.step (f := fun k => (laws_eqByteS.f k l[i] l[i]).bind fun t => if t = true then laws_eqByteSS.l0 k l l ((i + 1 : Nat) : Int) else some false) (fun k => ?_) ?_
    · simp only [laws_eqByteSS.l0]
      rw [if_pos (by omega), if_pos (by omega), rev_rd l i hil, w64 (x := (i : Int) + 1) (by omega) (by omega), if_pos (by omega)]
      rfl
    · refine Ev.bind (eqByteS l[i] (he _ (List.getElem_mem hil))) ?_
      simp only [if_true]
      exact ih (i + 1) (by omega)
theorem rev_eqName (l : List (List Int)) (hl : l.length ≤ 11728124029610) (he : ∀ x ∈ l, x.length ≤ 140737488351232) : Ev (fun k => laws_eqName.f k l l) true := by
  unfold laws_eqName.f laws_eqByteSS.f
  refine Ev.bind (a := true) ?_ ?_
  · simp only [if_pos]
    exact rev_eqSS l hl he l.length 0 (by omega)
  · simp only [if_true]; exact Ev.now _
def lensR (l : List (List Int)) : Nat := laws_markByteSS.sum l
theorem rev_all_at (L : List (List Int)) : ∀ (a : Int) (i : Nat) (h : i < L.length), (laws_markByteSS.all a L)[i]'(by rw [laws_markByteSS.all_len]; exact h) = laws_markByteSS.mk (a + (lensR (L.take i) : Int)) (L[i]).length := by
  induction L with
  | nil => intro a i h; simp at h
  | cons x L ih =>
    intro a i h
    cases i with
    | zero => simp [laws_markByteSS.all, lensR, laws_markByteSS.sum]
    | succ i =>
      simp only [laws_markByteSS.all, List.getElem_cons_succ]
      rw [ih (a + x.length) i (by simpa using h)]
      congr 1
      simp only [List.take_succ_cons, lensR, laws_markByteSS.sum, List.map_cons, List.sum_cons]
      omega
theorem rev_heldSS (L : List (List Int)) (a : Int) (a0 : 0 ≤ a) (a1 : a ≤ 1000) (h1 : L.length ≤ 1000) (h2 : lensR L ≤ 1000) (m : Nat) : ∀ (i : Nat), L.length = i + m → Ev (fun k => laws_heldByteSS.l0 k (laws_markByteSS.all a L) (a + (lensR (L.take i) : Int)) i) (a + (lensR L : Int)) := by
  induction m with
  | zero =>
    intro i hi
    refine Ev.step (f := fun _ => some (a + (lensR L : Int))) (fun k => ?_) (Ev.now _)
    rw [laws_heldByteSS.l0, if_neg (by rw [laws_markByteSS.all_len]; omega), List.take_of_length_le (by omega)]
  | succ m ih =>
    intro i hi
    have hil : i < L.length := by omega
    have hsum : lensR (L.take (i + 1)) = lensR (L.take i) + (L[i]).length := by
      rw [List.take_succ_eq_append_getElem hil]
      exact laws_markByteSS.sum_snoc _ _
    have hle : lensR (L.take (i + 1)) ≤ lensR L := laws_markByteSS.sum_take L (i + 1)
    have hh := heldByteS (a + (lensR (L.take i) : Int)) (by omega) (by omega) (L[i]).length (by omega)
    refine Ev.step (f := fun k => (laws_heldByteS.f k (marks (a + (lensR (L.take i) : Int)) (L[i]).length) (a + (lensR (L.take i) : Int))).bind fun t => if t < 0 then some (-1) else laws_heldByteSS.l0 k (laws_markByteSS.all a L) t ((i + 1 : Nat) : Int)) (fun k => ?_) (Ev.bind hh ?_)
    · rw [laws_heldByteSS.l0, if_pos (by rw [laws_markByteSS.all_len]; omega), if_pos (by omega), rev_rd _ i (by rw [laws_markByteSS.all_len]; exact hil), rev_all_at L a i hil, w64 (x := (i : Int) + 1) (by omega) (by omega)]
      rfl
    · simp only [if_neg (show ¬ a + (lensR (L.take i) : Int) + ((L[i]).length : Int) < 0 by omega)]
      have := ih (i + 1) (by omega)
      rw [hsum] at this
      rw [show a + (lensR (L.take i) : Int) + ((L[i]).length : Int) = a + ((lensR (L.take i) + (L[i]).length : Nat) : Int) by omega]
      exact this
theorem rev_held (L : List (List Int)) (h1 : L.length ≤ 1000) (h2 : lensR L ≤ 1000) : Ev (fun k => laws_heldName.f k (mkN L) 1) (1 + (lensR L : Int)) := by
  unfold laws_heldName.f laws_heldByteSS.f mkN
  have := rev_heldSS L 1 (by omega) (by omega) h1 h2 L.length 0 (by omega)
  have this : Ev (fun k => laws_heldByteSS.l0 k (laws_markByteSS.all 1 L) 1 0) (1 + (lensR L : Int)) := by simpa [lensR, laws_markByteSS.sum] using this
  refine Ev.bind this ?_
  simp only [if_neg (show ¬ 1 + (lensR L : Int) < 0 by omega)]
  exact Ev.now _
theorem rev_more (x : Int) (i : Nat) (hi : i ≤ 3) (acc r : List (List Int)) (hl : acc.length ≤ 100) (h : Ev (fun k => spec_l2reverse.l0 k x ((i + 1 : Nat) : Int) (acc ++ [digL (x / 2 ^ (8 * i) % 256)])) r) : Ev (fun k => spec_l2reverse.l0 k x (i : Int) acc) r := by
  have hb := byte_at x i hi
  have hd := digits_ev (x / 2 ^ (8 * i) % 256) (by omega) (by omega)
  generalize x / 2 ^ (8 * i) % 256 = c at hb hd h
  refine Ev.step (f := fun k => (spec_l1digits.f k c).bind fun t => if acc.length < 5864062014805 then spec_l2reverse.l0 k x ((i + 1 : Nat) : Int) (acc ++ [t]) else none) (fun k => ?_) ?_
  · simp only [spec_l2reverse.l0]
    rw [if_pos (by omega), w64 (show -9223372036854775808 ≤ 8 * (i : Int) by omega) (by omega), if_pos (by omega), hb, w64 (show -9223372036854775808 ≤ (i : Int) + 1 by omega) (by omega)]
    rfl
  · refine Ev.bind hd ?_
    simp only [if_pos (show acc.length < 5864062014805 by omega)]
    exact h
theorem rev_last (x : Int) (acc : List (List Int)) (hl : acc.length ≤ 100) : Ev (fun k => spec_l2reverse.l0 k x 4 acc) (acc ++ [inaL, arpL]) := by
  refine Ev.step (f := fun _ => some (acc ++ [inaL, arpL])) (fun k => ?_) (Ev.now _)
  simp only [spec_l2reverse.l0]
  rw [if_neg (by omega), Option.bind_some, if_pos (by simp; omega)]
  rfl
def revR (x : Int) : List (List Int) := [digL (x % 256), digL (x / 256 % 256), digL (x / 65536 % 256), digL (x / 16777216 % 256), inaL, arpL]
theorem dig_str (c : Int) : strBytes (digS c) = digL c := by simp [strBytes, digS, digL]
theorem revV_eq (x : Int) : revV x = revR x := by
  unfold revV revS decS qd4 revR arpaS
  simp only [List.map_cons, List.map_nil, List.reverse_cons, List.reverse_nil, List.nil_append, List.cons_append, dig_str]
  rfl
theorem specRev (x : Int) : Ev (fun k => spec_l2reverse.f k x) (revR x) := by
  unfold spec_l2reverse.f
  refine rev_more x 0 (by omega) [] _ (by simp) ?_
  refine rev_more x 1 (by omega) _ _ (by simp) ?_
  refine rev_more x 2 (by omega) _ _ (by simp) ?_
  refine rev_more x 3 (by omega) _ _ (by simp) ?_
  have h := rev_last x ([] ++ [digL (x / 2 ^ (8 * 0) % 256)] ++ [digL (x / 2 ^ (8 * 1) % 256)] ++ [digL (x / 2 ^ (8 * 2) % 256)] ++ [digL (x / 2 ^ (8 * 3) % 256)]) (by simp)
  have e : ([] ++ [digL (x / 2 ^ (8 * 0) % 256)] ++ [digL (x / 2 ^ (8 * 1) % 256)] ++ [digL (x / 2 ^ (8 * 2) % 256)] ++ [digL (x / 2 ^ (8 * 3) % 256)]) ++ [inaL, arpL] = revR x := by simp [revR]
  rw [← e]
  exact h
def revP (x : Int) : List (List Int) × Bool := if 0 ≤ x ∧ x < 4294967296 then (revR x, true) else ([], false)
theorem specReverse (x : Int) : Ev (fun k => spec_Reverse.f k x) (revP x) := by
  unfold spec_Reverse.f revP
  by_cases h1 : x < 0
  · simp only [if_pos h1]
    rw [if_neg (by omega)]
    exact Ev.now _
  · simp only [if_neg h1]
    by_cases h2 : x ≥ 4294967296
    · simp only [if_pos h2]
      rw [if_neg (by omega)]
      exact Ev.now _
    · simp only [if_neg h2]
      rw [if_pos (by omega)]
      exact Ev.bind (specRev x) (Ev.now _)
theorem implReverse (x : Int) : impl_Reverse.f x = some (revP x) := by
  unfold impl_Reverse.f revP
  rw [revV_eq]
theorem revP_fit (x : Int) : (revP x).1.length ≤ 6 ∧ (∀ y ∈ (revP x).1, y.length ≤ 100) ∧ lensR (revP x).1 ≤ 1000 := by
  unfold revP
  by_cases h : 0 ≤ x ∧ x < 4294967296
  · rw [if_pos h]
    have a := digL_len (x / 16777216 % 256) (by omega) (by omega)
    have b := digL_len (x / 65536 % 256) (by omega) (by omega)
    have c := digL_len (x / 256 % 256) (by omega) (by omega)
    have d := digL_len (x % 256) (by omega) (by omega)
    refine ⟨by simp [revR], fun y hy => ?_, ?_⟩
    · simp only [revR, List.mem_cons, List.not_mem_nil, or_false] at hy
      rcases hy with rfl | rfl | rfl | rfl | rfl | rfl
      · omega
      · omega
      · omega
      · omega
      · decide
      · decide
    · simp only [revR, lensR, laws_markByteSS.sum, List.map_cons, List.map_nil, List.sum_cons, List.sum_nil]
      have e1 : inaL.length = 7 := rfl
      have e2 : arpL.length = 4 := rfl
      omega
  · rw [if_neg h]
    exact ⟨by simp, fun y hy => by simp at hy, by simp [lensR, laws_markByteSS.sum]⟩
/-- The walk, with what it computes told. -/
theorem FnExactReverse (x : Int) (w : World) (hT : TabA w) : Calls Tryd.prog 4 #[.int .i64 x] w fun e w' => e = .returned (.bool true) ∧ Below w.heap.size w w' := by
  obtain ⟨f1, f2, f3⟩ := revP_fit x
  obtain ⟨n1, h1⟩ := specReverse x
  obtain ⟨n2, h2⟩ := rev_eqName (revP x).1 (by omega) (fun y hy => by have := f2 y hy; omega)
  obtain ⟨n3, h3⟩ := rev_held (revP x).1 (by omega) f3
  have hi := implReverse x
  exact reverse_law (n1 + n2 + n3) x (revP x).1 (revP x).2 w hT (h1 _ (by omega)) hi (h2 _ (by omega)) f3 (h3 _ (by omega))
end Go.Proofs.YtkmchjdioplfjaaDoor.Pure

