/- Plain lemmas for the statement FnExactDhcid. -/
import Derived.Test.YtkmchjdioplfjaaZFnExactDhcid0
import Derived.Test.YtkmchjdioplfjaaZFnExactDhcid1
import Derived.Test.YtkmchjdioplfjaaVFnExactDhcid
import Derived.Deep.Slices
import Derived.Lib.SmallJoins
import Derived.OpenShut
/- What an argument reads as, kind by kind: from the form's reading of a datum to the print's kinds (Kd). -/
namespace Go.Proofs.Ytkmchjdioplfjaa.Open
open Go Go.RowKit Go.Deep Go.ChangeShapes Go.WideShapes Go.ChangeAt Go.Proofs.YtkmchjdioplfjaaW.PrintWords
set_option linter.unusedVariables false
variable {H : Type} {enc : TypeId × Value → H} {P : Program} {W : World} {sp : Nat → Bool} {held : Bool}

/-- Whatever cells are read as a datum of type t are those of a y of the kind d, of which ok holds. -/
def Opens (enc : TypeId × Value → H) (P : Program) (W : World) (sp : Nat → Bool) (held : Bool) {α : Type} (d : Kd α) (ok : α → Prop) (t : TypeId) : Prop :=
  ∀ fuel cs x, DataW.trod enc P W 0 sp held fuel t cs = some x → ∃ y : α, d.K W y cs ∧ ok y

theorem opens_int {t : TypeId} {k : IntKind} (ht : P.underlying t = some (.int k)) : Opens enc P W sp held (Kd.int k) (fun x => (Lit.int k x).wf = true) t := by
  intro fuel cs x h
  obtain ⟨a, rfl, _, hw⟩ := DataW.trod_int ht h
  exact ⟨a, rfl, hw⟩
theorem list_of {α : Type} {n : Nat} {Q : Nat → α → Prop} (h : ∀ i, i < n → ∃ y, Q i y) : ∃ l : List α, l.length = n ∧ ∀ i y, l[i]? = some y → Q i y := by
  induction n with
  | zero => exact ⟨[], rfl, fun i y hy => by simp at hy⟩
  | succ n ih =>
    obtain ⟨l, hl, hq⟩ := ih (fun i hi => h i (by omega))
    obtain ⟨y, hy⟩ := h n (by omega)
    refine ⟨l ++ [y], by simp [hl], fun i z hz => ?_⟩
    by_cases hi : i < n
    · rw [List.getElem?_append_left (by omega)] at hz; exact hq i z hz
    · by_cases e : i = n
      · subst e
        rw [List.getElem?_append_right (by omega), hl, Nat.sub_self] at hz
        simp at hz; subst hz; exact hy
      · rw [List.getElem?_eq_none (by simp; omega)] at hz; cases hz

theorem opens_slice {α : Type} {d : Kd α} {ok : α → Prop} {t e : TypeId} (ht : P.underlying t = some (.slice e)) (hs : d.sz = P.cellsOf e) (h : Opens enc P W sp held d ok e) :
    Opens enc P W sp held (Kd.slice e d) (fun l => l.length ≤ maxLen ∧ ∀ x ∈ l, ok x) t := by
  intro fuel cs x hx
  rcases open_slice ht hx with ⟨rfl, _⟩ | ⟨a, len, cap, m, n, D, Pl, rfl, _, hl, hm, hmm, _, hel⟩
  · exact ⟨[], ⟨none, 0, rfl, Nat.le_refl _, Kd.C_nil d W⟩, by simp, by simp⟩
  · have hlm : len ≤ m := by rw [hmm]; split <;> omega
    obtain ⟨l, hll, hq⟩ := list_of (n := len) (Q := fun i (y : α) => ∃ c, W.cells? 0 (a.add (i * P.cellsOf e)) (P.cellsOf e) = some c ∧ d.K W y c ∧ ok y) (fun i hi => by
      obtain ⟨c, h1, h2⟩ := hel i (by omega)
      obtain ⟨y, hy, hok⟩ := h _ _ _ h2
      exact ⟨y, c, h1, hy, hok⟩)
    refine ⟨l, ⟨some a, cap, by rw [hll], by omega, rfl, by rw [hll]; unfold maxLen at hm; omega, fun _ => ⟨a, rfl, fun j p hj => ?_⟩⟩, by omega, fun x hx => ?_⟩
    · obtain ⟨c, h1, h2, _⟩ := hq j p hj
      obtain ⟨_, hlen, hc⟩ := World.cells?_some h1
      refine ⟨c, by rw [hlen, hs], h2, fun i u hu => ?_⟩
      have hi : i < c.length := (List.getElem?_eq_some_iff.1 hu).1
      have h3 := hc i (by omega)
      rw [hs, ← Go.Proofs.YtkmchjdioplfjaaW.PrintWords.add_add, h3, hu]
    · obtain ⟨i, hi⟩ := List.mem_iff_getElem?.1 hx
      obtain ⟨_, _, _, hok⟩ := hq i x hi
      exact hok

/-- The fields of a struct, from place o on, as one kind. -/
def OpensF (enc : TypeId × Value → H) (P : Program) (W : World) (sp : Nat → Bool) (held : Bool) {α : Type} (d : Kd α) (ok : α → Prop) (fs : List Field) (o n : Nat) : Prop :=
  ∀ (fuel : Nat) (cs : List Value), cs.length = o + n → (∀ f ∈ fs, ∃ x, DataW.trod enc P W 0 sp held fuel f.type ((cs.drop f.offset).take (P.cellsOf f.type)) = some x) → ∃ y : α, d.K W y (cs.drop o) ∧ ok y
theorem opensF_one {α : Type} {d : Kd α} {ok : α → Prop} {f : Field} {o n : Nat} (ho : f.offset = o) (hn : P.cellsOf f.type = n) (h : Opens enc P W sp held d ok f.type) : OpensF enc P W sp held d ok [f] o n := by
  intro fuel cs hl hf
  obtain ⟨x, hx⟩ := hf f (by simp)
  rw [ho, hn, List.take_of_length_le (by simp; omega)] at hx
  exact h _ _ _ hx
theorem opens_struct {α β : Type} {d : Kd α} {ok : α → Prop} {t : TypeId} {fs : Array Field} {n : Nat} (f : β → α) (g : α → β) (hfg : ∀ y, f (g y) = y) (ht : P.underlying t = some (.struct fs)) (hn : P.cellsOf t = n) (h : OpensF enc P W sp held d ok fs.toList 0 n) :
    Opens enc P W sp held (Kd.iso d f) (fun y => ok (f y)) t := by
  intro fuel cs x hx
  obtain ⟨xs, m, _, rfl, hl, hlen, hf⟩ := DataW.trod_struct ht hx
  obtain ⟨y, hy, hok⟩ := h m cs (by omega) (fun fl hfl => by
    obtain ⟨i, hi⟩ := List.mem_iff_getElem?.1 hfl
    have hfi := hf i fl (by simpa using hi)
    have hil : i < xs.length := by rw [hlen]; have := (List.getElem?_eq_some_iff.1 hi).1; simpa using this
    exact ⟨xs[i], by rw [hfi, List.getElem?_eq_getElem hil]⟩)
  exact ⟨g y, by show d.K W (f (g y)) cs; rw [hfg]; simpa using hy, by show ok (f (g y)); rw [hfg]; exact hok⟩
/-- An argument of a struct's type. -/
theorem open_arg {r : Reach} {b0 : Nat} {α : Type} {d : Kd α} {ok : α → Prop} {t : TypeId} {fs : Array Field} {v : Value} {dt : DataW H} {p : List MemPlace} (ht : P.underlying t = some (.struct fs)) (hv : Value.okWide P W r b0 t v) (h : DataW.Trod enc P W 0 sp held t v dt p) (ho : Opens enc P W sp held d ok t) :
    ∃ (cs : List Value) (y : α), v = .agg cs.toArray ∧ d.K W y cs ∧ ok y := by
  obtain ⟨cs, rfl, hsz⟩ := okWide_struct ht hv
  obtain ⟨fuel, hf⟩ := h
  obtain ⟨y, hy, hok⟩ := ho _ _ _ hf
  exact ⟨cs.toList, y, by simp, by simpa [Value.cells] using hy, hok⟩
end Go.Proofs.Ytkmchjdioplfjaa.Open

-- Written by a program of this session (wip/myprint.py): what each type of the laws' parameters reads as.
namespace Go.Proofs.Ytkmchjdioplfjaa.Q
open Go Go.RowKit Go.Proofs.Ytkmchjdioplfjaa.Open Go.Proofs.YtkmchjdioplfjaaW.PrintWords
set_option linter.unusedVariables false
def okT5 (x : Int) : Prop := (Lit.int .u8 x).wf = true
theorem opensT5 {H : Type} {enc : TypeId × Value → H} {W : World} : Opens enc Try.prog W (fun _ => true) true (Kd.int .u8) okT5 5 := opens_int Try.underlying5
def okT26 (l : List Int) : Prop := l.length ≤ maxLen ∧ ∀ x ∈ l, okT5 x
theorem opensT26 {H : Type} {enc : TypeId × Value → H} {W : World} : Opens enc Try.prog W (fun _ => true) true (Kd.slice 5 (Kd.int .u8)) okT26 26 := opens_slice Try.underlying26 (by kernel_rfl) opensT5
def okT22 (l : List (List Int)) : Prop := l.length ≤ maxLen ∧ ∀ x ∈ l, okT26 x
theorem opensT22 {H : Type} {enc : TypeId × Value → H} {W : World} : Opens enc Try.prog W (fun _ => true) true (Kd.slice 26 (Kd.slice 5 (Kd.int .u8))) okT22 22 := opens_slice Try.underlying22 (by kernel_rfl) opensT26
def okT24 (x : S24) : Prop := okT22 x.f0
theorem opensT24 {H : Type} {enc : TypeId × Value → H} {W : World} : Opens enc Try.prog W (fun _ => true) true k24 okT24 24 := by
  have h := opens_struct (d := (Kd.slice 26 (Kd.slice 5 (Kd.int .u8)))) (ok := okT22) (enc := enc) (P := Try.prog) (W := W) (sp := fun _ => true) (held := true) (fun x : S24 => x.f0) (fun y => (⟨y⟩ : S24)) (fun _ => rfl) Try.underlying24 (n := 1) (by kernel_rfl) (by
    refine opensF_one (d := (Kd.slice 26 (Kd.slice 5 (Kd.int .u8)))) (ok := okT22) (n := 1) ?ho ?hn ?h; (case ho => rfl); (case hn => kernel_rfl); (case h => exact opensT22))
  exact h
end Go.Proofs.Ytkmchjdioplfjaa.Q

-- Written by a program of this session (wip/myprint.py): the pure statement of a law.
namespace Go.Proofs.Ytkmchjdioplfjaa.Q
open Go Go.RowKit
def laws_FnExactDhcid.Pure : Prop := ∀ (x0 : List Int) (x1 : S24), okT26 x0 → okT24 x1 → ∃ k, laws_FnExactDhcid.f k x0 x1.f0 = some true
end Go.Proofs.Ytkmchjdioplfjaa.Q

/- Plain lemmas on the printed functions: a list of bytes read into a new one, two lists compared, a number read from bytes. -/
namespace Go.Proofs.Ytkmchjdioplfjaa.Pure
open Go Go.RowKit Go.Proofs.Ytkmchjdioplfjaa.Q Go.Proofs.YtkmchjdioplfjaaW.PrintWords Go.Proofs.YtkmchjdioplfjaaW.PrintLast Go.Proofs.YtkmchjdioplfjaaW.PrintMore
set_option linter.unusedVariables false
set_option linter.unusedSimpArgs false

/-- Every element is a byte. -/
def Bytes (l : List Int) : Prop := ∀ x ∈ l, 0 ≤ x ∧ x ≤ 255
theorem Bytes.of_wf {l : List Int} (h : ∀ x ∈ l, (Lit.int .u8 x).wf = true) : Bytes l := fun x hx => by
  have := h x hx
  simp [Lit.wf, IntKind.min, IntKind.max, IntKind.signed, IntKind.bits] at this
  omega
theorem w64 {x : Int} (h1 : -9223372036854775808 ≤ x) (h2 : x ≤ 9223372036854775807) : wrap64 x = x := by
  unfold wrap64; omega
theorem set_prefix (l : List Int) (i : Nat) (h : i < l.length) (m : Nat) (hm : l.length = i + m + 1) :
    (l.take i ++ List.replicate (m+1) 0).set i (l.getD i 0) = l.take (i+1) ++ List.replicate m 0 := by
  rw [List.set_append_right _ _ (by simp; omega)]
  simp only [List.length_take, Nat.min_eq_left (Nat.le_of_lt h), Nat.sub_self, List.replicate_succ, List.set_cons_zero]
  rw [List.take_succ_eq_append_getElem h, List.append_assoc]
  simp [List.getD_eq_getElem?_getD, h]

theorem toByteS_l0 (l : List Int) (hl : l.length ≤ 140737488351232) (m : Nat) : ∀ (i : Nat), l.length = i + m →
    Ev (fun k => laws_toByteS.l0 k l (l.take i ++ List.replicate m 0) i) l := by
  induction m with
  | zero =>
    intro i hi
    refine Ev.step (f := fun _ => some l) (fun k => ?_) (Ev.now _)
    simp only [laws_toByteS.l0]
    rw [if_neg (by omega)]
    simp [List.take_of_length_le (show l.length ≤ i by omega)]
  | succ m ih =>
    intro i hi
    refine Ev.step (fun k => ?_) (ih (i+1) (by omega))
    simp only [laws_toByteS.l0]
    rw [if_pos (by omega), if_pos (by omega), if_pos (by simp; omega), w64 (by omega) (by omega)]
    rw [show rd l (i : Int) = l.getD i 0 by simp [rd], show ((i : Int)).toNat = i by omega, set_prefix l i (by omega) m (by omega)]
    rfl
theorem toByteS (l : List Int) (hl : l.length ≤ 140737488351232) : Ev (fun k => laws_toByteS.f k l) l := by
  unfold laws_toByteS.f
  simp only [if_pos (show 0 ≤ (l.length : Int) by omega), if_pos (show ((l.length : Int)).toNat ≤ 281474976710656 by omega)]
  simpa using toByteS_l0 l hl l.length 0 (by omega)

theorem eqByteS_l0 (l : List Int) (hl : l.length ≤ 140737488351232) (m : Nat) : ∀ (i : Nat), l.length = i + m →
    Ev (fun k => laws_eqByteS.l0 k l l i) true := by
  induction m with
  | zero =>
    intro i hi
    refine Ev.step (f := fun _ => some true) (fun k => ?_) (Ev.now _)
    simp only [laws_eqByteS.l0]
    rw [if_neg (by omega)]
  | succ m ih =>
    intro i hi
    refine Ev.step (fun k => ?_) (ih (i+1) (by omega))
    simp only [laws_eqByteS.l0]
    rw [if_pos (by omega), if_pos (by omega), if_pos (by omega), if_pos trivial, w64 (by omega) (by omega)]
    rfl
theorem eqByteS (l : List Int) (hl : l.length ≤ 140737488351232) : Ev (fun k => laws_eqByteS.f k l l) true := by
  unfold laws_eqByteS.f
  simp only [if_pos]
  exact eqByteS_l0 l hl l.length 0 (by omega)

end Go.Proofs.Ytkmchjdioplfjaa.Pure

/- Plain lemmas on the printed functions: marks laid over a list of bytes, and found again; two lists compared; Put, Take. -/
namespace Go.Proofs.Ytkmchjdioplfjaa.Pure
open Go Go.RowKit Go.Proofs.Ytkmchjdioplfjaa.Q Go.Proofs.YtkmchjdioplfjaaW.PrintWords Go.Proofs.YtkmchjdioplfjaaW.PrintLast Go.Proofs.YtkmchjdioplfjaaW.PrintMore
set_option linter.unusedVariables false
set_option linter.unusedSimpArgs false

/-- n marks from a on. -/
def marks (a : Int) (n : Nat) : List Int := (List.range n).map fun (i : Nat) => (a + (i : Int)) % 256
theorem marks_len (a : Int) (n : Nat) : (marks a n).length = n := by simp [marks]
theorem marks_rd (a : Int) (n i : Nat) (h : i < n) : rd (marks a n) (i : Int) = (a + i) % 256 := by
  simp [rd, marks, List.getD_eq_getElem?_getD, h]
theorem marks_succ (a : Int) (i : Nat) : marks a (i + 1) = marks a i ++ [(a + i) % 256] := by simp [marks, List.range_succ]
theorem mark_l0 (l : List Int) (a : Int) (h0 : 0 ≤ a) (h1 : a ≤ 1099511627776) (hl : l.length ≤ 140737488351232) (m : Nat) : ∀ (i : Nat), l.length = i + m →
    Ev (fun k => laws_markByteS.l0 k (marks a i ++ l.drop i) (a + i) i) (a + l.length, marks a l.length) := by
  induction m with
  | zero =>
    intro i hi
    refine Ev.step (f := fun _ => some (a + l.length, marks a l.length)) (fun k => ?_) (Ev.now _)
    simp only [laws_markByteS.l0]
    rw [List.length_append, marks_len, List.length_drop, if_neg (by omega), List.drop_of_length_le (by omega), List.append_nil, show i = l.length by omega]
  | succ m ih =>
    intro i hi
    refine Ev.step (fun k => ?_) (ih (i + 1) (by omega))
    simp only [laws_markByteS.l0]
    rw [List.length_append, marks_len, List.length_drop, if_pos (by omega), if_pos (by omega), w64 (show -9223372036854775808 ≤ a + i + 1 by omega) (by omega), w64 (show -9223372036854775808 ≤ (i : Int) + 1 by omega) (by omega)]
    rw [show ((i : Int)).toNat = i by omega, List.set_append_right _ _ (by rw [marks_len]; omega), marks_len, Nat.sub_self, List.drop_eq_getElem_cons (show i < l.length by omega), List.set_cons_zero, marks_succ, List.append_assoc, List.singleton_append]
    rw [show a + (i : Int) + 1 = a + ((i + 1 : Nat) : Int) by omega, show (i : Int) + 1 = ((i + 1 : Nat) : Int) by omega]
theorem markByteS (l : List Int) (a : Int) (h0 : 0 ≤ a) (h1 : a ≤ 1099511627776) (hl : l.length ≤ 140737488351232) : Ev (fun k => laws_markByteS.f k l a) (a + l.length, marks a l.length) := by
  have := mark_l0 l a h0 h1 hl l.length 0 (by omega)
  simpa [laws_markByteS.f, marks] using this
theorem held_l0 (a : Int) (h0 : 0 ≤ a) (h1 : a ≤ 1099511627776) (n : Nat) (hl : n ≤ 140737488351232) (m : Nat) : ∀ (i : Nat), n = i + m →
    Ev (fun k => laws_heldByteS.l0 k (marks a n) (a + i) i) (a + n) := by
  induction m with
  | zero =>
    intro i hi
    refine Ev.step (f := fun _ => some (a + n)) (fun k => ?_) (Ev.now _)
    simp only [laws_heldByteS.l0]
    rw [marks_len, if_neg (by omega), show i = n by omega]
  | succ m ih =>
    intro i hi
    refine Ev.step (fun k => ?_) (ih (i + 1) (by omega))
    simp only [laws_heldByteS.l0]
    rw [marks_len, if_pos (by omega), if_pos (by omega), marks_rd a n i (by omega), if_pos rfl, w64 (show -9223372036854775808 ≤ a + i + 1 by omega) (by omega), w64 (show -9223372036854775808 ≤ (i : Int) + 1 by omega) (by omega)]
    rw [show a + (i : Int) + 1 = a + ((i + 1 : Nat) : Int) by omega, show (i : Int) + 1 = ((i + 1 : Nat) : Int) by omega]
theorem heldByteS (a : Int) (h0 : 0 ≤ a) (h1 : a ≤ 1099511627776) (n : Nat) (hl : n ≤ 140737488351232) : Ev (fun k => laws_heldByteS.f k (marks a n) a) (a + n) := by
  have := held_l0 a h0 h1 n hl n 0 (by omega)
  simpa [laws_heldByteS.f] using this
end Go.Proofs.Ytkmchjdioplfjaa.Pure

/- Plain lemmas on the printed functions that read, measure and compare lists of lists of bytes, and names. -/
namespace Go.Proofs.Ytkmchjdioplfjaa.Pure
open Go Go.RowKit Go.Proofs.Ytkmchjdioplfjaa.Q Go.Proofs.YtkmchjdioplfjaaW.PrintWords Go.Proofs.YtkmchjdioplfjaaW.PrintLast Go.Proofs.YtkmchjdioplfjaaW.PrintMore
set_option linter.unusedVariables false
set_option linter.unusedSimpArgs false

theorem rdL_at (l : List (List Int)) (i : Nat) (h : i < l.length) : rd_L10 l (i : Int) = l[i] := by simp [rd_L10, List.getD_eq_getElem?_getD, h]
def lens (l : List (List Int)) : Nat := (l.map List.length).sum
theorem lens_drop (l : List (List Int)) (i : Nat) (h : i < l.length) : lens (l.drop i) = l[i].length + lens (l.drop (i + 1)) := by
  rw [List.drop_eq_getElem_cons h]; simp only [lens, List.map_cons, List.sum_cons]
theorem len_le_lens (l : List (List Int)) (i : Nat) (h : i < l.length) : l[i].length ≤ lens l := by
  induction l generalizing i with
  | nil => simp at h
  | cons x l ih =>
    cases i with
    | zero => simp [lens]
    | succ i => have := ih i (by simpa using h); simp [lens] at this ⊢; omega
theorem szByteS (l : List Int) (left : Int) (hl : l.length ≤ 9223372036854775807) (h0 : 0 ≤ left) (h1 : left ≤ 1048576) : ∃ t, laws_szByteS.f l left = some t ∧ (t < 0 ∨ (t = left - l.length ∧ 0 ≤ t)) := by
  unfold laws_szByteS.f
  rw [w64 (by omega) (by omega)]
  by_cases h : left - (l.length : Int) < 0
  · exact ⟨-1, by rw [if_pos h], Or.inl (by omega)⟩
  · exact ⟨left - l.length, by rw [if_neg h], Or.inr ⟨rfl, by omega⟩⟩
theorem szByteSS_l0 (l : List (List Int)) (hl : l.length ≤ 1048576) (he : ∀ x ∈ l, x.length ≤ 9223372036854775807) (m : Nat) : ∀ (i : Nat) (left : Int), l.length = i + m → 0 ≤ left → left ≤ 1048576 →
    ∃ t, Ev (fun k => laws_szByteSS.l0 k l left i) t ∧ (t < 0 ∨ (t = left - lens (l.drop i) ∧ 0 ≤ t)) := by
  induction m with
  | zero =>
    intro i left hi h0 h1
    refine ⟨left, Ev.step (f := fun _ => some left) (fun k => ?_) (Ev.now _), Or.inr ⟨by rw [List.drop_of_length_le (by omega)]; simp [lens], h0⟩⟩
    simp only [laws_szByteSS.l0]
    rw [if_neg (by omega)]
  | succ m ih =>
    intro i left hi h0 h1
    have hil : i < l.length := by omega
    obtain ⟨t, ht, hc⟩ := szByteS l[i] left (he _ (List.getElem_mem hil)) h0 h1
    by_cases hneg : t < 0
    · refine ⟨-1, Ev.step (f := fun _ => some (-1)) (fun k => ?_) (Ev.now _), Or.inl (by omega)⟩
      simp only [laws_szByteSS.l0]
      rw [if_pos (by omega), if_pos (by omega), rdL_at l i hil, ht]
      simp [hneg]
    · obtain ⟨u, hu, hcu⟩ := ih (i + 1) t (by omega) (by omega) (by omega)
      refine ⟨u, Ev.step (fun k => ?_) hu, ?_⟩
      · simp only [laws_szByteSS.l0]
        rw [if_pos (by omega), if_pos (by omega), rdL_at l i hil, ht, w64 (x := (i : Int) + 1) (by omega) (by omega)]
        simp [hneg]
      · rw [lens_drop l i hil]
        rcases hcu with h | h
        · exact Or.inl h
        · exact Or.inr (by omega)
theorem szByteSS (l : List (List Int)) (left : Int) (hl : l.length ≤ 9223372036854775807) (he : ∀ x ∈ l, x.length ≤ 9223372036854775807) (h0 : 0 ≤ left) (h1 : left ≤ 1048576) :
    ∃ t, Ev (fun k => laws_szByteSS.f k l left) t ∧ (t < 0 ∨ (t = left - l.length - lens l ∧ 0 ≤ t)) := by
  unfold laws_szByteSS.f
  rw [w64 (by omega) (by omega)]
  by_cases h : left - (l.length : Int) < 0
  · exact ⟨-1, by simp only [if_pos h]; exact Ev.now _, Or.inl (by omega)⟩
  · obtain ⟨t, ht, hc⟩ := szByteSS_l0 l (by omega) he l.length 0 (left - l.length) (by omega) (by omega) (by omega)
    exact ⟨t, by simp only [if_neg h]; exact ht, by rw [List.drop_zero] at hc; omega⟩
theorem szName (l : List (List Int)) (left : Int) (hl : l.length ≤ 9223372036854775807) (he : ∀ x ∈ l, x.length ≤ 9223372036854775807) (h0 : 0 ≤ left) (h1 : left ≤ 1048576) :
    ∃ t, Ev (fun k => laws_szName.f k l left) t ∧ (t < 0 ∨ (t = left - l.length - lens l ∧ 0 ≤ t)) := by
  obtain ⟨t, ht, hc⟩ := szByteSS l left hl he h0 h1
  unfold laws_szName.f
  by_cases h : t < 0
  · exact ⟨-1, Ev.bind ht (by simp only [if_pos h]; exact Ev.now _), Or.inl (by omega)⟩
  · exact ⟨t, Ev.bind ht (by simp only [if_neg h]; exact Ev.now _), hc⟩
theorem setL_prefix (l : List (List Int)) (i : Nat) (h : i < l.length) (m : Nat) (hm : l.length = i + m + 1) :
    (l.take i ++ List.replicate (m+1) []).set i l[i] = l.take (i+1) ++ List.replicate m [] := by
  rw [List.set_append_right _ _ (by simp; omega)]
  simp only [List.length_take, Nat.min_eq_left (Nat.le_of_lt h), Nat.sub_self, List.replicate_succ, List.set_cons_zero]
  rw [List.take_succ_eq_append_getElem h, List.append_assoc]
  simp
theorem toByteSS_l0 (l : List (List Int)) (hl : l.length ≤ 11728124029610) (he : ∀ x ∈ l, x.length ≤ 140737488351232) (m : Nat) : ∀ (i : Nat), l.length = i + m →
    Ev (fun k => laws_toByteSS.l0 k l (l.take i ++ List.replicate m []) i) l := by
  induction m with
  | zero =>
    intro i hi
    refine Ev.step (f := fun _ => some l) (fun k => ?_) (Ev.now _)
    simp only [laws_toByteSS.l0]
    rw [if_neg (by omega)]
    simp [List.take_of_length_le (show l.length ≤ i by omega)]
  | succ m ih =>
    intro i hi
    have hil : i < l.length := by omega
    refine Ev.step (f := fun k => (laws_toByteS.f k l[i]).bind fun t => laws_toByteSS.l0 k l ((l.take i ++ List.replicate (m + 1) []).set i t) ((i + 1 : Nat) : Int)) (fun k => ?_) ?_
    · simp only [laws_toByteSS.l0]
      rw [if_pos (by omega), if_pos (by omega), rdL_at l i hil, w64 (x := (i : Int) + 1) (by omega) (by omega)]
      simp only [if_pos (show (i : Int) < ((l.take i ++ List.replicate (m + 1) ([] : List Int)).length : Int) by simp; omega), show ((i : Int)).toNat = i by omega]
      rfl
    · refine Ev.bind (toByteS l[i] (he _ (List.getElem_mem hil))) ?_
      rw [setL_prefix l i hil m (by omega)]
      exact ih (i + 1) (by omega)
theorem toByteSS (l : List (List Int)) (hl : l.length ≤ 11728124029610) (he : ∀ x ∈ l, x.length ≤ 140737488351232) : Ev (fun k => laws_toByteSS.f k l) l := by
  unfold laws_toByteSS.f
  simp only [if_pos (show 0 ≤ (l.length : Int) by omega), if_pos (show ((l.length : Int)).toNat ≤ 11728124029610 by omega)]
  simpa using toByteSS_l0 l hl he l.length 0 (by omega)
theorem toName (l : List (List Int)) (hl : l.length ≤ 11728124029610) (he : ∀ x ∈ l, x.length ≤ 140737488351232) : Ev (fun k => laws_toName.f k l) l := by
  unfold laws_toName.f
  exact Ev.bind (toByteSS l hl he) (Ev.now _)
theorem eqByteSS_l0 (l : List (List Int)) (hl : l.length ≤ 11728124029610) (he : ∀ x ∈ l, x.length ≤ 140737488351232) (m : Nat) : ∀ (i : Nat), l.length = i + m →
    Ev (fun k => laws_eqByteSS.l0 k l l i) true := by
  induction m with
  | zero =>
    intro i hi
    refine Ev.step (f := fun _ => some true) (fun k => ?_) (Ev.now _)
    simp only [laws_eqByteSS.l0]
    rw [if_neg (by omega)]
  | succ m ih =>
    intro i hi
    have hil : i < l.length := by omega
    refine Ev.step (f := fun k => (laws_eqByteS.f k l[i] l[i]).bind fun t => if t = true then laws_eqByteSS.l0 k l l ((i + 1 : Nat) : Int) else some false) (fun k => ?_) ?_
    · simp only [laws_eqByteSS.l0]
      rw [if_pos (by omega), if_pos (by omega), rdL_at l i hil, w64 (x := (i : Int) + 1) (by omega) (by omega), if_pos (by omega)]
      rfl
    · refine Ev.bind (eqByteS l[i] (he _ (List.getElem_mem hil))) ?_
      simp only [if_true]
      exact ih (i + 1) (by omega)
theorem eqByteSS (l : List (List Int)) (hl : l.length ≤ 11728124029610) (he : ∀ x ∈ l, x.length ≤ 140737488351232) : Ev (fun k => laws_eqByteSS.f k l l) true := by
  unfold laws_eqByteSS.f
  simp only [if_pos]
  exact eqByteSS_l0 l hl he l.length 0 (by omega)
theorem eqName (l : List (List Int)) (hl : l.length ≤ 11728124029610) (he : ∀ x ∈ l, x.length ≤ 140737488351232) : Ev (fun k => laws_eqName.f k l l) true := by
  unfold laws_eqName.f
  refine Ev.bind (eqByteSS l hl he) ?_
  simp only [if_true]; exact Ev.now _
end Go.Proofs.Ytkmchjdioplfjaa.Pure

/- Plain lemmas on the printed functions that say whether labels and names are right, and whether one name lies under another. -/
namespace Go.Proofs.Ytkmchjdioplfjaa.Pure
open Go Go.RowKit Go.Proofs.Ytkmchjdioplfjaa.Q Go.Proofs.YtkmchjdioplfjaaW.PrintWords Go.Proofs.YtkmchjdioplfjaaW.PrintLast Go.Proofs.YtkmchjdioplfjaaW.PrintMore
set_option linter.unusedVariables false
set_option linter.unusedSimpArgs false
theorem specLabelOk_l0 (l : List Int) (hl : l.length ≤ 140737488351232) (m : Nat) : ∀ (i : Nat), l.length = i + m →
    Ev (fun k => spec_LabelOk.l0 k l i) ((l.drop i).all impl_LabelOk.byte) := by
  induction m with
  | zero =>
    intro i hi
    rw [List.drop_of_length_le (by omega)]
    refine Ev.step (f := fun _ => some true) (fun k => ?_) (Ev.now _)
    simp only [spec_LabelOk.l0]
    rw [if_neg (by omega)]
  | succ m ih =>
    intro i hi
    have hil : i < l.length := by omega
    have e : rd l (i : Int) = l[i] := by simp [rd, List.getD_eq_getElem?_getD, hil]
    rw [List.drop_eq_getElem_cons hil, List.all_cons]
    by_cases hb : impl_LabelOk.byte l[i] = true
    · rw [hb, Bool.true_and]
      refine Ev.step (fun k => ?_) (ih (i+1) (by omega))
      simp only [spec_LabelOk.l0]
      rw [if_pos (by omega), if_pos (by omega), e, w64 (by omega) (by omega)]
      unfold impl_LabelOk.byte at hb
      generalize l[i] = x at *
      by_cases h1 : x ≥ 97 <;> by_cases h2 : x ≤ 122 <;> by_cases h3 : x ≥ 48 <;> by_cases h4 : x ≤ 57 <;> by_cases h5 : x = 45 <;> first | omega | (simp [h1, h2, h3, h4, h5] at hb ⊢; try omega)
    · rw [Bool.not_eq_true] at hb
      rw [hb, Bool.false_and]
      refine Ev.step (f := fun _ => some false) (fun k => ?_) (Ev.now _)
      simp only [spec_LabelOk.l0]
      rw [if_pos (by omega), if_pos (by omega), e]
      unfold impl_LabelOk.byte at hb
      generalize l[i] = x at *
      by_cases h1 : x ≥ 97 <;> by_cases h2 : x ≤ 122 <;> by_cases h3 : x ≥ 48 <;> by_cases h4 : x ≤ 57 <;> by_cases h5 : x = 45 <;> first | omega | (simp [h1, h2, h3, h4, h5] at hb ⊢; try omega)
theorem specLabelOk (l : List Int) (hl : l.length ≤ 140737488351232) : Ev (fun k => spec_LabelOk.f k l) (impl_LabelOk.v l) := by
  unfold spec_LabelOk.f impl_LabelOk.v
  by_cases h1 : (l.length : Int) < 1
  · simp only [if_pos h1]
    rw [decide_eq_false (show ¬ 1 ≤ l.length by omega)]
    refine Ev.step (f := fun _ => some false) (fun k => ?_) (Ev.now _)
    simp [spec_LabelOk.j0]
  · simp only [if_neg h1]
    rw [decide_eq_true (show 1 ≤ l.length by omega)]
    by_cases h2 : (l.length : Int) > 15
    · rw [decide_eq_true h2, decide_eq_false (show ¬ l.length ≤ 15 by omega)]
      refine Ev.step (f := fun _ => some false) (fun k => ?_) (Ev.now _)
      simp [spec_LabelOk.j0]
    · rw [decide_eq_false h2, decide_eq_true (show l.length ≤ 15 by omega)]
      have := specLabelOk_l0 l hl l.length 0 (by omega)
      rw [List.drop_zero] at this
      refine Ev.step (fun k => ?_) this
      simp [spec_LabelOk.j0]
theorem specNameOk_l0 (l : List (List Int)) (hl : l.length ≤ 1048576) (he : ∀ x ∈ l, x.length ≤ 140737488351232) (m : Nat) : ∀ (i : Nat), l.length = i + m →
    Ev (fun k => spec_NameOk.l0 k i l) ((l.drop i).all impl_LabelOk.v) := by
  induction m with
  | zero =>
    intro i hi
    rw [List.drop_of_length_le (by omega)]
    refine Ev.step (f := fun _ => some true) (fun k => ?_) (Ev.now _)
    simp only [spec_NameOk.l0]
    rw [if_neg (by omega)]
  | succ m ih =>
    intro i hi
    have hil : i < l.length := by omega
    rw [List.drop_eq_getElem_cons hil, List.all_cons]
    refine Ev.step (f := fun k => (spec_LabelOk.f k l[i]).bind fun t => if t = true then spec_NameOk.l0 k ((i + 1 : Nat) : Int) l else some false) (fun k => ?_) ?_
    · simp only [spec_NameOk.l0]
      rw [if_pos (by omega), if_pos (by omega), rdL_at l i hil, w64 (x := (i : Int) + 1) (by omega) (by omega)]
      rfl
    · refine Ev.bind (specLabelOk l[i] (he _ (List.getElem_mem hil))) ?_
      cases hb : impl_LabelOk.v l[i] with
      | true => simp only [if_true, Bool.true_and]; exact ih (i + 1) (by omega)
      | false => simp only [Bool.false_eq_true, if_false, Bool.false_and]; exact Ev.now _
theorem specNameOk (l : List (List Int)) (hl : l.length ≤ 1048576) (he : ∀ x ∈ l, x.length ≤ 140737488351232) : Ev (fun k => spec_NameOk.f k l) (impl_NameOk.v l) := by
  unfold spec_NameOk.f impl_NameOk.v
  by_cases h : (l.length : Int) > 6
  · simp only [if_pos h]
    rw [decide_eq_false (show ¬ l.length ≤ 6 by omega)]
    exact Ev.now _
  · simp only [if_neg h]
    rw [decide_eq_true (show l.length ≤ 6 by omega), Bool.true_and]
    simpa using specNameOk_l0 l hl he l.length 0 (by omega)
end Go.Proofs.Ytkmchjdioplfjaa.Pure

/- Plain lemmas on the printed functions that read, measure and compare records, and say whether they are right. -/
namespace Go.Proofs.Ytkmchjdioplfjaa.Pure
open Go Go.RowKit Go.Proofs.Ytkmchjdioplfjaa.Q Go.Proofs.YtkmchjdioplfjaaW.PrintWords Go.Proofs.YtkmchjdioplfjaaW.PrintLast Go.Proofs.YtkmchjdioplfjaaW.PrintMore
set_option linter.unusedVariables false
set_option linter.unusedSimpArgs false

/-- A name of any length that there can be, and one that fits. -/
def RawN (l : List (List Int)) : Prop := l.length ≤ 9223372036854775807 ∧ ∀ x ∈ l, x.length ≤ 9223372036854775807
def FitN (l : List (List Int)) : Prop := l.length ≤ 1048576 ∧ (∀ x ∈ l, x.length ≤ 1048576) ∧ lens l ≤ 1048576
theorem FitN.big {l : List (List Int)} (h : FitN l) : ∀ x ∈ l, x.length ≤ 140737488351232 := fun x hx => by have := h.2.1 x hx; omega
theorem lens_fit {l : List (List Int)} (h : l.length + lens l ≤ 1048576) : FitN l := ⟨by omega, fun x hx => by
  obtain ⟨i, hi, rfl⟩ := List.getElem_of_mem hx
  have := len_le_lens l i hi
  omega, by omega⟩
theorem szName' (l : List (List Int)) (left : Int) (hl : RawN l) (h0 : 0 ≤ left) (h1 : left ≤ 1048576) :
    ∃ t, Ev (fun k => laws_szName.f k l left) t ∧ (t < 0 ∨ (0 ≤ t ∧ t ≤ left ∧ FitN l)) := by
  obtain ⟨t, ht, hc⟩ := szName l left hl.1 hl.2 h0 h1
  refine ⟨t, ht, hc.imp id fun h => ⟨h.2, by omega, lens_fit (by omega)⟩⟩
theorem toName' (l : List (List Int)) (h : FitN l) : Ev (fun k => laws_toName.f k l) l := toName l (by have := h.1; omega) h.big
theorem eqName' (l : List (List Int)) (h : FitN l) : Ev (fun k => laws_eqName.f k l l) true := eqName l (by have := h.1; omega) h.big

end Go.Proofs.Ytkmchjdioplfjaa.Pure

/- Plain lemmas on the printed functions: marks over names and records. -/
namespace Go.Proofs.Ytkmchjdioplfjaa.Pure
open Go Go.RowKit Go.Proofs.Ytkmchjdioplfjaa.Q Go.Proofs.YtkmchjdioplfjaaW.PrintWords Go.Proofs.YtkmchjdioplfjaaW.PrintLast Go.Proofs.YtkmchjdioplfjaaW.PrintMore
set_option linter.unusedVariables false
set_option linter.unusedSimpArgs false
theorem markName (l : List (List Int)) (a : Int) (h0 : 0 ≤ a) (h1 : a ≤ 1099511627776) (hl : FitN l) : laws_markName.f l a = some (a + (lens l : Int), laws_markByteSS.all a l) := by
  unfold laws_markName.f laws_markByteSS.f
  have h2 := hl.2.2
  rw [if_pos (show 0 ≤ a ∧ a + (laws_markByteSS.sum l : Int) ≤ 4611686018427387904 from ⟨h0, by show a + (lens l : Int) ≤ _; omega⟩)]
  rfl
end Go.Proofs.Ytkmchjdioplfjaa.Pure

/- Plain lemmas on the printed functions that compare names, and say whether one lies under another. -/

namespace Go.Proofs.Ytkmchjdioplfjaa.Pure
open Go Go.RowKit Go.Proofs.Ytkmchjdioplfjaa.Q Go.Proofs.YtkmchjdioplfjaaW.PrintWords Go.Proofs.YtkmchjdioplfjaaW.PrintLast Go.Proofs.YtkmchjdioplfjaaW.PrintMore
set_option linter.unusedVariables false
set_option linter.unusedSimpArgs false
end Go.Proofs.Ytkmchjdioplfjaa.Pure

/- Plain lemmas on the printed functions that write names and records as bytes, and compare records. -/
namespace Go.Proofs.Ytkmchjdioplfjaa.Pure
open Go Go.RowKit Go.Proofs.Ytkmchjdioplfjaa.Q Go.Proofs.YtkmchjdioplfjaaW.PrintWords Go.Proofs.YtkmchjdioplfjaaW.PrintLast Go.Proofs.YtkmchjdioplfjaaW.PrintMore
set_option linter.unusedVariables false
set_option linter.unusedSimpArgs false

def wireV (l : List (List Int)) : List Int := spec_l2put.w l ++ [0]
theorem w_len (l : List (List Int)) : (spec_l2put.w l).length = l.length + lens l := by
  induction l with
  | nil => simp [spec_l2put.w, lens]
  | cons x l ih => simp only [spec_l2put.w, List.length_cons, List.length_append, ih, lens, List.map_cons, List.sum_cons]; omega
theorem lens_le (l : List (List Int)) (m : Nat) (h : ∀ x ∈ l, x.length ≤ m) : lens l ≤ l.length * m := by
  induction l with
  | nil => simp [lens]
  | cons x l ih =>
    have h1 := h x (by simp)
    have h2 := ih (fun y hy => h y (by simp [hy]))
    simp only [lens, List.map_cons, List.sum_cons, List.length_cons, Nat.add_mul, Nat.one_mul] at h2 ⊢
    omega
theorem nameOk_len {l : List (List Int)} (h : impl_NameOk.v l = true) : l.length ≤ 6 ∧ ∀ x ∈ l, 1 ≤ x.length ∧ x.length ≤ 15 ∧ Bytes x := by
  unfold impl_NameOk.v at h
  rw [Bool.and_eq_true, decide_eq_true_iff, List.all_eq_true] at h
  refine ⟨h.1, fun x hx => ?_⟩
  have h2 := h.2 x hx
  unfold impl_LabelOk.v at h2
  simp only [Bool.and_eq_true, decide_eq_true_iff, List.all_eq_true] at h2
  refine ⟨by omega, by omega, fun y hy => ?_⟩
  have h3 := h2.2 y hy
  unfold impl_LabelOk.byte at h3
  simp at h3
  omega
theorem nameOk_w {l : List (List Int)} (h : impl_NameOk.v l = true) : (spec_l2put.w l).length ≤ 96 := by
  obtain ⟨h1, h2⟩ := nameOk_len h
  have := lens_le l 15 (fun x hx => (h2 x hx).2.1)
  rw [w_len]; omega
theorem specPut (b : List Int) (l : List (List Int)) (h : impl_NameOk.v l = true) (hb : b.length ≤ 140737488355000) : spec_l2put.f b l = some (b ++ wireV l) := by
  have := nameOk_w h
  unfold spec_l2put.f wireV
  rw [if_pos (by omega), List.append_assoc]
theorem implWire_l0 (l : List (List Int)) (hl : l.length + lens l ≤ 1048576) (m : Nat) : ∀ (i : Nat), l.length = i + m →
    Ev (fun k => impl_Name_wire.l0 k (spec_l2put.w (l.take i)) l (l.length : Int) i) (wireV l) := by
  induction m with
  | zero =>
    intro i hi
    refine Ev.step (f := fun _ => some (wireV l)) (fun k => ?_) (Ev.now _)
    have hw := spec_l2put.w_take l i
    rw [w_len l] at hw
    simp only [impl_Name_wire.l0]
    rw [if_neg (by omega), if_pos (by omega), List.take_of_length_le (by omega)]
    rfl
  | succ m ih =>
    intro i hi
    have hil : i < l.length := by omega
    have hw := spec_l2put.w_take l i
    have hw1 := spec_l2put.w_take l (i + 1)
    rw [w_len l] at hw hw1
    have e : spec_l2put.w (l.take (i + 1)) = spec_l2put.w (l.take i) ++ [(l[i].length : Int) % 256] ++ l[i] := by
      rw [List.take_succ_eq_append_getElem hil, spec_l2put.w_snoc]
    rw [e] at hw1
    simp only [List.length_append, List.length_singleton] at hw1
    refine Ev.step (fun k => ?_) (ih (i+1) (by omega))
    simp only [impl_Name_wire.l0, Option.bind_some]
    rw [if_pos (by omega), if_pos (by omega), if_pos (by omega), if_pos (by omega), rdL_at l i hil, if_pos (by simp only [List.length_append, List.length_singleton]; omega), w64 (by omega) (by omega), e]
    rfl
theorem implWire (l : List (List Int)) (hl : l.length + lens l ≤ 1048576) : Ev (fun k => impl_Name_wire.f k l) (wireV l) := by
  unfold impl_Name_wire.f
  simpa [spec_l2put.w] using implWire_l0 l hl l.length 0 (by omega)
theorem nameOk_sum {l : List (List Int)} (h : impl_NameOk.v l = true) : l.length + lens l ≤ 96 := by
  have := nameOk_w h
  rwa [w_len] at this
end Go.Proofs.Ytkmchjdioplfjaa.Pure

/- The statement FnExactDhcid: at every client and every name the reference and the program tell the same sum, their caller's own. No condition. -/
namespace Go.Proofs.Ytkmchjdioplfjaa.Pure
open Go Go.RowKit Go.Proofs.Ytkmchjdioplfjaa.Q Go.Proofs.YtkmchjdioplfjaaW.PrintWords Go.Proofs.YtkmchjdioplfjaaW.PrintLast
set_option linter.unusedVariables false
theorem sumL_len (l : List Int) : (sumL l).length = 32 := by unfold sumL; rw [outB_len]
def cliV (l : List Int) : Bool := decide (1 ≤ l.length ∧ l.length ≤ 16)
theorem specCli (l : List Int) : spec_l7client.f l = some (cliV l) := by
  unfold spec_l7client.f cliV
  split
  · congr 1
    rw [decide_eq_decide]
    omega
  · rw [decide_eq_false (by omega)]
theorem implCli (l : List Int) : impl_isClient.f l = some (cliV l) := by
  unfold impl_isClient.f impl_within.f cliV
  split
  · simp only [Option.bind_some, Option.some.injEq]
    rw [decide_eq_decide]
    omega
  · rw [decide_eq_false (by omega)]; rfl
def dhcidV (l : List Int) (n : List (List Int)) : List Int × Bool := if cliV l = true ∧ impl_NameOk.v n = true then ([0, 1, 1] ++ sumL (l ++ wireV n), true) else ([], false)
theorem dhcidV_len (l : List Int) (n : List (List Int)) : (dhcidV l n).1.length ≤ 35 := by
  unfold dhcidV
  split
  · simp [sumL_len]
  · simp
theorem w_byt : ∀ (n : List (List Int)), (∀ x ∈ n, x.length ≤ 15 ∧ Bytes x) → Byt (spec_l2put.w n)
  | [], _ => fun x hx => by simp [spec_l2put.w] at hx
  | y :: n, h => fun x hx => by
    have h1 := h y (by simp)
    rw [spec_l2put.w, List.mem_cons, List.mem_append] at hx
    rcases hx with rfl | hx | hx
    · omega
    · exact h1.2 x hx
    · exact w_byt n (fun z hz => h z (by simp [hz])) x hx
theorem wire_byt (n : List (List Int)) (h : impl_NameOk.v n = true) : Byt (wireV n) := fun x hx => by
  rcases List.mem_append.1 hx with h1 | h1
  · exact w_byt n (fun y hy => ⟨((nameOk_len h).2 y hy).2.1, ((nameOk_len h).2 y hy).2.2⟩) x h1
  · rw [List.mem_singleton.1 h1]; omega
theorem specDhcid (l : List Int) (n : List (List Int)) (hn : FitN n) : Ev (fun k => spec_Dhcid.f k l n) (dhcidV l n) := by
  unfold spec_Dhcid.f dhcidV
  simp only [specCli, Option.bind_some]
  by_cases hc : cliV l = true
  · simp only [if_pos hc]
    refine Ev.bind (specNameOk n hn.1 hn.big) ?_
    by_cases h : impl_NameOk.v n = true
    · have hw := nameOk_w h
      have hl : l.length ≤ 16 := by unfold cliV at hc; simp at hc; omega
      have hp := specPut [] n h (by simp)
      have hwl : (wireV n).length ≤ 97 := by simp [wireV]; omega
      rw [List.nil_append] at hp
      have hs := sumL_len (l ++ wireV n)
      simp only [if_pos h, if_pos (And.intro hc h)]
      unfold spec_l7dhcid.f spec_l7sum.f
      simp only [Option.bind_some, List.nil_append, List.length_nil, hp]
      rw [if_pos (by omega), if_pos (by omega), if_pos (by simp; omega)]
      simp only [Option.bind_some]
      rw [if_pos (by simp [hs])]
      exact Ev.now _
    · simp only [if_neg h, if_neg (show ¬ (cliV l = true ∧ impl_NameOk.v n = true) from fun e => h e.2)]; exact Ev.now _
  · simp only [if_neg hc, if_neg (show ¬ (cliV l = true ∧ impl_NameOk.v n = true) from fun e => hc e.1)]; exact Ev.now _
theorem implDhcid (l : List Int) (n : List (List Int)) (hb : Byt l) (hn : FitN n) : Ev (fun k => impl_Dhcid.f k l n) (dhcidV l n) := by
  unfold impl_Dhcid.f dhcidV
  simp only [implCli, Option.bind_some]
  by_cases hc : cliV l = true
  · simp only [if_pos hc]
    unfold impl_NameOk.f
    simp only [Option.bind_some]
    by_cases h : impl_NameOk.v n = true
    · have hw := nameOk_w h
      have hl : l.length ≤ 16 := by unfold cliV at hc; simp at hc; omega
      have hwl : (wireV n).length ≤ 97 := by simp [wireV]; omega
      have hs := sumL_len (l ++ wireV n)
      have hby : Byt (l ++ wireV n) := fun x hx => by
        rcases List.mem_append.1 hx with h1 | h1
        · exact hb x h1
        · exact wire_byt n h x h1
      simp only [if_pos h, if_pos (And.intro hc h)]
      unfold impl_dhcid.f
      simp only [Option.bind_some]
      refine Ev.bind (a := [0, 1, 1] ++ sumL (l ++ wireV n)) (Ev.bind (implWire n (by have := nameOk_sum h; omega)) ?_) (Ev.now _)
      unfold slices_Concat_byte_byte.f impl_sha256.f
      simp only [if_pos (show slices_Concat_byte_byte.total [l, wireV n] < 140737488355328 by simp [slices_Concat_byte_byte.total, wireV]; omega), Option.bind_some, List.flatten_cons, List.flatten_nil, List.append_nil]
      rw [if_pos ⟨by simp; omega, hby⟩]
      simp only [Option.bind_some]
      rw [if_pos (by simp [hs])]
      exact Ev.now _
    · simp only [if_neg h, if_neg (show ¬ (cliV l = true ∧ impl_NameOk.v n = true) from fun e => h e.2)]; exact Ev.now _
  · simp only [if_neg hc, if_neg (show ¬ (cliV l = true ∧ impl_NameOk.v n = true) from fun e => hc e.1)]; exact Ev.now _
theorem FnExactDhcid : laws_FnExactDhcid.Pure := by
  intro l x1 h0 h1
  have hn : RawN x1.f0 := ⟨h1.1, fun x hx => (h1.2 x hx).1⟩
  have hb : Byt l := Bytes.of_wf h0.2
  generalize x1.f0 = n at hn
  apply Ev.rounds
  unfold laws_FnExactDhcid.f
  by_cases h : (l.length : Int) > 1048576
  · simp only [if_pos h]; exact Ev.now _
  simp only [if_neg h]
  have hl : l.length ≤ 1048576 := by omega
  obtain ⟨u, hu, hc⟩ := szName' n 1048576 hn (by omega) (by omega)
  refine Ev.bind hu ?_
  by_cases h' : u < 0
  · simp only [if_pos h']; exact Ev.now _
  simp only [if_neg h']
  obtain ⟨_, _, fn⟩ := hc.resolve_left h'
  have hto := toName' n fn
  have htb := toByteS l (by omega)
  have hlen := dhcidV_len l n
  have heq := eqByteS (dhcidV l n).1 (by omega)
  have hh := heldByteS 1 (by omega) (by omega) (dhcidV l n).1.length (by omega)
  have hs := fn.2.2
  refine Ev.bind htb (Ev.bind hto (Ev.bind (specDhcid l n fn) (Ev.bind htb (Ev.bind hto (Ev.bind (implDhcid l n hb fn) (Ev.bind heq ?_))))))
  simp only [if_true, bne_self_eq_false, Bool.false_eq_true, if_false]
  refine Ev.bind htb (Ev.bind (eqByteS l (by omega)) ?_)
  simp only [if_true]
  refine Ev.bind hto (Ev.bind (eqName' n fn) ?_)
  simp only [if_true]
  refine Ev.bind (markByteS l 1 (by omega) (by omega) (by omega)) ?_
  simp only [markName n (1 + (l.length : Int)) (by omega) (by omega) fn, Option.bind_some]
  simp only [if_neg (show ¬ (1 + (l.length : Int) + (lens n : Int) < 0) by omega)]
  refine Ev.bind heq ?_
  simp only [if_true]
  refine Ev.bind (markByteS _ 1 (by omega) (by omega) (by omega)) (Ev.bind hh ?_)
  simp only [if_neg (show ¬ (1 + ((dhcidV l n).1.length : Int) < 0) by omega), if_true]
  refine Ev.bind htb (Ev.bind hto (Ev.bind (implDhcid l n hb fn) (Ev.bind heq ?_)))
  simp only [if_true, bne_self_eq_false, Bool.false_eq_true, if_false]
  refine Ev.bind hh ?_
  simp only [if_neg (show ¬ (1 + ((dhcidV l n).1.length : Int) < 0) by omega), if_true]
  exact Ev.now _
end Go.Proofs.Ytkmchjdioplfjaa.Pure

