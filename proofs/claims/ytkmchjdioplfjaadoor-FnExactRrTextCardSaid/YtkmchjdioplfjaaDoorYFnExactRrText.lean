/- Plain lemmas for the statement FnExactRrText. -/
import Derived.Test.YtkmchjdioplfjaaDoorZFnExactRrText0
import Derived.Test.YtkmchjdioplfjaaDoorZFnExactRrText1
import Derived.Test.YtkmchjdioplfjaaDoorVFnExactRrText
import Derived.Deep.Slices
import Derived.Lib.SmallJoins
import Derived.OpenShut
/- What an argument reads as, kind by kind: from the form's reading of a datum to the print's kinds (Kd). -/
namespace Go.Proofs.YtkmchjdioplfjaaDoor.Open
open Go Go.RowKit Go.Deep Go.ChangeShapes Go.WideShapes Go.ChangeAt Go.Proofs.YtkmchjdioplfjaaDoorW.PrintWords
set_option linter.unusedVariables false
variable {H : Type} {enc : TypeId × Value → H} {P : Program} {W : World} {sp : Nat → Bool} {held : Bool}

/-- Whatever cells are read as a datum of type t are those of a y of the kind d, of which ok holds. -/
def Opens (enc : TypeId × Value → H) (P : Program) (W : World) (sp : Nat → Bool) (held : Bool) {α : Type} (d : Kd α) (ok : α → Prop) (t : TypeId) : Prop :=
  ∀ fuel cs x, DataW.trod enc P W 0 sp held fuel t cs = some x → ∃ y : α, d.K W y cs ∧ ok y

theorem opens_int {t : TypeId} {k : IntKind} (ht : P.underlying t = some (.int k)) : Opens enc P W sp held (Kd.int k) (fun x => (Lit.int k x).wf = true) t := by
  intro fuel cs x h
  obtain ⟨a, rfl, _, hw⟩ := DataW.trod_int ht h
  exact ⟨a, rfl, hw⟩
theorem list_of {α : Type} {n : Nat} {Q : Nat → α → Prop} (h : ∀ i, i < n → ∃ y, Q i y) : ∃ l : List α, l.length = n ∧ ∀ i y, l[i]? = some y → Q i y := by
  induction n with
  | zero => exact ⟨[], rfl, fun i y hy => by simp at hy⟩
  | succ n ih =>
    obtain ⟨l, hl, hq⟩ := ih (fun i hi => h i (by omega))
    obtain ⟨y, hy⟩ := h n (by omega)
    refine ⟨l ++ [y], by simp [hl], fun i z hz => ?_⟩
    by_cases hi : i < n
    · rw [List.getElem?_append_left (by omega)] at hz; exact hq i z hz
    · by_cases e : i = n
      · subst e
        rw [List.getElem?_append_right (by omega), hl, Nat.sub_self] at hz
        simp at hz; subst hz; exact hy
      · rw [List.getElem?_eq_none (by simp; omega)] at hz; cases hz

theorem opens_slice {α : Type} {d : Kd α} {ok : α → Prop} {t e : TypeId} (ht : P.underlying t = some (.slice e)) (hs : d.sz = P.cellsOf e) (h : Opens enc P W sp held d ok e) :
    Opens enc P W sp held (Kd.slice e d) (fun l => l.length ≤ maxLen ∧ ∀ x ∈ l, ok x) t := by
  intro fuel cs x hx
  rcases open_slice ht hx with ⟨rfl, _⟩ | ⟨a, len, cap, m, n, D, Pl, rfl, _, hl, hm, hmm, _, hel⟩
  · exact ⟨[], ⟨none, 0, rfl, Nat.le_refl _, Kd.C_nil d W⟩, by simp, by simp⟩
  · have hlm : len ≤ m := by rw [hmm]; split <;> omega
    obtain ⟨l, hll, hq⟩ := list_of (n := len) (Q := fun i (y : α) => ∃ c, W.cells? 0 (a.add (i * P.cellsOf e)) (P.cellsOf e) = some c ∧ d.K W y c ∧ ok y) (fun i hi => by
      obtain ⟨c, h1, h2⟩ := hel i (by omega)
      obtain ⟨y, hy, hok⟩ := h _ _ _ h2
      exact ⟨y, c, h1, hy, hok⟩)
    refine ⟨l, ⟨some a, cap, by rw [hll], by omega, rfl, by rw [hll]; unfold maxLen at hm; omega, fun _ => ⟨a, rfl, fun j p hj => ?_⟩⟩, by omega, fun x hx => ?_⟩
    · obtain ⟨c, h1, h2, _⟩ := hq j p hj
      obtain ⟨_, hlen, hc⟩ := World.cells?_some h1
      refine ⟨c, by rw [hlen, hs], h2, fun i u hu => ?_⟩
      have hi : i < c.length := (List.getElem?_eq_some_iff.1 hu).1
      have h3 := hc i (by omega)
      rw [hs, ← Go.Proofs.YtkmchjdioplfjaaDoorW.PrintWords.add_add, h3, hu]
    · obtain ⟨i, hi⟩ := List.mem_iff_getElem?.1 hx
      obtain ⟨_, _, _, hok⟩ := hq i x hi
      exact hok

/-- The fields of a struct, from place o on, as one kind. -/
def OpensF (enc : TypeId × Value → H) (P : Program) (W : World) (sp : Nat → Bool) (held : Bool) {α : Type} (d : Kd α) (ok : α → Prop) (fs : List Field) (o n : Nat) : Prop :=
  ∀ (fuel : Nat) (cs : List Value), cs.length = o + n → (∀ f ∈ fs, ∃ x, DataW.trod enc P W 0 sp held fuel f.type ((cs.drop f.offset).take (P.cellsOf f.type)) = some x) → ∃ y : α, d.K W y (cs.drop o) ∧ ok y
theorem opensF_one {α : Type} {d : Kd α} {ok : α → Prop} {f : Field} {o n : Nat} (ho : f.offset = o) (hn : P.cellsOf f.type = n) (h : Opens enc P W sp held d ok f.type) : OpensF enc P W sp held d ok [f] o n := by
  intro fuel cs hl hf
  obtain ⟨x, hx⟩ := hf f (by simp)
  rw [ho, hn, List.take_of_length_le (by simp; omega)] at hx
  exact h _ _ _ hx
theorem opensF_cons {α β : Type} {d : Kd α} {d' : Kd β} {ok : α → Prop} {ok' : β → Prop} {f : Field} {fs : List Field} {o n m : Nat} (ho : f.offset = o) (hn : P.cellsOf f.type = n) (h : Opens enc P W sp held d ok f.type) (hr : OpensF enc P W sp held d' ok' fs (o + n) m) :
    OpensF enc P W sp held (Kd.pair d d') (fun y => ok y.1 ∧ ok' y.2) (f :: fs) o (n + m) := by
  intro fuel cs hl hf
  obtain ⟨x, hx⟩ := hf f (by simp)
  rw [ho, hn] at hx
  obtain ⟨y, hy, hoky⟩ := h _ _ _ hx
  obtain ⟨z, hz, hokz⟩ := hr fuel cs (by omega) (fun g hg => hf g (by simp [hg]))
  refine ⟨(y, z), ⟨(cs.drop o).take n, cs.drop (o + n), ?_, hy, hz⟩, hoky, hokz⟩
  rw [← List.drop_drop, List.take_append_drop]
theorem opens_struct {α β : Type} {d : Kd α} {ok : α → Prop} {t : TypeId} {fs : Array Field} {n : Nat} (f : β → α) (g : α → β) (hfg : ∀ y, f (g y) = y) (ht : P.underlying t = some (.struct fs)) (hn : P.cellsOf t = n) (h : OpensF enc P W sp held d ok fs.toList 0 n) :
    Opens enc P W sp held (Kd.iso d f) (fun y => ok (f y)) t := by
  intro fuel cs x hx
  obtain ⟨xs, m, _, rfl, hl, hlen, hf⟩ := DataW.trod_struct ht hx
  obtain ⟨y, hy, hok⟩ := h m cs (by omega) (fun fl hfl => by
    obtain ⟨i, hi⟩ := List.mem_iff_getElem?.1 hfl
    have hfi := hf i fl (by simpa using hi)
    have hil : i < xs.length := by rw [hlen]; have := (List.getElem?_eq_some_iff.1 hi).1; simpa using this
    exact ⟨xs[i], by rw [hfi, List.getElem?_eq_getElem hil]⟩)
  exact ⟨g y, by show d.K W (f (g y)) cs; rw [hfg]; simpa using hy, by show ok (f (g y)); rw [hfg]; exact hok⟩
/-- An argument of a struct's type. -/
theorem open_arg {r : Reach} {b0 : Nat} {α : Type} {d : Kd α} {ok : α → Prop} {t : TypeId} {fs : Array Field} {v : Value} {dt : DataW H} {p : List MemPlace} (ht : P.underlying t = some (.struct fs)) (hv : Value.okWide P W r b0 t v) (h : DataW.Trod enc P W 0 sp held t v dt p) (ho : Opens enc P W sp held d ok t) :
    ∃ (cs : List Value) (y : α), v = .agg cs.toArray ∧ d.K W y cs ∧ ok y := by
  obtain ⟨cs, rfl, hsz⟩ := okWide_struct ht hv
  obtain ⟨fuel, hf⟩ := h
  obtain ⟨y, hy, hok⟩ := ho _ _ _ hf
  exact ⟨cs.toList, y, by simp, by simpa [Value.cells] using hy, hok⟩
end Go.Proofs.YtkmchjdioplfjaaDoor.Open

-- Written by a program of this session (wip/myprint.py): what each type of the laws' parameters reads as.
namespace Go.Proofs.YtkmchjdioplfjaaDoor.Q
open Go Go.RowKit Go.Proofs.YtkmchjdioplfjaaDoor.Open Go.Proofs.YtkmchjdioplfjaaDoorW.PrintWords
set_option linter.unusedVariables false
def okT5 (x : Int) : Prop := (Lit.int .u8 x).wf = true
theorem opensT5 {H : Type} {enc : TypeId × Value → H} {W : World} : Opens enc Tryd.prog W (fun _ => true) true (Kd.int .u8) okT5 5 := opens_int Tryd.underlying5
def okT22 (l : List Int) : Prop := l.length ≤ maxLen ∧ ∀ x ∈ l, okT5 x
theorem opensT22 {H : Type} {enc : TypeId × Value → H} {W : World} : Opens enc Tryd.prog W (fun _ => true) true (Kd.slice 5 (Kd.int .u8)) okT22 22 := opens_slice Tryd.underlying22 (by kernel_rfl) opensT5
def okT27 (l : List (List Int)) : Prop := l.length ≤ maxLen ∧ ∀ x ∈ l, okT22 x
theorem opensT27 {H : Type} {enc : TypeId × Value → H} {W : World} : Opens enc Tryd.prog W (fun _ => true) true (Kd.slice 22 (Kd.slice 5 (Kd.int .u8))) okT27 27 := opens_slice Tryd.underlying27 (by kernel_rfl) opensT22
def okT44 (x : S44) : Prop := okT27 x.f0
theorem opensT44 {H : Type} {enc : TypeId × Value → H} {W : World} : Opens enc Tryd.prog W (fun _ => true) true k44 okT44 44 := by
  have h := opens_struct (d := (Kd.slice 22 (Kd.slice 5 (Kd.int .u8)))) (ok := okT27) (enc := enc) (P := Tryd.prog) (W := W) (sp := fun _ => true) (held := true) (fun x : S44 => x.f0) (fun y => (⟨y⟩ : S44)) (fun _ => rfl) Tryd.underlying44 (n := 1) (by kernel_rfl) (by
    refine opensF_one (d := (Kd.slice 22 (Kd.slice 5 (Kd.int .u8)))) (ok := okT27) (n := 1) ?ho ?hn ?h; (case ho => rfl); (case hn => kernel_rfl); (case h => exact opensT27))
  exact h
def okT3 (x : Int) : Prop := (Lit.int .i64 x).wf = true
theorem opensT3 {H : Type} {enc : TypeId × Value → H} {W : World} : Opens enc Tryd.prog W (fun _ => true) true (Kd.int .i64) okT3 3 := opens_int Tryd.underlying3
def okT45 (l : List Int) : Prop := l.length ≤ maxLen ∧ ∀ x ∈ l, okT3 x
theorem opensT45 {H : Type} {enc : TypeId × Value → H} {W : World} : Opens enc Tryd.prog W (fun _ => true) true (Kd.slice 3 (Kd.int .i64)) okT45 45 := opens_slice Tryd.underlying45 (by kernel_rfl) opensT3
def okT47 (x : S47) : Prop := okT44 x.f0 ∧ (okT3 x.f1 ∧ (okT3 x.f2 ∧ (okT3 x.f3 ∧ (okT44 x.f4 ∧ (okT22 x.f5 ∧ (okT45 x.f6))))))
theorem opensT47 {H : Type} {enc : TypeId × Value → H} {W : World} : Opens enc Tryd.prog W (fun _ => true) true k47 okT47 47 := by
  have h := opens_struct (d := Kd.pair (k44) (Kd.pair ((Kd.int .i64)) (Kd.pair ((Kd.int .i64)) (Kd.pair ((Kd.int .i64)) (Kd.pair (k44) (Kd.pair ((Kd.slice 5 (Kd.int .u8))) ((Kd.slice 3 (Kd.int .i64))))))))) (ok := (fun y => okT44 y.1 ∧ (fun y => okT3 y.1 ∧ (fun y => okT3 y.1 ∧ (fun y => okT3 y.1 ∧ (fun y => okT44 y.1 ∧ (fun y => okT22 y.1 ∧ okT45 y.2) y.2) y.2) y.2) y.2) y.2)) (enc := enc) (P := Tryd.prog) (W := W) (sp := fun _ => true) (held := true) (fun x : S47 => (x.f0, x.f1, x.f2, x.f3, x.f4, x.f5, x.f6)) (fun y => (⟨y.1, y.2.1, y.2.2.1, y.2.2.2.1, y.2.2.2.2.1, y.2.2.2.2.2.1, y.2.2.2.2.2.2⟩ : S47)) (fun _ => rfl) Tryd.underlying47 (n := 7) (by kernel_rfl) (by
    refine opensF_cons (d := k44) (ok := okT44) (d' := Kd.pair ((Kd.int .i64)) (Kd.pair ((Kd.int .i64)) (Kd.pair ((Kd.int .i64)) (Kd.pair (k44) (Kd.pair ((Kd.slice 5 (Kd.int .u8))) ((Kd.slice 3 (Kd.int .i64)))))))) (ok' := (fun y => okT3 y.1 ∧ (fun y => okT3 y.1 ∧ (fun y => okT3 y.1 ∧ (fun y => okT44 y.1 ∧ (fun y => okT22 y.1 ∧ okT45 y.2) y.2) y.2) y.2) y.2)) (n := 1) (m := 6) ?ho ?hn ?h ?_; (case ho => rfl); (case hn => kernel_rfl); (case h => exact opensT44)
    refine opensF_cons (d := (Kd.int .i64)) (ok := okT3) (d' := Kd.pair ((Kd.int .i64)) (Kd.pair ((Kd.int .i64)) (Kd.pair (k44) (Kd.pair ((Kd.slice 5 (Kd.int .u8))) ((Kd.slice 3 (Kd.int .i64))))))) (ok' := (fun y => okT3 y.1 ∧ (fun y => okT3 y.1 ∧ (fun y => okT44 y.1 ∧ (fun y => okT22 y.1 ∧ okT45 y.2) y.2) y.2) y.2)) (n := 1) (m := 5) ?ho ?hn ?h ?_; (case ho => rfl); (case hn => kernel_rfl); (case h => exact opensT3)
    refine opensF_cons (d := (Kd.int .i64)) (ok := okT3) (d' := Kd.pair ((Kd.int .i64)) (Kd.pair (k44) (Kd.pair ((Kd.slice 5 (Kd.int .u8))) ((Kd.slice 3 (Kd.int .i64)))))) (ok' := (fun y => okT3 y.1 ∧ (fun y => okT44 y.1 ∧ (fun y => okT22 y.1 ∧ okT45 y.2) y.2) y.2)) (n := 1) (m := 4) ?ho ?hn ?h ?_; (case ho => rfl); (case hn => kernel_rfl); (case h => exact opensT3)
    refine opensF_cons (d := (Kd.int .i64)) (ok := okT3) (d' := Kd.pair (k44) (Kd.pair ((Kd.slice 5 (Kd.int .u8))) ((Kd.slice 3 (Kd.int .i64))))) (ok' := (fun y => okT44 y.1 ∧ (fun y => okT22 y.1 ∧ okT45 y.2) y.2)) (n := 1) (m := 3) ?ho ?hn ?h ?_; (case ho => rfl); (case hn => kernel_rfl); (case h => exact opensT3)
    refine opensF_cons (d := k44) (ok := okT44) (d' := Kd.pair ((Kd.slice 5 (Kd.int .u8))) ((Kd.slice 3 (Kd.int .i64)))) (ok' := (fun y => okT22 y.1 ∧ okT45 y.2)) (n := 1) (m := 2) ?ho ?hn ?h ?_; (case ho => rfl); (case hn => kernel_rfl); (case h => exact opensT44)
    refine opensF_cons (d := (Kd.slice 5 (Kd.int .u8))) (ok := okT22) (d' := (Kd.slice 3 (Kd.int .i64))) (ok' := okT45) (n := 1) (m := 1) ?ho ?hn ?h ?_; (case ho => rfl); (case hn => kernel_rfl); (case h => exact opensT22)
    refine opensF_one (d := (Kd.slice 3 (Kd.int .i64))) (ok := okT45) (n := 1) ?ho ?hn ?h; (case ho => rfl); (case hn => kernel_rfl); (case h => exact opensT45))
  exact h
end Go.Proofs.YtkmchjdioplfjaaDoor.Q

/- Plain lemmas on the printed functions: a list of bytes read into a new one, two lists compared, a number read from bytes. -/
namespace Go.Proofs.YtkmchjdioplfjaaDoor.Pure
open Go Go.RowKit Go.Proofs.YtkmchjdioplfjaaDoor.Q Go.Proofs.YtkmchjdioplfjaaDoorW.PrintWords Go.Proofs.YtkmchjdioplfjaaDoorW.PrintLast Go.Proofs.YtkmchjdioplfjaaDoorW.PrintMore
set_option linter.unusedVariables false
set_option linter.unusedSimpArgs false

theorem i64_of_wf {x : Int} (h : (Lit.int .i64 x).wf = true) : -9223372036854775808 ≤ x ∧ x ≤ 9223372036854775807 := by
  simp [Lit.wf, IntKind.min, IntKind.max, IntKind.signed, IntKind.bits] at h
  omega
theorem w64 {x : Int} (h1 : -9223372036854775808 ≤ x) (h2 : x ≤ 9223372036854775807) : wrap64 x = x := by
  unfold wrap64; omega
theorem set_prefix (l : List Int) (i : Nat) (h : i < l.length) (m : Nat) (hm : l.length = i + m + 1) :
    (l.take i ++ List.replicate (m+1) 0).set i (l.getD i 0) = l.take (i+1) ++ List.replicate m 0 := by
  rw [List.set_append_right _ _ (by simp; omega)]
  simp only [List.length_take, Nat.min_eq_left (Nat.le_of_lt h), Nat.sub_self, List.replicate_succ, List.set_cons_zero]
  rw [List.take_succ_eq_append_getElem h, List.append_assoc]
  simp [List.getD_eq_getElem?_getD, h]

theorem toByteS_l0 (l : List Int) (hl : l.length ≤ 140737488351232) (m : Nat) : ∀ (i : Nat), l.length = i + m →
    Ev (fun k => laws_toByteS.l0 k l (l.take i ++ List.replicate m 0) i) l := by
  induction m with
  | zero =>
    intro i hi
    refine Ev.step (f := fun _ => some l) (fun k => ?_) (Ev.now _)
    simp only [laws_toByteS.l0]
    rw [if_neg (by omega)]
    simp [List.take_of_length_le (show l.length ≤ i by omega)]
  | succ m ih =>
    intro i hi
    refine Ev.step (fun k => ?_) (ih (i+1) (by omega))
    simp only [laws_toByteS.l0]
    rw [if_pos (by omega), if_pos (by omega), if_pos (by simp; omega), w64 (by omega) (by omega)]
    rw [show rd l (i : Int) = l.getD i 0 by simp [rd], show ((i : Int)).toNat = i by omega, set_prefix l i (by omega) m (by omega)]
    rfl
theorem toByteS (l : List Int) (hl : l.length ≤ 140737488351232) : Ev (fun k => laws_toByteS.f k l) l := by
  unfold laws_toByteS.f
  simp only [if_pos (show 0 ≤ (l.length : Int) by omega), if_pos (show ((l.length : Int)).toNat ≤ 281474976710656 by omega)]
  simpa using toByteS_l0 l hl l.length 0 (by omega)

theorem eqByteS_l0 (l : List Int) (hl : l.length ≤ 140737488351232) (m : Nat) : ∀ (i : Nat), l.length = i + m →
    Ev (fun k => laws_eqByteS.l0 k l l i) true := by
  induction m with
  | zero =>
    intro i hi
    refine Ev.step (f := fun _ => some true) (fun k => ?_) (Ev.now _)
    simp only [laws_eqByteS.l0]
    rw [if_neg (by omega)]
  | succ m ih =>
    intro i hi
    refine Ev.step (fun k => ?_) (ih (i+1) (by omega))
    simp only [laws_eqByteS.l0]
    rw [if_pos (by omega), if_pos (by omega), if_pos (by omega), if_pos trivial, w64 (by omega) (by omega)]
    rfl
theorem eqByteS (l : List Int) (hl : l.length ≤ 140737488351232) : Ev (fun k => laws_eqByteS.f k l l) true := by
  unfold laws_eqByteS.f
  simp only [if_pos]
  exact eqByteS_l0 l hl l.length 0 (by omega)

end Go.Proofs.YtkmchjdioplfjaaDoor.Pure

/- Plain lemmas on the printed functions that read, measure and compare lists of lists of bytes, and names. -/
namespace Go.Proofs.YtkmchjdioplfjaaDoor.Pure
open Go Go.RowKit Go.Proofs.YtkmchjdioplfjaaDoor.Q Go.Proofs.YtkmchjdioplfjaaDoorW.PrintWords Go.Proofs.YtkmchjdioplfjaaDoorW.PrintLast Go.Proofs.YtkmchjdioplfjaaDoorW.PrintMore
set_option linter.unusedVariables false
set_option linter.unusedSimpArgs false

theorem rdL_at (l : List (List Int)) (i : Nat) (h : i < l.length) : rd_L10 l (i : Int) = l[i] := by simp [rd_L10, List.getD_eq_getElem?_getD, h]
def lens (l : List (List Int)) : Nat := (l.map List.length).sum
theorem lens_drop (l : List (List Int)) (i : Nat) (h : i < l.length) : lens (l.drop i) = l[i].length + lens (l.drop (i + 1)) := by
  rw [List.drop_eq_getElem_cons h]; simp only [lens, List.map_cons, List.sum_cons]
theorem len_le_lens (l : List (List Int)) (i : Nat) (h : i < l.length) : l[i].length ≤ lens l := by
  induction l generalizing i with
  | nil => simp at h
  | cons x l ih =>
    cases i with
    | zero => simp [lens]
    | succ i => have := ih i (by simpa using h); simp [lens] at this ⊢; omega
theorem szByteS (l : List Int) (left : Int) (hl : l.length ≤ 9223372036854775807) (h0 : 0 ≤ left) (h1 : left ≤ 1048576) : ∃ t, laws_szByteS.f l left = some t ∧ (t < 0 ∨ (t = left - l.length ∧ 0 ≤ t)) := by
  unfold laws_szByteS.f
  rw [w64 (by omega) (by omega)]
  by_cases h : left - (l.length : Int) < 0
  · exact ⟨-1, by rw [if_pos h], Or.inl (by omega)⟩
  · exact ⟨left - l.length, by rw [if_neg h], Or.inr ⟨rfl, by omega⟩⟩
theorem szByteSS_l0 (l : List (List Int)) (hl : l.length ≤ 1048576) (he : ∀ x ∈ l, x.length ≤ 9223372036854775807) (m : Nat) : ∀ (i : Nat) (left : Int), l.length = i + m → 0 ≤ left → left ≤ 1048576 →
    ∃ t, Ev (fun k => laws_szByteSS.l0 k l left i) t ∧ (t < 0 ∨ (t = left - lens (l.drop i) ∧ 0 ≤ t)) := by
  induction m with
  | zero =>
    intro i left hi h0 h1
    refine ⟨left, Ev.step (f := fun _ => some left) (fun k => ?_) (Ev.now _), Or.inr ⟨by rw [List.drop_of_length_le (by omega)]; simp [lens], h0⟩⟩
    simp only [laws_szByteSS.l0]
    rw [if_neg (by omega)]
  | succ m ih =>
    intro i left hi h0 h1
    have hil : i < l.length := by omega
    obtain ⟨t, ht, hc⟩ := szByteS l[i] left (he _ (List.getElem_mem hil)) h0 h1
    by_cases hneg : t < 0
    · refine ⟨-1, Ev.step (f := fun _ => some (-1)) (fun k => ?_) (Ev.now _), Or.inl (by omega)⟩
      simp only [laws_szByteSS.l0]
      rw [if_pos (by omega), if_pos (by omega), rdL_at l i hil, ht]
      simp [hneg]
    · obtain ⟨u, hu, hcu⟩ := ih (i + 1) t (by omega) (by omega) (by omega)
      refine ⟨u, Ev.step (fun k => ?_) hu, ?_⟩
      · simp only [laws_szByteSS.l0]
        rw [if_pos (by omega), if_pos (by omega), rdL_at l i hil, ht, w64 (x := (i : Int) + 1) (by omega) (by omega)]
        simp [hneg]
      · rw [lens_drop l i hil]
        rcases hcu with h | h
        · exact Or.inl h
        · exact Or.inr (by omega)
theorem szByteSS (l : List (List Int)) (left : Int) (hl : l.length ≤ 9223372036854775807) (he : ∀ x ∈ l, x.length ≤ 9223372036854775807) (h0 : 0 ≤ left) (h1 : left ≤ 1048576) :
    ∃ t, Ev (fun k => laws_szByteSS.f k l left) t ∧ (t < 0 ∨ (t = left - l.length - lens l ∧ 0 ≤ t)) := by
  unfold laws_szByteSS.f
  rw [w64 (by omega) (by omega)]
  by_cases h : left - (l.length : Int) < 0
  · exact ⟨-1, by simp only [if_pos h]; exact Ev.now _, Or.inl (by omega)⟩
  · obtain ⟨t, ht, hc⟩ := szByteSS_l0 l (by omega) he l.length 0 (left - l.length) (by omega) (by omega) (by omega)
    exact ⟨t, by simp only [if_neg h]; exact ht, by rw [List.drop_zero] at hc; omega⟩
theorem szName (l : List (List Int)) (left : Int) (hl : l.length ≤ 9223372036854775807) (he : ∀ x ∈ l, x.length ≤ 9223372036854775807) (h0 : 0 ≤ left) (h1 : left ≤ 1048576) :
    ∃ t, Ev (fun k => laws_szName.f k l left) t ∧ (t < 0 ∨ (t = left - l.length - lens l ∧ 0 ≤ t)) := by
  obtain ⟨t, ht, hc⟩ := szByteSS l left hl he h0 h1
  unfold laws_szName.f
  by_cases h : t < 0
  · exact ⟨-1, Ev.bind ht (by simp only [if_pos h]; exact Ev.now _), Or.inl (by omega)⟩
  · exact ⟨t, Ev.bind ht (by simp only [if_neg h]; exact Ev.now _), hc⟩
theorem setL_prefix (l : List (List Int)) (i : Nat) (h : i < l.length) (m : Nat) (hm : l.length = i + m + 1) :
    (l.take i ++ List.replicate (m+1) []).set i l[i] = l.take (i+1) ++ List.replicate m [] := by
  rw [List.set_append_right _ _ (by simp; omega)]
  simp only [List.length_take, Nat.min_eq_left (Nat.le_of_lt h), Nat.sub_self, List.replicate_succ, List.set_cons_zero]
  rw [List.take_succ_eq_append_getElem h, List.append_assoc]
  simp
theorem toByteSS_l0 (l : List (List Int)) (hl : l.length ≤ 11728124029610) (he : ∀ x ∈ l, x.length ≤ 140737488351232) (m : Nat) : ∀ (i : Nat), l.length = i + m →
    Ev (fun k => laws_toByteSS.l0 k l (l.take i ++ List.replicate m []) i) l := by
  induction m with
  | zero =>
    intro i hi
    refine Ev.step (f := fun _ => some l) (fun k => ?_) (Ev.now _)
    simp only [laws_toByteSS.l0]
    rw [if_neg (by omega)]
    simp [List.take_of_length_le (show l.length ≤ i by omega)]
  | succ m ih =>
    intro i hi
    have hil : i < l.length := by omega
    refine Ev.step (f := fun k => (laws_toByteS.f k l[i]).bind fun t => laws_toByteSS.l0 k l ((l.take i ++ List.replicate (m + 1) []).set i t) ((i + 1 : Nat) : Int)) (fun k => ?_) ?_
    · simp only [laws_toByteSS.l0]
      rw [if_pos (by omega), if_pos (by omega), rdL_at l i hil, w64 (x := (i : Int) + 1) (by omega) (by omega)]
      simp only [if_pos (show (i : Int) < ((l.take i ++ List.replicate (m + 1) ([] : List Int)).length : Int) by simp; omega), show ((i : Int)).toNat = i by omega]
      rfl
    · refine Ev.bind (toByteS l[i] (he _ (List.getElem_mem hil))) ?_
      rw [setL_prefix l i hil m (by omega)]
      exact ih (i + 1) (by omega)
theorem toByteSS (l : List (List Int)) (hl : l.length ≤ 11728124029610) (he : ∀ x ∈ l, x.length ≤ 140737488351232) : Ev (fun k => laws_toByteSS.f k l) l := by
  unfold laws_toByteSS.f
  simp only [if_pos (show 0 ≤ (l.length : Int) by omega), if_pos (show ((l.length : Int)).toNat ≤ 11728124029610 by omega)]
  simpa using toByteSS_l0 l hl he l.length 0 (by omega)
theorem toName (l : List (List Int)) (hl : l.length ≤ 11728124029610) (he : ∀ x ∈ l, x.length ≤ 140737488351232) : Ev (fun k => laws_toName.f k l) l := by
  unfold laws_toName.f
  exact Ev.bind (toByteSS l hl he) (Ev.now _)
theorem eqByteSS_l0 (l : List (List Int)) (hl : l.length ≤ 11728124029610) (he : ∀ x ∈ l, x.length ≤ 140737488351232) (m : Nat) : ∀ (i : Nat), l.length = i + m →
    Ev (fun k => laws_eqByteSS.l0 k l l i) true := by
  induction m with
  | zero =>
    intro i hi
    refine Ev.step (f := fun _ => some true) (fun k => ?_) (Ev.now _)
    simp only [laws_eqByteSS.l0]
    rw [if_neg (by omega)]
  | succ m ih =>
    intro i hi
    have hil : i < l.length := by omega
    refine Ev.step (f := fun k => (laws_eqByteS.f k l[i] l[i]).bind fun t => if t = true then laws_eqByteSS.l0 k l l ((i + 1 : Nat) : Int) else some false) (fun k => ?_) ?_
    · simp only [laws_eqByteSS.l0]
      rw [if_pos (by omega), if_pos (by omega), rdL_at l i hil, w64 (x := (i : Int) + 1) (by omega) (by omega), if_pos (by omega)]
      rfl
    · refine Ev.bind (eqByteS l[i] (he _ (List.getElem_mem hil))) ?_
      simp only [if_true]
      exact ih (i + 1) (by omega)
theorem eqByteSS (l : List (List Int)) (hl : l.length ≤ 11728124029610) (he : ∀ x ∈ l, x.length ≤ 140737488351232) : Ev (fun k => laws_eqByteSS.f k l l) true := by
  unfold laws_eqByteSS.f
  simp only [if_pos]
  exact eqByteSS_l0 l hl he l.length 0 (by omega)
theorem eqName (l : List (List Int)) (hl : l.length ≤ 11728124029610) (he : ∀ x ∈ l, x.length ≤ 140737488351232) : Ev (fun k => laws_eqName.f k l l) true := by
  unfold laws_eqName.f
  refine Ev.bind (eqByteSS l hl he) ?_
  simp only [if_true]; exact Ev.now _
end Go.Proofs.YtkmchjdioplfjaaDoor.Pure

/- Plain lemmas on the printed functions that say whether labels and names are right, and whether one name lies under another. -/
namespace Go.Proofs.YtkmchjdioplfjaaDoor.Pure
open Go Go.RowKit Go.Proofs.YtkmchjdioplfjaaDoor.Q Go.Proofs.YtkmchjdioplfjaaDoorW.PrintWords Go.Proofs.YtkmchjdioplfjaaDoorW.PrintLast Go.Proofs.YtkmchjdioplfjaaDoorW.PrintMore
set_option linter.unusedVariables false
set_option linter.unusedSimpArgs false
theorem specLabelOk_l0 (l : List Int) (hl : l.length ≤ 140737488351232) (m : Nat) : ∀ (i : Nat), l.length = i + m →
    Ev (fun k => spec_LabelOk.l0 k l i) ((l.drop i).all impl_LabelOk.byte) := by
  induction m with
  | zero =>
    intro i hi
    rw [List.drop_of_length_le (by omega)]
    refine Ev.step (f := fun _ => some true) (fun k => ?_) (Ev.now _)
    simp only [spec_LabelOk.l0]
    rw [if_neg (by omega)]
  | succ m ih =>
    intro i hi
    have hil : i < l.length := by omega
    have e : rd l (i : Int) = l[i] := by simp [rd, List.getD_eq_getElem?_getD, hil]
    rw [List.drop_eq_getElem_cons hil, List.all_cons]
    by_cases hb : impl_LabelOk.byte l[i] = true
    · rw [hb, Bool.true_and]
      refine Ev.step (fun k => ?_) (ih (i+1) (by omega))
      simp only [spec_LabelOk.l0]
      rw [if_pos (by omega), if_pos (by omega), e, w64 (by omega) (by omega)]
      unfold impl_LabelOk.byte at hb
      generalize l[i] = x at *
      by_cases h1 : x ≥ 97 <;> by_cases h2 : x ≤ 122 <;> by_cases h3 : x ≥ 48 <;> by_cases h4 : x ≤ 57 <;> by_cases h5 : x = 45 <;> first | omega | (simp [h1, h2, h3, h4, h5] at hb ⊢; try omega)
    · rw [Bool.not_eq_true] at hb
      rw [hb, Bool.false_and]
      refine Ev.step (f := fun _ => some false) (fun k => ?_) (Ev.now _)
      simp only [spec_LabelOk.l0]
      rw [if_pos (by omega), if_pos (by omega), e]
      unfold impl_LabelOk.byte at hb
      generalize l[i] = x at *
      by_cases h1 : x ≥ 97 <;> by_cases h2 : x ≤ 122 <;> by_cases h3 : x ≥ 48 <;> by_cases h4 : x ≤ 57 <;> by_cases h5 : x = 45 <;> first | omega | (simp [h1, h2, h3, h4, h5] at hb ⊢; try omega)
theorem specLabelOk (l : List Int) (hl : l.length ≤ 140737488351232) : Ev (fun k => spec_LabelOk.f k l) (impl_LabelOk.v l) := by
  unfold spec_LabelOk.f impl_LabelOk.v
  by_cases h1 : (l.length : Int) < 1
  · simp only [if_pos h1]
    rw [decide_eq_false (show ¬ 1 ≤ l.length by omega)]
    refine Ev.step (f := fun _ => some false) (fun k => ?_) (Ev.now _)
    simp [spec_LabelOk.j0]
  · simp only [if_neg h1]
    rw [decide_eq_true (show 1 ≤ l.length by omega)]
    by_cases h2 : (l.length : Int) > 15
    · rw [decide_eq_true h2, decide_eq_false (show ¬ l.length ≤ 15 by omega)]
      refine Ev.step (f := fun _ => some false) (fun k => ?_) (Ev.now _)
      simp [spec_LabelOk.j0]
    · rw [decide_eq_false h2, decide_eq_true (show l.length ≤ 15 by omega)]
      have := specLabelOk_l0 l hl l.length 0 (by omega)
      rw [List.drop_zero] at this
      refine Ev.step (fun k => ?_) this
      simp [spec_LabelOk.j0]
theorem specNameOk_l0 (l : List (List Int)) (hl : l.length ≤ 1048576) (he : ∀ x ∈ l, x.length ≤ 140737488351232) (m : Nat) : ∀ (i : Nat), l.length = i + m →
    Ev (fun k => spec_NameOk.l0 k i l) ((l.drop i).all impl_LabelOk.v) := by
  induction m with
  | zero =>
    intro i hi
    rw [List.drop_of_length_le (by omega)]
    refine Ev.step (f := fun _ => some true) (fun k => ?_) (Ev.now _)
    simp only [spec_NameOk.l0]
    rw [if_neg (by omega)]
  | succ m ih =>
    intro i hi
    have hil : i < l.length := by omega
    rw [List.drop_eq_getElem_cons hil, List.all_cons]
    refine Ev.step (f := fun k => (spec_LabelOk.f k l[i]).bind fun t => if t = true then spec_NameOk.l0 k ((i + 1 : Nat) : Int) l else some false) (fun k => ?_) ?_
    · simp only [spec_NameOk.l0]
      rw [if_pos (by omega), if_pos (by omega), rdL_at l i hil, w64 (x := (i : Int) + 1) (by omega) (by omega)]
      rfl
    · refine Ev.bind (specLabelOk l[i] (he _ (List.getElem_mem hil))) ?_
      cases hb : impl_LabelOk.v l[i] with
      | true => simp only [if_true, Bool.true_and]; exact ih (i + 1) (by omega)
      | false => simp only [Bool.false_eq_true, if_false, Bool.false_and]; exact Ev.now _
theorem specNameOk (l : List (List Int)) (hl : l.length ≤ 1048576) (he : ∀ x ∈ l, x.length ≤ 140737488351232) : Ev (fun k => spec_NameOk.f k l) (impl_NameOk.v l) := by
  unfold spec_NameOk.f impl_NameOk.v
  by_cases h : (l.length : Int) > 6
  · simp only [if_pos h]
    rw [decide_eq_false (show ¬ l.length ≤ 6 by omega)]
    exact Ev.now _
  · simp only [if_neg h]
    rw [decide_eq_true (show l.length ≤ 6 by omega), Bool.true_and]
    simpa using specNameOk_l0 l hl he l.length 0 (by omega)
end Go.Proofs.YtkmchjdioplfjaaDoor.Pure

/- Plain lemmas on the printed functions that read, measure and compare records, and say whether they are right. -/
namespace Go.Proofs.YtkmchjdioplfjaaDoor.Pure
open Go Go.RowKit Go.Proofs.YtkmchjdioplfjaaDoor.Q Go.Proofs.YtkmchjdioplfjaaDoorW.PrintWords Go.Proofs.YtkmchjdioplfjaaDoorW.PrintLast Go.Proofs.YtkmchjdioplfjaaDoorW.PrintMore
set_option linter.unusedVariables false
set_option linter.unusedSimpArgs false

/-- A name of any length that there can be, and one that fits. -/
def RawN (l : List (List Int)) : Prop := l.length ≤ 9223372036854775807 ∧ ∀ x ∈ l, x.length ≤ 9223372036854775807
def FitN (l : List (List Int)) : Prop := l.length ≤ 1048576 ∧ (∀ x ∈ l, x.length ≤ 1048576) ∧ lens l ≤ 1048576
theorem FitN.big {l : List (List Int)} (h : FitN l) : ∀ x ∈ l, x.length ≤ 140737488351232 := fun x hx => by have := h.2.1 x hx; omega
theorem lens_fit {l : List (List Int)} (h : l.length + lens l ≤ 1048576) : FitN l := ⟨by omega, fun x hx => by
  obtain ⟨i, hi, rfl⟩ := List.getElem_of_mem hx
  have := len_le_lens l i hi
  omega, by omega⟩
theorem szName' (l : List (List Int)) (left : Int) (hl : RawN l) (h0 : 0 ≤ left) (h1 : left ≤ 1048576) :
    ∃ t, Ev (fun k => laws_szName.f k l left) t ∧ (t < 0 ∨ (0 ≤ t ∧ t ≤ left ∧ FitN l)) := by
  obtain ⟨t, ht, hc⟩ := szName l left hl.1 hl.2 h0 h1
  refine ⟨t, ht, hc.imp id fun h => ⟨h.2, by omega, lens_fit (by omega)⟩⟩
theorem toName' (l : List (List Int)) (h : FitN l) : Ev (fun k => laws_toName.f k l) l := toName l (by have := h.1; omega) h.big
theorem eqName' (l : List (List Int)) (h : FitN l) : Ev (fun k => laws_eqName.f k l l) true := eqName l (by have := h.1; omega) h.big

theorem szIntS (l : List Int) (left : Int) (hl : l.length ≤ 9223372036854775807) (h0 : 0 ≤ left) (h1 : left ≤ 1048576) : ∃ t, laws_szIntS.f l left = some t ∧ (t < 0 ∨ (t = left - l.length ∧ 0 ≤ t)) := by
  unfold laws_szIntS.f
  rw [w64 (by omega) (by omega)]
  by_cases h : left - (l.length : Int) < 0
  · exact ⟨-1, by rw [if_pos h], Or.inl (by omega)⟩
  · exact ⟨left - l.length, by rw [if_neg h], Or.inr ⟨rfl, by omega⟩⟩
theorem toIntS_l0 (l : List Int) (hl : l.length ≤ 35184372088832) (m : Nat) : ∀ (i : Nat), l.length = i + m →
    Ev (fun k => laws_toIntS.l0 k l (l.take i ++ List.replicate m 0) i) l := by
  induction m with
  | zero =>
    intro i hi
    refine Ev.step (f := fun _ => some l) (fun k => ?_) (Ev.now _)
    simp only [laws_toIntS.l0]
    rw [if_neg (by omega)]
    simp [List.take_of_length_le (show l.length ≤ i by omega)]
  | succ m ih =>
    intro i hi
    refine Ev.step (fun k => ?_) (ih (i+1) (by omega))
    simp only [laws_toIntS.l0]
    rw [if_pos (by omega), if_pos (by omega), if_pos (by simp; omega), w64 (by omega) (by omega)]
    rw [show rd l (i : Int) = l.getD i 0 by simp [rd], show ((i : Int)).toNat = i by omega, set_prefix l i (by omega) m (by omega)]
    rfl
theorem toIntS (l : List Int) (hl : l.length ≤ 35184372088832) : Ev (fun k => laws_toIntS.f k l) l := by
  unfold laws_toIntS.f
  simp only [if_pos (show 0 ≤ (l.length : Int) by omega), if_pos (show ((l.length : Int)).toNat ≤ 35184372088832 by omega)]
  simpa using toIntS_l0 l hl l.length 0 (by omega)
theorem eqIntS_l0 (l : List Int) (hl : l.length ≤ 140737488351232) (m : Nat) : ∀ (i : Nat), l.length = i + m →
    Ev (fun k => laws_eqIntS.l0 k l l i) true := by
  induction m with
  | zero =>
    intro i hi
    refine Ev.step (f := fun _ => some true) (fun k => ?_) (Ev.now _)
    simp only [laws_eqIntS.l0]
    rw [if_neg (by omega)]
  | succ m ih =>
    intro i hi
    refine Ev.step (fun k => ?_) (ih (i+1) (by omega))
    simp only [laws_eqIntS.l0]
    rw [if_pos (by omega), if_pos (by omega), if_pos (by omega), if_pos trivial, w64 (by omega) (by omega)]
    rfl
theorem eqIntS (l : List Int) (hl : l.length ≤ 140737488351232) : Ev (fun k => laws_eqIntS.f k l l) true := by
  unfold laws_eqIntS.f
  simp only [if_pos]
  exact eqIntS_l0 l hl l.length 0 (by omega)
theorem szRr (n : List (List Int)) (t ttl addr : Int) (dst : List (List Int)) (text nums : List Int) (left : Int) (hn : RawN n) (hto : RawN dst) (ht : text.length ≤ 9223372036854775807) (hnu : nums.length ≤ 9223372036854775807) (h0 : 0 ≤ left) (h1 : left ≤ 1048576) :
    ∃ u, Ev (fun k => laws_szRr.f k n t ttl addr dst text nums left) u ∧ (u < 0 ∨ (0 ≤ u ∧ u ≤ left ∧ FitN n ∧ FitN dst ∧ text.length ≤ 1048576 ∧ nums.length ≤ 1048576)) := by
  unfold laws_szRr.f
  obtain ⟨a, ha, hca⟩ := szName' n left hn h0 h1
  by_cases h : a < 0
  · exact ⟨-1, Ev.bind ha (by simp only [if_pos h]; exact Ev.now _), Or.inl (by omega)⟩
  obtain ⟨b, hb, hcb⟩ := szName' dst a hto (by omega) (by omega)
  by_cases h2 : b < 0
  · exact ⟨-1, Ev.bind ha (by simp only [if_neg h]; exact Ev.bind hb (by simp only [if_pos h2]; exact Ev.now _)), Or.inl (by omega)⟩
  obtain ⟨c, hc, hcc⟩ := szByteS text b ht (by omega) (by omega)
  by_cases h3 : c < 0
  · exact ⟨-1, Ev.bind ha (by simp only [if_neg h]; exact Ev.bind hb (by simp only [if_neg h2, hc, Option.bind_some, if_pos h3]; exact Ev.now _)), Or.inl (by omega)⟩
  obtain ⟨d, hd, hcd⟩ := szIntS nums c hnu (by omega) (by omega)
  by_cases h4 : d < 0
  · exact ⟨-1, Ev.bind ha (by simp only [if_neg h]; exact Ev.bind hb (by simp only [if_neg h2, hc, Option.bind_some, if_neg h3, hd, if_pos h4]; exact Ev.now _)), Or.inl (by omega)⟩
  refine ⟨d, Ev.bind ha (by simp only [if_neg h]; exact Ev.bind hb (by simp only [if_neg h2, hc, Option.bind_some, if_neg h3, hd, if_neg h4]; exact Ev.now _)), Or.inr ?_⟩
  have f1 := hca.resolve_left h
  have f2 := hcb.resolve_left h2
  exact ⟨by omega, by omega, f1.2.2, f2.2.2, by omega, by omega⟩
theorem toRr (n : List (List Int)) (t ttl addr : Int) (dst : List (List Int)) (text nums : List Int) (hn : FitN n) (hto : FitN dst) (ht : text.length ≤ 1048576) (hnu : nums.length ≤ 1048576) :
    Ev (fun k => laws_toRr.f k n t ttl addr dst text nums) (n, t, ttl, addr, dst, text, nums) := by
  unfold laws_toRr.f
  exact Ev.bind (toName' n hn) (Ev.bind (toName' dst hto) (Ev.bind (toByteS text (by omega)) (Ev.bind (toIntS nums (by omega)) (Ev.now _))))
theorem eqRr (n : List (List Int)) (t ttl addr : Int) (dst : List (List Int)) (text nums : List Int) (hn : FitN n) (hto : FitN dst) (ht : text.length ≤ 1048576) (hnu : nums.length ≤ 1048576) :
    Ev (fun k => laws_eqRr.f k n t ttl addr dst text nums n t ttl addr dst text nums) true := by
  unfold laws_eqRr.f
  refine Ev.bind (eqName' n hn) ?_
  simp only [if_true]
  refine Ev.bind (eqName' dst hto) ?_
  simp only [if_true]
  refine Ev.bind (eqByteS text (by omega)) ?_
  simp only [if_true]
  refine Ev.bind (eqIntS nums (by omega)) ?_
  simp only [if_true]
  exact Ev.now _
def typeOkV (t : Int) : Bool := t == 1 || t == 2 || t == 5 || t == 6 || t == 12 || t == 16 || t == 49
theorem specTypeOk (t : Int) : spec_TypeOk.f t = some (typeOkV t) := by
  unfold spec_TypeOk.f typeOkV
  by_cases h1 : t = 1
  · simp [h1]
  by_cases h2 : t = 2
  · simp [h2]
  by_cases h3 : t = 5
  · simp [h3]
  by_cases h4 : t = 6
  · simp [h4]
  by_cases h5 : t = 12
  · simp [h5]
  by_cases h6 : t = 16
  · simp [h6]
  by_cases h7 : t = 49
  · simp [h7]
  simp [h1, h2, h3, h4, h5, h6, h7]
theorem implTypeOk (t : Int) (ht : -9223372036854775808 ≤ t ∧ t ≤ 9223372036854775807) : impl_TypeOk.f t = some (typeOkV t) := by
  unfold impl_TypeOk.f impl_typeName.f typeOkV impl_typeName.v
  rw [if_pos ht]
  simp only [Option.bind_some, Go.ByteArray.toList_eq]
  by_cases h1 : t = 1
  · subst h1; decide
  by_cases h2 : t = 2
  · subst h2; decide
  by_cases h3 : t = 5
  · subst h3; decide
  by_cases h4 : t = 6
  · subst h4; decide
  by_cases h5 : t = 12
  · subst h5; decide
  by_cases h6 : t = 16
  · subst h6; decide
  by_cases h7 : t = 49
  · subst h7; decide
  rw [if_neg h1, if_neg h2, if_neg h3, if_neg h4, if_neg h5, if_neg h6, if_neg h7]
  simp [h1, h2, h3, h4, h5, h6, h7]
def namedV (t : Int) : Bool := t == 2 || t == 5 || t == 6 || t == 12
def textedV (t : Int) : Bool := t == 16 || t == 49
theorem specNamed (t : Int) : spec_l3named.f t = some (namedV t) := by
  unfold spec_l3named.f namedV
  by_cases h1 : t = 2
  · simp [h1]
  by_cases h2 : t = 5
  · simp [h2]
  by_cases h3 : t = 6
  · simp [h3]
  simp [h1, h2, h3]
theorem implNamed (t : Int) : impl_hasTo.f t = some (namedV t) := specNamed t
theorem specTexted (t : Int) : spec_l3texted.f t = some (textedV t) := by
  unfold spec_l3texted.f textedV
  by_cases h1 : t = 16
  · simp [h1]
  simp [h1]
theorem implTexted (t : Int) : impl_hasText.f t = some (textedV t) := specTexted t
theorem implWithin (a b c : Int) : impl_within.f a b c = some (decide (b ≤ a ∧ a ≤ c)) := by
  unfold impl_within.f
  by_cases h : b ≤ a <;> simp [h]
theorem implIsWord (a : Int) : impl_isWord.f a = some (decide (0 ≤ a ∧ a ≤ 4294967295)) := by
  unfold impl_isWord.f
  rw [implWithin]; rfl
def numsV (t : Int) (nums : List Int) : Bool := if t = 6 then decide (nums.length = 2 ∧ (0 ≤ rd nums 0 ∧ rd nums 0 ≤ 4294967295) ∧ 0 ≤ rd nums 1 ∧ rd nums 1 ≤ 100000) else decide (nums.length = 0)
def addrV (t addr : Int) : Bool := if t = 1 then decide (0 ≤ addr ∧ addr ≤ 4294967295) else decide (addr = 0)
def toV (t : Int) (dst : List (List Int)) : Bool := if namedV t = true then impl_NameOk.v dst else decide (dst.length = 0)
def textV (t : Int) (text : List Int) : Bool := if textedV t = true then decide (text.length ≤ 40) else decide (text.length = 0)
def rrOkV (n : List (List Int)) (t ttl addr : Int) (dst : List (List Int)) (text nums : List Int) : Bool :=
  impl_NameOk.v n && (typeOkV t && (decide (0 ≤ ttl ∧ ttl ≤ 100000) && (addrV t addr && (toV t dst && (textV t text && numsV t nums)))))
theorem specData_j2 (n : List (List Int)) (t ttl addr : Int) (dst : List (List Int)) (text nums : List Int) : Ev (fun k => spec_l3data.j2 k n t ttl addr dst text nums) (numsV t nums) := by
  refine Ev.step (f := fun _ => some (numsV t nums)) (fun k => ?_) (Ev.now _)
  simp only [spec_l3data.j2]
  unfold numsV
  by_cases h6 : t = 6
  · rw [if_pos h6, if_pos h6]
    by_cases h2 : nums.length = 2
    · rw [if_pos (by omega), if_pos (by omega)]
      by_cases a1 : rd nums 0 < 0
      · rw [if_pos a1, decide_eq_false (by omega)]
      rw [if_neg a1]
      by_cases a2 : rd nums 0 ≥ 4294967296
      · rw [if_pos a2, decide_eq_false (by omega)]
      rw [if_neg a2, if_pos (by omega)]
      by_cases a3 : rd nums 1 ≥ 0
      · rw [if_pos a3]; congr 1; apply decide_eq_decide.2; constructor <;> intro h <;> omega
      · rw [if_neg a3, decide_eq_false (by omega)]
    · rw [if_neg (by omega), decide_eq_false (by omega)]
  · rw [if_neg h6, if_neg h6]
    congr 1
    rw [Bool.eq_iff_iff, beq_iff_eq, decide_eq_true_iff]; omega
theorem specData_j1 (n : List (List Int)) (t ttl addr : Int) (dst : List (List Int)) (text nums : List Int) : Ev (fun k => spec_l3data.j1 k n t ttl addr dst text nums) (textV t text && numsV t nums) := by
  refine Ev.step (f := fun k => if textV t text = true then spec_l3data.j2 k n t ttl addr dst text nums else some false) (fun k => ?_) ?_
  · simp only [spec_l3data.j1]
    rw [specTexted, Option.bind_some]
    unfold textV
    cases textedV t
    · simp only [Bool.false_eq_true, if_false, decide_eq_true_iff]
      by_cases h : text.length = 0
      · rw [if_neg (by omega), if_pos h]
      · rw [if_pos (by omega), if_neg h]
    · simp only [if_true, decide_eq_true_iff]
      by_cases h : text.length ≤ 40
      · rw [if_neg (by omega), if_pos h]
      · rw [if_pos (by omega), if_neg h]
  · cases textV t text
    · simp only [Bool.false_eq_true, if_false, Bool.false_and]; exact Ev.now _
    · simp only [if_true, Bool.true_and]; exact specData_j2 ..
theorem specData_j0 (n : List (List Int)) (t ttl addr : Int) (dst : List (List Int)) (text nums : List Int) (hto : FitN dst) : Ev (fun k => spec_l3data.j0 k n t ttl addr dst text nums) (toV t dst && (textV t text && numsV t nums)) := by
  refine Ev.step (f := fun k => if namedV t = true then ((spec_NameOk.f k dst).bind fun t103 => (if t103 = true then (spec_l3data.j1 k n t ttl addr dst text nums) else (some false))) else (if (dst.length : Int) > 0 then (some false) else (spec_l3data.j1 k n t ttl addr dst text nums))) (fun k => ?_) ?_
  · simp only [spec_l3data.j0]
    rw [specNamed, Option.bind_some]
  · unfold toV
    cases namedV t
    · simp only [Bool.false_eq_true, if_false]
      by_cases h : dst.length = 0
      · simp only [if_neg (show ¬ (dst.length : Int) > 0 by omega)]
        rw [decide_eq_true h, Bool.true_and]; exact specData_j1 ..
      · simp only [if_pos (show (dst.length : Int) > 0 by omega)]
        rw [decide_eq_false h, Bool.false_and]; exact Ev.now _
    · simp only [if_true]
      refine Ev.bind (specNameOk dst hto.1 hto.big) ?_
      cases impl_NameOk.v dst
      · simp only [Bool.false_eq_true, if_false, Bool.false_and]; exact Ev.now _
      · simp only [if_true, Bool.true_and]; exact specData_j1 ..
theorem specData (n : List (List Int)) (t ttl addr : Int) (dst : List (List Int)) (text nums : List Int) (hto : FitN dst) : Ev (fun k => spec_l3data.f k n t ttl addr dst text nums) (addrV t addr && (toV t dst && (textV t text && numsV t nums))) := by
  unfold spec_l3data.f addrV
  by_cases h1 : t = 1
  · simp only [if_pos h1]
    by_cases a1 : addr < 0
    · simp only [if_pos a1]; rw [decide_eq_false (by omega), Bool.false_and]; exact Ev.now _
    simp only [if_neg a1]
    by_cases a2 : addr ≥ 4294967296
    · simp only [if_pos a2]; rw [decide_eq_false (by omega), Bool.false_and]; exact Ev.now _
    simp only [if_neg a2]; rw [decide_eq_true (show 0 ≤ addr ∧ addr ≤ 4294967295 by omega), Bool.true_and]; exact specData_j0 _ _ _ _ _ _ _ hto
  · simp only [if_neg h1]
    by_cases a1 : addr = 0
    · simp only [if_pos a1]; rw [decide_eq_true a1, Bool.true_and]; exact specData_j0 _ _ _ _ _ _ _ hto
    · simp only [if_neg a1]; rw [decide_eq_false a1, Bool.false_and]; exact Ev.now _
theorem specRrOk (n : List (List Int)) (t ttl addr : Int) (dst : List (List Int)) (text nums : List Int) (hn : FitN n) (hto : FitN dst) : Ev (fun k => spec_RrOk.f k n t ttl addr dst text nums) (rrOkV n t ttl addr dst text nums) := by
  unfold spec_RrOk.f rrOkV
  refine Ev.bind (specNameOk n hn.1 hn.big) ?_
  cases impl_NameOk.v n
  · simp only [Bool.false_eq_true, if_false, Bool.false_and]; exact Ev.now _
  simp only [if_true, Bool.true_and, specTypeOk, Option.bind_some]
  cases typeOkV t
  · simp only [Bool.false_eq_true, if_false, Bool.false_and]; exact Ev.now _
  simp only [if_true, Bool.true_and]
  by_cases a1 : ttl ≥ 0
  · simp only [if_pos a1]
    by_cases a2 : ttl ≤ 100000
    · simp only [if_pos a2]; rw [decide_eq_true (show 0 ≤ ttl ∧ ttl ≤ 100000 by omega), Bool.true_and]
      exact Ev.bind (specData _ _ _ _ _ _ _ hto) (Ev.now _)
    · simp only [if_neg a2]; rw [decide_eq_false (by omega), Bool.false_and]; exact Ev.now _
  · simp only [if_neg a1]; rw [decide_eq_false (by omega), Bool.false_and]; exact Ev.now _
theorem rrOk_j3 (x3 x4 x5 : Bool) (n : List (List Int)) (t ttl addr : Int) (dst : List (List Int)) (text nums : List Int) : Ev (fun k => impl_RrOk.j3 k x3 x4 x5 n t ttl addr dst text nums) (x3 && (x4 && (x5 && textV t text))) := by
  refine Ev.step (f := fun _ => some (x3 && (x4 && (x5 && textV t text)))) (fun k => ?_) (Ev.now _)
  simp only [impl_RrOk.j3]
  rw [implTexted, Option.bind_some]
  unfold textV
  by_cases h : text.length = 0
  · rw [if_pos (by omega), decide_eq_true h, decide_eq_true (show text.length ≤ 40 by omega)]
    cases x3 <;> cases x4 <;> cases x5 <;> cases textedV t <;> rfl
  · rw [if_neg (by omega), decide_eq_false h, show decide ((text.length : Int) ≤ 40) = decide (text.length ≤ 40) from decide_eq_decide.2 (by omega)]
    cases x3 <;> cases x4 <;> cases x5 <;> cases textedV t <;> simp
theorem rrOk_j2 (x3 x4 : Bool) (n : List (List Int)) (t ttl addr : Int) (dst : List (List Int)) (text nums : List Int) : Ev (fun k => impl_RrOk.j2 k x3 x4 n t ttl addr dst text nums) (x3 && (x4 && (toV t dst && textV t text))) := by
  refine Ev.step (f := fun k => impl_RrOk.j3 k x3 x4 (toV t dst) n t ttl addr dst text nums) (fun k => ?_) (rrOk_j3 ..)
  simp only [impl_RrOk.j2]
  rw [implNamed, Option.bind_some]
  unfold toV impl_NameOk.f
  by_cases h : dst.length = 0
  · have := List.eq_nil_of_length_eq_zero h
    subst this
    cases namedV t <;> simp [impl_NameOk.v]
  · rw [if_neg (by omega), decide_eq_false h]
    cases namedV t <;> simp
theorem rrOk_j1 (x3 : Bool) (n : List (List Int)) (t ttl addr : Int) (dst : List (List Int)) (text nums : List Int) : Ev (fun k => impl_RrOk.j1 k x3 n t ttl addr dst text nums) (x3 && (addrV t addr && (toV t dst && textV t text))) := by
  refine Ev.step (f := fun k => impl_RrOk.j2 k x3 (addrV t addr) n t ttl addr dst text nums) (fun k => ?_) (rrOk_j2 ..)
  simp only [impl_RrOk.j1]
  rw [implIsWord, Option.bind_some]
  unfold addrV
  by_cases h : addr = 0
  · subst h; simp
  · rw [if_neg h, decide_eq_false h]
    by_cases h1 : t = 1
    · rw [if_pos h1, if_pos h1]
    · rw [if_neg h1, if_neg h1]
theorem rrOk_j0 (x22 : Bool) (n : List (List Int)) (t ttl addr : Int) (dst : List (List Int)) (text nums : List Int) : Ev (fun k => impl_RrOk.j0 k x22 n t ttl addr dst text nums) (!x22 && (numsV t nums && (addrV t addr && (toV t dst && textV t text)))) := by
  cases x22
  · refine Ev.step (f := fun k => impl_RrOk.j1 k (numsV t nums) n t ttl addr dst text nums) (fun k => ?_) ?_
    · simp only [impl_RrOk.j0, Bool.false_eq_true, if_false]
      simp only [implIsWord, implWithin, Option.bind_some]
      unfold numsV
      by_cases h6 : t = 6
      · simp only [if_pos h6]
        by_cases h2 : nums.length = 2
        · rw [if_pos (by omega), if_pos (by omega)]
          by_cases a1 : 0 ≤ rd nums 0 ∧ rd nums 0 ≤ 4294967295
          · simp only [decide_eq_true_iff, if_pos a1]
            rw [if_pos (by omega)]
            congr 1; apply decide_eq_decide.2; constructor <;> intro h <;> omega
          · simp only [decide_eq_true_iff, if_neg a1]
            rw [decide_eq_false (by omega)]
        · rw [if_neg (by omega), decide_eq_false (by omega)]
      · simp only [if_neg h6]
        congr 1
        rw [Bool.eq_iff_iff, beq_iff_eq, decide_eq_true_iff]; omega
    · simpa using rrOk_j1 (numsV t nums) n t ttl addr dst text nums
  · refine Ev.step (f := fun _ => some false) (fun k => ?_) (Ev.now _)
    simp only [impl_RrOk.j0, if_true]
theorem implRrOk (n : List (List Int)) (t ttl addr : Int) (dst : List (List Int)) (text nums : List Int) (ht : -9223372036854775808 ≤ t ∧ t ≤ 9223372036854775807) : Ev (fun k => impl_RrOk.f k n t ttl addr dst text nums) (rrOkV n t ttl addr dst text nums) := by
  have e : rrOkV n t ttl addr dst text nums = (!(!(impl_NameOk.v n && (typeOkV t && decide (0 ≤ ttl ∧ ttl ≤ 100000)))) && (numsV t nums && (addrV t addr && (toV t dst && textV t text)))) := by
    unfold rrOkV
    cases impl_NameOk.v n <;> cases typeOkV t <;> cases decide (0 ≤ ttl ∧ ttl ≤ 100000) <;> cases numsV t nums <;> cases addrV t addr <;> cases toV t dst <;> cases textV t text <;> rfl
  rw [e]
  unfold impl_RrOk.f impl_NameOk.f
  simp only [Option.bind_some, implTypeOk t ht, implWithin]
  cases impl_NameOk.v n
  · simp only [Bool.false_eq_true, if_false, Bool.false_and, Bool.not_false]; exact rrOk_j0 ..
  cases typeOkV t
  · simp only [Bool.false_eq_true, if_false, if_true, Bool.false_and, Bool.true_and, Bool.not_false]; exact rrOk_j0 ..
  simp only [if_true, Bool.true_and]; exact rrOk_j0 ..
end Go.Proofs.YtkmchjdioplfjaaDoor.Pure

/- Plain lemmas on the printed functions that tell the text of a name. -/
namespace Go.Proofs.YtkmchjdioplfjaaDoor.Pure
open Go Go.RowKit Go.Proofs.YtkmchjdioplfjaaDoor.Q Go.Proofs.YtkmchjdioplfjaaDoorW.PrintWords Go.Proofs.YtkmchjdioplfjaaDoorW.PrintLast Go.Proofs.YtkmchjdioplfjaaDoorW.PrintMore
set_option linter.unusedVariables false
set_option linter.unusedSimpArgs false
/-- Each label, a dot behind it. -/
def dots (l : List (List Int)) : List Int := (l.map fun x => x ++ [46]).flatten
theorem dots_len (l : List (List Int)) : (dots l).length = lens l + l.length := by
  induction l with
  | nil => rfl
  | cons x l ih =>
    have e1 : dots (x :: l) = x ++ [46] ++ dots l := rfl
    have e2 : lens (x :: l) = x.length + lens l := rfl
    rw [e1, List.length_append, List.length_append, ih, e2]
    simp only [List.length_cons, List.length_nil]
    omega
theorem dots_cons (x : List Int) (l : List (List Int)) : dots (x :: l) = x ++ [46] ++ dots l := rfl
theorem implText_l0 (l : List (List Int)) (hl : l.length ≤ 1048576) (m : Nat) : ∀ (i : Nat) (acc : List Int), l.length = i + m → acc.length + lens (l.drop i) + m ≤ 4194304 →
    Ev (fun k => impl_NameText.l0 k acc l (l.length : Int) i) (acc ++ dots (l.drop i)) := by
  induction m with
  | zero =>
    intro i acc hi hb
    refine Ev.step (f := fun _ => some acc) (fun k => ?_) (by rw [List.drop_of_length_le (by omega)]; simpa [dots] using Ev.now acc)
    simp only [impl_NameText.l0]
    rw [if_neg (by omega)]
  | succ m ih =>
    intro i acc hi hb
    have hil : i < l.length := by omega
    rw [lens_drop l i hil] at hb
    rw [List.drop_eq_getElem_cons hil, dots_cons, ← List.append_assoc, ← List.append_assoc]
    have hlen : (acc ++ l[i]).length < 140737488355328 := by rw [List.length_append]; omega
    refine Ev.step (fun k => ?_) (ih (i + 1) (acc ++ l[i] ++ [46]) (by omega) (by simp only [List.length_append, List.length_singleton]; omega))
    simp only [impl_NameText.l0]
    rw [if_pos (by omega), if_pos (by omega), if_pos (by omega), rdL_at l i hil, if_pos (by omega), Option.bind_some, if_pos hlen, w64 (x := (i : Int) + 1) (by omega) (by omega)]
    rfl
theorem specText_l0 (l : List (List Int)) (hl : l.length ≤ 1048576) (m : Nat) : ∀ (i : Nat) (acc : List Int), l.length = i + m → acc.length + lens (l.drop i) + m ≤ 4194304 →
    Ev (fun k => spec_l2text.l0 k acc i l) (acc ++ dots (l.drop i)) := by
  induction m with
  | zero =>
    intro i acc hi hb
    refine Ev.step (f := fun _ => some acc) (fun k => ?_) (by rw [List.drop_of_length_le (by omega)]; simpa [dots] using Ev.now acc)
    simp only [spec_l2text.l0]
    rw [if_neg (by omega)]
  | succ m ih =>
    intro i acc hi hb
    have hil : i < l.length := by omega
    rw [lens_drop l i hil] at hb
    rw [List.drop_eq_getElem_cons hil, dots_cons, ← List.append_assoc, ← List.append_assoc]
    have hlen : (acc ++ l[i]).length < 140737488355328 := by rw [List.length_append]; omega
    refine Ev.step (fun k => ?_) (ih (i + 1) (acc ++ l[i] ++ [46]) (by omega) (by simp only [List.length_append, List.length_singleton]; omega))
    simp only [spec_l2text.l0]
    rw [if_pos (by omega), if_pos (by omega), rdL_at l i hil, if_pos (by omega), Option.bind_some, if_pos hlen, w64 (x := (i : Int) + 1) (by omega) (by omega)]
    rfl
/-- The text of a right name. -/
def nmV (l : List (List Int)) : List Int := if l.length = 0 then [46] else dots l
theorem label_len (x : List Int) (h : impl_LabelOk.v x = true) : x.length ≤ 15 := by
  unfold impl_LabelOk.v at h
  simp only [Bool.and_eq_true, decide_eq_true_iff] at h
  omega
theorem lens_15 (l : List (List Int)) (h : ∀ x ∈ l, x.length ≤ 15) : lens l ≤ 15 * l.length := by
  induction l with
  | nil => simp [lens]
  | cons x l ih =>
    have e2 : lens (x :: l) = x.length + lens l := rfl
    have := h x (by simp)
    have := ih fun y hy => h y (by simp [hy])
    rw [e2, List.length_cons]; omega
theorem nameOk_len (l : List (List Int)) (h : impl_NameOk.v l = true) : l.length ≤ 6 ∧ lens l ≤ 90 := by
  unfold impl_NameOk.v at h
  simp only [Bool.and_eq_true, decide_eq_true_iff, List.all_eq_true] at h
  have := lens_15 l fun x hx => label_len x (h.2 x hx)
  omega
theorem nmV_len (l : List (List Int)) (h : impl_NameOk.v l = true) : (nmV l).length ≤ 96 := by
  have := nameOk_len l h
  unfold nmV
  split
  · simp
  · rw [dots_len]; omega
theorem specNm (l : List (List Int)) (h : impl_NameOk.v l = true) : Ev (fun k => spec_l2text.f k l) (nmV l) := by
  have := nameOk_len l h
  unfold spec_l2text.f nmV
  by_cases h0 : l.length = 0
  · simp only [if_pos h0, if_pos (show (l.length : Int) = 0 by omega)]; exact Ev.now _
  · simp only [if_neg h0, if_neg (show ¬ (l.length : Int) = 0 by omega)]
    have := specText_l0 l (by omega) l.length 0 [] (by omega) (by simp; omega)
    simpa using this
theorem implNm (l : List (List Int)) (h : impl_NameOk.v l = true) : Ev (fun k => impl_NameText.f k l) (nmV l) := by
  have := nameOk_len l h
  unfold impl_NameText.f impl_NameOk.f nmV
  simp only [Option.bind_some, if_pos h]
  by_cases h0 : l.length = 0
  · simp only [if_pos h0, if_pos (show (l.length : Int) = 0 by omega)]; exact Ev.now _
  · simp only [if_neg h0, if_neg (show ¬ (l.length : Int) = 0 by omega)]
    have := implText_l0 l (by omega) l.length 0 [] (by omega) (by simp; omega)
    simpa using this
end Go.Proofs.YtkmchjdioplfjaaDoor.Pure

/- Plain lemmas on the printed functions: marks laid over a list of bytes, and found again; two lists compared; Put, Take. -/
namespace Go.Proofs.YtkmchjdioplfjaaDoor.Pure
open Go Go.RowKit Go.Proofs.YtkmchjdioplfjaaDoor.Q Go.Proofs.YtkmchjdioplfjaaDoorW.PrintWords Go.Proofs.YtkmchjdioplfjaaDoorW.PrintLast Go.Proofs.YtkmchjdioplfjaaDoorW.PrintMore
set_option linter.unusedVariables false
set_option linter.unusedSimpArgs false

/-- n marks from a on. -/
def marks (a : Int) (n : Nat) : List Int := (List.range n).map fun (i : Nat) => (a + (i : Int)) % 256
theorem marks_len (a : Int) (n : Nat) : (marks a n).length = n := by simp [marks]
theorem marks_rd (a : Int) (n i : Nat) (h : i < n) : rd (marks a n) (i : Int) = (a + i) % 256 := by
  simp [rd, marks, List.getD_eq_getElem?_getD, h]
theorem marks_succ (a : Int) (i : Nat) : marks a (i + 1) = marks a i ++ [(a + i) % 256] := by simp [marks, List.range_succ]
theorem mark_l0 (l : List Int) (a : Int) (h0 : 0 ≤ a) (h1 : a ≤ 1099511627776) (hl : l.length ≤ 140737488351232) (m : Nat) : ∀ (i : Nat), l.length = i + m →
    Ev (fun k => laws_markByteS.l0 k (marks a i ++ l.drop i) (a + i) i) (a + l.length, marks a l.length) := by
  induction m with
  | zero =>
    intro i hi
    refine Ev.step (f := fun _ => some (a + l.length, marks a l.length)) (fun k => ?_) (Ev.now _)
    simp only [laws_markByteS.l0]
    rw [List.length_append, marks_len, List.length_drop, if_neg (by omega), List.drop_of_length_le (by omega), List.append_nil, show i = l.length by omega]
  | succ m ih =>
    intro i hi
    refine Ev.step (fun k => ?_) (ih (i + 1) (by omega))
    simp only [laws_markByteS.l0]
    rw [List.length_append, marks_len, List.length_drop, if_pos (by omega), if_pos (by omega), w64 (show -9223372036854775808 ≤ a + i + 1 by omega) (by omega), w64 (show -9223372036854775808 ≤ (i : Int) + 1 by omega) (by omega)]
    rw [show ((i : Int)).toNat = i by omega, List.set_append_right _ _ (by rw [marks_len]; omega), marks_len, Nat.sub_self, List.drop_eq_getElem_cons (show i < l.length by omega), List.set_cons_zero, marks_succ, List.append_assoc, List.singleton_append]
    rw [show a + (i : Int) + 1 = a + ((i + 1 : Nat) : Int) by omega, show (i : Int) + 1 = ((i + 1 : Nat) : Int) by omega]
theorem markByteS (l : List Int) (a : Int) (h0 : 0 ≤ a) (h1 : a ≤ 1099511627776) (hl : l.length ≤ 140737488351232) : Ev (fun k => laws_markByteS.f k l a) (a + l.length, marks a l.length) := by
  have := mark_l0 l a h0 h1 hl l.length 0 (by omega)
  simpa [laws_markByteS.f, marks] using this
theorem held_l0 (a : Int) (h0 : 0 ≤ a) (h1 : a ≤ 1099511627776) (n : Nat) (hl : n ≤ 140737488351232) (m : Nat) : ∀ (i : Nat), n = i + m →
    Ev (fun k => laws_heldByteS.l0 k (marks a n) (a + i) i) (a + n) := by
  induction m with
  | zero =>
    intro i hi
    refine Ev.step (f := fun _ => some (a + n)) (fun k => ?_) (Ev.now _)
    simp only [laws_heldByteS.l0]
    rw [marks_len, if_neg (by omega), show i = n by omega]
  | succ m ih =>
    intro i hi
    refine Ev.step (fun k => ?_) (ih (i + 1) (by omega))
    simp only [laws_heldByteS.l0]
    rw [marks_len, if_pos (by omega), if_pos (by omega), marks_rd a n i (by omega), if_pos rfl, w64 (show -9223372036854775808 ≤ a + i + 1 by omega) (by omega), w64 (show -9223372036854775808 ≤ (i : Int) + 1 by omega) (by omega)]
    rw [show a + (i : Int) + 1 = a + ((i + 1 : Nat) : Int) by omega, show (i : Int) + 1 = ((i + 1 : Nat) : Int) by omega]
theorem heldByteS (a : Int) (h0 : 0 ≤ a) (h1 : a ≤ 1099511627776) (n : Nat) (hl : n ≤ 140737488351232) : Ev (fun k => laws_heldByteS.f k (marks a n) a) (a + n) := by
  have := held_l0 a h0 h1 n hl n 0 (by omega)
  simpa [laws_heldByteS.f] using this
end Go.Proofs.YtkmchjdioplfjaaDoor.Pure

/- The statement FnExactDotted: at every whole number the reference and the program tell the same address in dots, their caller's own. The row's listed tables of the library are tied to the program's text by the card. -/
namespace Go.Proofs.YtkmchjdioplfjaaDoor.Pure
open Go Go.RowKit Go.Proofs.YtkmchjdioplfjaaDoor.Q Go.Proofs.YtkmchjdioplfjaaDoorW.PrintWords Go.Proofs.YtkmchjdioplfjaaDoorW.PrintLast
set_option linter.unusedVariables false
def digL (c : Int) : List Int := (Lib.itoa c).map fun b => (b.toNat : Int)
theorem and255 (n : Int) : Go.bits .and .i64 n 255 = n % 256 := by
  have h255 : (BitVec.ofInt 64 255).toNat = 2 ^ 8 - 1 := by decide
  have key : (BitVec.ofInt 64 n &&& BitVec.ofInt 64 255).toNat = (n % ((2 ^ 64 : Nat) : Int)).toNat % 2 ^ 8 := by
    rw [BitVec.toNat_and, BitVec.toNat_ofInt, h255, Nat.and_two_pow_sub_one_eq_mod]
  show IntKind.i64.wrap ((BitVec.ofInt 64 n &&& BitVec.ofInt 64 255).toNat : Nat) = n % 256
  rw [key, IntKind.wrap_i64]
  omega
theorem u8_dig (u : Nat) (h : u < 10) : ((UInt8.ofNat (48 + u)).toNat : Int) = 48 + u := by
  rw [UInt8.toNat_ofNat']
  omega
def decL (u : Nat) : List Int := (Lib.decDigits u).map fun b => (b.toNat : Int)
theorem decL_one (u : Nat) (h : u < 10) : decL u = [48 + (u : Int)] := by
  unfold decL
  rw [Lib.decDigits, dif_pos h]
  simp only [List.map_cons, List.map_nil, u8_dig u h]
theorem decL_more (u : Nat) (h : ¬ u < 10) : decL u = decL (u / 10) ++ [48 + ((u % 10 : Nat) : Int)] := by
  unfold decL
  rw [Lib.decDigits, dif_neg h]
  simp only [List.map_append, List.map_cons, List.map_nil, u8_dig (u % 10) (by omega)]
theorem digits_one (k u : Nat) (h : u < 10) : spec_l1digits.f (k + 1) (u : Int) = some (decL u) := by
  simp only [spec_l1digits.f]
  rw [if_pos (by omega), decL_one u h, w64 (by omega) (by omega)]
  congr 2
  omega
theorem digits_more (k u : Nat) (h : ¬ u < 10) (hu : u < 1000000) (hk : spec_l1digits.f k ((u / 10 : Nat) : Int) = some (decL (u / 10))) (hl : (decL (u / 10)).length < 1000) : spec_l1digits.f (k + 1) (u : Int) = some (decL u) := by
  simp only [spec_l1digits.f]
  have e1 : Int.tdiv (u : Int) 10 = ((u / 10 : Nat) : Int) := by rw [Int.tdiv_eq_ediv_of_nonneg (by omega)]; omega
  have e2 : Int.tmod (u : Int) 10 = ((u % 10 : Nat) : Int) := by rw [Int.tmod_eq_emod_of_nonneg (by omega)]; omega
  rw [if_neg (by omega), e1, e2, w64 (by omega) (by omega), hk, Option.bind_some, if_pos (by omega), decL_more u h, w64 (by omega) (by omega)]
  congr 3
  omega
theorem digits_3 (u : Nat) (h : u ≤ 255) : spec_l1digits.f 3 (u : Int) = some (decL u) ∧ (decL u).length ≤ 3 := by
  by_cases h1 : u < 10
  · exact ⟨digits_one 2 u h1, by rw [decL_one u h1]; simp⟩
  · by_cases h2 : u / 10 < 10
    · exact ⟨digits_more 2 u h1 (by omega) (digits_one 1 _ h2) (by rw [decL_one _ h2]; simp), by rw [decL_more u h1, decL_one _ h2]; simp⟩
    · have h3 : u / 10 / 10 < 10 := by omega
      have l2 : decL (u / 10) = decL (u / 10 / 10) ++ [48 + ((u / 10 % 10 : Nat) : Int)] := decL_more _ h2
      exact ⟨digits_more 2 u h1 (by omega) (digits_more 1 _ h2 (by omega) (digits_one 0 _ h3) (by rw [decL_one _ h3]; simp)) (by rw [l2, decL_one _ h3]; simp), by rw [decL_more u h1, l2, decL_one _ h3]; simp⟩
theorem digL_dec (c : Int) (h : 0 ≤ c) : digL c = decL c.toNat := by
  unfold digL decL Lib.itoa
  rw [if_neg (by omega)]
theorem digits_ev (c : Int) (h0 : 0 ≤ c) (h1 : c ≤ 255) : Ev (fun k => spec_l1digits.f k c) (digL c) := by
  refine ⟨3, fun k hk => ?_⟩
  have h := (digits_3 c.toNat (by omega)).1
  rw [Int.toNat_of_nonneg h0] at h
  rw [digL_dec c h0]
  have : ∀ m, spec_l1digits.f (3 + m) c = some (decL c.toNat) := fun m => by
    induction m with
    | zero => exact h
    | succ m ih => exact spec_l1digits.mono c (3 + m) _ ih
  have := this (k - 3)
  rwa [show 3 + (k - 3) = k by omega] at this
theorem digL_len (c : Int) (h0 : 0 ≤ c) (h1 : c ≤ 255) : (digL c).length ≤ 3 := by
  rw [digL_dec c h0]
  exact (digits_3 c.toNat (by omega)).2
theorem dotV_list (x : Int) (h : 0 ≤ x ∧ x < 4294967296) : dotV x = digL (x / 16777216 % 256) ++ 46 :: (digL (x / 65536 % 256) ++ 46 :: (digL (x / 256 % 256) ++ 46 :: digL (x % 256))) := by
  unfold dotV
  rw [if_pos h]
  unfold strBytes
  rw [dot_list]
  simp [digL]
theorem dotV_len (x : Int) : (dotV x).length ≤ 15 := by
  by_cases h : 0 ≤ x ∧ x < 4294967296
  · rw [dotV_list x h]
    have a := digL_len (x / 16777216 % 256) (by omega) (by omega)
    have b := digL_len (x / 65536 % 256) (by omega) (by omega)
    have c := digL_len (x / 256 % 256) (by omega) (by omega)
    have d := digL_len (x % 256) (by omega) (by omega)
    simp only [List.length_append, List.length_cons]
    omega
  · unfold dotV
    rw [if_neg h]
    simp
theorem byte_at (x : Int) (i : Nat) (hi : i ≤ 3) : Go.bits .and .i64 (shr .i64 x (8 * (i : Int))) 255 = x / 2 ^ (8 * i) % 256 := by
  rw [and255]
  unfold shr
  rw [show (8 * (i : Int)).toNat = 8 * i by omega, Nat.min_eq_left (by simp [IntKind.bits]; omega)]
theorem dotted_more (x : Int) (i : Nat) (hi : i ≤ 2) (acc r : List Int) (hl : acc.length ≤ 100) (h : Ev (fun k => spec_l1dotted.l0 k x (acc ++ digL (x / 2 ^ (8 * (i + 1)) % 256) ++ [46]) (i : Int)) r) : Ev (fun k => spec_l1dotted.l0 k x acc ((i + 1 : Nat) : Int)) r := by
  have hb := byte_at x (i + 1) (by omega)
  have hd := digits_ev (x / 2 ^ (8 * (i + 1)) % 256) (by omega) (by omega)
  have hn := digL_len (x / 2 ^ (8 * (i + 1)) % 256) (by omega) (by omega)
  generalize x / 2 ^ (8 * (i + 1)) % 256 = c at hb hd hn h
  refine Ev.step (f := fun k => (spec_l1digits.f k c).bind fun t => if acc.length + t.length < 140737488355328 then ((some (acc ++ t : List Int)).bind fun y104 => (if ((i + 1 : Nat) : Int) > 0 then (if y104.length < 140737488355328 then (spec_l1dotted.l0 k x (y104 ++ [46]) (wrap64 (((i + 1 : Nat) : Int) - 1))) else (none)) else (spec_l1dotted.l0 k x y104 (wrap64 (((i + 1 : Nat) : Int) - 1))))) else none) (fun k => ?_) ?_
  · simp only [spec_l1dotted.l0]
    rw [if_pos (by omega), w64 (show -9223372036854775808 ≤ 8 * ((i + 1 : Nat) : Int) by omega) (by omega), if_pos (by omega), hb]
  · refine Ev.bind hd ?_
    simp only [if_pos (show acc.length + (digL c).length < 140737488355328 by omega), Option.bind_some, if_pos (show ((i + 1 : Nat) : Int) > 0 by omega), if_pos (show (acc ++ digL c).length < 140737488355328 by rw [List.length_append]; omega), show ((i + 1 : Nat) : Int) - 1 = (i : Int) by omega, w64 (show -9223372036854775808 ≤ (i : Int) by omega) (by omega)]
    exact h
theorem dotted_last (x : Int) (acc : List Int) (hl : acc.length ≤ 100) : Ev (fun k => spec_l1dotted.l0 k x acc 0) (acc ++ digL (x % 256)) := by
  have hb := byte_at x 0 (by omega)
  have hd := digits_ev (x % 256) (by omega) (by omega)
  have hn := digL_len (x % 256) (by omega) (by omega)
  rw [show x / 2 ^ (8 * 0) % 256 = x % 256 by simp] at hb
  generalize x % 256 = c at hb hd hn ⊢
  refine Ev.step (f := fun k => (spec_l1digits.f k c).bind fun t => if acc.length + t.length < 140737488355328 then ((some (acc ++ t : List Int)).bind fun y104 => (spec_l1dotted.l0 k x y104 (-1))) else none) (fun k => ?_) ?_
  · simp only [spec_l1dotted.l0]
    rw [if_pos (by omega), w64 (show -9223372036854775808 ≤ 8 * (0 : Int) by omega) (by omega), if_pos (by omega)]
    rw [show (8 * (0 : Int)) = 8 * ((0 : Nat) : Int) from rfl, hb, w64 (show -9223372036854775808 ≤ (0 : Int) - 1 by omega) (by omega)]
    rfl
  · refine Ev.bind hd ?_
    simp only [if_pos (show acc.length + (digL c).length < 140737488355328 by omega), Option.bind_some]
    refine Ev.step (f := fun _ => some (acc ++ digL c)) (fun k => ?_) (Ev.now _)
    simp only [spec_l1dotted.l0]
    rw [if_neg (by omega)]
theorem specDotted (x : Int) : Ev (fun k => spec_Dotted.f k x) (dotV x) := by
  unfold spec_Dotted.f
  by_cases h1 : x < 0
  · simp only [if_pos h1]
    rw [show dotV x = [] by unfold dotV; rw [if_neg (by omega)]]
    exact Ev.now _
  · simp only [if_neg h1]
    by_cases h2 : x ≥ 4294967296
    · simp only [if_pos h2]
      rw [show dotV x = [] by unfold dotV; rw [if_neg (by omega)]]
      exact Ev.now _
    · simp only [if_neg h2]
      refine Ev.bind (a := dotV x) ?_ (Ev.now _)
      unfold spec_l1dotted.f
      have a := digL_len (x / 16777216 % 256) (by omega) (by omega)
      have b := digL_len (x / 65536 % 256) (by omega) (by omega)
      have c := digL_len (x / 256 % 256) (by omega) (by omega)
      refine dotted_more x 2 (by omega) [] _ (by simp) ?_
      refine dotted_more x 1 (by omega) _ _ (by simp; omega) ?_
      refine dotted_more x 0 (by omega) _ _ (by simp; omega) ?_
      have h := dotted_last x (([] ++ digL (x / 2 ^ (8 * (2 + 1)) % 256) ++ [46]) ++ digL (x / 2 ^ (8 * (1 + 1)) % 256) ++ [46] ++ digL (x / 2 ^ (8 * (0 + 1)) % 256) ++ [46]) (by simp; omega)
      rw [dotV_list x (by omega)]
      simpa using h
end Go.Proofs.YtkmchjdioplfjaaDoor.Pure

/- Numbers in decimal, as the reference and the library tell them: for all words. -/
namespace Go.Proofs.YtkmchjdioplfjaaDoor.Pure
open Go Go.RowKit Go.Proofs.YtkmchjdioplfjaaDoor.Q Go.Proofs.YtkmchjdioplfjaaDoorW.PrintWords Go.Proofs.YtkmchjdioplfjaaDoorW.PrintLast
set_option linter.unusedVariables false
theorem digits_more' (k u : Nat) (h : ¬ u < 10) (hu : u < 10000000000) (hk : spec_l1digits.f k ((u / 10 : Nat) : Int) = some (decL (u / 10))) (hl : (decL (u / 10)).length < 1000) : spec_l1digits.f (k + 1) (u : Int) = some (decL u) := by
  simp only [spec_l1digits.f]
  have e1 : Int.tdiv (u : Int) 10 = ((u / 10 : Nat) : Int) := by rw [Int.tdiv_eq_ediv_of_nonneg (by omega)]; omega
  have e2 : Int.tmod (u : Int) 10 = ((u % 10 : Nat) : Int) := by rw [Int.tmod_eq_emod_of_nonneg (by omega)]; omega
  rw [if_neg (by omega), e1, e2, w64 (by omega) (by omega), hk, Option.bind_some, if_pos (by omega), decL_more u h, w64 (by omega) (by omega)]
  congr 3
  omega
theorem digits_all (m : Nat) (hm : m ≤ 9) : ∀ u : Nat, u < 10 ^ (m + 1) → spec_l1digits.f (m + 1) (u : Int) = some (decL u) ∧ (decL u).length ≤ m + 1 := by
  induction m with
  | zero =>
    intro u h
    have h1 : u < 10 := by simpa using h
    exact ⟨digits_one 0 u h1, by rw [decL_one u h1]; simp⟩
  | succ m ih =>
    intro u h
    by_cases h1 : u < 10
    · exact ⟨digits_one (m + 1) u h1, by rw [decL_one u h1]; simp⟩
    · have hu : u / 10 < 10 ^ (m + 1) := by rw [Nat.pow_succ] at h; omega
      have hb : u < 10000000000 := Nat.lt_of_lt_of_le h (by have := Nat.pow_le_pow_right (show 0 < 10 by omega) (show m + 1 + 1 ≤ 10 by omega); simpa using this)
      obtain ⟨i1, i2⟩ := ih (by omega) (u / 10) hu
      exact ⟨digits_more' (m + 1) u h1 hb i1 (by omega), by rw [decL_more u h1, List.length_append]; simp; omega⟩
/-- A number from 0 on, below 10^10. -/
theorem digits_word (c : Int) (h0 : 0 ≤ c) (h1 : c < 10000000000) : Ev (fun k => spec_l1digits.f k c) (digL c) ∧ (digL c).length ≤ 10 := by
  have h := digits_all 9 (by omega) c.toNat (by have : (10 : Nat) ^ (9 + 1) = 10000000000 := by decide
                                                omega)
  rw [Int.toNat_of_nonneg h0] at h
  rw [digL_dec c h0]
  refine ⟨⟨10, fun k hk => ?_⟩, h.2⟩
  have : ∀ m, spec_l1digits.f (10 + m) c = some (decL c.toNat) := fun m => by
    induction m with
    | zero => exact h.1
    | succ m ih => exact spec_l1digits.mono c (10 + m) _ ih
  have := this (k - 10)
  rwa [show 10 + (k - 10) = k by omega] at this
end Go.Proofs.YtkmchjdioplfjaaDoor.Pure

/- Texts and their bytes, as the reference (rows of bytes) and the program (texts) have them. -/
namespace Go.Proofs.YtkmchjdioplfjaaDoor.Pure
open Go Go.RowKit Go.Proofs.YtkmchjdioplfjaaDoor.Q Go.Proofs.YtkmchjdioplfjaaDoorW.PrintWords Go.Proofs.YtkmchjdioplfjaaDoorW.PrintLast
set_option linter.unusedVariables false
theorem str_nums (xs : List Int) (h : ∀ x ∈ xs, 0 ≤ x ∧ x ≤ 255) : strBytes (strOfNums xs) = xs := by
  unfold strBytes strOfNums
  rw [List.toList_toArray, List.map_map]
  refine (List.map_congr_left (g := id) fun x hx => ?_).trans (List.map_id _)
  have := h x hx
  show (((UInt8.ofNat x.toNat).toNat : Nat) : Int) = x
  rw [UInt8.toNat_ofNat']
  omega
theorem str_app (a b : ByteArray) : strBytes (a ++ b) = strBytes a ++ strBytes b := by
  unfold strBytes
  rw [ByteArray.data_append, Array.toList_append, List.map_append]
theorem str_itoa (x : Int) : strBytes (itoaS x) = digL x := by simp [strBytes, itoaS, digL]
theorem bytes_str (s : ByteArray) : bytesOf s = strBytes s := rfl
theorem dig_bytes (x : Int) : ∀ y ∈ digL x, 0 ≤ y ∧ y ≤ 255 := by
  intro y hy
  unfold digL at hy
  obtain ⟨b, _, rfl⟩ := List.mem_map.1 hy
  have := b.toNat_lt
  omega
theorem type_same (t : Int) (ht : t = 1 ∨ t = 2 ∨ t = 5 ∨ t = 6 ∨ t = 12 ∨ t = 16 ∨ t = 49) : spec_l3type.f t = impl_typeName.f t := by
  rcases ht with rfl | rfl | rfl | rfl | rfl | rfl | rfl <;> rfl
def hexV : List Int → List Int
  | [] => []
  | c :: l => [bt digs16 (c / 16), bt digs16 (c % 16)] ++ hexV l
theorem hexI_str (l : List Int) : ∀ d : ByteArray, strBytes (hexI d l) = strBytes d ++ hexV l := by
  induction l with
  | nil => intro d; simp [hexI, hexV]
  | cons c l ih =>
    intro d
    simp only [hexI, hexV]
    rw [ih, str_app, str_nums _ (fun x hx => by
      simp only [List.mem_cons, List.not_mem_nil, or_false] at hx
      rcases hx with rfl | rfl <;> exact bt_range _ _), List.append_assoc]
theorem hex_l0 (l : List Int) (h : ∀ x ∈ l, 0 ≤ x ∧ x ≤ 255) (hl : l.length ≤ 65535) (m : Nat) : ∀ (i : Nat) (acc : List Int), l.length = i + m → acc.length ≤ 2 * i → Ev (fun k => spec_l3hex.l0 k l acc (i : Int)) (acc ++ hexV (l.drop i)) := by
  induction m with
  | zero =>
    intro i acc hi ha
    rw [List.drop_of_length_le (by omega)]
    refine Ev.step (f := fun _ => some acc) (fun k => ?_) (by simpa [hexV] using Ev.now acc)
    simp only [spec_l3hex.l0]
    rw [if_neg (by omega)]
  | succ m ih =>
    intro i acc hi ha
    have hil : i < l.length := by omega
    have hx := h l[i] (List.getElem_mem hil)
    have hr : rd l (i : Int) = l[i] := by simp [rd, List.getD_eq_getElem?_getD, hil]
    have ha15 := and15 l[i] hx.1 hx.2
    rw [List.drop_eq_getElem_cons hil]
    simp only [hexV]
    rw [← List.append_assoc]
    refine Ev.step (f := fun k => spec_l3hex.l0 k l (acc ++ [bt digs16 (l[i] / 16), bt digs16 (l[i] % 16)]) ((i + 1 : Nat) : Int)) (fun k => ?_) (ih (i + 1) (acc ++ [bt digs16 (l[i] / 16), bt digs16 (l[i] % 16)]) (by omega) (by rw [List.length_append]; show acc.length + 2 ≤ 2 * (i + 1); omega))
    simp only [spec_l3hex.l0]
    rw [hr, ha15, if_pos (by omega), if_pos (by omega), if_pos (by omega), if_pos (by omega), if_pos (by omega), if_pos (by omega), Option.bind_some]
    simp only [List.length_cons, List.length_nil]
    rw [if_pos (by omega), w64 (by omega) (by omega)]
    rfl
theorem hex_ev (l : List Int) (h : ∀ x ∈ l, 0 ≤ x ∧ x ≤ 255) (hl : l.length ≤ 65535) : Ev (fun k => spec_l3hex.f k l) (hexV l) := by
  unfold spec_l3hex.f
  have := hex_l0 l h hl l.length 0 [] (by omega) (by simp)
  simpa using this
end Go.Proofs.YtkmchjdioplfjaaDoor.Pure

/- The statement FnExactRrText: at every record the reference and the program tell the same text. The row's listed tables of the library are tied to the program's text by the card. -/
namespace Go.Proofs.YtkmchjdioplfjaaDoor.Pure
open Go Go.RowKit Go.Proofs.YtkmchjdioplfjaaDoor.Q Go.Proofs.YtkmchjdioplfjaaDoorW.PrintWords Go.Proofs.YtkmchjdioplfjaaDoorW.PrintLast Go.Proofs.YtkmchjdioplfjaaDoorW.PrintMore
set_option linter.unusedVariables false
set_option linter.unusedSimpArgs false
def tailV (ty addr : Int) (tn : List (List Int)) (tx nu : List Int) : List Int :=
  if ty = 1 then dotV addr else if ty = 6 then nmV tn ++ [32] ++ digL (rd nu 0) ++ [32] ++ digL (rd nu 1) else if namedV ty = true then nmV tn else hexV tx
def rrTextV (nm : List (List Int)) (ty ttl addr : Int) (tn : List (List Int)) (tx nu : List Int) : List Int :=
  if rrOkV nm ty ttl addr tn tx nu = true then nmV nm ++ [32] ++ digL ttl ++ [32] ++ strBytes (impl_typeName.v ty) ++ [32] ++ tailV ty addr tn tx nu else []
theorem dotted_of (x : Int) (h : 0 ≤ x ∧ x ≤ 4294967295) : Ev (fun k => spec_l1dotted.f k x) (dotV x) := by
  obtain ⟨n, hn⟩ := specDotted x
  refine ⟨n, fun k hk => ?_⟩
  have := show spec_Dotted.f k x = some (dotV x) from hn k hk
  unfold spec_Dotted.f at this
  rw [if_neg (by omega), if_neg (by omega)] at this
  cases h2 : spec_l1dotted.f k x with
  | none => rw [h2] at this; cases this
  | some z => rw [h2] at this; show spec_l1dotted.f k x = _; rw [h2]; exact this
def sp1 : ByteArray := ⟨#[32]⟩
theorem sp1_size : sp1.size = 1 := rfl
theorem nil_size : (⟨#[]⟩ : ByteArray).size = 0 := rfl
theorem words_first (a : ByteArray) (l : List ByteArray) (hs : a.size ≤ 1000000000) (r : ByteArray) (hl : l.length ≤ 100) (h : Ev (fun k => impl_words.l0 k ((⟨#[]⟩ : ByteArray) ++ a) (a :: l) ((a :: l).length : Int) 1) r) :
    Ev (fun k => impl_words.f k (a :: l)) r := by
  unfold impl_words.f
  refine Ev.step (fun k => ?_) h
  simp only [impl_words.l0]
  rw [if_pos (by simp only [List.length_cons]; omega), if_pos (by omega), if_pos (by simp only [List.length_cons]; omega), if_neg (by omega), show rdOf ByteArray.empty (a :: l) 0 = a from rfl, nil_size, if_pos (by omega), w64 (by omega) (by omega)]
  rfl
theorem words_next (L : List ByteArray) (x acc r : ByteArray) (i : Nat) (hi : 0 < i) (hx : L[i]? = some x) (hL : L.length ≤ 100) (hs : acc.size + x.size ≤ 1000000000) (h : Ev (fun k => impl_words.l0 k ((acc ++ sp1) ++ x) L (L.length : Int) ((i + 1 : Nat) : Int)) r) :
    Ev (fun k => impl_words.l0 k acc L (L.length : Int) (i : Int)) r := by
  have hil : i < L.length := (List.getElem?_eq_some_iff.1 hx).1
  refine Ev.step (fun k => ?_) h
  simp only [impl_words.l0]
  have hr : rdOf ByteArray.empty L (i : Int) = x := by simp [rdOf, List.getD_eq_getElem?_getD, hx]
  rw [if_pos (by omega), if_pos (by omega), if_pos (by omega), if_pos (by omega), hr, if_pos (by omega), if_pos (by rw [ByteArray.size_append, show (⟨#[32]⟩ : ByteArray).size = 1 from rfl]; omega), w64 (by omega) (by omega)]
  rfl
theorem words_end (L : List ByteArray) (acc : ByteArray) (i : Nat) (hi : i = L.length) : Ev (fun k => impl_words.l0 k acc L (L.length : Int) (i : Int)) acc := by
  refine Ev.step (f := fun _ => some acc) (fun k => ?_) (Ev.now _)
  simp only [impl_words.l0]
  rw [if_neg (by omega)]
def W2 (a b : ByteArray) : ByteArray := ((⟨#[]⟩ : ByteArray) ++ a ++ sp1) ++ b
def W4 (a b c d : ByteArray) : ByteArray := ((((⟨#[]⟩ : ByteArray) ++ a ++ sp1) ++ b ++ sp1) ++ c ++ sp1) ++ d
theorem words2 (a b : ByteArray) (ha : a.size ≤ 100000) (hb : b.size ≤ 100000) : Ev (fun k => impl_words.f k [a, b]) (W2 a b) := by
  refine words_first a [b] (by omega) _ (by simp) ?_
  refine words_next [a, b] b _ _ 1 (by omega) rfl (by simp) (by simp only [ByteArray.size_append, nil_size]; omega) ?_
  exact words_end [a, b] _ 2 rfl
theorem words4 (a b c d : ByteArray) (ha : a.size ≤ 100000) (hb : b.size ≤ 100000) (hc : c.size ≤ 100000) (hd : d.size ≤ 100000) : Ev (fun k => impl_words.f k [a, b, c, d]) (W4 a b c d) := by
  refine words_first a [b, c, d] (by omega) _ (by simp) ?_
  refine words_next [a, b, c, d] b _ _ 1 (by omega) rfl (by simp) (by simp only [ByteArray.size_append, nil_size]; omega) ?_
  refine words_next [a, b, c, d] c _ _ 2 (by omega) rfl (by simp) (by simp only [ByteArray.size_append, nil_size, sp1_size]; omega) ?_
  refine words_next [a, b, c, d] d _ _ 3 (by omega) rfl (by simp) (by simp only [ByteArray.size_append, nil_size, sp1_size]; omega) ?_
  exact words_end [a, b, c, d] _ 4 rfl
theorem W2_str (a b : ByteArray) : strBytes (W2 a b) = strBytes a ++ [32] ++ strBytes b := by
  unfold W2
  simp only [str_app]
  rfl
theorem W4_str (a b c d : ByteArray) : strBytes (W4 a b c d) = strBytes a ++ [32] ++ strBytes b ++ [32] ++ strBytes c ++ [32] ++ strBytes d := by
  unfold W4
  simp only [str_app]
  rfl
theorem str_size (a : ByteArray) : (strBytes a).length = a.size := by
  unfold strBytes
  rw [List.length_map]; rfl
theorem nums_size (l : List Int) : (strOfNums l).size = l.length := by
  unfold strOfNums
  show (List.map _ l).toArray.size = _
  rw [List.size_toArray, List.length_map]
theorem itoa_size (x : Int) (h : (digL x).length ≤ 10) : (itoaS x).size ≤ 10 := by rw [← str_size, str_itoa]; exact h
theorem hexV_len (l : List Int) : (hexV l).length = 2 * l.length := by
  induction l with
  | nil => rfl
  | cons c l ih => simp only [hexV, List.length_append, List.length_cons, ih, List.length_nil]; omega
theorem u8_of_wf {x : Int} (h : (Lit.int .u8 x).wf = true) : 0 ≤ x ∧ x ≤ 255 := by
  simp [Lit.wf, IntKind.min, IntKind.max, IntKind.signed, IntKind.bits] at h
  omega
/-- Rows of bytes. -/
def BytesN (n : List (List Int)) : Prop := ∀ x ∈ n, ∀ y ∈ x, 0 ≤ y ∧ y ≤ 255
theorem dots_range (n : List (List Int)) (h : BytesN n) : ∀ y ∈ dots n, 0 ≤ y ∧ y ≤ 255 := by
  induction n with
  | nil => intro y hy; simp [dots] at hy
  | cons x n ih =>
    intro y hy
    rw [dots_cons, List.append_assoc, List.mem_append, List.mem_append] at hy
    rcases hy with hy | hy | hy
    · exact h x (by simp) y hy
    · simp at hy; omega
    · exact ih (fun z hz => h z (by simp [hz])) y hy
theorem nm_range (n : List (List Int)) (h : BytesN n) : ∀ y ∈ nmV n, 0 ≤ y ∧ y ≤ 255 := by
  unfold nmV
  split
  · intro y hy; simp at hy; omega
  · exact dots_range n h
theorem dotV_range (x : Int) : ∀ y ∈ dotV x, 0 ≤ y ∧ y ≤ 255 := by
  by_cases h : 0 ≤ x ∧ x < 4294967296
  · rw [dotV_list x h]
    intro y hy
    simp only [List.mem_append, List.mem_cons] at hy
    rcases hy with hy | rfl | hy | rfl | hy | rfl | hy
    all_goals first | omega | exact dig_bytes _ _ hy
  · unfold dotV; rw [if_neg h]; intro y hy; simp at hy
theorem types7 (t : Int) (h : typeOkV t = true) : t = 1 ∨ t = 2 ∨ t = 5 ∨ t = 6 ∨ t = 12 ∨ t = 16 ∨ t = 49 := by
  unfold typeOkV at h
  simp only [Bool.or_eq_true, beq_iff_eq] at h
  omega
/-- What stands behind the type: both tell it. -/
theorem tail_both (ty addr : Int) (tn : List (List Int)) (tx nu : List Int) (h7 : typeOkV ty = true) (ha : addrV ty addr = true) (ht : toV ty tn = true) (hx : textV ty tx = true) (hn : numsV ty nu = true) (bd : BytesN tn) (hb : ∀ x ∈ tx, 0 ≤ x ∧ x ≤ 255) :
    (tailV ty addr tn tx nu).length ≤ 1000 ∧ ∃ (dt : ByteArray) (n0 : Nat), dt.size ≤ 1000 ∧ strBytes dt = tailV ty addr tn tx nu ∧ ∀ k, n0 ≤ k → Tail3 k ty addr tn tx nu (tailV ty addr tn tx nu) ∧ DataI k ty addr tn tx nu dt := by
  have named : ∀ t : Int, t = 2 ∨ t = 5 ∨ t = 12 → toV t tn = true → numsV t nu = true → (tailV t addr tn tx nu).length ≤ 1000 ∧ ∃ (dt : ByteArray) (n0 : Nat), dt.size ≤ 1000 ∧ strBytes dt = tailV t addr tn tx nu ∧ ∀ k, n0 ≤ k → Tail3 k t addr tn tx nu (tailV t addr tn tx nu) ∧ DataI k t addr tn tx nu dt := by
    intro t h3 ht hn
    have h1 : t ≠ 1 := by omega
    have h6 : t ≠ 6 := by omega
    have hv : namedV t = true := by rcases h3 with rfl | rfl | rfl <;> rfl
    unfold toV at ht
    rw [if_pos hv] at ht
    unfold numsV at hn
    rw [if_neg h6, decide_eq_true_iff] at hn
    have := List.eq_nil_of_length_eq_zero hn
    subst this
    have e : tailV t addr tn tx [] = nmV tn := by unfold tailV; rw [if_neg h1, if_neg h6, if_pos hv]
    have hl := nmV_len tn ht
    obtain ⟨n1, h1'⟩ := specNm tn ht
    obtain ⟨n2, h2'⟩ := implNm tn ht
    rw [e]
    refine ⟨by omega, strOfNums (nmV tn), n1 + n2, by rw [nums_size]; omega, str_nums _ (nm_range tn bd), fun k hk => ⟨?_, ?_⟩⟩
    · exact .inr (.inr (.inl ⟨h1, h6, (specNamed t).trans (by rw [hv]), h1' k (by omega)⟩))
    · exact .inr (.inl ⟨h1, (implNamed t).trans (by rw [hv]), by simp, by simp, nmV tn, h2' k (by omega), rfl⟩)
  have texted : ∀ t : Int, t = 16 ∨ t = 49 → textV t tx = true → (tailV t addr tn tx nu).length ≤ 1000 ∧ ∃ (dt : ByteArray) (n0 : Nat), dt.size ≤ 1000 ∧ strBytes dt = tailV t addr tn tx nu ∧ ∀ k, n0 ≤ k → Tail3 k t addr tn tx nu (tailV t addr tn tx nu) ∧ DataI k t addr tn tx nu dt := by
    intro t h3 hx
    have h1 : t ≠ 1 := by omega
    have h6 : t ≠ 6 := by omega
    have hv : namedV t = false := by rcases h3 with rfl | rfl <;> rfl
    have hv2 : textedV t = true := by rcases h3 with rfl | rfl <;> rfl
    unfold textV at hx
    rw [if_pos hv2, decide_eq_true_iff] at hx
    have e : tailV t addr tn tx nu = hexV tx := by unfold tailV; rw [if_neg h1, if_neg h6, hv]; rfl
    obtain ⟨n1, h1'⟩ := hex_ev tx hb (by omega)
    have hs : strBytes (hexI ⟨#[]⟩ tx) = hexV tx := by rw [hexI_str]; rfl
    have hl := hexV_len tx
    rw [e]
    refine ⟨by omega, hexI ⟨#[]⟩ tx, n1, by rw [← str_size, hs]; omega, hs, fun k hk => ⟨?_, ?_⟩⟩
    · exact .inr (.inr (.inr ⟨h1, h6, (specNamed t).trans (by rw [hv]), h1' k (by omega)⟩))
    · exact .inr (.inr ⟨h1, (implNamed t).trans (by rw [hv]), by omega, hb, rfl⟩)
  rcases types7 ty h7 with rfl | rfl | rfl | rfl | rfl | rfl | rfl
  · have e : tailV 1 addr tn tx nu = dotV addr := rfl
    unfold addrV at ha
    rw [if_pos rfl, decide_eq_true_iff] at ha
    obtain ⟨n1, h1'⟩ := dotted_of addr ha
    have hl := dotV_len addr
    rw [e]
    refine ⟨by omega, strOfNums (dotV addr), n1, by rw [nums_size]; omega, str_nums _ (dotV_range addr), fun k hk => ⟨.inl ⟨rfl, h1' k hk⟩, .inl ⟨rfl, rfl⟩⟩⟩
  · exact named 2 (by omega) ht hn
  · exact named 5 (by omega) ht hn
  · unfold numsV at hn
    rw [if_pos rfl, decide_eq_true_iff] at hn
    obtain ⟨hn2, ⟨a0, a1⟩, b0, b1⟩ := hn
    obtain ⟨a, b, rfl⟩ : ∃ a b, nu = [a, b] := by
      match nu, hn2 with
      | [a, b], _ => exact ⟨a, b, rfl⟩
    have ea : rd [a, b] 0 = a := rfl
    have eb : rd [a, b] 1 = b := rfl
    rw [ea] at a0 a1
    rw [eb] at b0 b1
    have ht : impl_NameOk.v tn = true := by unfold toV at ht; rw [if_pos (show namedV 6 = true from rfl)] at ht; exact ht
    have e : tailV 6 addr tn tx [a, b] = nmV tn ++ [32] ++ digL a ++ [32] ++ digL b := by unfold tailV; rw [if_neg (by omega), if_pos rfl, ea, eb]
    have hl := nmV_len tn ht
    obtain ⟨⟨n1, g1⟩, la⟩ := digits_word a a0 (by omega)
    obtain ⟨⟨n2, g2⟩, lb⟩ := digits_word b b0 (by omega)
    obtain ⟨n3, g3⟩ := specNm tn ht
    obtain ⟨n4, g4⟩ := implNm tn ht
    have sa := itoa_size a la
    have sb := itoa_size b lb
    have sn : (strOfNums (nmV tn)).size ≤ 96 := by rw [nums_size]; omega
    have s2 : (W2 (strOfNums (nmV tn)) (itoaS a)).size ≤ 200 := by unfold W2; simp only [ByteArray.size_append, nil_size, sp1_size]; omega
    obtain ⟨n5, g5⟩ := words2 (strOfNums (nmV tn)) (itoaS a) (by omega) (by omega)
    obtain ⟨n6, g6⟩ := words2 (W2 (strOfNums (nmV tn)) (itoaS a)) (itoaS b) (by omega) (by omega)
    have hs : strBytes (W2 (W2 (strOfNums (nmV tn)) (itoaS a)) (itoaS b)) = nmV tn ++ [32] ++ digL a ++ [32] ++ digL b := by
      rw [W2_str, W2_str, str_nums _ (nm_range tn bd), str_itoa, str_itoa]
    rw [e]
    refine ⟨by simp only [List.length_append, List.length_cons, List.length_nil]; omega, W2 (W2 (strOfNums (nmV tn)) (itoaS a)) (itoaS b), n1 + n2 + n3 + n4 + n5 + n6, by unfold W2 at s2 ⊢; simp only [ByteArray.size_append, nil_size, sp1_size] at s2 ⊢; omega, hs, fun k hk => ⟨?_, ?_⟩⟩
    · exact .inr (.inl ⟨rfl, rfl, nmV tn, digL a, digL b, g3 k (by omega), g1 k (by omega), g2 k (by omega), rfl⟩)
    · refine .inr (.inl ⟨by omega, rfl, by simp, fun x hx => ?_, nmV tn, g4 k (by omega), ?_⟩)
      · simp only [List.mem_cons, List.not_mem_nil, or_false] at hx
        rcases hx with rfl | rfl <;> omega
      · simp only [numsI]
        rw [show impl_words.f k [strOfNums (nmV tn), itoaS a] = _ from g5 k (by omega), Option.bind_some, show impl_words.f k [W2 (strOfNums (nmV tn)) (itoaS a), itoaS b] = _ from g6 k (by omega), Option.bind_some]
  · exact named 12 (by omega) ht hn
  · exact texted 16 (by omega) hx
  · exact texted 49 (by omega) hx
theorem type_len (t : Int) : (impl_typeName.v t).size ≤ 5 := by
  unfold impl_typeName.v
  repeat' split
  all_goals decide
theorem rr_both (nm : List (List Int)) (ty ttl addr : Int) (tn : List (List Int)) (tx nu : List Int) (fn : FitN nm) (fd : FitN tn) (bn : BytesN nm) (bd : BytesN tn) (hty : -9223372036854775808 ≤ ty ∧ ty ≤ 9223372036854775807) (hb : ∀ x ∈ tx, 0 ≤ x ∧ x ≤ 255) :
    (rrTextV nm ty ttl addr tn tx nu).length ≤ 5000 ∧ ∃ n0, ∀ k, n0 ≤ k → Rr3 k nm ty ttl addr tn tx nu (rrTextV nm ty ttl addr tn tx nu) ∧ Rr67 k nm ty ttl addr tn tx nu (rrTextV nm ty ttl addr tn tx nu) := by
  obtain ⟨n1, h1⟩ := specRrOk nm ty ttl addr tn tx nu fn fd
  obtain ⟨n2, h2⟩ := implRrOk nm ty ttl addr tn tx nu hty
  by_cases hok : rrOkV nm ty ttl addr tn tx nu = true
  · rw [hok] at h1 h2
    have e : rrTextV nm ty ttl addr tn tx nu = nmV nm ++ [32] ++ digL ttl ++ [32] ++ strBytes (impl_typeName.v ty) ++ [32] ++ tailV ty addr tn tx nu := by unfold rrTextV; rw [if_pos hok]
    have h := hok
    unfold rrOkV at h
    simp only [Bool.and_eq_true, decide_eq_true_iff] at h
    obtain ⟨hn, h7, httl, ha, ht, hx, hnu⟩ := h
    obtain ⟨lt, dt, n3, sdt, edt, h3⟩ := tail_both ty addr tn tx nu h7 ha ht hx hnu bd hb
    have ln := nmV_len nm hn
    obtain ⟨⟨n4, g4⟩, ld⟩ := digits_word ttl httl.1 (by omega)
    obtain ⟨n5, g5⟩ := specNm nm hn
    obtain ⟨n6, g6⟩ := implNm nm hn
    have st := type_len ty
    have sn : (strOfNums (nmV nm)).size ≤ 96 := by rw [nums_size]; omega
    have si := itoa_size ttl ld
    obtain ⟨n7, g7⟩ := words4 (strOfNums (nmV nm)) (itoaS ttl) (impl_typeName.v ty) dt (by omega) (by omega) (by omega) (by omega)
    have hs : strBytes (W4 (strOfNums (nmV nm)) (itoaS ttl) (impl_typeName.v ty) dt) = nmV nm ++ [32] ++ digL ttl ++ [32] ++ strBytes (impl_typeName.v ty) ++ [32] ++ tailV ty addr tn tx nu := by
      rw [W4_str, str_nums _ (nm_range nm bn), str_itoa, edt]
    have h3t : spec_l3type.f ty = some (impl_typeName.v ty) := by
      rw [type_same ty (types7 ty h7)]; unfold impl_typeName.f; rw [if_pos hty]
    rw [e]
    refine ⟨by have := str_size (impl_typeName.v ty); simp only [List.length_append, List.length_cons, List.length_nil]; omega, n1 + n2 + n3 + n4 + n5 + n6 + n7, fun k hk => ⟨?_, ?_⟩⟩
    · refine .inr ⟨h1 k (by omega), nmV nm, digL ttl, impl_typeName.v ty, tailV ty addr tn tx nu, g5 k (by omega), g4 k (by omega), h3t, by omega, by omega, by omega, (h3 k (by omega)).1, by omega, ?_⟩
      rw [bytes_str]
    · refine .inr ⟨h2 k (by omega), nmV nm, impl_typeName.v ty, dt, W4 (strOfNums (nmV nm)) (itoaS ttl) (impl_typeName.v ty) dt, g6 k (by omega), by omega, by unfold impl_typeName.f; rw [if_pos hty], g7 k (by omega), (h3 k (by omega)).2, ?_, hs.symm⟩
      unfold W4
      simp only [ByteArray.size_append, nil_size, sp1_size]
      omega
  · have hf : rrOkV nm ty ttl addr tn tx nu = false := by simpa using hok
    rw [hf] at h1 h2
    have e : rrTextV nm ty ttl addr tn tx nu = [] := by unfold rrTextV; rw [if_neg hok]
    rw [e]
    exact ⟨by simp, n1 + n2, fun k hk => ⟨.inl ⟨h1 k (by omega), rfl⟩, .inl ⟨h2 k (by omega), rfl⟩⟩⟩
/-- The walk, with what it computes told. -/
theorem FnExactRrText (A0 : Option Addr) (c0 : Nat) (nm : List (List Int)) (ty ttl addr : Int) (A4 : Option Addr) (c4 : Nat) (tn : List (List Int)) (A5 : Option Addr) (c5 : Nat) (tx : List Int) (A6 : Option Addr) (c6 : Nat) (nu : List Int) (w : World) (hT : TabA w)
    (hr0 : Kd.C (Kd.slice 5 (Kd.int .u8)) w A0 nm.length nm) (hc0 : nm.length ≤ c0) (hr4 : Kd.C (Kd.slice 5 (Kd.int .u8)) w A4 tn.length tn) (hc4 : tn.length ≤ c4) (hr5 : Kd.C (Kd.int .u8) w A5 tx.length tx) (hc5 : tx.length ≤ c5) (hr6 : Kd.C (Kd.int .i64) w A6 nu.length nu) (hc6 : nu.length ≤ c6)
    (rn : RawN nm) (rd_ : RawN tn) (htx : tx.length ≤ 9223372036854775807) (hnu : nu.length ≤ 9223372036854775807) (bn : BytesN nm) (bd : BytesN tn) (hty : -9223372036854775808 ≤ ty ∧ ty ≤ 9223372036854775807) (hb : ∀ x ∈ tx, 0 ≤ x ∧ x ≤ 255) :
    Calls Tryd.prog 7 #[.agg #[.slice A0 nm.length c0, .int .i64 ty, .int .i64 ttl, .int .i64 addr, .slice A4 tn.length c4, .slice A5 tx.length c5, .slice A6 nu.length c6]] w fun e w' => e = .returned (.bool true) ∧ Below w.heap.size w w' := by
  obtain ⟨u, ⟨m1, hu⟩, hc⟩ := szRr nm ty ttl addr tn tx nu 1048576 rn rd_ htx hnu (by omega) (by omega)
  by_cases h : u < 0
  · exact rrtext_out m1 A0 c0 nm ty ttl addr A4 c4 tn A5 c5 tx A6 c6 nu u w hr0 hc0 hr4 hc4 hr5 hc5 hr6 hc6 (hu m1 (Nat.le_refl _)) h
  obtain ⟨_, _, fn, fd, f5, f6⟩ := hc.resolve_left h
  obtain ⟨lr, m2, h2⟩ := rr_both nm ty ttl addr tn tx nu fn fd bn bd hty hb
  generalize rrTextV nm ty ttl addr tn tx nu = r at lr h2
  obtain ⟨m3, h3⟩ := toRr nm ty ttl addr tn tx nu fn fd f5 f6
  obtain ⟨m4, h4⟩ := eqByteS r (by omega)
  obtain ⟨m5, h5⟩ := eqRr nm ty ttl addr tn tx nu fn fd f5 f6
  obtain ⟨m6, h6⟩ := markByteS r 1 (by omega) (by omega) (by omega)
  obtain ⟨m7, h7⟩ := heldByteS 1 (by omega) (by omega) r.length (by omega)
  have hk : ∀ m, m ≤ m1 + m2 + m3 + m4 + m5 + m6 + m7 → True := fun _ _ => trivial
  have hmk : laws_markRr.n nm tn tx nu ≤ 8000000 := by
    show lens nm + lens tn + tx.length + nu.length ≤ 8000000
    have := fn.2.2
    have := fd.2.2
    omega
  exact rrtext_law (m1 + m2 + m3 + m4 + m5 + m6 + m7) A0 c0 nm ty ttl addr A4 c4 tn A5 c5 tx A6 c6 nu u r (marks 1 r.length) w hT hr0 hc0 hr4 hc4 hr5 hc5 hr6 hc6 (hu _ (by omega)) h (h3 _ (by omega)) (h2 _ (by omega)).1 (h2 _ (by omega)).2 (h4 _ (by omega)) (h5 _ (by omega)) hmk (h6 _ (by omega)) (by simp [marks]) (h7 _ (by omega))
end Go.Proofs.YtkmchjdioplfjaaDoor.Pure

