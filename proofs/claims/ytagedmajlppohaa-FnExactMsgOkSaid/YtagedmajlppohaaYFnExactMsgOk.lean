/- Plain lemmas for the statement FnExactMsgOk. -/
import Derived.Test.YtagedmajlppohaaZFnExactMsgOk0
import Derived.Test.YtagedmajlppohaaZFnExactMsgOk1
import Derived.Test.YtagedmajlppohaaZFnExactMsgOk2
import Derived.Test.YtagedmajlppohaaZFnExactMsgOk3
import Derived.Test.YtagedmajlppohaaVFnExactMsgOk
import Derived.Deep.Slices
import Derived.Lib.SmallJoins
import Derived.OpenShut
/- What an argument reads as, kind by kind: from the form's reading of a datum to the print's kinds (Kd). -/
namespace Go.Proofs.Ytagedmajlppohaa.Open
open Go Go.RowKit Go.Deep Go.ChangeShapes Go.WideShapes Go.ChangeAt Go.Proofs.YtagedmajlppohaaW.PrintWords
set_option linter.unusedVariables false
variable {H : Type} {enc : TypeId × Value → H} {P : Program} {W : World} {sp : Nat → Bool} {held : Bool}

/-- Whatever cells are read as a datum of type t are those of a y of the kind d, of which ok holds. -/
def Opens (enc : TypeId × Value → H) (P : Program) (W : World) (sp : Nat → Bool) (held : Bool) {α : Type} (d : Kd α) (ok : α → Prop) (t : TypeId) : Prop :=
  ∀ fuel cs x, DataW.trod enc P W 0 sp held fuel t cs = some x → ∃ y : α, d.K W y cs ∧ ok y

theorem opens_int {t : TypeId} {k : IntKind} (ht : P.underlying t = some (.int k)) : Opens enc P W sp held (Kd.int k) (fun x => (Lit.int k x).wf = true) t := by
  intro fuel cs x h
  obtain ⟨a, rfl, _, hw⟩ := DataW.trod_int ht h
  exact ⟨a, rfl, hw⟩
theorem opens_bool {t : TypeId} (ht : P.underlying t = some .bool) : Opens enc P W sp held Kd.bool (fun _ => True) t := by
  intro fuel cs x h
  obtain ⟨a, rfl, _⟩ := DataW.trod_bool ht h
  exact ⟨a, rfl, trivial⟩

theorem list_of {α : Type} {n : Nat} {Q : Nat → α → Prop} (h : ∀ i, i < n → ∃ y, Q i y) : ∃ l : List α, l.length = n ∧ ∀ i y, l[i]? = some y → Q i y := by
  induction n with
  | zero => exact ⟨[], rfl, fun i y hy => by simp at hy⟩
  | succ n ih =>
    obtain ⟨l, hl, hq⟩ := ih (fun i hi => h i (by omega))
    obtain ⟨y, hy⟩ := h n (by omega)
    refine ⟨l ++ [y], by simp [hl], fun i z hz => ?_⟩
    by_cases hi : i < n
    · rw [List.getElem?_append_left (by omega)] at hz; exact hq i z hz
    · by_cases e : i = n
      · subst e
        rw [List.getElem?_append_right (by omega), hl, Nat.sub_self] at hz
        simp at hz; subst hz; exact hy
      · rw [List.getElem?_eq_none (by simp; omega)] at hz; cases hz

theorem opens_slice {α : Type} {d : Kd α} {ok : α → Prop} {t e : TypeId} (ht : P.underlying t = some (.slice e)) (hs : d.sz = P.cellsOf e) (h : Opens enc P W sp held d ok e) :
    Opens enc P W sp held (Kd.slice e d) (fun l => l.length ≤ maxLen ∧ ∀ x ∈ l, ok x) t := by
  intro fuel cs x hx
  rcases open_slice ht hx with ⟨rfl, _⟩ | ⟨a, len, cap, m, n, D, Pl, rfl, _, hl, hm, hmm, _, hel⟩
  · exact ⟨[], ⟨none, 0, rfl, Nat.le_refl _, Kd.C_nil d W⟩, by simp, by simp⟩
  · have hlm : len ≤ m := by rw [hmm]; split <;> omega
    obtain ⟨l, hll, hq⟩ := list_of (n := len) (Q := fun i (y : α) => ∃ c, W.cells? 0 (a.add (i * P.cellsOf e)) (P.cellsOf e) = some c ∧ d.K W y c ∧ ok y) (fun i hi => by
      obtain ⟨c, h1, h2⟩ := hel i (by omega)
      obtain ⟨y, hy, hok⟩ := h _ _ _ h2
      exact ⟨y, c, h1, hy, hok⟩)
    refine ⟨l, ⟨some a, cap, by rw [hll], by omega, rfl, by rw [hll]; unfold maxLen at hm; omega, fun _ => ⟨a, rfl, fun j p hj => ?_⟩⟩, by omega, fun x hx => ?_⟩
    · obtain ⟨c, h1, h2, _⟩ := hq j p hj
      obtain ⟨_, hlen, hc⟩ := World.cells?_some h1
      refine ⟨c, by rw [hlen, hs], h2, fun i u hu => ?_⟩
      have hi : i < c.length := (List.getElem?_eq_some_iff.1 hu).1
      have h3 := hc i (by omega)
      rw [hs, ← Go.Proofs.YtagedmajlppohaaW.PrintWords.add_add, h3, hu]
    · obtain ⟨i, hi⟩ := List.mem_iff_getElem?.1 hx
      obtain ⟨_, _, _, hok⟩ := hq i x hi
      exact hok

/-- The fields of a struct, from place o on, as one kind. -/
def OpensF (enc : TypeId × Value → H) (P : Program) (W : World) (sp : Nat → Bool) (held : Bool) {α : Type} (d : Kd α) (ok : α → Prop) (fs : List Field) (o n : Nat) : Prop :=
  ∀ (fuel : Nat) (cs : List Value), cs.length = o + n → (∀ f ∈ fs, ∃ x, DataW.trod enc P W 0 sp held fuel f.type ((cs.drop f.offset).take (P.cellsOf f.type)) = some x) → ∃ y : α, d.K W y (cs.drop o) ∧ ok y
theorem opensF_one {α : Type} {d : Kd α} {ok : α → Prop} {f : Field} {o n : Nat} (ho : f.offset = o) (hn : P.cellsOf f.type = n) (h : Opens enc P W sp held d ok f.type) : OpensF enc P W sp held d ok [f] o n := by
  intro fuel cs hl hf
  obtain ⟨x, hx⟩ := hf f (by simp)
  rw [ho, hn, List.take_of_length_le (by simp; omega)] at hx
  exact h _ _ _ hx
theorem opensF_cons {α β : Type} {d : Kd α} {d' : Kd β} {ok : α → Prop} {ok' : β → Prop} {f : Field} {fs : List Field} {o n m : Nat} (ho : f.offset = o) (hn : P.cellsOf f.type = n) (h : Opens enc P W sp held d ok f.type) (hr : OpensF enc P W sp held d' ok' fs (o + n) m) :
    OpensF enc P W sp held (Kd.pair d d') (fun y => ok y.1 ∧ ok' y.2) (f :: fs) o (n + m) := by
  intro fuel cs hl hf
  obtain ⟨x, hx⟩ := hf f (by simp)
  rw [ho, hn] at hx
  obtain ⟨y, hy, hoky⟩ := h _ _ _ hx
  obtain ⟨z, hz, hokz⟩ := hr fuel cs (by omega) (fun g hg => hf g (by simp [hg]))
  refine ⟨(y, z), ⟨(cs.drop o).take n, cs.drop (o + n), ?_, hy, hz⟩, hoky, hokz⟩
  rw [← List.drop_drop, List.take_append_drop]
theorem opens_struct {α β : Type} {d : Kd α} {ok : α → Prop} {t : TypeId} {fs : Array Field} {n : Nat} (f : β → α) (g : α → β) (hfg : ∀ y, f (g y) = y) (ht : P.underlying t = some (.struct fs)) (hn : P.cellsOf t = n) (h : OpensF enc P W sp held d ok fs.toList 0 n) :
    Opens enc P W sp held (Kd.iso d f) (fun y => ok (f y)) t := by
  intro fuel cs x hx
  obtain ⟨xs, m, _, rfl, hl, hlen, hf⟩ := DataW.trod_struct ht hx
  obtain ⟨y, hy, hok⟩ := h m cs (by omega) (fun fl hfl => by
    obtain ⟨i, hi⟩ := List.mem_iff_getElem?.1 hfl
    have hfi := hf i fl (by simpa using hi)
    have hil : i < xs.length := by rw [hlen]; have := (List.getElem?_eq_some_iff.1 hi).1; simpa using this
    exact ⟨xs[i], by rw [hfi, List.getElem?_eq_getElem hil]⟩)
  exact ⟨g y, by show d.K W (f (g y)) cs; rw [hfg]; simpa using hy, by show ok (f (g y)); rw [hfg]; exact hok⟩
/-- An argument of a struct's type. -/
theorem open_arg {r : Reach} {b0 : Nat} {α : Type} {d : Kd α} {ok : α → Prop} {t : TypeId} {fs : Array Field} {v : Value} {dt : DataW H} {p : List MemPlace} (ht : P.underlying t = some (.struct fs)) (hv : Value.okWide P W r b0 t v) (h : DataW.Trod enc P W 0 sp held t v dt p) (ho : Opens enc P W sp held d ok t) :
    ∃ (cs : List Value) (y : α), v = .agg cs.toArray ∧ d.K W y cs ∧ ok y := by
  obtain ⟨cs, rfl, hsz⟩ := okWide_struct ht hv
  obtain ⟨fuel, hf⟩ := h
  obtain ⟨y, hy, hok⟩ := ho _ _ _ hf
  exact ⟨cs.toList, y, by simp, by simpa [Value.cells] using hy, hok⟩
end Go.Proofs.Ytagedmajlppohaa.Open

-- Written by a program of this session (wip/myprint.py): what each type of the laws' parameters reads as.
namespace Go.Proofs.Ytagedmajlppohaa.Q
open Go Go.RowKit Go.Proofs.Ytagedmajlppohaa.Open Go.Proofs.YtagedmajlppohaaW.PrintWords
set_option linter.unusedVariables false
def okT5 (x : Int) : Prop := (Lit.int .u8 x).wf = true
theorem opensT5 {H : Type} {enc : TypeId × Value → H} {W : World} : Opens enc Try.prog W (fun _ => true) true (Kd.int .u8) okT5 5 := opens_int Try.underlying5
def okT25 (l : List Int) : Prop := l.length ≤ maxLen ∧ ∀ x ∈ l, okT5 x
theorem opensT25 {H : Type} {enc : TypeId × Value → H} {W : World} : Opens enc Try.prog W (fun _ => true) true (Kd.slice 5 (Kd.int .u8)) okT25 25 := opens_slice Try.underlying25 (by kernel_rfl) opensT5
def okT22 (l : List (List Int)) : Prop := l.length ≤ maxLen ∧ ∀ x ∈ l, okT25 x
theorem opensT22 {H : Type} {enc : TypeId × Value → H} {W : World} : Opens enc Try.prog W (fun _ => true) true (Kd.slice 25 (Kd.slice 5 (Kd.int .u8))) okT22 22 := opens_slice Try.underlying22 (by kernel_rfl) opensT25
def okT24 (x : S24) : Prop := okT22 x.f0
theorem opensT24 {H : Type} {enc : TypeId × Value → H} {W : World} : Opens enc Try.prog W (fun _ => true) true k24 okT24 24 := by
  have h := opens_struct (d := (Kd.slice 25 (Kd.slice 5 (Kd.int .u8)))) (ok := okT22) (enc := enc) (P := Try.prog) (W := W) (sp := fun _ => true) (held := true) (fun x : S24 => x.f0) (fun y => (⟨y⟩ : S24)) (fun _ => rfl) Try.underlying24 (n := 1) (by kernel_rfl) (by
    refine opensF_one (d := (Kd.slice 25 (Kd.slice 5 (Kd.int .u8)))) (ok := okT22) (n := 1) ?ho ?hn ?h; (case ho => rfl); (case hn => kernel_rfl); (case h => exact opensT22))
  exact h
def okT3 (x : Int) : Prop := (Lit.int .i64 x).wf = true
theorem opensT3 {H : Type} {enc : TypeId × Value → H} {W : World} : Opens enc Try.prog W (fun _ => true) true (Kd.int .i64) okT3 3 := opens_int Try.underlying3
def okT26 (l : List Int) : Prop := l.length ≤ maxLen ∧ ∀ x ∈ l, okT3 x
theorem opensT26 {H : Type} {enc : TypeId × Value → H} {W : World} : Opens enc Try.prog W (fun _ => true) true (Kd.slice 3 (Kd.int .i64)) okT26 26 := opens_slice Try.underlying26 (by kernel_rfl) opensT3
def okT28 (x : S28) : Prop := okT24 x.f0 ∧ (okT3 x.f1 ∧ (okT3 x.f2 ∧ (okT3 x.f3 ∧ (okT24 x.f4 ∧ (okT25 x.f5 ∧ (okT26 x.f6))))))
theorem opensT28 {H : Type} {enc : TypeId × Value → H} {W : World} : Opens enc Try.prog W (fun _ => true) true k28 okT28 28 := by
  have h := opens_struct (d := Kd.pair (k24) (Kd.pair ((Kd.int .i64)) (Kd.pair ((Kd.int .i64)) (Kd.pair ((Kd.int .i64)) (Kd.pair (k24) (Kd.pair ((Kd.slice 5 (Kd.int .u8))) ((Kd.slice 3 (Kd.int .i64))))))))) (ok := (fun y => okT24 y.1 ∧ (fun y => okT3 y.1 ∧ (fun y => okT3 y.1 ∧ (fun y => okT3 y.1 ∧ (fun y => okT24 y.1 ∧ (fun y => okT25 y.1 ∧ okT26 y.2) y.2) y.2) y.2) y.2) y.2)) (enc := enc) (P := Try.prog) (W := W) (sp := fun _ => true) (held := true) (fun x : S28 => (x.f0, x.f1, x.f2, x.f3, x.f4, x.f5, x.f6)) (fun y => (⟨y.1, y.2.1, y.2.2.1, y.2.2.2.1, y.2.2.2.2.1, y.2.2.2.2.2.1, y.2.2.2.2.2.2⟩ : S28)) (fun _ => rfl) Try.underlying28 (n := 7) (by kernel_rfl) (by
    refine opensF_cons (d := k24) (ok := okT24) (d' := Kd.pair ((Kd.int .i64)) (Kd.pair ((Kd.int .i64)) (Kd.pair ((Kd.int .i64)) (Kd.pair (k24) (Kd.pair ((Kd.slice 5 (Kd.int .u8))) ((Kd.slice 3 (Kd.int .i64)))))))) (ok' := (fun y => okT3 y.1 ∧ (fun y => okT3 y.1 ∧ (fun y => okT3 y.1 ∧ (fun y => okT24 y.1 ∧ (fun y => okT25 y.1 ∧ okT26 y.2) y.2) y.2) y.2) y.2)) (n := 1) (m := 6) ?ho ?hn ?h ?_; (case ho => rfl); (case hn => kernel_rfl); (case h => exact opensT24)
    refine opensF_cons (d := (Kd.int .i64)) (ok := okT3) (d' := Kd.pair ((Kd.int .i64)) (Kd.pair ((Kd.int .i64)) (Kd.pair (k24) (Kd.pair ((Kd.slice 5 (Kd.int .u8))) ((Kd.slice 3 (Kd.int .i64))))))) (ok' := (fun y => okT3 y.1 ∧ (fun y => okT3 y.1 ∧ (fun y => okT24 y.1 ∧ (fun y => okT25 y.1 ∧ okT26 y.2) y.2) y.2) y.2)) (n := 1) (m := 5) ?ho ?hn ?h ?_; (case ho => rfl); (case hn => kernel_rfl); (case h => exact opensT3)
    refine opensF_cons (d := (Kd.int .i64)) (ok := okT3) (d' := Kd.pair ((Kd.int .i64)) (Kd.pair (k24) (Kd.pair ((Kd.slice 5 (Kd.int .u8))) ((Kd.slice 3 (Kd.int .i64)))))) (ok' := (fun y => okT3 y.1 ∧ (fun y => okT24 y.1 ∧ (fun y => okT25 y.1 ∧ okT26 y.2) y.2) y.2)) (n := 1) (m := 4) ?ho ?hn ?h ?_; (case ho => rfl); (case hn => kernel_rfl); (case h => exact opensT3)
    refine opensF_cons (d := (Kd.int .i64)) (ok := okT3) (d' := Kd.pair (k24) (Kd.pair ((Kd.slice 5 (Kd.int .u8))) ((Kd.slice 3 (Kd.int .i64))))) (ok' := (fun y => okT24 y.1 ∧ (fun y => okT25 y.1 ∧ okT26 y.2) y.2)) (n := 1) (m := 3) ?ho ?hn ?h ?_; (case ho => rfl); (case hn => kernel_rfl); (case h => exact opensT3)
    refine opensF_cons (d := k24) (ok := okT24) (d' := Kd.pair ((Kd.slice 5 (Kd.int .u8))) ((Kd.slice 3 (Kd.int .i64)))) (ok' := (fun y => okT25 y.1 ∧ okT26 y.2)) (n := 1) (m := 2) ?ho ?hn ?h ?_; (case ho => rfl); (case hn => kernel_rfl); (case h => exact opensT24)
    refine opensF_cons (d := (Kd.slice 5 (Kd.int .u8))) (ok := okT25) (d' := (Kd.slice 3 (Kd.int .i64))) (ok' := okT26) (n := 1) (m := 1) ?ho ?hn ?h ?_; (case ho => rfl); (case hn => kernel_rfl); (case h => exact opensT25)
    refine opensF_one (d := (Kd.slice 3 (Kd.int .i64))) (ok := okT26) (n := 1) ?ho ?hn ?h; (case ho => rfl); (case hn => kernel_rfl); (case h => exact opensT26))
  exact h
def okT52 (l : List (S28)) : Prop := l.length ≤ maxLen ∧ ∀ x ∈ l, okT28 x
theorem opensT52 {H : Type} {enc : TypeId × Value → H} {W : World} : Opens enc Try.prog W (fun _ => true) true (Kd.slice 28 k28) okT52 52 := opens_slice Try.underlying52 (by kernel_rfl) opensT28
def okT4 (_ : Bool) : Prop := True
theorem opensT4 {H : Type} {enc : TypeId × Value → H} {W : World} : Opens enc Try.prog W (fun _ => true) true Kd.bool okT4 4 := opens_bool Try.underlying4
def okT195 (x : S195) : Prop := okT24 x.f0 ∧ (okT3 x.f1)
theorem opensT195 {H : Type} {enc : TypeId × Value → H} {W : World} : Opens enc Try.prog W (fun _ => true) true k195 okT195 195 := by
  have h := opens_struct (d := Kd.pair (k24) ((Kd.int .i64))) (ok := (fun y => okT24 y.1 ∧ okT3 y.2)) (enc := enc) (P := Try.prog) (W := W) (sp := fun _ => true) (held := true) (fun x : S195 => (x.f0, x.f1)) (fun y => (⟨y.1, y.2⟩ : S195)) (fun _ => rfl) Try.underlying195 (n := 2) (by kernel_rfl) (by
    refine opensF_cons (d := k24) (ok := okT24) (d' := (Kd.int .i64)) (ok' := okT3) (n := 1) (m := 1) ?ho ?hn ?h ?_; (case ho => rfl); (case hn => kernel_rfl); (case h => exact opensT24)
    refine opensF_one (d := (Kd.int .i64)) (ok := okT3) (n := 1) ?ho ?hn ?h; (case ho => rfl); (case hn => kernel_rfl); (case h => exact opensT3))
  exact h
def okT83 (l : List (S195)) : Prop := l.length ≤ maxLen ∧ ∀ x ∈ l, okT195 x
theorem opensT83 {H : Type} {enc : TypeId × Value → H} {W : World} : Opens enc Try.prog W (fun _ => true) true (Kd.slice 195 k195) okT83 83 := opens_slice Try.underlying83 (by kernel_rfl) opensT195
def okT198 (x : S198) : Prop := okT28 x.f0 ∧ (okT3 x.f1 ∧ (okT4 x.f2))
theorem opensT198 {H : Type} {enc : TypeId × Value → H} {W : World} : Opens enc Try.prog W (fun _ => true) true k198 okT198 198 := by
  have h := opens_struct (d := Kd.pair (k28) (Kd.pair ((Kd.int .i64)) (Kd.bool))) (ok := (fun y => okT28 y.1 ∧ (fun y => okT3 y.1 ∧ okT4 y.2) y.2)) (enc := enc) (P := Try.prog) (W := W) (sp := fun _ => true) (held := true) (fun x : S198 => (x.f0, x.f1, x.f2)) (fun y => (⟨y.1, y.2.1, y.2.2⟩ : S198)) (fun _ => rfl) Try.underlying198 (n := 9) (by kernel_rfl) (by
    refine opensF_cons (d := k28) (ok := okT28) (d' := Kd.pair ((Kd.int .i64)) (Kd.bool)) (ok' := (fun y => okT3 y.1 ∧ okT4 y.2)) (n := 7) (m := 2) ?ho ?hn ?h ?_; (case ho => rfl); (case hn => kernel_rfl); (case h => exact opensT28)
    refine opensF_cons (d := (Kd.int .i64)) (ok := okT3) (d' := Kd.bool) (ok' := okT4) (n := 1) (m := 1) ?ho ?hn ?h ?_; (case ho => rfl); (case hn => kernel_rfl); (case h => exact opensT3)
    refine opensF_one (d := Kd.bool) (ok := okT4) (n := 1) ?ho ?hn ?h; (case ho => rfl); (case hn => kernel_rfl); (case h => exact opensT4))
  exact h
def okT84 (l : List (S198)) : Prop := l.length ≤ maxLen ∧ ∀ x ∈ l, okT198 x
theorem opensT84 {H : Type} {enc : TypeId × Value → H} {W : World} : Opens enc Try.prog W (fun _ => true) true (Kd.slice 198 k198) okT84 84 := opens_slice Try.underlying84 (by kernel_rfl) opensT198
def okT86 (x : S86) : Prop := okT3 x.f0 ∧ (okT4 x.f1 ∧ (okT3 x.f2 ∧ (okT4 x.f3 ∧ (okT3 x.f4 ∧ (okT83 x.f5 ∧ (okT52 x.f6 ∧ (okT52 x.f7 ∧ (okT52 x.f8 ∧ (okT84 x.f9 ∧ (okT84 x.f10))))))))))
theorem opensT86 {H : Type} {enc : TypeId × Value → H} {W : World} : Opens enc Try.prog W (fun _ => true) true k86 okT86 86 := by
  have h := opens_struct (d := Kd.pair ((Kd.int .i64)) (Kd.pair (Kd.bool) (Kd.pair ((Kd.int .i64)) (Kd.pair (Kd.bool) (Kd.pair ((Kd.int .i64)) (Kd.pair ((Kd.slice 195 k195)) (Kd.pair ((Kd.slice 28 k28)) (Kd.pair ((Kd.slice 28 k28)) (Kd.pair ((Kd.slice 28 k28)) (Kd.pair ((Kd.slice 198 k198)) ((Kd.slice 198 k198)))))))))))) (ok := (fun y => okT3 y.1 ∧ (fun y => okT4 y.1 ∧ (fun y => okT3 y.1 ∧ (fun y => okT4 y.1 ∧ (fun y => okT3 y.1 ∧ (fun y => okT83 y.1 ∧ (fun y => okT52 y.1 ∧ (fun y => okT52 y.1 ∧ (fun y => okT52 y.1 ∧ (fun y => okT84 y.1 ∧ okT84 y.2) y.2) y.2) y.2) y.2) y.2) y.2) y.2) y.2) y.2)) (enc := enc) (P := Try.prog) (W := W) (sp := fun _ => true) (held := true) (fun x : S86 => (x.f0, x.f1, x.f2, x.f3, x.f4, x.f5, x.f6, x.f7, x.f8, x.f9, x.f10)) (fun y => (⟨y.1, y.2.1, y.2.2.1, y.2.2.2.1, y.2.2.2.2.1, y.2.2.2.2.2.1, y.2.2.2.2.2.2.1, y.2.2.2.2.2.2.2.1, y.2.2.2.2.2.2.2.2.1, y.2.2.2.2.2.2.2.2.2.1, y.2.2.2.2.2.2.2.2.2.2⟩ : S86)) (fun _ => rfl) Try.underlying86 (n := 11) (by kernel_rfl) (by
    refine opensF_cons (d := (Kd.int .i64)) (ok := okT3) (d' := Kd.pair (Kd.bool) (Kd.pair ((Kd.int .i64)) (Kd.pair (Kd.bool) (Kd.pair ((Kd.int .i64)) (Kd.pair ((Kd.slice 195 k195)) (Kd.pair ((Kd.slice 28 k28)) (Kd.pair ((Kd.slice 28 k28)) (Kd.pair ((Kd.slice 28 k28)) (Kd.pair ((Kd.slice 198 k198)) ((Kd.slice 198 k198))))))))))) (ok' := (fun y => okT4 y.1 ∧ (fun y => okT3 y.1 ∧ (fun y => okT4 y.1 ∧ (fun y => okT3 y.1 ∧ (fun y => okT83 y.1 ∧ (fun y => okT52 y.1 ∧ (fun y => okT52 y.1 ∧ (fun y => okT52 y.1 ∧ (fun y => okT84 y.1 ∧ okT84 y.2) y.2) y.2) y.2) y.2) y.2) y.2) y.2) y.2)) (n := 1) (m := 10) ?ho ?hn ?h ?_; (case ho => rfl); (case hn => kernel_rfl); (case h => exact opensT3)
    refine opensF_cons (d := Kd.bool) (ok := okT4) (d' := Kd.pair ((Kd.int .i64)) (Kd.pair (Kd.bool) (Kd.pair ((Kd.int .i64)) (Kd.pair ((Kd.slice 195 k195)) (Kd.pair ((Kd.slice 28 k28)) (Kd.pair ((Kd.slice 28 k28)) (Kd.pair ((Kd.slice 28 k28)) (Kd.pair ((Kd.slice 198 k198)) ((Kd.slice 198 k198)))))))))) (ok' := (fun y => okT3 y.1 ∧ (fun y => okT4 y.1 ∧ (fun y => okT3 y.1 ∧ (fun y => okT83 y.1 ∧ (fun y => okT52 y.1 ∧ (fun y => okT52 y.1 ∧ (fun y => okT52 y.1 ∧ (fun y => okT84 y.1 ∧ okT84 y.2) y.2) y.2) y.2) y.2) y.2) y.2) y.2)) (n := 1) (m := 9) ?ho ?hn ?h ?_; (case ho => rfl); (case hn => kernel_rfl); (case h => exact opensT4)
    refine opensF_cons (d := (Kd.int .i64)) (ok := okT3) (d' := Kd.pair (Kd.bool) (Kd.pair ((Kd.int .i64)) (Kd.pair ((Kd.slice 195 k195)) (Kd.pair ((Kd.slice 28 k28)) (Kd.pair ((Kd.slice 28 k28)) (Kd.pair ((Kd.slice 28 k28)) (Kd.pair ((Kd.slice 198 k198)) ((Kd.slice 198 k198))))))))) (ok' := (fun y => okT4 y.1 ∧ (fun y => okT3 y.1 ∧ (fun y => okT83 y.1 ∧ (fun y => okT52 y.1 ∧ (fun y => okT52 y.1 ∧ (fun y => okT52 y.1 ∧ (fun y => okT84 y.1 ∧ okT84 y.2) y.2) y.2) y.2) y.2) y.2) y.2)) (n := 1) (m := 8) ?ho ?hn ?h ?_; (case ho => rfl); (case hn => kernel_rfl); (case h => exact opensT3)
    refine opensF_cons (d := Kd.bool) (ok := okT4) (d' := Kd.pair ((Kd.int .i64)) (Kd.pair ((Kd.slice 195 k195)) (Kd.pair ((Kd.slice 28 k28)) (Kd.pair ((Kd.slice 28 k28)) (Kd.pair ((Kd.slice 28 k28)) (Kd.pair ((Kd.slice 198 k198)) ((Kd.slice 198 k198)))))))) (ok' := (fun y => okT3 y.1 ∧ (fun y => okT83 y.1 ∧ (fun y => okT52 y.1 ∧ (fun y => okT52 y.1 ∧ (fun y => okT52 y.1 ∧ (fun y => okT84 y.1 ∧ okT84 y.2) y.2) y.2) y.2) y.2) y.2)) (n := 1) (m := 7) ?ho ?hn ?h ?_; (case ho => rfl); (case hn => kernel_rfl); (case h => exact opensT4)
    refine opensF_cons (d := (Kd.int .i64)) (ok := okT3) (d' := Kd.pair ((Kd.slice 195 k195)) (Kd.pair ((Kd.slice 28 k28)) (Kd.pair ((Kd.slice 28 k28)) (Kd.pair ((Kd.slice 28 k28)) (Kd.pair ((Kd.slice 198 k198)) ((Kd.slice 198 k198))))))) (ok' := (fun y => okT83 y.1 ∧ (fun y => okT52 y.1 ∧ (fun y => okT52 y.1 ∧ (fun y => okT52 y.1 ∧ (fun y => okT84 y.1 ∧ okT84 y.2) y.2) y.2) y.2) y.2)) (n := 1) (m := 6) ?ho ?hn ?h ?_; (case ho => rfl); (case hn => kernel_rfl); (case h => exact opensT3)
    refine opensF_cons (d := (Kd.slice 195 k195)) (ok := okT83) (d' := Kd.pair ((Kd.slice 28 k28)) (Kd.pair ((Kd.slice 28 k28)) (Kd.pair ((Kd.slice 28 k28)) (Kd.pair ((Kd.slice 198 k198)) ((Kd.slice 198 k198)))))) (ok' := (fun y => okT52 y.1 ∧ (fun y => okT52 y.1 ∧ (fun y => okT52 y.1 ∧ (fun y => okT84 y.1 ∧ okT84 y.2) y.2) y.2) y.2)) (n := 1) (m := 5) ?ho ?hn ?h ?_; (case ho => rfl); (case hn => kernel_rfl); (case h => exact opensT83)
    refine opensF_cons (d := (Kd.slice 28 k28)) (ok := okT52) (d' := Kd.pair ((Kd.slice 28 k28)) (Kd.pair ((Kd.slice 28 k28)) (Kd.pair ((Kd.slice 198 k198)) ((Kd.slice 198 k198))))) (ok' := (fun y => okT52 y.1 ∧ (fun y => okT52 y.1 ∧ (fun y => okT84 y.1 ∧ okT84 y.2) y.2) y.2)) (n := 1) (m := 4) ?ho ?hn ?h ?_; (case ho => rfl); (case hn => kernel_rfl); (case h => exact opensT52)
    refine opensF_cons (d := (Kd.slice 28 k28)) (ok := okT52) (d' := Kd.pair ((Kd.slice 28 k28)) (Kd.pair ((Kd.slice 198 k198)) ((Kd.slice 198 k198)))) (ok' := (fun y => okT52 y.1 ∧ (fun y => okT84 y.1 ∧ okT84 y.2) y.2)) (n := 1) (m := 3) ?ho ?hn ?h ?_; (case ho => rfl); (case hn => kernel_rfl); (case h => exact opensT52)
    refine opensF_cons (d := (Kd.slice 28 k28)) (ok := okT52) (d' := Kd.pair ((Kd.slice 198 k198)) ((Kd.slice 198 k198))) (ok' := (fun y => okT84 y.1 ∧ okT84 y.2)) (n := 1) (m := 2) ?ho ?hn ?h ?_; (case ho => rfl); (case hn => kernel_rfl); (case h => exact opensT52)
    refine opensF_cons (d := (Kd.slice 198 k198)) (ok := okT84) (d' := (Kd.slice 198 k198)) (ok' := okT84) (n := 1) (m := 1) ?ho ?hn ?h ?_; (case ho => rfl); (case hn => kernel_rfl); (case h => exact opensT84)
    refine opensF_one (d := (Kd.slice 198 k198)) (ok := okT84) (n := 1) ?ho ?hn ?h; (case ho => rfl); (case hn => kernel_rfl); (case h => exact opensT84))
  exact h
end Go.Proofs.Ytagedmajlppohaa.Q

-- Written by a program of this session (wip/myprint.py): the pure statement of a law.
namespace Go.Proofs.Ytagedmajlppohaa.Q
open Go Go.RowKit
def laws_FnExactMsgOk.Pure : Prop := ∀ (x0 : S86), okT86 x0 → ∃ k, laws_FnExactMsgOk.f k x0.f0 x0.f1 x0.f2 x0.f3 x0.f4 x0.f5 x0.f6 x0.f7 x0.f8 x0.f9 x0.f10 = some true
end Go.Proofs.Ytagedmajlppohaa.Q

/- Plain lemmas on the printed functions: a list of bytes read into a new one, two lists compared, a number read from bytes. -/
namespace Go.Proofs.Ytagedmajlppohaa.Pure
open Go Go.RowKit Go.Proofs.Ytagedmajlppohaa.Q Go.Proofs.YtagedmajlppohaaW.PrintWords Go.Proofs.YtagedmajlppohaaW.PrintLast Go.Proofs.YtagedmajlppohaaW.PrintMore
set_option linter.unusedVariables false
set_option linter.unusedSimpArgs false

/-- Every element is a byte. -/
def Bytes (l : List Int) : Prop := ∀ x ∈ l, 0 ≤ x ∧ x ≤ 255
theorem i64_of_wf {x : Int} (h : (Lit.int .i64 x).wf = true) : -9223372036854775808 ≤ x ∧ x ≤ 9223372036854775807 := by
  simp [Lit.wf, IntKind.min, IntKind.max, IntKind.signed, IntKind.bits] at h
  omega
theorem w64 {x : Int} (h1 : -9223372036854775808 ≤ x) (h2 : x ≤ 9223372036854775807) : wrap64 x = x := by
  unfold wrap64; omega
theorem Ev.here {α : Type} {g : Nat → Option α} {r : α} (h : ∀ k, g k = some r) : Ev g r := ⟨0, fun k _ => h k⟩

theorem set_prefix (l : List Int) (i : Nat) (h : i < l.length) (m : Nat) (hm : l.length = i + m + 1) :
    (l.take i ++ List.replicate (m+1) 0).set i (l.getD i 0) = l.take (i+1) ++ List.replicate m 0 := by
  rw [List.set_append_right _ _ (by simp; omega)]
  simp only [List.length_take, Nat.min_eq_left (Nat.le_of_lt h), Nat.sub_self, List.replicate_succ, List.set_cons_zero]
  rw [List.take_succ_eq_append_getElem h, List.append_assoc]
  simp [List.getD_eq_getElem?_getD, h]

theorem toByteS_l0 (l : List Int) (hl : l.length ≤ 140737488351232) (m : Nat) : ∀ (i : Nat), l.length = i + m →
    Ev (fun k => laws_toByteS.l0 k l (l.take i ++ List.replicate m 0) i) l := by
  induction m with
  | zero =>
    intro i hi
    refine Ev.step (f := fun _ => some l) (fun k => ?_) (Ev.now _)
    simp only [laws_toByteS.l0]
    rw [if_neg (by omega)]
    simp [List.take_of_length_le (show l.length ≤ i by omega)]
  | succ m ih =>
    intro i hi
    refine Ev.step (fun k => ?_) (ih (i+1) (by omega))
    simp only [laws_toByteS.l0]
    rw [if_pos (by omega), if_pos (by omega), if_pos (by simp; omega), w64 (by omega) (by omega)]
    rw [show rd l (i : Int) = l.getD i 0 by simp [rd], show ((i : Int)).toNat = i by omega, set_prefix l i (by omega) m (by omega)]
    rfl
theorem toByteS (l : List Int) (hl : l.length ≤ 140737488351232) : Ev (fun k => laws_toByteS.f k l) l := by
  unfold laws_toByteS.f
  simp only [if_pos (show 0 ≤ (l.length : Int) by omega), if_pos (show ((l.length : Int)).toNat ≤ 281474976710656 by omega)]
  simpa using toByteS_l0 l hl l.length 0 (by omega)

theorem eqByteS_l0 (l : List Int) (hl : l.length ≤ 140737488351232) (m : Nat) : ∀ (i : Nat), l.length = i + m →
    Ev (fun k => laws_eqByteS.l0 k l l i) true := by
  induction m with
  | zero =>
    intro i hi
    refine Ev.step (f := fun _ => some true) (fun k => ?_) (Ev.now _)
    simp only [laws_eqByteS.l0]
    rw [if_neg (by omega)]
  | succ m ih =>
    intro i hi
    refine Ev.step (fun k => ?_) (ih (i+1) (by omega))
    simp only [laws_eqByteS.l0]
    rw [if_pos (by omega), if_pos (by omega), if_pos (by omega), if_pos trivial, w64 (by omega) (by omega)]
    rfl
theorem eqByteS (l : List Int) (hl : l.length ≤ 140737488351232) : Ev (fun k => laws_eqByteS.f k l l) true := by
  unfold laws_eqByteS.f
  simp only [if_pos]
  exact eqByteS_l0 l hl l.length 0 (by omega)

end Go.Proofs.Ytagedmajlppohaa.Pure

/- Plain lemmas on the printed functions that read, measure and compare lists of lists of bytes, and names. -/
namespace Go.Proofs.Ytagedmajlppohaa.Pure
open Go Go.RowKit Go.Proofs.Ytagedmajlppohaa.Q Go.Proofs.YtagedmajlppohaaW.PrintWords Go.Proofs.YtagedmajlppohaaW.PrintLast Go.Proofs.YtagedmajlppohaaW.PrintMore
set_option linter.unusedVariables false
set_option linter.unusedSimpArgs false

theorem rdL_at (l : List (List Int)) (i : Nat) (h : i < l.length) : rd_L10 l (i : Int) = l[i] := by simp [rd_L10, List.getD_eq_getElem?_getD, h]
def lens (l : List (List Int)) : Nat := (l.map List.length).sum
theorem lens_drop (l : List (List Int)) (i : Nat) (h : i < l.length) : lens (l.drop i) = l[i].length + lens (l.drop (i + 1)) := by
  rw [List.drop_eq_getElem_cons h]; simp only [lens, List.map_cons, List.sum_cons]
theorem len_le_lens (l : List (List Int)) (i : Nat) (h : i < l.length) : l[i].length ≤ lens l := by
  induction l generalizing i with
  | nil => simp at h
  | cons x l ih =>
    cases i with
    | zero => simp [lens]
    | succ i => have := ih i (by simpa using h); simp [lens] at this ⊢; omega
theorem szByteS (l : List Int) (left : Int) (hl : l.length ≤ 9223372036854775807) (h0 : 0 ≤ left) (h1 : left ≤ 1048576) : ∃ t, laws_szByteS.f l left = some t ∧ (t < 0 ∨ (t = left - l.length ∧ 0 ≤ t)) := by
  unfold laws_szByteS.f
  rw [w64 (by omega) (by omega)]
  by_cases h : left - (l.length : Int) < 0
  · exact ⟨-1, by rw [if_pos h], Or.inl (by omega)⟩
  · exact ⟨left - l.length, by rw [if_neg h], Or.inr ⟨rfl, by omega⟩⟩
theorem szByteSS_l0 (l : List (List Int)) (hl : l.length ≤ 1048576) (he : ∀ x ∈ l, x.length ≤ 9223372036854775807) (m : Nat) : ∀ (i : Nat) (left : Int), l.length = i + m → 0 ≤ left → left ≤ 1048576 →
    ∃ t, Ev (fun k => laws_szByteSS.l0 k l left i) t ∧ (t < 0 ∨ (t = left - lens (l.drop i) ∧ 0 ≤ t)) := by
  induction m with
  | zero =>
    intro i left hi h0 h1
    refine ⟨left, Ev.step (f := fun _ => some left) (fun k => ?_) (Ev.now _), Or.inr ⟨by rw [List.drop_of_length_le (by omega)]; simp [lens], h0⟩⟩
    simp only [laws_szByteSS.l0]
    rw [if_neg (by omega)]
  | succ m ih =>
    intro i left hi h0 h1
    have hil : i < l.length := by omega
    obtain ⟨t, ht, hc⟩ := szByteS l[i] left (he _ (List.getElem_mem hil)) h0 h1
    by_cases hneg : t < 0
    · refine ⟨-1, Ev.step (f := fun _ => some (-1)) (fun k => ?_) (Ev.now _), Or.inl (by omega)⟩
      simp only [laws_szByteSS.l0]
      rw [if_pos (by omega), if_pos (by omega), rdL_at l i hil, ht]
      simp [hneg]
    · obtain ⟨u, hu, hcu⟩ := ih (i + 1) t (by omega) (by omega) (by omega)
      refine ⟨u, Ev.step (fun k => ?_) hu, ?_⟩
      · simp only [laws_szByteSS.l0]
        rw [if_pos (by omega), if_pos (by omega), rdL_at l i hil, ht, w64 (x := (i : Int) + 1) (by omega) (by omega)]
        simp [hneg]
      · rw [lens_drop l i hil]
        rcases hcu with h | h
        · exact Or.inl h
        · exact Or.inr (by omega)
theorem szByteSS (l : List (List Int)) (left : Int) (hl : l.length ≤ 9223372036854775807) (he : ∀ x ∈ l, x.length ≤ 9223372036854775807) (h0 : 0 ≤ left) (h1 : left ≤ 1048576) :
    ∃ t, Ev (fun k => laws_szByteSS.f k l left) t ∧ (t < 0 ∨ (t = left - l.length - lens l ∧ 0 ≤ t)) := by
  unfold laws_szByteSS.f
  rw [w64 (by omega) (by omega)]
  by_cases h : left - (l.length : Int) < 0
  · exact ⟨-1, by simp only [if_pos h]; exact Ev.now _, Or.inl (by omega)⟩
  · obtain ⟨t, ht, hc⟩ := szByteSS_l0 l (by omega) he l.length 0 (left - l.length) (by omega) (by omega) (by omega)
    exact ⟨t, by simp only [if_neg h]; exact ht, by rw [List.drop_zero] at hc; omega⟩
theorem szName (l : List (List Int)) (left : Int) (hl : l.length ≤ 9223372036854775807) (he : ∀ x ∈ l, x.length ≤ 9223372036854775807) (h0 : 0 ≤ left) (h1 : left ≤ 1048576) :
    ∃ t, Ev (fun k => laws_szName.f k l left) t ∧ (t < 0 ∨ (t = left - l.length - lens l ∧ 0 ≤ t)) := by
  obtain ⟨t, ht, hc⟩ := szByteSS l left hl he h0 h1
  unfold laws_szName.f
  by_cases h : t < 0
  · exact ⟨-1, Ev.bind ht (by simp only [if_pos h]; exact Ev.now _), Or.inl (by omega)⟩
  · exact ⟨t, Ev.bind ht (by simp only [if_neg h]; exact Ev.now _), hc⟩
theorem setL_prefix (l : List (List Int)) (i : Nat) (h : i < l.length) (m : Nat) (hm : l.length = i + m + 1) :
    (l.take i ++ List.replicate (m+1) []).set i l[i] = l.take (i+1) ++ List.replicate m [] := by
  rw [List.set_append_right _ _ (by simp; omega)]
  simp only [List.length_take, Nat.min_eq_left (Nat.le_of_lt h), Nat.sub_self, List.replicate_succ, List.set_cons_zero]
  rw [List.take_succ_eq_append_getElem h, List.append_assoc]
  simp
theorem toByteSS_l0 (l : List (List Int)) (hl : l.length ≤ 11728124029610) (he : ∀ x ∈ l, x.length ≤ 140737488351232) (m : Nat) : ∀ (i : Nat), l.length = i + m →
    Ev (fun k => laws_toByteSS.l0 k l (l.take i ++ List.replicate m []) i) l := by
  induction m with
  | zero =>
    intro i hi
    refine Ev.step (f := fun _ => some l) (fun k => ?_) (Ev.now _)
    simp only [laws_toByteSS.l0]
    rw [if_neg (by omega)]
    simp [List.take_of_length_le (show l.length ≤ i by omega)]
  | succ m ih =>
    intro i hi
    have hil : i < l.length := by omega
    refine Ev.step (f := fun k => (laws_toByteS.f k l[i]).bind fun t => laws_toByteSS.l0 k l ((l.take i ++ List.replicate (m + 1) []).set i t) ((i + 1 : Nat) : Int)) (fun k => ?_) ?_
    · simp only [laws_toByteSS.l0]
      rw [if_pos (by omega), if_pos (by omega), rdL_at l i hil, w64 (x := (i : Int) + 1) (by omega) (by omega)]
      simp only [if_pos (show (i : Int) < ((l.take i ++ List.replicate (m + 1) ([] : List Int)).length : Int) by simp; omega), show ((i : Int)).toNat = i by omega]
      rfl
    · refine Ev.bind (toByteS l[i] (he _ (List.getElem_mem hil))) ?_
      rw [setL_prefix l i hil m (by omega)]
      exact ih (i + 1) (by omega)
theorem toByteSS (l : List (List Int)) (hl : l.length ≤ 11728124029610) (he : ∀ x ∈ l, x.length ≤ 140737488351232) : Ev (fun k => laws_toByteSS.f k l) l := by
  unfold laws_toByteSS.f
  simp only [if_pos (show 0 ≤ (l.length : Int) by omega), if_pos (show ((l.length : Int)).toNat ≤ 11728124029610 by omega)]
  simpa using toByteSS_l0 l hl he l.length 0 (by omega)
theorem toName (l : List (List Int)) (hl : l.length ≤ 11728124029610) (he : ∀ x ∈ l, x.length ≤ 140737488351232) : Ev (fun k => laws_toName.f k l) l := by
  unfold laws_toName.f
  exact Ev.bind (toByteSS l hl he) (Ev.now _)
theorem eqByteSS_l0 (l : List (List Int)) (hl : l.length ≤ 11728124029610) (he : ∀ x ∈ l, x.length ≤ 140737488351232) (m : Nat) : ∀ (i : Nat), l.length = i + m →
    Ev (fun k => laws_eqByteSS.l0 k l l i) true := by
  induction m with
  | zero =>
    intro i hi
    refine Ev.step (f := fun _ => some true) (fun k => ?_) (Ev.now _)
    simp only [laws_eqByteSS.l0]
    rw [if_neg (by omega)]
  | succ m ih =>
    intro i hi
    have hil : i < l.length := by omega
    refine Ev.step (f := fun k => (laws_eqByteS.f k l[i] l[i]).bind fun t => if t = true then laws_eqByteSS.l0 k l l ((i + 1 : Nat) : Int) else some false) (fun k => ?_) ?_
    · simp only [laws_eqByteSS.l0]
      rw [if_pos (by omega), if_pos (by omega), rdL_at l i hil, w64 (x := (i : Int) + 1) (by omega) (by omega), if_pos (by omega)]
      rfl
    · refine Ev.bind (eqByteS l[i] (he _ (List.getElem_mem hil))) ?_
      simp only [if_true]
      exact ih (i + 1) (by omega)
theorem eqByteSS (l : List (List Int)) (hl : l.length ≤ 11728124029610) (he : ∀ x ∈ l, x.length ≤ 140737488351232) : Ev (fun k => laws_eqByteSS.f k l l) true := by
  unfold laws_eqByteSS.f
  simp only [if_pos]
  exact eqByteSS_l0 l hl he l.length 0 (by omega)
theorem eqName (l : List (List Int)) (hl : l.length ≤ 11728124029610) (he : ∀ x ∈ l, x.length ≤ 140737488351232) : Ev (fun k => laws_eqName.f k l l) true := by
  unfold laws_eqName.f
  refine Ev.bind (eqByteSS l hl he) ?_
  simp only [if_true]; exact Ev.now _
end Go.Proofs.Ytagedmajlppohaa.Pure

/- Plain lemmas on the printed functions that say whether labels and names are right, and whether one name lies under another. -/
namespace Go.Proofs.Ytagedmajlppohaa.Pure
open Go Go.RowKit Go.Proofs.Ytagedmajlppohaa.Q Go.Proofs.YtagedmajlppohaaW.PrintWords Go.Proofs.YtagedmajlppohaaW.PrintLast Go.Proofs.YtagedmajlppohaaW.PrintMore
set_option linter.unusedVariables false
set_option linter.unusedSimpArgs false
theorem specLabelOk_l0 (l : List Int) (hl : l.length ≤ 140737488351232) (m : Nat) : ∀ (i : Nat), l.length = i + m →
    Ev (fun k => spec_LabelOk.l0 k l i) ((l.drop i).all impl_LabelOk.byte) := by
  induction m with
  | zero =>
    intro i hi
    rw [List.drop_of_length_le (by omega)]
    refine Ev.step (f := fun _ => some true) (fun k => ?_) (Ev.now _)
    simp only [spec_LabelOk.l0]
    rw [if_neg (by omega)]
  | succ m ih =>
    intro i hi
    have hil : i < l.length := by omega
    have e : rd l (i : Int) = l[i] := by simp [rd, List.getD_eq_getElem?_getD, hil]
    rw [List.drop_eq_getElem_cons hil, List.all_cons]
    by_cases hb : impl_LabelOk.byte l[i] = true
    · rw [hb, Bool.true_and]
      refine Ev.step (fun k => ?_) (ih (i+1) (by omega))
      simp only [spec_LabelOk.l0]
      rw [if_pos (by omega), if_pos (by omega), e, w64 (by omega) (by omega)]
      unfold impl_LabelOk.byte at hb
      generalize l[i] = x at *
      by_cases h1 : x ≥ 97 <;> by_cases h2 : x ≤ 122 <;> by_cases h3 : x ≥ 48 <;> by_cases h4 : x ≤ 57 <;> by_cases h5 : x = 45 <;> first | omega | (simp [h1, h2, h3, h4, h5] at hb ⊢; try omega)
    · rw [Bool.not_eq_true] at hb
      rw [hb, Bool.false_and]
      refine Ev.step (f := fun _ => some false) (fun k => ?_) (Ev.now _)
      simp only [spec_LabelOk.l0]
      rw [if_pos (by omega), if_pos (by omega), e]
      unfold impl_LabelOk.byte at hb
      generalize l[i] = x at *
      by_cases h1 : x ≥ 97 <;> by_cases h2 : x ≤ 122 <;> by_cases h3 : x ≥ 48 <;> by_cases h4 : x ≤ 57 <;> by_cases h5 : x = 45 <;> first | omega | (simp [h1, h2, h3, h4, h5] at hb ⊢; try omega)
theorem specLabelOk (l : List Int) (hl : l.length ≤ 140737488351232) : Ev (fun k => spec_LabelOk.f k l) (impl_LabelOk.v l) := by
  unfold spec_LabelOk.f impl_LabelOk.v
  by_cases h1 : (l.length : Int) < 1
  · simp only [if_pos h1]
    rw [decide_eq_false (show ¬ 1 ≤ l.length by omega)]
    refine Ev.step (f := fun _ => some false) (fun k => ?_) (Ev.now _)
    simp [spec_LabelOk.j0]
  · simp only [if_neg h1]
    rw [decide_eq_true (show 1 ≤ l.length by omega)]
    by_cases h2 : (l.length : Int) > 15
    · rw [decide_eq_true h2, decide_eq_false (show ¬ l.length ≤ 15 by omega)]
      refine Ev.step (f := fun _ => some false) (fun k => ?_) (Ev.now _)
      simp [spec_LabelOk.j0]
    · rw [decide_eq_false h2, decide_eq_true (show l.length ≤ 15 by omega)]
      have := specLabelOk_l0 l hl l.length 0 (by omega)
      rw [List.drop_zero] at this
      refine Ev.step (fun k => ?_) this
      simp [spec_LabelOk.j0]
theorem specNameOk_l0 (l : List (List Int)) (hl : l.length ≤ 1048576) (he : ∀ x ∈ l, x.length ≤ 140737488351232) (m : Nat) : ∀ (i : Nat), l.length = i + m →
    Ev (fun k => spec_NameOk.l0 k i l) ((l.drop i).all impl_LabelOk.v) := by
  induction m with
  | zero =>
    intro i hi
    rw [List.drop_of_length_le (by omega)]
    refine Ev.step (f := fun _ => some true) (fun k => ?_) (Ev.now _)
    simp only [spec_NameOk.l0]
    rw [if_neg (by omega)]
  | succ m ih =>
    intro i hi
    have hil : i < l.length := by omega
    rw [List.drop_eq_getElem_cons hil, List.all_cons]
    refine Ev.step (f := fun k => (spec_LabelOk.f k l[i]).bind fun t => if t = true then spec_NameOk.l0 k ((i + 1 : Nat) : Int) l else some false) (fun k => ?_) ?_
    · simp only [spec_NameOk.l0]
      rw [if_pos (by omega), if_pos (by omega), rdL_at l i hil, w64 (x := (i : Int) + 1) (by omega) (by omega)]
      rfl
    · refine Ev.bind (specLabelOk l[i] (he _ (List.getElem_mem hil))) ?_
      cases hb : impl_LabelOk.v l[i] with
      | true => simp only [if_true, Bool.true_and]; exact ih (i + 1) (by omega)
      | false => simp only [Bool.false_eq_true, if_false, Bool.false_and]; exact Ev.now _
theorem specNameOk (l : List (List Int)) (hl : l.length ≤ 1048576) (he : ∀ x ∈ l, x.length ≤ 140737488351232) : Ev (fun k => spec_NameOk.f k l) (impl_NameOk.v l) := by
  unfold spec_NameOk.f impl_NameOk.v
  by_cases h : (l.length : Int) > 6
  · simp only [if_pos h]
    rw [decide_eq_false (show ¬ l.length ≤ 6 by omega)]
    exact Ev.now _
  · simp only [if_neg h]
    rw [decide_eq_true (show l.length ≤ 6 by omega), Bool.true_and]
    simpa using specNameOk_l0 l hl he l.length 0 (by omega)
end Go.Proofs.Ytagedmajlppohaa.Pure

/- Plain lemmas on the printed functions that compare names, and say whether one lies under another. -/
namespace Go.Proofs.Ytagedmajlppohaa.Pure
open Go Go.RowKit Go.Proofs.Ytagedmajlppohaa.Q Go.Proofs.YtagedmajlppohaaW.PrintWords Go.Proofs.YtagedmajlppohaaW.PrintLast Go.Proofs.YtagedmajlppohaaW.PrintMore
set_option linter.unusedVariables false
set_option linter.unusedSimpArgs false

end Go.Proofs.Ytagedmajlppohaa.Pure

/- Plain lemmas on the printed functions that read, measure and compare records, and say whether they are right. -/
namespace Go.Proofs.Ytagedmajlppohaa.Pure
open Go Go.RowKit Go.Proofs.Ytagedmajlppohaa.Q Go.Proofs.YtagedmajlppohaaW.PrintWords Go.Proofs.YtagedmajlppohaaW.PrintLast Go.Proofs.YtagedmajlppohaaW.PrintMore
set_option linter.unusedVariables false
set_option linter.unusedSimpArgs false

/-- A name of any length that there can be, and one that fits. -/
def RawN (l : List (List Int)) : Prop := l.length ≤ 9223372036854775807 ∧ ∀ x ∈ l, x.length ≤ 9223372036854775807
def FitN (l : List (List Int)) : Prop := l.length ≤ 1048576 ∧ (∀ x ∈ l, x.length ≤ 1048576) ∧ lens l ≤ 1048576
theorem FitN.big {l : List (List Int)} (h : FitN l) : ∀ x ∈ l, x.length ≤ 140737488351232 := fun x hx => by have := h.2.1 x hx; omega
theorem lens_fit {l : List (List Int)} (h : l.length + lens l ≤ 1048576) : FitN l := ⟨by omega, fun x hx => by
  obtain ⟨i, hi, rfl⟩ := List.getElem_of_mem hx
  have := len_le_lens l i hi
  omega, by omega⟩
theorem szName' (l : List (List Int)) (left : Int) (hl : RawN l) (h0 : 0 ≤ left) (h1 : left ≤ 1048576) :
    ∃ t, Ev (fun k => laws_szName.f k l left) t ∧ (t < 0 ∨ (0 ≤ t ∧ t ≤ left ∧ FitN l)) := by
  obtain ⟨t, ht, hc⟩ := szName l left hl.1 hl.2 h0 h1
  refine ⟨t, ht, hc.imp id fun h => ⟨h.2, by omega, lens_fit (by omega)⟩⟩
theorem toName' (l : List (List Int)) (h : FitN l) : Ev (fun k => laws_toName.f k l) l := toName l (by have := h.1; omega) h.big
theorem eqName' (l : List (List Int)) (h : FitN l) : Ev (fun k => laws_eqName.f k l l) true := eqName l (by have := h.1; omega) h.big

theorem szIntS (l : List Int) (left : Int) (hl : l.length ≤ 9223372036854775807) (h0 : 0 ≤ left) (h1 : left ≤ 1048576) : ∃ t, laws_szIntS.f l left = some t ∧ (t < 0 ∨ (t = left - l.length ∧ 0 ≤ t)) := by
  unfold laws_szIntS.f
  rw [w64 (by omega) (by omega)]
  by_cases h : left - (l.length : Int) < 0
  · exact ⟨-1, by rw [if_pos h], Or.inl (by omega)⟩
  · exact ⟨left - l.length, by rw [if_neg h], Or.inr ⟨rfl, by omega⟩⟩
theorem toIntS_l0 (l : List Int) (hl : l.length ≤ 35184372088832) (m : Nat) : ∀ (i : Nat), l.length = i + m →
    Ev (fun k => laws_toIntS.l0 k l (l.take i ++ List.replicate m 0) i) l := by
  induction m with
  | zero =>
    intro i hi
    refine Ev.step (f := fun _ => some l) (fun k => ?_) (Ev.now _)
    simp only [laws_toIntS.l0]
    rw [if_neg (by omega)]
    simp [List.take_of_length_le (show l.length ≤ i by omega)]
  | succ m ih =>
    intro i hi
    refine Ev.step (fun k => ?_) (ih (i+1) (by omega))
    simp only [laws_toIntS.l0]
    rw [if_pos (by omega), if_pos (by omega), if_pos (by simp; omega), w64 (by omega) (by omega)]
    rw [show rd l (i : Int) = l.getD i 0 by simp [rd], show ((i : Int)).toNat = i by omega, set_prefix l i (by omega) m (by omega)]
    rfl
theorem toIntS (l : List Int) (hl : l.length ≤ 35184372088832) : Ev (fun k => laws_toIntS.f k l) l := by
  unfold laws_toIntS.f
  simp only [if_pos (show 0 ≤ (l.length : Int) by omega), if_pos (show ((l.length : Int)).toNat ≤ 35184372088832 by omega)]
  simpa using toIntS_l0 l hl l.length 0 (by omega)
theorem eqIntS_l0 (l : List Int) (hl : l.length ≤ 140737488351232) (m : Nat) : ∀ (i : Nat), l.length = i + m →
    Ev (fun k => laws_eqIntS.l0 k l l i) true := by
  induction m with
  | zero =>
    intro i hi
    refine Ev.step (f := fun _ => some true) (fun k => ?_) (Ev.now _)
    simp only [laws_eqIntS.l0]
    rw [if_neg (by omega)]
  | succ m ih =>
    intro i hi
    refine Ev.step (fun k => ?_) (ih (i+1) (by omega))
    simp only [laws_eqIntS.l0]
    rw [if_pos (by omega), if_pos (by omega), if_pos (by omega), if_pos trivial, w64 (by omega) (by omega)]
    rfl
theorem eqIntS (l : List Int) (hl : l.length ≤ 140737488351232) : Ev (fun k => laws_eqIntS.f k l l) true := by
  unfold laws_eqIntS.f
  simp only [if_pos]
  exact eqIntS_l0 l hl l.length 0 (by omega)
theorem szRr (n : List (List Int)) (t ttl addr : Int) (dst : List (List Int)) (text nums : List Int) (left : Int) (hn : RawN n) (hto : RawN dst) (ht : text.length ≤ 9223372036854775807) (hnu : nums.length ≤ 9223372036854775807) (h0 : 0 ≤ left) (h1 : left ≤ 1048576) :
    ∃ u, Ev (fun k => laws_szRr.f k n t ttl addr dst text nums left) u ∧ (u < 0 ∨ (0 ≤ u ∧ u ≤ left ∧ FitN n ∧ FitN dst ∧ text.length ≤ 1048576 ∧ nums.length ≤ 1048576)) := by
  unfold laws_szRr.f
  obtain ⟨a, ha, hca⟩ := szName' n left hn h0 h1
  by_cases h : a < 0
  · exact ⟨-1, Ev.bind ha (by simp only [if_pos h]; exact Ev.now _), Or.inl (by omega)⟩
  obtain ⟨b, hb, hcb⟩ := szName' dst a hto (by omega) (by omega)
  by_cases h2 : b < 0
  · exact ⟨-1, Ev.bind ha (by simp only [if_neg h]; exact Ev.bind hb (by simp only [if_pos h2]; exact Ev.now _)), Or.inl (by omega)⟩
  obtain ⟨c, hc, hcc⟩ := szByteS text b ht (by omega) (by omega)
  by_cases h3 : c < 0
  · exact ⟨-1, Ev.bind ha (by simp only [if_neg h]; exact Ev.bind hb (by simp only [if_neg h2, hc, Option.bind_some, if_pos h3]; exact Ev.now _)), Or.inl (by omega)⟩
  obtain ⟨d, hd, hcd⟩ := szIntS nums c hnu (by omega) (by omega)
  by_cases h4 : d < 0
  · exact ⟨-1, Ev.bind ha (by simp only [if_neg h]; exact Ev.bind hb (by simp only [if_neg h2, hc, Option.bind_some, if_neg h3, hd, if_pos h4]; exact Ev.now _)), Or.inl (by omega)⟩
  refine ⟨d, Ev.bind ha (by simp only [if_neg h]; exact Ev.bind hb (by simp only [if_neg h2, hc, Option.bind_some, if_neg h3, hd, if_neg h4]; exact Ev.now _)), Or.inr ?_⟩
  have f1 := hca.resolve_left h
  have f2 := hcb.resolve_left h2
  exact ⟨by omega, by omega, f1.2.2, f2.2.2, by omega, by omega⟩
theorem toRr (n : List (List Int)) (t ttl addr : Int) (dst : List (List Int)) (text nums : List Int) (hn : FitN n) (hto : FitN dst) (ht : text.length ≤ 1048576) (hnu : nums.length ≤ 1048576) :
    Ev (fun k => laws_toRr.f k n t ttl addr dst text nums) (n, t, ttl, addr, dst, text, nums) := by
  unfold laws_toRr.f
  exact Ev.bind (toName' n hn) (Ev.bind (toName' dst hto) (Ev.bind (toByteS text (by omega)) (Ev.bind (toIntS nums (by omega)) (Ev.now _))))
theorem eqRr (n : List (List Int)) (t ttl addr : Int) (dst : List (List Int)) (text nums : List Int) (hn : FitN n) (hto : FitN dst) (ht : text.length ≤ 1048576) (hnu : nums.length ≤ 1048576) :
    Ev (fun k => laws_eqRr.f k n t ttl addr dst text nums n t ttl addr dst text nums) true := by
  unfold laws_eqRr.f
  refine Ev.bind (eqName' n hn) ?_
  simp only [if_true]
  refine Ev.bind (eqName' dst hto) ?_
  simp only [if_true]
  refine Ev.bind (eqByteS text (by omega)) ?_
  simp only [if_true]
  refine Ev.bind (eqIntS nums (by omega)) ?_
  simp only [if_true]
  exact Ev.now _
def typeOkV (t : Int) : Bool := t == 1 || t == 2 || t == 5 || t == 6 || t == 12 || t == 16 || t == 49
theorem specTypeOk (t : Int) : spec_TypeOk.f t = some (typeOkV t) := by
  unfold spec_TypeOk.f typeOkV
  by_cases h1 : t = 1
  · simp [h1]
  by_cases h2 : t = 2
  · simp [h2]
  by_cases h3 : t = 5
  · simp [h3]
  by_cases h4 : t = 6
  · simp [h4]
  by_cases h5 : t = 12
  · simp [h5]
  by_cases h6 : t = 16
  · simp [h6]
  by_cases h7 : t = 49
  · simp [h7]
  simp [h1, h2, h3, h4, h5, h6, h7]
theorem implTypeOk (t : Int) (ht : -9223372036854775808 ≤ t ∧ t ≤ 9223372036854775807) : impl_TypeOk.f t = some (typeOkV t) := by
  unfold impl_TypeOk.f impl_typeName.f typeOkV impl_typeName.v
  rw [if_pos ht]
  simp only [Option.bind_some, Go.ByteArray.toList_eq]
  by_cases h1 : t = 1
  · subst h1; decide
  by_cases h2 : t = 2
  · subst h2; decide
  by_cases h3 : t = 5
  · subst h3; decide
  by_cases h4 : t = 6
  · subst h4; decide
  by_cases h5 : t = 12
  · subst h5; decide
  by_cases h6 : t = 16
  · subst h6; decide
  by_cases h7 : t = 49
  · subst h7; decide
  rw [if_neg h1, if_neg h2, if_neg h3, if_neg h4, if_neg h5, if_neg h6, if_neg h7]
  simp [h1, h2, h3, h4, h5, h6, h7]
def namedV (t : Int) : Bool := t == 2 || t == 5 || t == 6 || t == 12
def textedV (t : Int) : Bool := t == 16 || t == 49
theorem specNamed (t : Int) : spec_l3named.f t = some (namedV t) := by
  unfold spec_l3named.f namedV
  by_cases h1 : t = 2
  · simp [h1]
  by_cases h2 : t = 5
  · simp [h2]
  by_cases h3 : t = 6
  · simp [h3]
  simp [h1, h2, h3]
theorem implNamed (t : Int) : impl_hasTo.f t = some (namedV t) := specNamed t
theorem specTexted (t : Int) : spec_l3texted.f t = some (textedV t) := by
  unfold spec_l3texted.f textedV
  by_cases h1 : t = 16
  · simp [h1]
  simp [h1]
theorem implTexted (t : Int) : impl_hasText.f t = some (textedV t) := specTexted t
theorem implWithin (a b c : Int) : impl_within.f a b c = some (decide (b ≤ a ∧ a ≤ c)) := by
  unfold impl_within.f
  by_cases h : b ≤ a <;> simp [h]
theorem implIsWord (a : Int) : impl_isWord.f a = some (decide (0 ≤ a ∧ a ≤ 4294967295)) := by
  unfold impl_isWord.f
  rw [implWithin]; rfl
def numsV (t : Int) (nums : List Int) : Bool := if t = 6 then decide (nums.length = 2 ∧ (0 ≤ rd nums 0 ∧ rd nums 0 ≤ 4294967295) ∧ 0 ≤ rd nums 1 ∧ rd nums 1 ≤ 100000) else decide (nums.length = 0)
def addrV (t addr : Int) : Bool := if t = 1 then decide (0 ≤ addr ∧ addr ≤ 4294967295) else decide (addr = 0)
def toV (t : Int) (dst : List (List Int)) : Bool := if namedV t = true then impl_NameOk.v dst else decide (dst.length = 0)
def textV (t : Int) (text : List Int) : Bool := if textedV t = true then decide (text.length ≤ 40) else decide (text.length = 0)
def rrOkV (n : List (List Int)) (t ttl addr : Int) (dst : List (List Int)) (text nums : List Int) : Bool :=
  impl_NameOk.v n && (typeOkV t && (decide (0 ≤ ttl ∧ ttl ≤ 100000) && (addrV t addr && (toV t dst && (textV t text && numsV t nums)))))
theorem specData_j2 (n : List (List Int)) (t ttl addr : Int) (dst : List (List Int)) (text nums : List Int) : Ev (fun k => spec_l3data.j2 k n t ttl addr dst text nums) (numsV t nums) := by
  refine Ev.step (f := fun _ => some (numsV t nums)) (fun k => ?_) (Ev.now _)
  simp only [spec_l3data.j2]
  unfold numsV
  by_cases h6 : t = 6
  · rw [if_pos h6, if_pos h6]
    by_cases h2 : nums.length = 2
    · rw [if_pos (by omega), if_pos (by omega)]
      by_cases a1 : rd nums 0 < 0
      · rw [if_pos a1, decide_eq_false (by omega)]
      rw [if_neg a1]
      by_cases a2 : rd nums 0 ≥ 4294967296
      · rw [if_pos a2, decide_eq_false (by omega)]
      rw [if_neg a2, if_pos (by omega)]
      by_cases a3 : rd nums 1 ≥ 0
      · rw [if_pos a3]; congr 1; apply decide_eq_decide.2; constructor <;> intro h <;> omega
      · rw [if_neg a3, decide_eq_false (by omega)]
    · rw [if_neg (by omega), decide_eq_false (by omega)]
  · rw [if_neg h6, if_neg h6]
    congr 1
    rw [Bool.eq_iff_iff, beq_iff_eq, decide_eq_true_iff]; omega
theorem specData_j1 (n : List (List Int)) (t ttl addr : Int) (dst : List (List Int)) (text nums : List Int) : Ev (fun k => spec_l3data.j1 k n t ttl addr dst text nums) (textV t text && numsV t nums) := by
  refine Ev.step (f := fun k => if textV t text = true then spec_l3data.j2 k n t ttl addr dst text nums else some false) (fun k => ?_) ?_
  · simp only [spec_l3data.j1]
    rw [specTexted, Option.bind_some]
    unfold textV
    cases textedV t
    · simp only [Bool.false_eq_true, if_false, decide_eq_true_iff]
      by_cases h : text.length = 0
      · rw [if_neg (by omega), if_pos h]
      · rw [if_pos (by omega), if_neg h]
    · simp only [if_true, decide_eq_true_iff]
      by_cases h : text.length ≤ 40
      · rw [if_neg (by omega), if_pos h]
      · rw [if_pos (by omega), if_neg h]
  · cases textV t text
    · simp only [Bool.false_eq_true, if_false, Bool.false_and]; exact Ev.now _
    · simp only [if_true, Bool.true_and]; exact specData_j2 ..
theorem specData_j0 (n : List (List Int)) (t ttl addr : Int) (dst : List (List Int)) (text nums : List Int) (hto : FitN dst) : Ev (fun k => spec_l3data.j0 k n t ttl addr dst text nums) (toV t dst && (textV t text && numsV t nums)) := by
  refine Ev.step (f := fun k => if namedV t = true then ((spec_NameOk.f k dst).bind fun t103 => (if t103 = true then (spec_l3data.j1 k n t ttl addr dst text nums) else (some false))) else (if (dst.length : Int) > 0 then (some false) else (spec_l3data.j1 k n t ttl addr dst text nums))) (fun k => ?_) ?_
  · simp only [spec_l3data.j0]
    rw [specNamed, Option.bind_some]
  · unfold toV
    cases namedV t
    · simp only [Bool.false_eq_true, if_false]
      by_cases h : dst.length = 0
      · simp only [if_neg (show ¬ (dst.length : Int) > 0 by omega)]
        rw [decide_eq_true h, Bool.true_and]; exact specData_j1 ..
      · simp only [if_pos (show (dst.length : Int) > 0 by omega)]
        rw [decide_eq_false h, Bool.false_and]; exact Ev.now _
    · simp only [if_true]
      refine Ev.bind (specNameOk dst hto.1 hto.big) ?_
      cases impl_NameOk.v dst
      · simp only [Bool.false_eq_true, if_false, Bool.false_and]; exact Ev.now _
      · simp only [if_true, Bool.true_and]; exact specData_j1 ..
theorem specData (n : List (List Int)) (t ttl addr : Int) (dst : List (List Int)) (text nums : List Int) (hto : FitN dst) : Ev (fun k => spec_l3data.f k n t ttl addr dst text nums) (addrV t addr && (toV t dst && (textV t text && numsV t nums))) := by
  unfold spec_l3data.f addrV
  by_cases h1 : t = 1
  · simp only [if_pos h1]
    by_cases a1 : addr < 0
    · simp only [if_pos a1]; rw [decide_eq_false (by omega), Bool.false_and]; exact Ev.now _
    simp only [if_neg a1]
    by_cases a2 : addr ≥ 4294967296
    · simp only [if_pos a2]; rw [decide_eq_false (by omega), Bool.false_and]; exact Ev.now _
    simp only [if_neg a2]; rw [decide_eq_true (show 0 ≤ addr ∧ addr ≤ 4294967295 by omega), Bool.true_and]; exact specData_j0 _ _ _ _ _ _ _ hto
  · simp only [if_neg h1]
    by_cases a1 : addr = 0
    · simp only [if_pos a1]; rw [decide_eq_true a1, Bool.true_and]; exact specData_j0 _ _ _ _ _ _ _ hto
    · simp only [if_neg a1]; rw [decide_eq_false a1, Bool.false_and]; exact Ev.now _
theorem specRrOk (n : List (List Int)) (t ttl addr : Int) (dst : List (List Int)) (text nums : List Int) (hn : FitN n) (hto : FitN dst) : Ev (fun k => spec_RrOk.f k n t ttl addr dst text nums) (rrOkV n t ttl addr dst text nums) := by
  unfold spec_RrOk.f rrOkV
  refine Ev.bind (specNameOk n hn.1 hn.big) ?_
  cases impl_NameOk.v n
  · simp only [Bool.false_eq_true, if_false, Bool.false_and]; exact Ev.now _
  simp only [if_true, Bool.true_and, specTypeOk, Option.bind_some]
  cases typeOkV t
  · simp only [Bool.false_eq_true, if_false, Bool.false_and]; exact Ev.now _
  simp only [if_true, Bool.true_and]
  by_cases a1 : ttl ≥ 0
  · simp only [if_pos a1]
    by_cases a2 : ttl ≤ 100000
    · simp only [if_pos a2]; rw [decide_eq_true (show 0 ≤ ttl ∧ ttl ≤ 100000 by omega), Bool.true_and]
      exact Ev.bind (specData _ _ _ _ _ _ _ hto) (Ev.now _)
    · simp only [if_neg a2]; rw [decide_eq_false (by omega), Bool.false_and]; exact Ev.now _
  · simp only [if_neg a1]; rw [decide_eq_false (by omega), Bool.false_and]; exact Ev.now _
theorem rrOk_j3 (x3 x4 x5 : Bool) (n : List (List Int)) (t ttl addr : Int) (dst : List (List Int)) (text nums : List Int) : Ev (fun k => impl_RrOk.j3 k x3 x4 x5 n t ttl addr dst text nums) (x3 && (x4 && (x5 && textV t text))) := by
  refine Ev.step (f := fun _ => some (x3 && (x4 && (x5 && textV t text)))) (fun k => ?_) (Ev.now _)
  simp only [impl_RrOk.j3]
  rw [implTexted, Option.bind_some]
  unfold textV
  by_cases h : text.length = 0
  · rw [if_pos (by omega), decide_eq_true h, decide_eq_true (show text.length ≤ 40 by omega)]
    cases x3 <;> cases x4 <;> cases x5 <;> cases textedV t <;> rfl
  · rw [if_neg (by omega), decide_eq_false h, show decide ((text.length : Int) ≤ 40) = decide (text.length ≤ 40) from decide_eq_decide.2 (by omega)]
    cases x3 <;> cases x4 <;> cases x5 <;> cases textedV t <;> simp
theorem rrOk_j2 (x3 x4 : Bool) (n : List (List Int)) (t ttl addr : Int) (dst : List (List Int)) (text nums : List Int) : Ev (fun k => impl_RrOk.j2 k x3 x4 n t ttl addr dst text nums) (x3 && (x4 && (toV t dst && textV t text))) := by
  refine Ev.step (f := fun k => impl_RrOk.j3 k x3 x4 (toV t dst) n t ttl addr dst text nums) (fun k => ?_) (rrOk_j3 ..)
  simp only [impl_RrOk.j2]
  rw [implNamed, Option.bind_some]
  unfold toV impl_NameOk.f
  by_cases h : dst.length = 0
  · have := List.eq_nil_of_length_eq_zero h
    subst this
    cases namedV t <;> simp [impl_NameOk.v]
  · rw [if_neg (by omega), decide_eq_false h]
    cases namedV t <;> simp
theorem rrOk_j1 (x3 : Bool) (n : List (List Int)) (t ttl addr : Int) (dst : List (List Int)) (text nums : List Int) : Ev (fun k => impl_RrOk.j1 k x3 n t ttl addr dst text nums) (x3 && (addrV t addr && (toV t dst && textV t text))) := by
  refine Ev.step (f := fun k => impl_RrOk.j2 k x3 (addrV t addr) n t ttl addr dst text nums) (fun k => ?_) (rrOk_j2 ..)
  simp only [impl_RrOk.j1]
  rw [implIsWord, Option.bind_some]
  unfold addrV
  by_cases h : addr = 0
  · subst h; simp
  · rw [if_neg h, decide_eq_false h]
    by_cases h1 : t = 1
    · rw [if_pos h1, if_pos h1]
    · rw [if_neg h1, if_neg h1]
theorem rrOk_j0 (x22 : Bool) (n : List (List Int)) (t ttl addr : Int) (dst : List (List Int)) (text nums : List Int) : Ev (fun k => impl_RrOk.j0 k x22 n t ttl addr dst text nums) (!x22 && (numsV t nums && (addrV t addr && (toV t dst && textV t text)))) := by
  cases x22
  · refine Ev.step (f := fun k => impl_RrOk.j1 k (numsV t nums) n t ttl addr dst text nums) (fun k => ?_) ?_
    · simp only [impl_RrOk.j0, Bool.false_eq_true, if_false]
      simp only [implIsWord, implWithin, Option.bind_some]
      unfold numsV
      by_cases h6 : t = 6
      · simp only [if_pos h6]
        by_cases h2 : nums.length = 2
        · rw [if_pos (by omega), if_pos (by omega)]
          by_cases a1 : 0 ≤ rd nums 0 ∧ rd nums 0 ≤ 4294967295
          · simp only [decide_eq_true_iff, if_pos a1]
            rw [if_pos (by omega)]
            congr 1; apply decide_eq_decide.2; constructor <;> intro h <;> omega
          · simp only [decide_eq_true_iff, if_neg a1]
            rw [decide_eq_false (by omega)]
        · rw [if_neg (by omega), decide_eq_false (by omega)]
      · simp only [if_neg h6]
        congr 1
        rw [Bool.eq_iff_iff, beq_iff_eq, decide_eq_true_iff]; omega
    · simpa using rrOk_j1 (numsV t nums) n t ttl addr dst text nums
  · refine Ev.step (f := fun _ => some false) (fun k => ?_) (Ev.now _)
    simp only [impl_RrOk.j0, if_true]
theorem implRrOk (n : List (List Int)) (t ttl addr : Int) (dst : List (List Int)) (text nums : List Int) (ht : -9223372036854775808 ≤ t ∧ t ≤ 9223372036854775807) : Ev (fun k => impl_RrOk.f k n t ttl addr dst text nums) (rrOkV n t ttl addr dst text nums) := by
  have e : rrOkV n t ttl addr dst text nums = (!(!(impl_NameOk.v n && (typeOkV t && decide (0 ≤ ttl ∧ ttl ≤ 100000)))) && (numsV t nums && (addrV t addr && (toV t dst && textV t text)))) := by
    unfold rrOkV
    cases impl_NameOk.v n <;> cases typeOkV t <;> cases decide (0 ≤ ttl ∧ ttl ≤ 100000) <;> cases numsV t nums <;> cases addrV t addr <;> cases toV t dst <;> cases textV t text <;> rfl
  rw [e]
  unfold impl_RrOk.f impl_NameOk.f
  simp only [Option.bind_some, implTypeOk t ht, implWithin]
  cases impl_NameOk.v n
  · simp only [Bool.false_eq_true, if_false, Bool.false_and, Bool.not_false]; exact rrOk_j0 ..
  cases typeOkV t
  · simp only [Bool.false_eq_true, if_false, if_true, Bool.false_and, Bool.true_and, Bool.not_false]; exact rrOk_j0 ..
  simp only [if_true, Bool.true_and]; exact rrOk_j0 ..
end Go.Proofs.Ytagedmajlppohaa.Pure

/- Plain lemmas on the printed functions that write names and records as bytes, and compare records. -/
namespace Go.Proofs.Ytagedmajlppohaa.Pure
open Go Go.RowKit Go.Proofs.Ytagedmajlppohaa.Q Go.Proofs.YtagedmajlppohaaW.PrintWords Go.Proofs.YtagedmajlppohaaW.PrintLast Go.Proofs.YtagedmajlppohaaW.PrintMore
set_option linter.unusedVariables false
set_option linter.unusedSimpArgs false

def fourV (a : Int) : List Int := [(a / 16777216) % 256, (a / 65536) % 256, (a / 256) % 256, a % 256]
theorem specPut32 (l : List Int) (a : Int) (hl : l.length ≤ 140737488355000) (ha : 0 ≤ a ∧ a ≤ 4294967295) : spec_Put32.f l a = some (l ++ fourV a) := by
  unfold spec_Put32.f
  simp only [Option.bind_some, List.length_nil, List.nil_append]
  rw [if_pos (by omega), if_neg (by omega), if_neg (by omega), if_pos (by simp; omega)]
  rfl
def twoV (a : Int) : List Int := [(a / 256) % 256, a % 256]
theorem specPut16 (l : List Int) (a : Int) (hl : l.length ≤ 140737488355000) (ha : 0 ≤ a ∧ a ≤ 65535) : spec_Put16.f l a = some (l ++ twoV a) := by
  unfold spec_Put16.f
  simp only [Option.bind_some, List.length_nil, List.nil_append]
  rw [if_pos (by omega), if_neg (by omega), if_neg (by omega), if_pos (by simp; omega)]
  rfl
theorem implFour (a : Int) : impl_four.f a = some (fourV a) := by
  unfold impl_four.f impl_two.f fourV
  simp only [Option.bind_some, List.length_cons, List.length_nil]
  rw [if_pos (by omega)]
  simp only [List.cons_append, List.nil_append]
  congr 2
  omega
def wireV (l : List (List Int)) : List Int := spec_l2put.w l ++ [0]
theorem w_len (l : List (List Int)) : (spec_l2put.w l).length = l.length + lens l := by
  induction l with
  | nil => simp [spec_l2put.w, lens]
  | cons x l ih => simp only [spec_l2put.w, List.length_cons, List.length_append, ih, lens, List.map_cons, List.sum_cons]; omega
theorem lens_le (l : List (List Int)) (m : Nat) (h : ∀ x ∈ l, x.length ≤ m) : lens l ≤ l.length * m := by
  induction l with
  | nil => simp [lens]
  | cons x l ih =>
    have h1 := h x (by simp)
    have h2 := ih (fun y hy => h y (by simp [hy]))
    simp only [lens, List.map_cons, List.sum_cons, List.length_cons, Nat.add_mul, Nat.one_mul] at h2 ⊢
    omega
theorem nameOk_len {l : List (List Int)} (h : impl_NameOk.v l = true) : l.length ≤ 6 ∧ ∀ x ∈ l, 1 ≤ x.length ∧ x.length ≤ 15 ∧ Bytes x := by
  unfold impl_NameOk.v at h
  rw [Bool.and_eq_true, decide_eq_true_iff, List.all_eq_true] at h
  refine ⟨h.1, fun x hx => ?_⟩
  have h2 := h.2 x hx
  unfold impl_LabelOk.v at h2
  simp only [Bool.and_eq_true, decide_eq_true_iff, List.all_eq_true] at h2
  refine ⟨by omega, by omega, fun y hy => ?_⟩
  have h3 := h2.2 y hy
  unfold impl_LabelOk.byte at h3
  simp at h3
  omega
theorem nameOk_w {l : List (List Int)} (h : impl_NameOk.v l = true) : (spec_l2put.w l).length ≤ 96 := by
  obtain ⟨h1, h2⟩ := nameOk_len h
  have := lens_le l 15 (fun x hx => (h2 x hx).2.1)
  rw [w_len]; omega
theorem specPut (b : List Int) (l : List (List Int)) (h : impl_NameOk.v l = true) (hb : b.length ≤ 140737488355000) : spec_l2put.f b l = some (b ++ wireV l) := by
  have := nameOk_w h
  unfold spec_l2put.f wireV
  rw [if_pos (by omega), List.append_assoc]
theorem implWire_l0 (l : List (List Int)) (hl : l.length + lens l ≤ 1048576) (m : Nat) : ∀ (i : Nat), l.length = i + m →
    Ev (fun k => impl_Name_wire.l0 k (spec_l2put.w (l.take i)) l (l.length : Int) i) (wireV l) := by
  induction m with
  | zero =>
    intro i hi
    refine Ev.step (f := fun _ => some (wireV l)) (fun k => ?_) (Ev.now _)
    have hw := spec_l2put.w_take l i
    rw [w_len l] at hw
    simp only [impl_Name_wire.l0]
    rw [if_neg (by omega), if_pos (by omega), List.take_of_length_le (by omega)]
    rfl
  | succ m ih =>
    intro i hi
    have hil : i < l.length := by omega
    have hw := spec_l2put.w_take l i
    have hw1 := spec_l2put.w_take l (i + 1)
    rw [w_len l] at hw hw1
    have e : spec_l2put.w (l.take (i + 1)) = spec_l2put.w (l.take i) ++ [(l[i].length : Int) % 256] ++ l[i] := by
      rw [List.take_succ_eq_append_getElem hil, spec_l2put.w_snoc]
    rw [e] at hw1
    simp only [List.length_append, List.length_singleton] at hw1
    refine Ev.step (fun k => ?_) (ih (i+1) (by omega))
    simp only [impl_Name_wire.l0, Option.bind_some]
    rw [if_pos (by omega), if_pos (by omega), if_pos (by omega), if_pos (by omega), rdL_at l i hil, if_pos (by simp only [List.length_append, List.length_singleton]; omega), w64 (by omega) (by omega), e]
    rfl
theorem implWire (l : List (List Int)) (hl : l.length + lens l ≤ 1048576) : Ev (fun k => impl_Name_wire.f k l) (wireV l) := by
  unfold impl_Name_wire.f
  simpa [spec_l2put.w] using implWire_l0 l hl l.length 0 (by omega)
theorem nameOk_sum {l : List (List Int)} (h : impl_NameOk.v l = true) : l.length + lens l ≤ 96 := by
  have := nameOk_w h
  rwa [w_len] at this
def dataV (t addr : Int) (dst : List (List Int)) (text nums : List Int) : List Int :=
  if t = 1 then fourV addr else if t = 6 then wireV dst ++ fourV (rd nums 0) ++ fourV (rd nums 1) else if namedV t = true then wireV dst else (text.length : Int) % 256 :: text
theorem rrOk_parts {n : List (List Int)} {t ttl addr : Int} {dst : List (List Int)} {text nums : List Int} (h : rrOkV n t ttl addr dst text nums = true) :
    impl_NameOk.v n = true ∧ typeOkV t = true ∧ (0 ≤ ttl ∧ ttl ≤ 100000) ∧ addrV t addr = true ∧ toV t dst = true ∧ textV t text = true ∧ numsV t nums = true := by
  unfold rrOkV at h
  simp only [Bool.and_eq_true, decide_eq_true_iff] at h
  exact h
theorem specL3put {n : List (List Int)} {t ttl addr : Int} {dst : List (List Int)} {text nums : List Int} (h : rrOkV n t ttl addr dst text nums = true) : spec_l3put.f n t ttl addr dst text nums = some (dataV t addr dst text nums) := by
  obtain ⟨_, _, _, ha, hd, ht, hn⟩ := rrOk_parts h
  unfold spec_l3put.f dataV
  by_cases h1 : t = 1
  · rw [if_pos h1, if_pos h1]
    unfold addrV at ha
    rw [if_pos h1, decide_eq_true_iff] at ha
    rw [specPut32 [] addr (by simp) ha]
    rfl
  rw [if_neg h1, if_neg h1]
  by_cases h6 : t = 6
  · rw [if_pos h6, if_pos h6]
    unfold toV namedV at hd
    rw [if_pos (by simp [h6])] at hd
    unfold numsV at hn
    rw [if_pos h6, decide_eq_true_iff] at hn
    have hw := nameOk_w hd
    rw [specPut [] dst hd (by simp), Option.bind_some, if_pos (by omega), List.nil_append, specPut32 _ _ (by simp only [wireV, List.length_append, List.length_singleton]; omega) hn.2.1, Option.bind_some, if_pos (by omega), specPut32 _ _ (by simp only [wireV, fourV, List.length_append, List.length_cons, List.length_nil]; omega) (by omega)]
    rfl
  rw [if_neg h6, if_neg h6, specNamed, Option.bind_some]
  by_cases hm : namedV t = true
  · rw [if_pos hm, if_pos hm]
    unfold toV at hd
    rw [if_pos hm] at hd
    rw [specPut [] dst hd (by simp)]
    rfl
  · rw [if_neg hm, if_neg hm]
    have hl : text.length ≤ 40 := by
      unfold textV at ht
      split at ht <;> rw [decide_eq_true_iff] at ht <;> omega
    rw [Option.bind_some, if_pos (by simp; omega)]
    rfl
theorem implData_none (b : List Int) : Ev (fun k => impl_Rr_data.l0 k b [] 0 0) b := by
  refine Ev.step (f := fun _ => some b) (fun k => ?_) (Ev.now _)
  simp only [impl_Rr_data.l0]
  rw [if_neg (by omega)]
theorem implData_two (b nums : List Int) (h : nums.length = 2) (hb : b.length ≤ 140737488355000) : Ev (fun k => impl_Rr_data.l0 k b nums (nums.length : Int) 0) (b ++ fourV (rd nums 0) ++ fourV (rd nums 1)) := by
  rw [show ((nums.length : Nat) : Int) = 2 by omega]
  have h0 : w64 (x := 0 + 1) (by omega) (by omega) = w64 (x := 0 + 1) (by omega) (by omega) := rfl
  refine Ev.step (f := fun k => impl_Rr_data.l0 k (b ++ fourV (rd nums 0)) nums 2 1) (fun k => ?_) ?_
  · simp only [impl_Rr_data.l0]
    rw [if_pos (by omega), if_pos (by omega), if_pos (by omega), implFour, Option.bind_some, if_pos (by simp only [fourV, List.length_cons, List.length_nil]; omega), w64 (by omega) (by omega)]
    rfl
  refine Ev.step (f := fun k => impl_Rr_data.l0 k (b ++ fourV (rd nums 0) ++ fourV (rd nums 1)) nums 2 2) (fun k => ?_) ?_
  · simp only [impl_Rr_data.l0]
    rw [if_pos (by omega), if_pos (by omega), if_pos (by omega), implFour, Option.bind_some, if_pos (by simp only [fourV, List.length_append, List.length_cons, List.length_nil]; omega), w64 (by omega) (by omega)]
    rfl
  refine Ev.step (f := fun _ => some (b ++ fourV (rd nums 0) ++ fourV (rd nums 1))) (fun k => ?_) (Ev.now _)
  simp only [impl_Rr_data.l0]
  rw [if_neg (by omega)]
theorem implData {n : List (List Int)} {t ttl addr : Int} {dst : List (List Int)} {text nums : List Int} (h : rrOkV n t ttl addr dst text nums = true) : Ev (fun k => impl_Rr_data.f k n t ttl addr dst text nums) (dataV t addr dst text nums) := by
  obtain ⟨_, _, _, ha, hd, ht, hn⟩ := rrOk_parts h
  unfold impl_Rr_data.f dataV
  by_cases h1 : t = 1
  · simp only [if_pos h1, implFour, Option.bind_some]
    exact Ev.now _
  simp only [if_neg h1, implNamed, Option.bind_some]
  by_cases hm : namedV t = true
  · simp only [if_pos hm]
    unfold toV at hd
    rw [if_pos hm] at hd
    have hs := nameOk_sum hd
    have hw := nameOk_w hd
    refine Ev.bind (implWire dst (by omega)) ?_
    unfold numsV at hn
    by_cases h6 : t = 6
    · simp only [if_pos h6]
      rw [if_pos h6, decide_eq_true_iff] at hn
      exact implData_two _ nums hn.1 (by simp only [wireV, List.length_append, List.length_singleton]; omega)
    · simp only [if_neg h6]
      rw [if_neg h6, decide_eq_true_iff] at hn
      have := List.eq_nil_of_length_eq_zero hn
      subst this
      exact implData_none _
  · have h6 : ¬ t = 6 := fun e => hm (by simp [namedV, e])
    simp only [if_neg hm, if_neg h6]
    have hl : text.length ≤ 40 := by
      unfold textV at ht
      split at ht <;> rw [decide_eq_true_iff] at ht <;> omega
    simp only [if_pos (show ([(text.length : Int) % 256] : List Int).length + text.length < 140737488355328 by simp; omega)]
    exact Ev.now _
end Go.Proofs.Ytagedmajlppohaa.Pure

/- Plain lemmas on the printed functions: rows of records read, measured, copied, compared, all right. -/
namespace Go.Proofs.Ytagedmajlppohaa.Pure
open Go Go.RowKit Go.Proofs.Ytagedmajlppohaa.Q Go.Proofs.YtagedmajlppohaaW.PrintWords Go.Proofs.YtagedmajlppohaaW.PrintLast Go.Proofs.YtagedmajlppohaaW.PrintMore
set_option linter.unusedVariables false
set_option linter.unusedSimpArgs false
abbrev RL := S28
abbrev RI := S33
def cvR (x : RL) : RI := ⟨⟨x.f0.f0⟩, x.f1, x.f2, x.f3, ⟨x.f4.f0⟩, x.f5, x.f6⟩
theorem rdRL (l : List RL) (i : Nat) (h : i < l.length) : rd_T28 l (i : Int) = l[i] := by simp [rd_T28, List.getD_eq_getElem?_getD, h]
theorem rdRI (l : List RI) (i : Nat) (h : i < l.length) : rd_T33 l (i : Int) = l[i] := by simp [rd_T33, List.getD_eq_getElem?_getD, h]
def RawR (x : RL) : Prop := RawN x.f0.f0 ∧ RawN x.f4.f0 ∧ x.f5.length ≤ 9223372036854775807 ∧ x.f6.length ≤ 9223372036854775807 ∧ -9223372036854775808 ≤ x.f1 ∧ x.f1 ≤ 9223372036854775807
def FitR (x : RI) : Prop := FitN x.f0.f0 ∧ FitN x.f4.f0 ∧ x.f5.length ≤ 1048576 ∧ x.f6.length ≤ 1048576
def I64R (x : RI) : Prop := -9223372036854775808 ≤ x.f1 ∧ x.f1 ≤ 9223372036854775807
theorem szRrS_l0 (l : List RL) (hl : l.length ≤ 1048576) (he : ∀ x ∈ l, RawR x) (m : Nat) : ∀ (i : Nat) (left : Int), l.length = i + m → 0 ≤ left → left ≤ 1048576 →
    ∃ u, Ev (fun k => laws_szRrS.l0 k l left i) u ∧ (u < 0 ∨ (0 ≤ u ∧ u ≤ left ∧ ∀ x ∈ l.drop i, FitR (cvR x))) := by
  induction m with
  | zero =>
    intro i left hi h0 h1
    refine ⟨left, Ev.step (f := fun _ => some left) (fun k => ?_) (Ev.now _), Or.inr ⟨h0, by omega, fun x hx => by rw [List.drop_of_length_le (by omega)] at hx; cases hx⟩⟩
    simp only [laws_szRrS.l0]
    rw [if_neg (by omega)]
  | succ m ih =>
    intro i left hi h0 h1
    have hil : i < l.length := by omega
    obtain ⟨r0, r4, r5, r6, _⟩ := he _ (List.getElem_mem hil)
    obtain ⟨t, ht, hc⟩ := szRr l[i].f0.f0 l[i].f1 l[i].f2 l[i].f3 l[i].f4.f0 l[i].f5 l[i].f6 left r0 r4 r5 r6 h0 h1
    by_cases hneg : t < 0
    · refine ⟨-1, Ev.step (f := fun k => (laws_szRr.f k l[i].f0.f0 l[i].f1 l[i].f2 l[i].f3 l[i].f4.f0 l[i].f5 l[i].f6 left).bind fun t102 => if t102 < 0 then some (-1) else laws_szRrS.l0 k l t102 (wrap64 ((i : Int) + 1))) (fun k => ?_) (Ev.bind ht (by simp only [if_pos hneg]; exact Ev.now _)), Or.inl (by omega)⟩
      simp only [laws_szRrS.l0]
      rw [if_pos (by omega), if_pos (by omega), rdRL l i hil]
    · obtain ⟨h2, h3, hf⟩ := hc.resolve_left hneg
      obtain ⟨u, hu, hcu⟩ := ih (i + 1) t (by omega) (by omega) (by omega)
      refine ⟨u, Ev.step (f := fun k => (laws_szRr.f k l[i].f0.f0 l[i].f1 l[i].f2 l[i].f3 l[i].f4.f0 l[i].f5 l[i].f6 left).bind fun t102 => if t102 < 0 then some (-1) else laws_szRrS.l0 k l t102 (wrap64 ((i : Int) + 1))) (fun k => ?_) (Ev.bind ht ?_), ?_⟩
      · simp only [laws_szRrS.l0]
        rw [if_pos (by omega), if_pos (by omega), rdRL l i hil]
      · simp only [if_neg hneg]
        rw [w64 (x := (i : Int) + 1) (by omega) (by omega)]
        exact hu
      · rcases hcu with h | ⟨h, h', hd⟩
        · exact Or.inl h
        · refine Or.inr ⟨h, by omega, fun x hx => ?_⟩
          rw [List.drop_eq_getElem_cons hil] at hx
          rcases List.mem_cons.1 hx with rfl | hx
          · exact hf
          · exact hd x hx
theorem szRrS (l : List RL) (left : Int) (hl : l.length ≤ 9223372036854775807) (he : ∀ x ∈ l, RawR x) (h0 : 0 ≤ left) (h1 : left ≤ 1048576) :
    ∃ u, Ev (fun k => laws_szRrS.f k l left) u ∧ (u < 0 ∨ (0 ≤ u ∧ u ≤ left ∧ l.length ≤ 1048576 ∧ ∀ x ∈ l, FitR (cvR x))) := by
  unfold laws_szRrS.f
  rw [w64 (by omega) (by omega)]
  by_cases h : left - (l.length : Int) < 0
  · exact ⟨-1, by simp only [if_pos h]; exact Ev.now _, Or.inl (by omega)⟩
  · obtain ⟨u, hu, hc⟩ := szRrS_l0 l (by omega) he l.length 0 (left - l.length) (by omega) (by omega) (by omega)
    refine ⟨u, by simp only [if_neg h]; exact hu, ?_⟩
    rcases hc with h2 | ⟨h2, h3, h4⟩
    · exact Or.inl h2
    · exact Or.inr ⟨h2, by omega, by omega, by rw [List.drop_zero] at h4; exact h4⟩
theorem setR_prefix {α : Type} (z : α) (l : List α) (i : Nat) (h : i < l.length) (m : Nat) :
    (l.take i ++ List.replicate (m + 1) z).set i l[i] = l.take (i + 1) ++ List.replicate m z := by
  rw [List.set_append_right _ _ (by simp; omega)]
  simp only [List.length_take, Nat.min_eq_left (Nat.le_of_lt h), Nat.sub_self, List.replicate_succ, List.set_cons_zero]
  rw [List.take_succ_eq_append_getElem h, List.append_assoc]
  simp
theorem toRrS_l0 (l : List RL) (hl : l.length ≤ 1048576) (he : ∀ x ∈ l, FitR (cvR x)) (m : Nat) : ∀ (i : Nat), l.length = i + m →
    Ev (fun k => laws_toRrS.l0 k l ((l.map cvR).take i ++ List.replicate m z33) i) (l.map cvR) := by
  induction m with
  | zero =>
    intro i hi
    refine Ev.step (f := fun _ => some (l.map cvR)) (fun k => ?_) (Ev.now _)
    simp only [laws_toRrS.l0]
    rw [if_neg (by omega), List.take_of_length_le (by simp; omega)]
    simp
  | succ m ih =>
    intro i hi
    have hil : i < l.length := by omega
    have hil' : i < (l.map cvR).length := by simpa using hil
    obtain ⟨f0, f4, f5, f6⟩ := he _ (List.getElem_mem hil)
    have ht := toRr l[i].f0.f0 l[i].f1 l[i].f2 l[i].f3 l[i].f4.f0 l[i].f5 l[i].f6 f0 f4 f5 f6
    have hs := setR_prefix z33 (l.map cvR) i hil' m
    have hlen : ((l.map cvR).take i ++ List.replicate (m + 1) z33).length = l.length := by simp; omega
    generalize (l.map cvR).take i ++ List.replicate (m + 1) z33 = L at hs hlen
    refine Ev.step (f := fun k => (laws_toRr.f k l[i].f0.f0 l[i].f1 l[i].f2 l[i].f3 l[i].f4.f0 l[i].f5 l[i].f6).bind fun b => if (i : Int) < (L.length : Int) then laws_toRrS.l0 k l (L.set ((i : Int)).toNat ⟨⟨b.1⟩, b.2.1, b.2.2.1, b.2.2.2.1, ⟨b.2.2.2.2.1⟩, b.2.2.2.2.2.1, b.2.2.2.2.2.2⟩) (wrap64 ((i : Int) + 1)) else none) (fun k => ?_) (Ev.bind ht ?_)
    · simp only [laws_toRrS.l0]
      rw [if_pos (by omega), if_pos (by omega), rdRL l i hil]
    · simp only [if_pos (show (i : Int) < (L.length : Int) by omega), show ((i : Int)).toNat = i by omega, w64 (x := (i : Int) + 1) (by omega) (by omega)]
      have e : (⟨⟨l[i].f0.f0⟩, l[i].f1, l[i].f2, l[i].f3, ⟨l[i].f4.f0⟩, l[i].f5, l[i].f6⟩ : RI) = (l.map cvR)[i] := by simp [cvR]
      rw [e, hs]
      exact ih (i + 1) (by omega)
theorem toRrS (l : List RL) (hl : l.length ≤ 1048576) (he : ∀ x ∈ l, FitR (cvR x)) : Ev (fun k => laws_toRrS.f k l) (l.map cvR) := by
  have h := toRrS_l0 l hl he l.length 0 (by omega)
  unfold laws_toRrS.f
  simp only [if_pos (show 0 ≤ (l.length : Int) by omega), show ((l.length : Int)).toNat = l.length by omega, if_pos (show l.length ≤ 2345624805922 by omega)]
  simpa using h
theorem eqRrS_l0 (l : List RI) (hl : l.length ≤ 1048576) (he : ∀ x ∈ l, FitR x) (m : Nat) : ∀ (i : Nat), l.length = i + m → Ev (fun k => laws_eqRrS.l0 k l l i) true := by
  induction m with
  | zero =>
    intro i hi
    refine Ev.step (f := fun _ => some true) (fun k => ?_) (Ev.now _)
    simp only [laws_eqRrS.l0]
    rw [if_neg (by omega)]
  | succ m ih =>
    intro i hi
    have hil : i < l.length := by omega
    obtain ⟨f0, f4, f5, f6⟩ := he _ (List.getElem_mem hil)
    have ht := eqRr l[i].f0.f0 l[i].f1 l[i].f2 l[i].f3 l[i].f4.f0 l[i].f5 l[i].f6 f0 f4 f5 f6
    refine Ev.step (f := fun k => (laws_eqRr.f k l[i].f0.f0 l[i].f1 l[i].f2 l[i].f3 l[i].f4.f0 l[i].f5 l[i].f6 l[i].f0.f0 l[i].f1 l[i].f2 l[i].f3 l[i].f4.f0 l[i].f5 l[i].f6).bind fun b => if b = true then laws_eqRrS.l0 k l l (wrap64 ((i : Int) + 1)) else some false) (fun k => ?_) (Ev.bind ht ?_)
    · simp only [laws_eqRrS.l0]
      rw [if_pos (by omega), if_pos (by omega), if_pos (by omega), rdRI l i hil]
    · simp only [if_true, w64 (x := (i : Int) + 1) (by omega) (by omega)]
      exact ih (i + 1) (by omega)
theorem eqRrS (l : List RI) (hl : l.length ≤ 1048576) (he : ∀ x ∈ l, FitR x) : Ev (fun k => laws_eqRrS.f k l l) true := by
  unfold laws_eqRrS.f
  simp only [if_true]
  exact eqRrS_l0 l hl he l.length 0 (by omega)
def okR (x : RI) : Bool := rrOkV x.f0.f0 x.f1 x.f2 x.f3 x.f4.f0 x.f5 x.f6
theorem idx_all (q : Nat → RI → Option Bool) (v : RI → Bool) : ∀ (l : List RI) (j : Nat), (∀ x ∈ l, Ev (fun k => q k x) (v x)) → ∃ r : Int, Ev (fun k => impl_Rr_223.idx (fun x => (q k x).map (fun b => !b)) l j) r ∧ (!decide (0 ≤ r)) = l.all v
  | [], j, _ => ⟨-1, Ev.here (fun _ => rfl), by simp⟩
  | x :: l, j, h => by
    have hx := h x List.mem_cons_self
    obtain ⟨r, hr, e⟩ := idx_all q v l (j + 1) (fun y hy => h y (List.mem_cons_of_mem _ hy))
    simp only [impl_Rr_223.idx, Option.bind_map]
    cases hv : v x with
    | true =>
      rw [hv] at hx
      refine ⟨r, Ev.bind hx ?_, by rw [e]; simp [hv]⟩
      simpa using hr
    | false =>
      rw [hv] at hx
      refine ⟨j, Ev.bind hx ?_, by simp [hv]⟩
      simpa using Ev.now _
theorem allOk (L : List RI) (ht : ∀ x ∈ L, I64R x) : Ev (fun k => impl_Rr_100.f k L) (L.all okR) := by
  obtain ⟨r, hr, e⟩ := idx_all (fun k x => impl_Rr_100.q k x) okR L 0 (fun x hx => implRrOk _ _ _ _ _ _ _ (ht x hx))
  unfold impl_Rr_100.f
  rw [← e]
  obtain ⟨n, hn⟩ := hr
  exact ⟨n, fun k hk => by have h := hn k hk; have h : impl_Rr_223.idx (fun x => (impl_Rr_100.q k x).map (fun b => !b)) L 0 = some r := h; show Option.map (fun r => !decide (0 ≤ r)) (impl_Rr_223.idx (fun x => (impl_Rr_100.q k x).map (fun b => !b)) L 0) = _; rw [h]; rfl⟩
end Go.Proofs.Ytagedmajlppohaa.Pure

/- Plain lemmas on the printed functions that read, measure and compare what an update asks for, and say whether it is right. -/
namespace Go.Proofs.Ytagedmajlppohaa.Pure
open Go Go.RowKit Go.Proofs.Ytagedmajlppohaa.Q Go.Proofs.YtagedmajlppohaaW.PrintWords Go.Proofs.YtagedmajlppohaaW.PrintLast Go.Proofs.YtagedmajlppohaaW.PrintMore
set_option linter.unusedVariables false
set_option linter.unusedSimpArgs false

def askedV (t : Int) : Bool := typeOkV t || t == 255
theorem specAsked (t : Int) : spec_l4asked.f t = some (askedV t) := by
  unfold spec_l4asked.f askedV
  rw [specTypeOk]
  cases typeOkV t <;> simp
theorem implAsked (t : Int) (ht : -9223372036854775808 ≤ t ∧ t ≤ 9223372036854775807) : impl_isAsked.f t = some (askedV t) := by
  unfold impl_isAsked.f askedV
  rw [implTypeOk t ht]
  cases typeOkV t <;> simp
def wantOkV (n : List (List Int)) (t ttl addr : Int) (dst : List (List Int)) (text nums : List Int) (cl : Int) (bare : Bool) : Bool :=
  if cl = 1 ∨ cl = 254 ∨ cl = 255 then
    (if bare = true then decide (cl ≠ 1) && (impl_NameOk.v n && (askedV t && (decide (ttl = 0) && (decide (addr = 0) && (decide (dst.length = 0) && (decide (text.length = 0) && decide (nums.length = 0)))))))
    else decide (cl ≠ 255) && (rrOkV n t ttl addr dst text nums && (decide (cl ≠ 254) || decide (ttl = 0))))
  else false
theorem specWantOk_j0 (x : Bool) (n : List (List Int)) (t ttl addr : Int) (dst : List (List Int)) (text nums : List Int) (cl : Int) (bare : Bool) (hn : FitN n) (hto : FitN dst) : Ev (fun k => spec_WantOk.j0 k x n t ttl addr dst text nums cl bare) (if x = true then false else if bare = true then decide (cl ≠ 1) && (impl_NameOk.v n && (askedV t && (decide (ttl = 0) && (decide (addr = 0) && (decide (dst.length = 0) && (decide (text.length = 0) && decide (nums.length = 0)))))))
    else decide (cl ≠ 255) && (rrOkV n t ttl addr dst text nums && (decide (cl ≠ 254) || decide (ttl = 0)))) := by
  cases x
  · simp only [Bool.false_eq_true, if_false]
    cases bare
    · refine Ev.step (f := fun k => (spec_RrOk.f k n t ttl addr dst text nums).bind fun u => some (decide (cl ≠ 255) && (u && (decide (cl ≠ 254) || decide (ttl = 0))))) (fun k => ?_) ?_
      · simp only [spec_WantOk.j0, Bool.false_eq_true, if_false]
        congr 1; funext u
        cases u
        · simp
        · by_cases h1 : cl = 254
          · subst h1; by_cases h2 : ttl = 0 <;> simp [h2]
          · by_cases h3 : cl = 255
            · subst h3; simp
            · simp [h1, h3]
      · simp only [Bool.false_eq_true, if_false]
        exact Ev.bind (specRrOk _ _ _ _ _ _ _ hn hto) (Ev.now _)
    · refine Ev.step (f := fun k => if cl = 1 then some false else (spec_NameOk.f k n).bind fun u => some (u && (askedV t && (decide (ttl = 0) && (decide (addr = 0) && (decide (dst.length = 0) && (decide (text.length = 0) && decide (nums.length = 0)))))))) (fun k => ?_) ?_
      · simp only [spec_WantOk.j0, Bool.false_eq_true, if_false, if_true]
        by_cases h : cl = 1
        · rw [if_pos h, if_pos h]
        rw [if_neg h, if_neg h]
        congr 1; funext u
        rw [specAsked]
        cases u
        · simp
        simp only [if_true, Option.bind_some, Bool.true_and]
        cases askedV t
        · simp
        by_cases b1 : ttl = 0
        · by_cases b2 : addr = 0
          · by_cases b3 : dst.length = 0
            · by_cases b4 : text.length = 0
              · rw [if_pos rfl, if_pos b1, if_pos b2, if_pos (by omega), if_pos (by omega)]
                simp only [b1, b2, b3, b4, decide_true, Bool.true_and]
                congr 1
                rw [Bool.eq_iff_iff, beq_iff_eq, decide_eq_true_iff]; omega
              · rw [if_pos rfl, if_pos b1, if_pos b2, if_pos (by omega), if_neg (by omega)]
                simp [b4]
            · rw [if_pos rfl, if_pos b1, if_pos b2, if_neg (by omega)]
              simp [b3]
          · rw [if_pos rfl, if_pos b1, if_neg b2]
            simp [b2]
        · rw [if_pos rfl, if_neg b1]
          simp [b1]
      · by_cases h : cl = 1
        · simp only [if_pos h, if_true]; rw [decide_eq_false (by omega), Bool.false_and]; exact Ev.now _
        · simp only [if_neg h, if_true]; rw [decide_eq_true h, Bool.true_and]
          exact Ev.bind (specNameOk n hn.1 hn.big) (Ev.now _)
  · refine Ev.step (f := fun _ => some false) (fun k => ?_) (Ev.now _)
    simp only [spec_WantOk.j0, if_true]
theorem specWantOk (n : List (List Int)) (t ttl addr : Int) (dst : List (List Int)) (text nums : List Int) (cl : Int) (bare : Bool) (hn : FitN n) (hto : FitN dst) : Ev (fun k => spec_WantOk.f k n t ttl addr dst text nums cl bare) (wantOkV n t ttl addr dst text nums cl bare) := by
  have e : ∀ x : Bool, x = decide (¬ (cl = 1 ∨ cl = 254 ∨ cl = 255)) → Ev (fun k => spec_WantOk.j0 k x n t ttl addr dst text nums cl bare) (wantOkV n t ttl addr dst text nums cl bare) := by
    intro x hx
    have := specWantOk_j0 x n t ttl addr dst text nums cl bare hn hto
    unfold wantOkV
    by_cases h : cl = 1 ∨ cl = 254 ∨ cl = 255
    · rw [if_pos h]; rw [decide_eq_false (fun h2 => h2 h)] at hx; subst hx; simpa only [Bool.false_eq_true, if_false] using this
    · rw [if_neg h]; rw [decide_eq_true h] at hx; subst hx; simpa only [if_true] using this
  unfold spec_WantOk.f
  by_cases h1 : cl = 1
  · simp only [if_pos h1]; exact e _ (by simp [h1])
  simp only [if_neg h1]
  by_cases h2 : cl = 254
  · simp only [if_pos h2]; exact e _ (by simp [h2])
  simp only [if_neg h2]; exact e _ (by simp [h1, h2]; rw [Bool.eq_iff_iff]; simp)
theorem implWantOk_j0 (x : Bool) (n : List (List Int)) (t ttl addr : Int) (dst : List (List Int)) (text nums : List Int) (cl : Int) (bare : Bool) (ht : -9223372036854775808 ≤ t ∧ t ≤ 9223372036854775807) (hcl : cl = 1 ∨ cl = 254 ∨ cl = 255 ∨ x = true) : Ev (fun k => impl_WantOk.j0 k x n t ttl addr dst text nums cl bare n t ttl addr dst text nums) (if x = true then false else if bare = true then decide (cl ≠ 1) && (impl_NameOk.v n && (askedV t && (decide (ttl = 0) && (decide (addr = 0) && (decide (dst.length = 0) && (decide (text.length = 0) && decide (nums.length = 0)))))))
    else decide (cl ≠ 255) && (rrOkV n t ttl addr dst text nums && (decide (cl ≠ 254) || decide (ttl = 0)))) := by
  cases x
  · simp only [Bool.false_eq_true, if_false]
    cases bare
    · refine Ev.step (f := fun k => if cl = 255 then some false else (impl_RrOk.f k n t ttl addr dst text nums).bind fun u => some (u && (decide (cl ≠ 254) || decide (ttl = 0)))) (fun k => ?_) ?_
      · simp only [impl_WantOk.j0, Bool.false_eq_true, if_false]
        by_cases h : cl = 255
        · rw [if_pos h, if_pos h]
        rw [if_neg h, if_neg h]
        congr 1; funext u
        cases u
        · simp
        · by_cases h1 : cl = 1
          · subst h1; simp
          · have h3 : cl = 254 := by simp at hcl; omega
            subst h3; simp
            rw [Bool.eq_iff_iff]; simp
      · by_cases h : cl = 255
        · simp only [if_pos h, Bool.false_eq_true, if_false]; rw [decide_eq_false (by omega), Bool.false_and]; exact Ev.now _
        · simp only [if_neg h, Bool.false_eq_true, if_false]; rw [decide_eq_true h, Bool.true_and]
          exact Ev.bind (implRrOk _ _ _ _ _ _ _ ht) (Ev.now _)
    · refine Ev.step (f := fun k => if cl = 1 then some false else some (impl_NameOk.v n && (askedV t && (decide (ttl = 0) && (decide (addr = 0) && (decide (dst.length = 0) && (decide (text.length = 0) && decide (nums.length = 0)))))))) (fun k => ?_) ?_
      · simp only [impl_WantOk.j0, Bool.false_eq_true, if_false, if_true]
        by_cases h : cl = 1
        · rw [if_pos h, if_pos h]
        rw [if_neg h, if_neg h]
        unfold impl_NameOk.f
        rw [implAsked t ht, Option.bind_some]
        cases impl_NameOk.v n
        · simp
        simp only [if_true, Option.bind_some, Bool.true_and]
        cases askedV t
        · simp
        by_cases b1 : ttl = 0
        · by_cases b2 : addr = 0
          · by_cases b3 : dst.length = 0
            · by_cases b4 : text.length = 0
              · rw [if_pos rfl, if_pos b1, if_pos b2, if_pos (by omega), if_pos (by omega)]
                simp only [b1, b2, b3, b4, decide_true, Bool.true_and]
                congr 1
                rw [Bool.eq_iff_iff, beq_iff_eq, decide_eq_true_iff]; omega
              · rw [if_pos rfl, if_pos b1, if_pos b2, if_pos (by omega), if_neg (by omega)]
                simp [b4]
            · rw [if_pos rfl, if_pos b1, if_pos b2, if_neg (by omega)]
              simp [b3]
          · rw [if_pos rfl, if_pos b1, if_neg b2]
            simp [b2]
        · rw [if_pos rfl, if_neg b1]
          simp [b1]
      · by_cases h : cl = 1
        · simp only [if_pos h, if_true]; rw [decide_eq_false (by omega), Bool.false_and]; exact Ev.now _
        · simp only [if_neg h, if_true]; rw [decide_eq_true h, Bool.true_and]
          exact Ev.now _
  · refine Ev.step (f := fun _ => some false) (fun k => ?_) (Ev.now _)
    simp only [impl_WantOk.j0, if_true]
theorem implWantOk (n : List (List Int)) (t ttl addr : Int) (dst : List (List Int)) (text nums : List Int) (cl : Int) (bare : Bool) (ht : -9223372036854775808 ≤ t ∧ t ≤ 9223372036854775807) : Ev (fun k => impl_WantOk.f k n t ttl addr dst text nums cl bare) (wantOkV n t ttl addr dst text nums cl bare) := by
  have e : ∀ x : Bool, x = decide (¬ (cl = 1 ∨ cl = 254 ∨ cl = 255)) → Ev (fun k => impl_WantOk.j0 k x n t ttl addr dst text nums cl bare n t ttl addr dst text nums) (wantOkV n t ttl addr dst text nums cl bare) := by
    intro x hx
    have := implWantOk_j0 x n t ttl addr dst text nums cl bare ht (by
      by_cases h : cl = 1 ∨ cl = 254 ∨ cl = 255
      · omega
      · rw [decide_eq_true h] at hx; simp [hx])
    unfold wantOkV
    by_cases h : cl = 1 ∨ cl = 254 ∨ cl = 255
    · rw [if_pos h]; rw [decide_eq_false (fun h2 => h2 h)] at hx; subst hx; simpa only [Bool.false_eq_true, if_false] using this
    · rw [if_neg h]; rw [decide_eq_true h] at hx; subst hx; simpa only [if_true] using this
  unfold impl_WantOk.f
  by_cases h1 : cl = 1
  · simp only [if_pos h1]; exact e _ (by simp [h1])
  simp only [if_neg h1]
  by_cases h2 : cl = 254
  · simp only [if_pos h2]; exact e _ (by simp [h2])
  simp only [if_neg h2]; exact e _ (by simp [h1, h2]; rw [Bool.eq_iff_iff]; simp)
theorem szWant (n : List (List Int)) (t ttl addr : Int) (dst : List (List Int)) (text nums : List Int) (cl : Int) (bare : Bool) (left : Int) (hn : RawN n) (hto : RawN dst) (ht : text.length ≤ 9223372036854775807) (hnu : nums.length ≤ 9223372036854775807) (h0 : 0 ≤ left) (h1 : left ≤ 1048576) :
    ∃ u, Ev (fun k => laws_szWant.f k n t ttl addr dst text nums cl bare left) u ∧ (u < 0 ∨ (0 ≤ u ∧ u ≤ left ∧ FitN n ∧ FitN dst ∧ text.length ≤ 1048576 ∧ nums.length ≤ 1048576)) := by
  unfold laws_szWant.f
  obtain ⟨a, ha, hca⟩ := szRr n t ttl addr dst text nums left hn hto ht hnu h0 h1
  by_cases h : a < 0
  · exact ⟨-1, Ev.bind ha (by simp only [if_pos h]; exact Ev.now _), Or.inl (by omega)⟩
  · exact ⟨a, Ev.bind ha (by simp only [if_neg h]; exact Ev.now _), hca⟩
theorem toWant (n : List (List Int)) (t ttl addr : Int) (dst : List (List Int)) (text nums : List Int) (cl : Int) (bare : Bool) (hn : FitN n) (hto : FitN dst) (ht : text.length ≤ 1048576) (hnu : nums.length ≤ 1048576) :
    Ev (fun k => laws_toWant.f k n t ttl addr dst text nums cl bare) (n, t, ttl, addr, dst, text, nums, cl, bare) := by
  unfold laws_toWant.f
  exact Ev.bind (toRr n t ttl addr dst text nums hn hto ht hnu) (Ev.now _)
theorem eqWant (n : List (List Int)) (t ttl addr : Int) (dst : List (List Int)) (text nums : List Int) (cl : Int) (bare : Bool) (hn : FitN n) (hto : FitN dst) (ht : text.length ≤ 1048576) (hnu : nums.length ≤ 1048576) :
    Ev (fun k => laws_eqWant.f k n t ttl addr dst text nums cl bare n t ttl addr dst text nums cl bare) true := by
  unfold laws_eqWant.f
  refine Ev.bind (eqRr n t ttl addr dst text nums hn hto ht hnu) ?_
  simp only [if_true, bne_self_eq_false, Bool.false_eq_true, if_false]
  exact Ev.now _
end Go.Proofs.Ytagedmajlppohaa.Pure

/- Plain lemmas on the printed functions: rows of wants and of questions read, measured, copied, compared. -/
namespace Go.Proofs.Ytagedmajlppohaa.Pure
open Go Go.RowKit Go.Proofs.Ytagedmajlppohaa.Q Go.Proofs.YtagedmajlppohaaW.PrintWords Go.Proofs.YtagedmajlppohaaW.PrintLast Go.Proofs.YtagedmajlppohaaW.PrintMore
set_option linter.unusedVariables false
set_option linter.unusedSimpArgs false
abbrev WL := S198
abbrev WI := S205
theorem rdWL (l : List WL) (i : Nat) (h : i < l.length) : rd_T198 l (i : Int) = l[i] := by simp [rd_T198, List.getD_eq_getElem?_getD, h]
theorem rdWI (l : List WI) (i : Nat) (h : i < l.length) : rd_T205 l (i : Int) = l[i] := by simp [rd_T205, List.getD_eq_getElem?_getD, h]
def cvW (x : WL) : WI := ⟨cvR x.f0, x.f1, x.f2⟩
def RawW (x : WL) : Prop := RawR x.f0
def FitW (x : WI) : Prop := FitR x.f0
def I64W (x : WI) : Prop := I64R x.f0
theorem szWantS_l0 (l : List WL) (hl : l.length ≤ 1048576) (he : ∀ x ∈ l, RawW x) (m : Nat) : ∀ (i : Nat) (left : Int), l.length = i + m → 0 ≤ left → left ≤ 1048576 →
    ∃ u, Ev (fun k => laws_szWantS.l0 k l left i) u ∧ (u < 0 ∨ (0 ≤ u ∧ u ≤ left ∧ ∀ x ∈ l.drop i, FitW (cvW x))) := by
  induction m with
  | zero =>
    intro i left hi h0 h1
    refine ⟨left, Ev.step (f := fun _ => some left) (fun k => ?_) (Ev.now _), Or.inr ⟨h0, by omega, fun x hx => by rw [List.drop_of_length_le (by omega)] at hx; cases hx⟩⟩
    simp only [laws_szWantS.l0]
    rw [if_neg (by omega)]
  | succ m ih =>
    intro i left hi h0 h1
    have hil : i < l.length := by omega
    obtain ⟨r0, r4, r5, r6, _⟩ := he _ (List.getElem_mem hil)
    obtain ⟨t, ht, hc⟩ := szWant l[i].f0.f0.f0 l[i].f0.f1 l[i].f0.f2 l[i].f0.f3 l[i].f0.f4.f0 l[i].f0.f5 l[i].f0.f6 l[i].f1 l[i].f2 left r0 r4 r5 r6 h0 h1
    by_cases hneg : t < 0
    · refine ⟨-1, Ev.step (f := fun k => (laws_szWant.f k l[i].f0.f0.f0 l[i].f0.f1 l[i].f0.f2 l[i].f0.f3 l[i].f0.f4.f0 l[i].f0.f5 l[i].f0.f6 l[i].f1 l[i].f2 left).bind fun t102 => if t102 < 0 then some (-1) else laws_szWantS.l0 k l t102 (wrap64 ((i : Int) + 1))) (fun k => ?_) (Ev.bind ht (by simp only [if_pos hneg]; exact Ev.now _)), Or.inl (by omega)⟩
      simp only [laws_szWantS.l0]
      rw [if_pos (by omega), if_pos (by omega), rdWL l i hil]
    · obtain ⟨h2, h3, hf⟩ := hc.resolve_left hneg
      obtain ⟨u, hu, hcu⟩ := ih (i + 1) t (by omega) (by omega) (by omega)
      refine ⟨u, Ev.step (f := fun k => (laws_szWant.f k l[i].f0.f0.f0 l[i].f0.f1 l[i].f0.f2 l[i].f0.f3 l[i].f0.f4.f0 l[i].f0.f5 l[i].f0.f6 l[i].f1 l[i].f2 left).bind fun t102 => if t102 < 0 then some (-1) else laws_szWantS.l0 k l t102 (wrap64 ((i : Int) + 1))) (fun k => ?_) (Ev.bind ht ?_), ?_⟩
      · simp only [laws_szWantS.l0]
        rw [if_pos (by omega), if_pos (by omega), rdWL l i hil]
      · simp only [if_neg hneg]
        rw [w64 (x := (i : Int) + 1) (by omega) (by omega)]
        exact hu
      · rcases hcu with h | ⟨h, h', hd⟩
        · exact Or.inl h
        · refine Or.inr ⟨h, by omega, fun x hx => ?_⟩
          rw [List.drop_eq_getElem_cons hil] at hx
          rcases List.mem_cons.1 hx with rfl | hx
          · exact hf
          · exact hd x hx
theorem szWantS (l : List WL) (left : Int) (hl : l.length ≤ 9223372036854775807) (he : ∀ x ∈ l, RawW x) (h0 : 0 ≤ left) (h1 : left ≤ 1048576) :
    ∃ u, Ev (fun k => laws_szWantS.f k l left) u ∧ (u < 0 ∨ (0 ≤ u ∧ u ≤ left ∧ l.length ≤ 1048576 ∧ ∀ x ∈ l, FitW (cvW x))) := by
  unfold laws_szWantS.f
  rw [w64 (by omega) (by omega)]
  by_cases h : left - (l.length : Int) < 0
  · exact ⟨-1, by simp only [if_pos h]; exact Ev.now _, Or.inl (by omega)⟩
  · obtain ⟨u, hu, hc⟩ := szWantS_l0 l (by omega) he l.length 0 (left - l.length) (by omega) (by omega) (by omega)
    refine ⟨u, by simp only [if_neg h]; exact hu, ?_⟩
    rcases hc with h2 | ⟨h2, h3, h4⟩
    · exact Or.inl h2
    · exact Or.inr ⟨h2, by omega, by omega, by rw [List.drop_zero] at h4; exact h4⟩
theorem toWantS_l0 (l : List WL) (hl : l.length ≤ 1048576) (he : ∀ x ∈ l, FitW (cvW x)) (m : Nat) : ∀ (i : Nat), l.length = i + m →
    Ev (fun k => laws_toWantS.l0 k l ((l.map cvW).take i ++ List.replicate m z205) i) (l.map cvW) := by
  induction m with
  | zero =>
    intro i hi
    refine Ev.step (f := fun _ => some (l.map cvW)) (fun k => ?_) (Ev.now _)
    simp only [laws_toWantS.l0]
    rw [if_neg (by omega), List.take_of_length_le (by simp; omega)]
    simp
  | succ m ih =>
    intro i hi
    have hil : i < l.length := by omega
    have hil' : i < (l.map cvW).length := by simpa using hil
    obtain ⟨f0, f4, f5, f6⟩ := he _ (List.getElem_mem hil)
    have ht := toWant l[i].f0.f0.f0 l[i].f0.f1 l[i].f0.f2 l[i].f0.f3 l[i].f0.f4.f0 l[i].f0.f5 l[i].f0.f6 l[i].f1 l[i].f2 f0 f4 f5 f6
    have hs := setR_prefix z205 (l.map cvW) i hil' m
    have hlen : ((l.map cvW).take i ++ List.replicate (m + 1) z205).length = l.length := by simp; omega
    generalize (l.map cvW).take i ++ List.replicate (m + 1) z205 = L at hs hlen
    refine Ev.step (f := fun k => (laws_toWant.f k l[i].f0.f0.f0 l[i].f0.f1 l[i].f0.f2 l[i].f0.f3 l[i].f0.f4.f0 l[i].f0.f5 l[i].f0.f6 l[i].f1 l[i].f2).bind fun b => if (i : Int) < (L.length : Int) then laws_toWantS.l0 k l (L.set ((i : Int)).toNat ⟨⟨⟨b.1⟩, b.2.1, b.2.2.1, b.2.2.2.1, ⟨b.2.2.2.2.1⟩, b.2.2.2.2.2.1, b.2.2.2.2.2.2.1⟩, b.2.2.2.2.2.2.2.1, b.2.2.2.2.2.2.2.2⟩) (wrap64 ((i : Int) + 1)) else none) (fun k => ?_) (Ev.bind ht ?_)
    · simp only [laws_toWantS.l0]
      rw [if_pos (by omega), if_pos (by omega), rdWL l i hil]
    · simp only [if_pos (show (i : Int) < (L.length : Int) by omega), show ((i : Int)).toNat = i by omega, w64 (x := (i : Int) + 1) (by omega) (by omega)]
      have e : (⟨⟨⟨l[i].f0.f0.f0⟩, l[i].f0.f1, l[i].f0.f2, l[i].f0.f3, ⟨l[i].f0.f4.f0⟩, l[i].f0.f5, l[i].f0.f6⟩, l[i].f1, l[i].f2⟩ : WI) = (l.map cvW)[i] := by simp [cvW, cvR]
      rw [e, hs]
      exact ih (i + 1) (by omega)
theorem toWantS (l : List WL) (hl : l.length ≤ 1048576) (he : ∀ x ∈ l, FitW (cvW x)) : Ev (fun k => laws_toWantS.f k l) (l.map cvW) := by
  have h := toWantS_l0 l hl he l.length 0 (by omega)
  unfold laws_toWantS.f
  simp only [if_pos (show 0 ≤ (l.length : Int) by omega), show ((l.length : Int)).toNat = l.length by omega, if_pos (show l.length ≤ 2069668946401 by omega)]
  simpa using h
theorem eqWantS_l0 (l : List WI) (hl : l.length ≤ 1048576) (he : ∀ x ∈ l, FitW x) (m : Nat) : ∀ (i : Nat), l.length = i + m → Ev (fun k => laws_eqWantS.l0 k l l i) true := by
  induction m with
  | zero =>
    intro i hi
    refine Ev.step (f := fun _ => some true) (fun k => ?_) (Ev.now _)
    simp only [laws_eqWantS.l0]
    rw [if_neg (by omega)]
  | succ m ih =>
    intro i hi
    have hil : i < l.length := by omega
    obtain ⟨f0, f4, f5, f6⟩ := he _ (List.getElem_mem hil)
    have ht := eqWant l[i].f0.f0.f0 l[i].f0.f1 l[i].f0.f2 l[i].f0.f3 l[i].f0.f4.f0 l[i].f0.f5 l[i].f0.f6 l[i].f1 l[i].f2 f0 f4 f5 f6
    refine Ev.step (f := fun k => (laws_eqWant.f k l[i].f0.f0.f0 l[i].f0.f1 l[i].f0.f2 l[i].f0.f3 l[i].f0.f4.f0 l[i].f0.f5 l[i].f0.f6 l[i].f1 l[i].f2 l[i].f0.f0.f0 l[i].f0.f1 l[i].f0.f2 l[i].f0.f3 l[i].f0.f4.f0 l[i].f0.f5 l[i].f0.f6 l[i].f1 l[i].f2).bind fun b => if b = true then laws_eqWantS.l0 k l l (wrap64 ((i : Int) + 1)) else some false) (fun k => ?_) (Ev.bind ht ?_)
    · simp only [laws_eqWantS.l0]
      rw [if_pos (by omega), if_pos (by omega), if_pos (by omega), rdWI l i hil]
    · simp only [if_true, w64 (x := (i : Int) + 1) (by omega) (by omega)]
      exact ih (i + 1) (by omega)
theorem eqWantS (l : List WI) (hl : l.length ≤ 1048576) (he : ∀ x ∈ l, FitW x) : Ev (fun k => laws_eqWantS.f k l l) true := by
  unfold laws_eqWantS.f
  simp only [if_true]
  exact eqWantS_l0 l hl he l.length 0 (by omega)
def okW (x : WI) : Bool := wantOkV x.f0.f0.f0 x.f0.f1 x.f0.f2 x.f0.f3 x.f0.f4.f0 x.f0.f5 x.f0.f6 x.f1 x.f2
theorem idx_allW (q : Nat → WI → Option Bool) (v : WI → Bool) : ∀ (l : List WI) (j : Nat), (∀ x ∈ l, Ev (fun k => q k x) (v x)) → ∃ r : Int, Ev (fun k => impl_Want_239.idx (fun x => (q k x).map (fun b => !b)) l j) r ∧ (!decide (0 ≤ r)) = l.all v
  | [], j, _ => ⟨-1, Ev.here (fun _ => rfl), by simp⟩
  | x :: l, j, h => by
    have hx := h x List.mem_cons_self
    obtain ⟨r, hr, e⟩ := idx_allW q v l (j + 1) (fun y hy => h y (List.mem_cons_of_mem _ hy))
    simp only [impl_Want_239.idx, Option.bind_map]
    cases hv : v x with
    | true =>
      rw [hv] at hx
      refine ⟨r, Ev.bind hx ?_, by rw [e]; simp [hv]⟩
      simpa using hr
    | false =>
      rw [hv] at hx
      refine ⟨j, Ev.bind hx ?_, by simp [hv]⟩
      simpa using Ev.now _
theorem allOkW (L : List WI) (ht : ∀ x ∈ L, I64W x) : Ev (fun k => impl_Want_226.f k L) (L.all okW) := by
  obtain ⟨r, hr, e⟩ := idx_allW (fun k x => impl_Want_226.q k x) okW L 0 (fun x hx => implWantOk _ _ _ _ _ _ _ _ _ (ht x hx))
  unfold impl_Want_226.f
  rw [← e]
  obtain ⟨n, hn⟩ := hr
  exact ⟨n, fun k hk => by have h := hn k hk; have h : impl_Want_239.idx (fun x => (impl_Want_226.q k x).map (fun b => !b)) L 0 = some r := h; show Option.map (fun r => !decide (0 ≤ r)) (impl_Want_239.idx (fun x => (impl_Want_226.q k x).map (fun b => !b)) L 0) = _; rw [h]; rfl⟩
--@if laws_szQuestion.f
abbrev QL := S195
abbrev QI := S200
theorem rdQL (l : List QL) (i : Nat) (h : i < l.length) : rd_T195 l (i : Int) = l[i] := by simp [rd_T195, List.getD_eq_getElem?_getD, h]
theorem rdQI (l : List QI) (i : Nat) (h : i < l.length) : rd_T200 l (i : Int) = l[i] := by simp [rd_T200, List.getD_eq_getElem?_getD, h]
def cvQ (x : QL) : QI := ⟨⟨x.f0.f0⟩, x.f1⟩
def RawQ (x : QL) : Prop := RawN x.f0.f0 ∧ -9223372036854775808 ≤ x.f1 ∧ x.f1 ≤ 9223372036854775807
def FitQ (x : QI) : Prop := FitN x.f0.f0
def I64Q (x : QI) : Prop := -9223372036854775808 ≤ x.f1 ∧ x.f1 ≤ 9223372036854775807
theorem szQuestion (n : List (List Int)) (t : Int) (left : Int) (hn : RawN n) (h0 : 0 ≤ left) (h1 : left ≤ 1048576) :
    ∃ u, Ev (fun k => laws_szQuestion.f k n t left) u ∧ (u < 0 ∨ (0 ≤ u ∧ u ≤ left ∧ FitN n)) := by
  unfold laws_szQuestion.f
  obtain ⟨a, ha, hca⟩ := szName' n left hn h0 h1
  by_cases h : a < 0
  · exact ⟨-1, Ev.bind ha (by simp only [if_pos h]; exact Ev.now _), Or.inl (by omega)⟩
  · exact ⟨a, Ev.bind ha (by simp only [if_neg h]; exact Ev.now _), hca⟩
theorem toQuestion (n : List (List Int)) (t : Int) (hn : FitN n) : Ev (fun k => laws_toQuestion.f k n t) (n, t) := by
  unfold laws_toQuestion.f
  exact Ev.bind (toName' n hn) (Ev.now _)
theorem eqQuestion (n : List (List Int)) (t : Int) (hn : FitN n) : Ev (fun k => laws_eqQuestion.f k n t n t) true := by
  unfold laws_eqQuestion.f
  refine Ev.bind (eqName' n hn) ?_
  simp only [if_true]
  exact Ev.now _
theorem szQuestionS_l0 (l : List QL) (hl : l.length ≤ 1048576) (he : ∀ x ∈ l, RawQ x) (m : Nat) : ∀ (i : Nat) (left : Int), l.length = i + m → 0 ≤ left → left ≤ 1048576 →
    ∃ u, Ev (fun k => laws_szQuestionS.l0 k l left i) u ∧ (u < 0 ∨ (0 ≤ u ∧ u ≤ left ∧ ∀ x ∈ l.drop i, FitQ (cvQ x))) := by
  induction m with
  | zero =>
    intro i left hi h0 h1
    refine ⟨left, Ev.step (f := fun _ => some left) (fun k => ?_) (Ev.now _), Or.inr ⟨h0, by omega, fun x hx => by rw [List.drop_of_length_le (by omega)] at hx; cases hx⟩⟩
    simp only [laws_szQuestionS.l0]
    rw [if_neg (by omega)]
  | succ m ih =>
    intro i left hi h0 h1
    have hil : i < l.length := by omega
    obtain ⟨r0, _⟩ := he _ (List.getElem_mem hil)
    obtain ⟨t, ht, hc⟩ := szQuestion l[i].f0.f0 l[i].f1 left r0 h0 h1
    by_cases hneg : t < 0
    · refine ⟨-1, Ev.step (f := fun k => (laws_szQuestion.f k l[i].f0.f0 l[i].f1 left).bind fun t102 => if t102 < 0 then some (-1) else laws_szQuestionS.l0 k l t102 (wrap64 ((i : Int) + 1))) (fun k => ?_) (Ev.bind ht (by simp only [if_pos hneg]; exact Ev.now _)), Or.inl (by omega)⟩
      simp only [laws_szQuestionS.l0]
      rw [if_pos (by omega), if_pos (by omega), rdQL l i hil]
    · obtain ⟨h2, h3, hf⟩ := hc.resolve_left hneg
      obtain ⟨u, hu, hcu⟩ := ih (i + 1) t (by omega) (by omega) (by omega)
      refine ⟨u, Ev.step (f := fun k => (laws_szQuestion.f k l[i].f0.f0 l[i].f1 left).bind fun t102 => if t102 < 0 then some (-1) else laws_szQuestionS.l0 k l t102 (wrap64 ((i : Int) + 1))) (fun k => ?_) (Ev.bind ht ?_), ?_⟩
      · simp only [laws_szQuestionS.l0]
        rw [if_pos (by omega), if_pos (by omega), rdQL l i hil]
      · simp only [if_neg hneg]
        rw [w64 (x := (i : Int) + 1) (by omega) (by omega)]
        exact hu
      · rcases hcu with h | ⟨h, h', hd⟩
        · exact Or.inl h
        · refine Or.inr ⟨h, by omega, fun x hx => ?_⟩
          rw [List.drop_eq_getElem_cons hil] at hx
          rcases List.mem_cons.1 hx with rfl | hx
          · exact hf
          · exact hd x hx
theorem szQuestionS (l : List QL) (left : Int) (hl : l.length ≤ 9223372036854775807) (he : ∀ x ∈ l, RawQ x) (h0 : 0 ≤ left) (h1 : left ≤ 1048576) :
    ∃ u, Ev (fun k => laws_szQuestionS.f k l left) u ∧ (u < 0 ∨ (0 ≤ u ∧ u ≤ left ∧ l.length ≤ 1048576 ∧ ∀ x ∈ l, FitQ (cvQ x))) := by
  unfold laws_szQuestionS.f
  rw [w64 (by omega) (by omega)]
  by_cases h : left - (l.length : Int) < 0
  · exact ⟨-1, by simp only [if_pos h]; exact Ev.now _, Or.inl (by omega)⟩
  · obtain ⟨u, hu, hc⟩ := szQuestionS_l0 l (by omega) he l.length 0 (left - l.length) (by omega) (by omega) (by omega)
    refine ⟨u, by simp only [if_neg h]; exact hu, ?_⟩
    rcases hc with h2 | ⟨h2, h3, h4⟩
    · exact Or.inl h2
    · exact Or.inr ⟨h2, by omega, by omega, by rw [List.drop_zero] at h4; exact h4⟩
theorem toQuestionS_l0 (l : List QL) (hl : l.length ≤ 1048576) (he : ∀ x ∈ l, FitQ (cvQ x)) (m : Nat) : ∀ (i : Nat), l.length = i + m →
    Ev (fun k => laws_toQuestionS.l0 k l ((l.map cvQ).take i ++ List.replicate m z200) i) (l.map cvQ) := by
  induction m with
  | zero =>
    intro i hi
    refine Ev.step (f := fun _ => some (l.map cvQ)) (fun k => ?_) (Ev.now _)
    simp only [laws_toQuestionS.l0]
    rw [if_neg (by omega), List.take_of_length_le (by simp; omega)]
    simp
  | succ m ih =>
    intro i hi
    have hil : i < l.length := by omega
    have hil' : i < (l.map cvQ).length := by simpa using hil
    have f0 : FitN l[i].f0.f0 := he _ (List.getElem_mem hil)
    have ht := toQuestion l[i].f0.f0 l[i].f1 f0
    have hs := setR_prefix z200 (l.map cvQ) i hil' m
    have hlen : ((l.map cvQ).take i ++ List.replicate (m + 1) z200).length = l.length := by simp; omega
    generalize (l.map cvQ).take i ++ List.replicate (m + 1) z200 = L at hs hlen
    refine Ev.step (f := fun k => (laws_toQuestion.f k l[i].f0.f0 l[i].f1).bind fun b => if (i : Int) < (L.length : Int) then laws_toQuestionS.l0 k l (L.set ((i : Int)).toNat ⟨⟨b.1⟩, b.2⟩) (wrap64 ((i : Int) + 1)) else none) (fun k => ?_) (Ev.bind ht ?_)
    · simp only [laws_toQuestionS.l0]
      rw [if_pos (by omega), if_pos (by omega), rdQL l i hil]
    · simp only [if_pos (show (i : Int) < (L.length : Int) by omega), show ((i : Int)).toNat = i by omega, w64 (x := (i : Int) + 1) (by omega) (by omega)]
      have e : (⟨⟨l[i].f0.f0⟩, l[i].f1⟩ : QI) = (l.map cvQ)[i] := by simp [cvQ]
      rw [e, hs]
      exact ih (i + 1) (by omega)
theorem toQuestionS (l : List QL) (hl : l.length ≤ 1048576) (he : ∀ x ∈ l, FitQ (cvQ x)) : Ev (fun k => laws_toQuestionS.f k l) (l.map cvQ) := by
  have h := toQuestionS_l0 l hl he l.length 0 (by omega)
  unfold laws_toQuestionS.f
  simp only [if_pos (show 0 ≤ (l.length : Int) by omega), show ((l.length : Int)).toNat = l.length by omega, if_pos (show l.length ≤ 8796093022208 by omega)]
  simpa using h
theorem eqQuestionS_l0 (l : List QI) (hl : l.length ≤ 1048576) (he : ∀ x ∈ l, FitQ x) (m : Nat) : ∀ (i : Nat), l.length = i + m → Ev (fun k => laws_eqQuestionS.l0 k l l i) true := by
  induction m with
  | zero =>
    intro i hi
    refine Ev.step (f := fun _ => some true) (fun k => ?_) (Ev.now _)
    simp only [laws_eqQuestionS.l0]
    rw [if_neg (by omega)]
  | succ m ih =>
    intro i hi
    have hil : i < l.length := by omega
    have f0 : FitN l[i].f0.f0 := he _ (List.getElem_mem hil)
    have ht := eqQuestion l[i].f0.f0 l[i].f1 f0
    refine Ev.step (f := fun k => (laws_eqQuestion.f k l[i].f0.f0 l[i].f1 l[i].f0.f0 l[i].f1).bind fun b => if b = true then laws_eqQuestionS.l0 k l l (wrap64 ((i : Int) + 1)) else some false) (fun k => ?_) (Ev.bind ht ?_)
    · simp only [laws_eqQuestionS.l0]
      rw [if_pos (by omega), if_pos (by omega), if_pos (by omega), rdQI l i hil]
    · simp only [if_true, w64 (x := (i : Int) + 1) (by omega) (by omega)]
      exact ih (i + 1) (by omega)
theorem eqQuestionS (l : List QI) (hl : l.length ≤ 1048576) (he : ∀ x ∈ l, FitQ x) : Ev (fun k => laws_eqQuestionS.f k l l) true := by
  unfold laws_eqQuestionS.f
  simp only [if_true]
  exact eqQuestionS_l0 l hl he l.length 0 (by omega)
end Go.Proofs.Ytagedmajlppohaa.Pure

/- Plain lemmas on the printed functions: a message is right; its bytes. -/
namespace Go.Proofs.Ytagedmajlppohaa.Pure
open Go Go.RowKit Go.Proofs.Ytagedmajlppohaa.Q Go.Proofs.YtagedmajlppohaaW.PrintWords Go.Proofs.YtagedmajlppohaaW.PrintLast Go.Proofs.YtagedmajlppohaaW.PrintMore
set_option linter.unusedVariables false
set_option linter.unusedSimpArgs false
/-! ### Bytes of records and wants -/
def recV (n : List (List Int)) (t cl ttl : Int) (d : List Int) : List Int := wireV n ++ twoV t ++ twoV cl ++ fourV ttl ++ twoV (d.length : Int) ++ d
def rrV (x : RI) : List Int := recV x.f0.f0 x.f1 1 x.f2 (dataV x.f1 x.f3 x.f4.f0 x.f5 x.f6)
def wantV (x : WI) : List Int := if x.f2 = true then recV x.f0.f0.f0 x.f0.f1 x.f1 0 [] else recV x.f0.f0.f0 x.f0.f1 x.f1 x.f0.f2 (dataV x.f0.f1 x.f0.f3 x.f0.f4.f0 x.f0.f5 x.f0.f6)
theorem ktype_in {t : Int} (h : typeOkV t = true) : 0 ≤ t ∧ t ≤ 65535 := by
  unfold typeOkV at h
  simp only [Bool.or_eq_true, beq_iff_eq] at h
  omega
theorem kasked_in {t : Int} (h : askedV t = true) : 0 ≤ t ∧ t ≤ 65535 := by
  unfold askedV at h
  simp only [Bool.or_eq_true, beq_iff_eq] at h
  rcases h with h | h
  · exact ktype_in h
  · omega
theorem kwire_len {n : List (List Int)} (h : impl_NameOk.v n = true) : (wireV n).length ≤ 97 := by
  have := nameOk_w h
  simp only [wireV, List.length_append, List.length_singleton]; omega
theorem kdata_len {n : List (List Int)} {t ttl addr : Int} {dst : List (List Int)} {text nums : List Int} (h : rrOkV n t ttl addr dst text nums = true) : (dataV t addr dst text nums).length ≤ 200 := by
  obtain ⟨_, _, _, _, hd, ht, _⟩ := rrOk_parts h
  unfold dataV
  by_cases h1 : t = 1
  · rw [if_pos h1]; simp [fourV]
  rw [if_neg h1]
  by_cases h6 : t = 6
  · rw [if_pos h6]
    unfold toV namedV at hd
    rw [if_pos (by simp [h6])] at hd
    have hw := nameOk_w hd
    simp only [wireV, fourV, List.length_append, List.length_cons, List.length_nil]; omega
  rw [if_neg h6]
  by_cases hm : namedV t = true
  · rw [if_pos hm]
    unfold toV at hd
    rw [if_pos hm] at hd
    have hw := nameOk_w hd
    simp only [wireV, List.length_append, List.length_cons, List.length_nil]; omega
  · rw [if_neg hm]
    unfold textV at ht
    have hl : text.length ≤ 40 := by split at ht <;> rw [decide_eq_true_iff] at ht <;> omega
    simp only [List.length_cons]; omega
theorem recV_len {n : List (List Int)} (t cl ttl : Int) {d : List Int} (h : impl_NameOk.v n = true) (hd : d.length ≤ 200) : (recV n t cl ttl d).length ≤ 400 := by
  have := kwire_len h
  simp only [recV, twoV, fourV, List.length_append, List.length_cons, List.length_nil]; omega
theorem rrV_len {x : RI} (h : okR x = true) : (rrV x).length ≤ 400 := recV_len _ _ _ (rrOk_parts h).1 (kdata_len h)
theorem wantOk_parts {x : WI} (h : okW x = true) : impl_NameOk.v x.f0.f0.f0 = true ∧ (0 ≤ x.f0.f1 ∧ x.f0.f1 ≤ 65535) ∧ (0 ≤ x.f1 ∧ x.f1 ≤ 65535) ∧ (x.f2 = false → rrOkV x.f0.f0.f0 x.f0.f1 x.f0.f2 x.f0.f3 x.f0.f4.f0 x.f0.f5 x.f0.f6 = true) := by
  unfold okW wantOkV at h
  by_cases hc : x.f1 = 1 ∨ x.f1 = 254 ∨ x.f1 = 255
  · rw [if_pos hc] at h
    cases hb : x.f2 with
    | true =>
      rw [hb, if_pos rfl] at h
      simp only [Bool.and_eq_true] at h
      exact ⟨h.2.1, kasked_in h.2.2.1, by omega, fun h' => by cases h'⟩
    | false =>
      rw [hb, if_neg (by decide)] at h
      simp only [Bool.and_eq_true] at h
      exact ⟨(rrOk_parts h.2.1).1, ktype_in (rrOk_parts h.2.1).2.1, by omega, fun _ => h.2.1⟩
  · rw [if_neg hc] at h; cases h
theorem wantV_len {x : WI} (h : okW x = true) : (wantV x).length ≤ 400 := by
  obtain ⟨hn, ht, hc, hr⟩ := wantOk_parts h
  unfold wantV
  cases hx : x.f2 with
  | true => exact recV_len _ _ _ hn (by simp)
  | false => exact recV_len _ _ _ hn (kdata_len (hr hx))
theorem specL3rrC (b : List Int) {n : List (List Int)} {t ttl addr : Int} {dst : List (List Int)} {text nums : List Int} (cl : Int) (h : rrOkV n t ttl addr dst text nums = true) (hcl : 0 ≤ cl ∧ cl ≤ 65535) (hb : b.length ≤ 1048576) :
    spec_l3rr.f b n t ttl addr dst text nums cl = some (b ++ recV n t cl ttl (dataV t addr dst text nums)) := by
  obtain ⟨hn, ht, hl, _⟩ := rrOk_parts h
  have ht := ktype_in ht
  have h1 := kdata_len h
  have h2 := kwire_len hn
  unfold spec_l3rr.f
  rw [specL3put h, Option.bind_some, specPut b n hn (by omega), Option.bind_some,
    specPut16 _ t (by simp only [List.length_append]; omega) ht, Option.bind_some,
    specPut16 _ cl (by simp only [twoV, List.length_append, List.length_cons, List.length_nil]; omega) hcl, Option.bind_some,
    specPut32 _ ttl (by simp only [twoV, List.length_append, List.length_cons, List.length_nil]; omega) (by omega), Option.bind_some,
    specPut16 _ _ (by simp only [twoV, fourV, List.length_append, List.length_cons, List.length_nil]; omega) (by omega), Option.bind_some,
    if_pos (by simp only [twoV, fourV, List.length_append, List.length_cons, List.length_nil]; omega)]
  simp only [recV, List.append_assoc]
theorem specWant (b : List Int) {x : WI} (h : okW x = true) (hb : b.length ≤ 1048576) : spec_l4want.f b x.f0.f0.f0 x.f0.f1 x.f0.f2 x.f0.f3 x.f0.f4.f0 x.f0.f5 x.f0.f6 x.f1 x.f2 = some (b ++ wantV x) := by
  obtain ⟨hn, ht, hc, hr⟩ := wantOk_parts h
  have h2 := kwire_len hn
  unfold spec_l4want.f wantV
  cases hx : x.f2 with
  | true =>
    rw [if_pos rfl, if_pos rfl, specPut b _ hn (by omega), Option.bind_some,
      specPut16 _ _ (by simp only [List.length_append]; omega) ht, Option.bind_some,
      specPut16 _ _ (by simp only [twoV, List.length_append, List.length_cons, List.length_nil]; omega) hc, Option.bind_some,
      specPut32 _ 0 (by simp only [twoV, List.length_append, List.length_cons, List.length_nil]; omega) (by omega), Option.bind_some,
      specPut16 _ 0 (by simp only [twoV, fourV, List.length_append, List.length_cons, List.length_nil]; omega) (by omega), Option.bind_some]
    simp [recV, List.append_assoc]
  | false =>
    rw [if_neg (by decide), if_neg (by decide), specL3rrC b x.f1 (hr hx) hc hb]
    rfl
theorem kconcat (l : List (List Int)) (h : slices_Concat_byte_byte.total l < 140737488355328) : slices_Concat_byte_byte.f l = some l.flatten := by
  unfold slices_Concat_byte_byte.f
  rw [if_pos h]
theorem implTwo (a : Int) : impl_two.f a = some (twoV a) := rfl
theorem implRec {n : List (List Int)} (t cl ttl : Int) {d : List Int} (hn : impl_NameOk.v n = true) (hd : d.length ≤ 200) : Ev (fun k => impl_recordBytes.f k n t cl ttl d) (recV n t cl ttl d) := by
  have h2 := kwire_len hn
  unfold impl_recordBytes.f
  refine Ev.bind (implWire n (by have := nameOk_sum hn; omega)) ?_
  simp only [implTwo, implFour, Option.bind_some]
  rw [show (fun k : Nat => (slices_Concat_byte_byte.f [wireV n, twoV t, twoV cl, fourV ttl, twoV (d.length : Int), d]).bind fun t120 => some t120) = fun _ => some (recV n t cl ttl d) from by
    funext k
    rw [kconcat _ (by simp only [slices_Concat_byte_byte.total, List.map_cons, List.map_nil, List.sum_cons, List.sum_nil, twoV, fourV, List.length_cons, List.length_nil]; omega)]
    simp [recV, List.append_assoc]]
  exact Ev.now _
theorem implRrWireV {x : RI} (h : okR x = true) : Ev (fun k => impl_Rr_wire.f k x.f0.f0 x.f1 x.f2 x.f3 x.f4.f0 x.f5 x.f6) (rrV x) := by
  unfold impl_Rr_wire.f
  exact Ev.bind (implData h) (Ev.bind (implRec _ _ _ (rrOk_parts h).1 (kdata_len h)) (Ev.now _))
theorem implWantWire {x : WI} (h : okW x = true) : Ev (fun k => impl_Want_wire.f k x.f0.f0.f0 x.f0.f1 x.f0.f2 x.f0.f3 x.f0.f4.f0 x.f0.f5 x.f0.f6 x.f1 x.f2) (wantV x) := by
  obtain ⟨hn, ht, hc, hr⟩ := wantOk_parts h
  unfold impl_Want_wire.f wantV
  cases hx : x.f2 with
  | true =>
    simp only [if_true]
    exact Ev.bind (implRec _ _ _ hn (by simp)) (Ev.now _)
  | false =>
    simp only [Bool.false_eq_true, if_false]
    exact Ev.bind (implData (hr hx)) (Ev.bind (implRec _ _ _ hn (kdata_len (hr hx))) (Ev.now _))
/-! ### Rows of them are right -/
def rrsV (L : List RI) : Bool := decide (L.length ≤ 12) && L.all okR
def wantsV (L : List WI) : Bool := decide (L.length ≤ 12) && L.all okW
theorem specRrs_l0 (L : List RI) (hl : L.length ≤ 12) (he : ∀ x ∈ L, FitR x) (m : Nat) : ∀ (i : Nat), L.length = i + m → Ev (fun k => spec_l4rrs.l0 k L i) ((L.drop i).all okR) := by
  induction m with
  | zero =>
    intro i hi
    refine Ev.step (f := fun _ => some ((L.drop i).all okR)) (fun k => ?_) (Ev.now _)
    simp only [spec_l4rrs.l0]
    rw [if_neg (by omega), List.drop_of_length_le (by omega)]
    rfl
  | succ m ih =>
    intro i hi
    have hil : i < L.length := by omega
    obtain ⟨f0, f4, f5, f6⟩ := he _ (List.getElem_mem hil)
    have ht := specRrOk L[i].f0.f0 L[i].f1 L[i].f2 L[i].f3 L[i].f4.f0 L[i].f5 L[i].f6 f0 f4
    refine Ev.step (f := fun k => (spec_RrOk.f k L[i].f0.f0 L[i].f1 L[i].f2 L[i].f3 L[i].f4.f0 L[i].f5 L[i].f6).bind fun t102 => if t102 = true then spec_l4rrs.l0 k L (wrap64 ((i : Int) + 1)) else some false) (fun k => ?_) (Ev.bind ht ?_)
    · simp only [spec_l4rrs.l0]
      rw [if_pos (by omega), if_pos (by omega), rdRI L i hil]
    · rw [List.drop_eq_getElem_cons hil, List.all_cons]
      rw [show okR L[i] = rrOkV L[i].f0.f0 L[i].f1 L[i].f2 L[i].f3 L[i].f4.f0 L[i].f5 L[i].f6 from rfl]
      cases rrOkV L[i].f0.f0 L[i].f1 L[i].f2 L[i].f3 L[i].f4.f0 L[i].f5 L[i].f6 with
      | true =>
        simp only [if_true, w64 (x := (i : Int) + 1) (by omega) (by omega), Bool.true_and]
        exact ih (i + 1) (by omega)
      | false => simp only [Bool.false_eq_true, if_false, Bool.false_and]; exact Ev.now _
theorem specRrs (L : List RI) (he : ∀ x ∈ L, FitR x) : Ev (fun k => spec_l4rrs.f k L) (rrsV L) := by
  unfold spec_l4rrs.f rrsV
  by_cases h : (L.length : Int) > 12
  · rw [decide_eq_false (by omega)]; simp only [if_pos h]; exact Ev.now _
  · rw [decide_eq_true (by omega)]; simp only [if_neg h]; exact specRrs_l0 L (by omega) he L.length 0 (by omega)
theorem specWants_l0 (L : List WI) (hl : L.length ≤ 12) (he : ∀ x ∈ L, FitW x) (m : Nat) : ∀ (i : Nat), L.length = i + m → Ev (fun k => spec_l4wants.l0 k L i) ((L.drop i).all okW) := by
  induction m with
  | zero =>
    intro i hi
    refine Ev.step (f := fun _ => some ((L.drop i).all okW)) (fun k => ?_) (Ev.now _)
    simp only [spec_l4wants.l0]
    rw [if_neg (by omega), List.drop_of_length_le (by omega)]
    rfl
  | succ m ih =>
    intro i hi
    have hil : i < L.length := by omega
    obtain ⟨f0, f4, f5, f6⟩ := (he _ (List.getElem_mem hil) : FitR _)
    have ht := specWantOk L[i].f0.f0.f0 L[i].f0.f1 L[i].f0.f2 L[i].f0.f3 L[i].f0.f4.f0 L[i].f0.f5 L[i].f0.f6 L[i].f1 L[i].f2 f0 f4
    refine Ev.step (f := fun k => (spec_WantOk.f k L[i].f0.f0.f0 L[i].f0.f1 L[i].f0.f2 L[i].f0.f3 L[i].f0.f4.f0 L[i].f0.f5 L[i].f0.f6 L[i].f1 L[i].f2).bind fun t102 => if t102 = true then spec_l4wants.l0 k L (wrap64 ((i : Int) + 1)) else some false) (fun k => ?_) (Ev.bind ht ?_)
    · simp only [spec_l4wants.l0]
      rw [if_pos (by omega), if_pos (by omega), rdWI L i hil]
    · rw [List.drop_eq_getElem_cons hil, List.all_cons]
      rw [show okW L[i] = wantOkV L[i].f0.f0.f0 L[i].f0.f1 L[i].f0.f2 L[i].f0.f3 L[i].f0.f4.f0 L[i].f0.f5 L[i].f0.f6 L[i].f1 L[i].f2 from rfl]
      cases wantOkV L[i].f0.f0.f0 L[i].f0.f1 L[i].f0.f2 L[i].f0.f3 L[i].f0.f4.f0 L[i].f0.f5 L[i].f0.f6 L[i].f1 L[i].f2 with
      | true =>
        simp only [if_true, w64 (x := (i : Int) + 1) (by omega) (by omega), Bool.true_and]
        exact ih (i + 1) (by omega)
      | false => simp only [Bool.false_eq_true, if_false, Bool.false_and]; exact Ev.now _
theorem specWants (L : List WI) (he : ∀ x ∈ L, FitW x) : Ev (fun k => spec_l4wants.f k L) (wantsV L) := by
  unfold spec_l4wants.f wantsV
  by_cases h : (L.length : Int) > 12
  · rw [decide_eq_false (by omega)]; simp only [if_pos h]; exact Ev.now _
  · rw [decide_eq_true (by omega)]; simp only [if_neg h]; exact specWants_l0 L (by omega) he L.length 0 (by omega)
theorem implRrs (L : List RI) (ht : ∀ x ∈ L, I64R x) : Ev (fun k => impl_areRrs.f k L) (rrsV L) := by
  unfold impl_areRrs.f rrsV
  by_cases h : (L.length : Int) ≤ 12
  · rw [decide_eq_true (by omega)]; simp only [if_pos h]; exact Ev.bind (allOk L ht) (Ev.now _)
  · rw [decide_eq_false (by omega)]; simp only [if_neg h]; exact Ev.now _
theorem implWants (L : List WI) (ht : ∀ x ∈ L, I64W x) : Ev (fun k => impl_areWants.f k L) (wantsV L) := by
  unfold impl_areWants.f wantsV
  by_cases h : (L.length : Int) ≤ 12
  · rw [decide_eq_true (by omega)]; simp only [if_pos h]; exact Ev.bind (allOkW L ht) (Ev.now _)
  · rw [decide_eq_false (by omega)]; simp only [if_neg h]; exact Ev.now _
end Go.Proofs.Ytagedmajlppohaa.Pure

/- Plain lemmas on the printed functions: a message is right but for its bytes; its bytes. -/
namespace Go.Proofs.Ytagedmajlppohaa.Pure
open Go Go.RowKit Go.Proofs.Ytagedmajlppohaa.Q Go.Proofs.YtagedmajlppohaaW.PrintWords Go.Proofs.YtagedmajlppohaaW.PrintLast Go.Proofs.YtagedmajlppohaaW.PrintMore
set_option linter.unusedVariables false
set_option linter.unusedSimpArgs false
def q0 (Q : List QI) : QI := rd_T200 Q 0
def opV (op : Int) (Q : List QI) (A N M : List RI) (P U : List WI) : Bool :=
  if op = 0 then decide (P.length = 0 ∧ U.length = 0) else if op = 5 then decide ((q0 Q).f1 = 6 ∧ A.length = 0 ∧ N.length = 0 ∧ M.length = 0) else false
def listsV (A N M : List RI) (P U : List WI) (r : Bool) : Bool := rrsV A && (rrsV N && (rrsV M && (wantsV P && (wantsV U && r))))
def shapedV (id op co : Int) (Q : List QI) (A N M : List RI) (P U : List WI) : Bool :=
  decide (0 ≤ id ∧ id ≤ 65535) && (decide (0 ≤ co ∧ co ≤ 10) && (decide (Q.length = 1) && (impl_NameOk.v (q0 Q).f0.f0 && (askedV (q0 Q).f1 && listsV A N M P U (opV op Q A N M P U)))))
section
variable (id op co : Int) (rp au : Bool) (Q : List QI) (A N M : List RI) (P U : List WI)
theorem may_j1 (b : Bool) (hop : b = true ∨ (op = 0 ∨ op = 5) ∧ Q.length = 1) : Ev (fun k => spec_l4may.j1 k b id rp op au co Q A N M P U) (!b && opV op Q A N M P U) := by
  cases b with
  | true =>
    refine Ev.step (f := fun _ => some false) (fun k => ?_) (Ev.now _)
    simp only [spec_l4may.j1, if_true]
  | false =>
    obtain ⟨h, hq⟩ := hop.resolve_left (by decide)
    refine Ev.step (f := fun _ => some (opV op Q A N M P U)) (fun k => ?_) (Ev.now _)
    simp only [spec_l4may.j1, Bool.false_eq_true, if_false]
    unfold opV
    by_cases h0 : op = 0
    · rw [if_pos h0, if_pos h0]
      by_cases h1 : (P.length : Int) = 0
      · rw [if_pos h1]; congr 1; rw [Bool.eq_iff_iff]; simp only [beq_iff_eq, decide_eq_true_iff]; omega
      · rw [if_neg h1, decide_eq_false (by omega)]
    · have h5 := h.resolve_left h0
      rw [if_neg h0, if_neg h0, if_pos h5, if_pos (by omega)]
      by_cases h6 : (q0 Q).f1 = 6
      · rw [if_pos (show (rd_T200 Q 0).f1 = 6 from h6)]
        by_cases h1 : (A.length : Int) = 0
        · rw [if_pos h1]
          by_cases h2 : (N.length : Int) = 0
          · rw [if_pos h2]; congr 1; rw [Bool.eq_iff_iff]; simp only [beq_iff_eq, decide_eq_true_iff]; omega
          · rw [if_neg h2, decide_eq_false (by omega)]
        · rw [if_neg h1, decide_eq_false (by omega)]
      · rw [if_neg (show ¬ (rd_T200 Q 0).f1 = 6 from h6), decide_eq_false (fun h => h6 h.1)]
theorem may_j0 (b : Bool) (hop : b = true ∨ (op = 0 ∨ op = 5) ∧ Q.length = 1) (hA : ∀ x ∈ A, FitR x) (hN : ∀ x ∈ N, FitR x) (hM : ∀ x ∈ M, FitR x) (hP : ∀ x ∈ P, FitW x) (hU : ∀ x ∈ U, FitW x) :
    Ev (fun k => spec_l4may.j0 k b id rp op au co Q A N M P U) (!b && listsV A N M P U (opV op Q A N M P U)) := by
  cases b with
  | true =>
    refine Ev.step (f := fun _ => some false) (fun k => ?_) (Ev.now _)
    simp only [spec_l4may.j0, if_true]
  | false =>
    have h := hop.resolve_left (by decide)
    have ht : Ev (fun k => spec_l4may.j1 k true id rp op au co Q A N M P U) false := may_j1 id op co rp au Q A N M P U true (Or.inl rfl)
    refine Ev.step (fun k => by simp only [spec_l4may.j0, Bool.false_eq_true, if_false]; rfl) ?_
    unfold listsV
    simp only [Bool.not_false, Bool.true_and]
    refine Ev.bind (specRrs A hA) ?_
    cases rrsV A with
    | false => simpa using ht
    | true =>
    simp only [if_true, Bool.true_and]
    refine Ev.bind (specRrs N hN) ?_
    cases rrsV N with
    | false => simpa using ht
    | true =>
    simp only [if_true, Bool.true_and]
    refine Ev.bind (specRrs M hM) ?_
    cases rrsV M with
    | false => simpa using ht
    | true =>
    simp only [if_true, Bool.true_and]
    refine Ev.bind (specWants P hP) ?_
    cases wantsV P with
    | false => simpa using ht
    | true =>
    simp only [if_true, Bool.true_and]
    refine Ev.bind (specWants U hU) ?_
    cases wantsV U with
    | false => simpa using ht
    | true => simpa using may_j1 id op co rp au Q A N M P U false (Or.inr h)
theorem specMay (hQ : ∀ x ∈ Q, FitQ x) (hA : ∀ x ∈ A, FitR x) (hN : ∀ x ∈ N, FitR x) (hM : ∀ x ∈ M, FitR x) (hP : ∀ x ∈ P, FitW x) (hU : ∀ x ∈ U, FitW x) :
    Ev (fun k => spec_l4may.f k id rp op au co Q A N M P U) (shapedV id op co Q A N M P U) := by
  have ht : Ev (fun k => spec_l4may.j0 k true id rp op au co Q A N M P U) false := may_j0 id op co rp au Q A N M P U true (Or.inl rfl) hA hN hM hP hU
  unfold spec_l4may.f
  by_cases h1 : id < 0
  · have e : shapedV id op co Q A N M P U = false := by unfold shapedV; rw [decide_eq_false (by omega)]; rfl
    rw [e]; simp only [if_pos h1]; exact ht
  simp only [if_neg h1]
  by_cases h2 : id > 65535
  · have e : shapedV id op co Q A N M P U = false := by unfold shapedV; rw [decide_eq_false (by omega)]; rfl
    rw [e]; simp only [if_pos h2]; exact ht
  simp only [if_neg h2]
  have key : ∀ (hop : op = 0 ∨ op = 5), Ev (fun k => if co < 0 then spec_l4may.j0 k true id rp op au co Q A N M P U else if co > 10 then spec_l4may.j0 k true id rp op au co Q A N M P U else if (Q.length : Int) = 1 then if 0 < (Q.length : Int) then (spec_NameOk.f k (rd_T200 Q 0).f0.f0).bind fun t103 => if t103 = true then (spec_l4asked.f (rd_T200 Q 0).f1).bind fun t105 => spec_l4may.j0 k (!t105) id rp op au co Q A N M P U else spec_l4may.j0 k true id rp op au co Q A N M P U else none else spec_l4may.j0 k true id rp op au co Q A N M P U) (shapedV id op co Q A N M P U) := by
    intro hop
    unfold shapedV
    rw [decide_eq_true (show 0 ≤ id ∧ id ≤ 65535 by omega), Bool.true_and]
    by_cases h3 : co < 0
    · rw [decide_eq_false (by omega)]; simp only [if_pos h3]; exact ht
    simp only [if_neg h3]
    by_cases h4 : co > 10
    · rw [decide_eq_false (by omega)]; simp only [if_pos h4]; exact ht
    simp only [if_neg h4]
    rw [decide_eq_true (show 0 ≤ co ∧ co ≤ 10 by omega), Bool.true_and]
    by_cases h5 : (Q.length : Int) = 1
    · have h5' : Q.length = 1 := by omega
      simp only [if_pos h5, if_pos (show (0 : Int) < (Q.length : Int) by omega)]
      rw [decide_eq_true h5', Bool.true_and]
      have hq : FitN (q0 Q).f0.f0 := by
        have e : q0 Q = Q[0]'(by omega) := rdQI Q 0 (by omega)
        rw [e]; exact hQ _ (List.getElem_mem _)
      refine Ev.bind (specNameOk (q0 Q).f0.f0 hq.1 hq.big) ?_
      cases impl_NameOk.v (q0 Q).f0.f0 with
      | false => simpa using ht
      | true =>
        simp only [if_true, Bool.true_and]
        rw [show (rd_T200 Q 0).f1 = (q0 Q).f1 from rfl]
        simp only [specAsked, Option.bind_some]
        cases askedV (q0 Q).f1 with
        | false => simpa using ht
        | true => simpa using may_j0 id op co rp au Q A N M P U false (Or.inr ⟨hop, h5'⟩) hA hN hM hP hU
    · rw [decide_eq_false (by omega)]; simp only [if_neg h5]; exact ht
  by_cases h0 : op = 0
  · simp only [if_pos h0]; exact key (Or.inl h0)
  simp only [if_neg h0]
  by_cases h5 : op = 5
  · simp only [if_pos h5]; exact key (Or.inr h5)
  · have e : shapedV id op co Q A N M P U = false := by
      unfold shapedV listsV opV
      rw [if_neg h0, if_neg h5]; simp
    rw [e]; simp only [if_neg h5]; exact ht
theorem shaped_j1 (b : Bool) (hq : b = true ∨ Q.length = 1 ∧ A.length ≤ 12 ∧ N.length ≤ 12 ∧ M.length ≤ 12 ∧ P.length ≤ 12 ∧ U.length ≤ 12) : Ev (fun k => impl_Msg_shaped.j1 k b id rp op au co Q A N M P U) (!b && opV op Q A N M P U) := by
  cases b with
  | true =>
    refine Ev.step (f := fun _ => some false) (fun k => ?_) (Ev.now _)
    simp only [impl_Msg_shaped.j1, if_true]
  | false =>
    obtain ⟨hq, hA, hN, hM, hP, hU⟩ := hq.resolve_left (by decide)
    refine Ev.step (f := fun _ => some (opV op Q A N M P U)) (fun k => ?_) (Ev.now _)
    simp only [impl_Msg_shaped.j1, Bool.false_eq_true, if_false]
    unfold opV
    by_cases h0 : op = 0
    · rw [if_pos h0, if_pos h0, w64 (by omega) (by omega)]; congr 1; rw [Bool.eq_iff_iff]; simp only [beq_iff_eq, decide_eq_true_iff]; omega
    · rw [if_neg h0, if_neg h0]
      by_cases h5 : op = 5
      · rw [if_pos h5, if_pos h5, if_pos (by omega)]
        by_cases h6 : (q0 Q).f1 = 6
        · rw [if_pos (show (rd_T200 Q 0).f1 = 6 from h6), w64 (x := (A.length : Int) + (N.length : Int)) (by omega) (by omega), w64 (by omega) (by omega)]; congr 1; rw [Bool.eq_iff_iff]; simp only [beq_iff_eq, decide_eq_true_iff]; omega
        · rw [if_neg (show ¬ (rd_T200 Q 0).f1 = 6 from h6), decide_eq_false (fun h => h6 h.1)]
      · rw [if_neg h5, if_neg h5]
theorem rrsV_len {L : List RI} (h : rrsV L = true) : L.length ≤ 12 := by unfold rrsV at h; simp only [Bool.and_eq_true, decide_eq_true_iff] at h; exact h.1
theorem wantsV_len {L : List WI} (h : wantsV L = true) : L.length ≤ 12 := by unfold wantsV at h; simp only [Bool.and_eq_true, decide_eq_true_iff] at h; exact h.1
theorem shaped_j0 (b : Bool) (hq : b = true ∨ Q.length = 1) (hA : ∀ x ∈ A, I64R x) (hN : ∀ x ∈ N, I64R x) (hM : ∀ x ∈ M, I64R x) (hP : ∀ x ∈ P, I64W x) (hU : ∀ x ∈ U, I64W x) :
    Ev (fun k => impl_Msg_shaped.j0 k b id rp op au co Q A N M P U) (!b && listsV A N M P U (opV op Q A N M P U)) := by
  cases b with
  | true =>
    refine Ev.step (f := fun _ => some false) (fun k => ?_) (Ev.now _)
    simp only [impl_Msg_shaped.j0, if_true]
  | false =>
    have h := hq.resolve_left (by decide)
    have ht : Ev (fun k => impl_Msg_shaped.j1 k true id rp op au co Q A N M P U) false := shaped_j1 id op co rp au Q A N M P U true (Or.inl rfl)
    refine Ev.step (fun k => by simp only [impl_Msg_shaped.j0, Bool.false_eq_true, if_false]; rfl) ?_
    unfold listsV
    simp only [Bool.not_false, Bool.true_and]
    refine Ev.bind (implRrs A hA) ?_
    cases eA : rrsV A with
    | false => simpa using ht
    | true =>
    simp only [if_true, Bool.true_and]
    refine Ev.bind (implRrs N hN) ?_
    cases eN : rrsV N with
    | false => simpa using ht
    | true =>
    simp only [if_true, Bool.true_and]
    refine Ev.bind (implRrs M hM) ?_
    cases eM : rrsV M with
    | false => simpa using ht
    | true =>
    simp only [if_true, Bool.true_and]
    refine Ev.bind (implWants P hP) ?_
    cases eP : wantsV P with
    | false => simpa using ht
    | true =>
    simp only [if_true, Bool.true_and]
    refine Ev.bind (implWants U hU) ?_
    cases eU : wantsV U with
    | false => simpa using ht
    | true => simpa using shaped_j1 id op co rp au Q A N M P U false (Or.inr ⟨h, rrsV_len eA, rrsV_len eN, rrsV_len eM, wantsV_len eP, wantsV_len eU⟩)
theorem implShaped (hQ : ∀ x ∈ Q, I64Q x) (hA : ∀ x ∈ A, I64R x) (hN : ∀ x ∈ N, I64R x) (hM : ∀ x ∈ M, I64R x) (hP : ∀ x ∈ P, I64W x) (hU : ∀ x ∈ U, I64W x) :
    Ev (fun k => impl_Msg_shaped.f k id rp op au co Q A N M P U) (shapedV id op co Q A N M P U) := by
  have ht : Ev (fun k => impl_Msg_shaped.j0 k true id rp op au co Q A N M P U) false := shaped_j0 id op co rp au Q A N M P U true (Or.inl rfl) hA hN hM hP hU
  unfold impl_Msg_shaped.f shapedV impl_isCode.f
  simp only [implWithin, Option.bind_some]
  cases decide (0 ≤ id ∧ id ≤ 65535) with
  | false => simpa using ht
  | true =>
  simp only [if_true, Bool.true_and]
  cases decide (0 ≤ co ∧ co ≤ 10) with
  | false => simpa using ht
  | true =>
  simp only [if_true, Bool.true_and]
  by_cases h5 : (Q.length : Int) = 1
  · have h5' : Q.length = 1 := by omega
    simp only [if_pos h5, if_pos (show (0 : Int) < (Q.length : Int) by omega)]
    rw [decide_eq_true h5', Bool.true_and]
    have hq : I64Q (q0 Q) := by
      have e : q0 Q = Q[0]'(by omega) := rdQI Q 0 (by omega)
      rw [e]; exact hQ _ (List.getElem_mem _)
    rw [show (rd_T200 Q 0) = q0 Q from rfl]
    simp only [show impl_NameOk.f (q0 Q).f0.f0 = some (impl_NameOk.v (q0 Q).f0.f0) from rfl, Option.bind_some]
    cases impl_NameOk.v (q0 Q).f0.f0 with
    | false => simpa using ht
    | true =>
      simp only [if_true, Bool.true_and, implAsked _ hq, Option.bind_some]
      cases askedV (q0 Q).f1 with
      | false => simpa using ht
      | true => simpa using shaped_j0 id op co rp au Q A N M P U false (Or.inr h5') hA hN hM hP hU
  · rw [decide_eq_false (by omega)]; simp only [if_neg h5]; exact ht
end
end Go.Proofs.Ytagedmajlppohaa.Pure

/- Plain lemmas on the printed functions: a message's bytes; it is right. -/
namespace Go.Proofs.Ytagedmajlppohaa.Pure
open Go Go.RowKit Go.Proofs.Ytagedmajlppohaa.Q Go.Proofs.YtagedmajlppohaaW.PrintWords Go.Proofs.YtagedmajlppohaaW.PrintLast Go.Proofs.YtagedmajlppohaaW.PrintMore
set_option linter.unusedVariables false
set_option linter.unusedSimpArgs false
def flV (op co : Int) (rp au : Bool) : Int := op * 2048 + co + (if rp = true then 32768 else 0) + (if au = true then 1024 else 0)
def rsV (L : List RI) : List Int := (L.map rrV).flatten
def wsV (L : List WI) : List Int := (L.map wantV).flatten
def headV (id op co : Int) (rp au : Bool) (A N M : List RI) (P U : List WI) : List Int :=
  twoV id ++ twoV (flV op co rp au) ++ twoV 1 ++ twoV ((A.length : Int) + (P.length : Int)) ++ twoV ((N.length : Int) + (U.length : Int)) ++ twoV (M.length : Int)
def msgV (id op co : Int) (rp au : Bool) (Q : List QI) (A N M : List RI) (P U : List WI) : List Int :=
  headV id op co rp au A N M P U ++ wireV (q0 Q).f0.f0 ++ twoV (q0 Q).f1 ++ twoV 1 ++ wsV P ++ wsV U ++ (rsV A ++ rsV N ++ rsV M)
theorem rsV_append (a b : List RI) : rsV (a ++ b) = rsV a ++ rsV b := by simp [rsV]
theorem rsV_drop (L : List RI) (i : Nat) (h : i < L.length) : rsV (L.drop i) = rrV L[i] ++ rsV (L.drop (i + 1)) := by unfold rsV; rw [List.drop_eq_getElem_cons h, List.map_cons, List.flatten_cons]
theorem wsV_drop (L : List WI) (i : Nat) (h : i < L.length) : wsV (L.drop i) = wantV L[i] ++ wsV (L.drop (i + 1)) := by unfold wsV; rw [List.drop_eq_getElem_cons h, List.map_cons, List.flatten_cons]
theorem rsV_nil (L : List RI) (i : Nat) (h : L.length ≤ i) : rsV (L.drop i) = [] := by rw [List.drop_of_length_le h]; rfl
theorem wsV_nil (L : List WI) (i : Nat) (h : L.length ≤ i) : wsV (L.drop i) = [] := by rw [List.drop_of_length_le h]; rfl
theorem shaped_parts {id op co : Int} {Q : List QI} {A N M : List RI} {P U : List WI} (h : shapedV id op co Q A N M P U = true) :
    (0 ≤ id ∧ id ≤ 65535) ∧ (0 ≤ co ∧ co ≤ 10) ∧ Q.length = 1 ∧ impl_NameOk.v (q0 Q).f0.f0 = true ∧ askedV (q0 Q).f1 = true ∧ (A.length ≤ 12 ∧ ∀ x ∈ A, okR x = true) ∧ (N.length ≤ 12 ∧ ∀ x ∈ N, okR x = true) ∧ (M.length ≤ 12 ∧ ∀ x ∈ M, okR x = true) ∧ (P.length ≤ 12 ∧ ∀ x ∈ P, okW x = true) ∧ (U.length ≤ 12 ∧ ∀ x ∈ U, okW x = true) ∧ (op = 0 ∧ P = [] ∧ U = [] ∨ op = 5 ∧ A = [] ∧ N = [] ∧ M = []) := by
  unfold shapedV listsV rrsV wantsV at h
  simp only [Bool.and_eq_true, decide_eq_true_iff, List.all_eq_true] at h
  obtain ⟨h1, h2, h3, h4, h5, h6, h7, h8, h9, h10, h11⟩ := h
  refine ⟨h1, h2, h3, h4, h5, h6, h7, h8, h9, h10, ?_⟩
  unfold opV at h11
  by_cases h0 : op = 0
  · rw [if_pos h0, decide_eq_true_iff] at h11
    exact Or.inl ⟨h0, List.length_eq_zero_iff.1 h11.1, List.length_eq_zero_iff.1 h11.2⟩
  · rw [if_neg h0] at h11
    by_cases h5 : op = 5
    · rw [if_pos h5, decide_eq_true_iff] at h11
      exact Or.inr ⟨h5, List.length_eq_zero_iff.1 h11.2.1, List.length_eq_zero_iff.1 h11.2.2.1, List.length_eq_zero_iff.1 h11.2.2.2⟩
    · rw [if_neg h5] at h11; cases h11
section
variable (id op co : Int) (rp au : Bool) (Q : List QI) (A N M : List RI) (P U : List WI)
/-! ### The reference -/
theorem specB_l2 (L : List RI) (hL : L.length ≤ 36) (hok : ∀ x ∈ L, okR x = true) (m : Nat) : ∀ (i : Nat) (acc : List Int), L.length = i + m → acc.length + 400 * m ≤ 1000000 → Ev (fun k => spec_l4bytes.l2 k acc L i) (acc ++ rsV (L.drop i)) := by
  induction m with
  | zero =>
    intro i acc hi hb
    refine Ev.step (f := fun _ => some (acc ++ rsV (L.drop i))) (fun k => ?_) (Ev.now _)
    simp only [spec_l4bytes.l2]
    rw [if_neg (by omega), rsV_nil L i (by omega), List.append_nil]
  | succ m ih =>
    intro i acc hi hb
    have hil : i < L.length := by omega
    have hx := hok _ (List.getElem_mem hil)
    have hlen := rrV_len hx
    refine Ev.step (f := fun k => spec_l4bytes.l2 k (acc ++ rrV L[i]) L (i + 1 : Nat)) (fun k => ?_) ?_
    · simp only [spec_l4bytes.l2]
      rw [if_pos (by omega), if_pos (by omega), rdRI L i hil, specL3rrC acc 1 hx (by omega) (by omega), Option.bind_some, w64 (by omega) (by omega)]
      rfl
    · rw [rsV_drop L i hil, ← List.append_assoc]
      exact ih (i + 1) _ (by omega) (by rw [List.length_append]; omega)
theorem specB_l1 (hA : A.length ≤ 12 ∧ ∀ x ∈ A, okR x = true) (hN : N.length ≤ 12 ∧ ∀ x ∈ N, okR x = true) (hM : M.length ≤ 12 ∧ ∀ x ∈ M, okR x = true) (hU : U.length ≤ 12 ∧ ∀ x ∈ U, okW x = true) (m : Nat) : ∀ (i : Nat) (acc : List Int), U.length = i + m → acc.length + 400 * m ≤ 900000 →
    Ev (fun k => spec_l4bytes.l1 k acc i id rp op au co Q A N M P U) (acc ++ wsV (U.drop i) ++ (rsV A ++ rsV N ++ rsV M)) := by
  induction m with
  | zero =>
    intro i acc hi hb
    have e := specB_l2 (A ++ N ++ M) (by simp only [List.length_append]; omega) (fun x hx => by
      simp only [List.mem_append] at hx
      rcases hx with (hx | hx) | hx
      · exact hA.2 x hx
      · exact hN.2 x hx
      · exact hM.2 x hx) (A ++ N ++ M).length 0 acc (by omega) (by simp only [List.length_append]; omega)
    rw [List.drop_zero, rsV_append, rsV_append] at e
    refine Ev.step (f := fun k => spec_l4bytes.l2 k acc (A ++ N ++ M) 0) (fun k => ?_) (by rw [wsV_nil U i (by omega), List.append_nil]; exact e)
    simp only [spec_l4bytes.l1, Option.bind_some, List.nil_append, List.length_nil]
    rw [if_neg (by omega), if_pos (by omega), if_pos (by omega), if_pos (by simp only [List.length_append]; omega)]
  | succ m ih =>
    intro i acc hi hb
    have hil : i < U.length := by omega
    have hx := hU.2 _ (List.getElem_mem hil)
    have hlen := wantV_len hx
    refine Ev.step (f := fun k => spec_l4bytes.l1 k (acc ++ wantV U[i]) (i + 1 : Nat) id rp op au co Q A N M P U) (fun k => ?_) ?_
    · simp only [spec_l4bytes.l1]
      rw [if_pos (by omega), if_pos (by omega), rdWI U i hil, specWant acc hx (by omega), Option.bind_some, w64 (by omega) (by omega)]
      rfl
    · rw [wsV_drop U i hil, ← List.append_assoc acc]
      exact ih (i + 1) _ (by omega) (by rw [List.length_append]; omega)
theorem specB_l0 (hA : A.length ≤ 12 ∧ ∀ x ∈ A, okR x = true) (hN : N.length ≤ 12 ∧ ∀ x ∈ N, okR x = true) (hM : M.length ≤ 12 ∧ ∀ x ∈ M, okR x = true) (hP : P.length ≤ 12 ∧ ∀ x ∈ P, okW x = true) (hU : U.length ≤ 12 ∧ ∀ x ∈ U, okW x = true) (m : Nat) : ∀ (i : Nat) (acc : List Int), P.length = i + m → acc.length + 400 * m ≤ 800000 →
    Ev (fun k => spec_l4bytes.l0 k acc i id rp op au co Q A N M P U) (acc ++ wsV (P.drop i) ++ wsV U ++ (rsV A ++ rsV N ++ rsV M)) := by
  induction m with
  | zero =>
    intro i acc hi hb
    have e := specB_l1 id op co rp au Q A N M P U hA hN hM hU U.length 0 acc (by omega) (by omega)
    rw [List.drop_zero] at e
    refine Ev.step (f := fun k => spec_l4bytes.l1 k acc 0 id rp op au co Q A N M P U) (fun k => ?_) (by rw [wsV_nil P i (by omega), List.append_nil]; exact e)
    simp only [spec_l4bytes.l0]
    rw [if_neg (by omega)]
  | succ m ih =>
    intro i acc hi hb
    have hil : i < P.length := by omega
    have hx := hP.2 _ (List.getElem_mem hil)
    have hlen := wantV_len hx
    refine Ev.step (f := fun k => spec_l4bytes.l0 k (acc ++ wantV P[i]) (i + 1 : Nat) id rp op au co Q A N M P U) (fun k => ?_) ?_
    · simp only [spec_l4bytes.l0]
      rw [if_pos (by omega), if_pos (by omega), rdWI P i hil, specWant acc hx (by omega), Option.bind_some, w64 (by omega) (by omega)]
      rfl
    · rw [wsV_drop P i hil, ← List.append_assoc acc]
      exact ih (i + 1) _ (by omega) (by rw [List.length_append]; omega)
theorem specBytes (h : shapedV id op co Q A N M P U = true) : Ev (fun k => spec_l4bytes.f k id rp op au co Q A N M P U) (msgV id op co rp au Q A N M P U) := by
  obtain ⟨hid, hco, hq, hn, ha, hA, hN, hM, hP, hU, hop⟩ := shaped_parts h
  have hw := kwire_len hn
  have hj2 : ∀ fl : Int, fl = flV op co rp au → ∀ a b : Int, a = (A.length : Int) + (P.length : Int) → b = (N.length : Int) + (U.length : Int) → Ev (fun k => spec_l4bytes.j2 k fl a b id rp op au co Q A N M P U) (msgV id op co rp au Q A N M P U) := by
    intro fl hfl a b e1 e2
    have hf : 0 ≤ fl ∧ fl ≤ 65535 := by
      rw [hfl]; unfold flV
      rcases hop with ⟨h0, _⟩ | ⟨h0, _⟩ <;> subst h0 <;> split <;> split <;> omega
    have e := specB_l0 id op co rp au Q A N M P U hA hN hM hP hU P.length 0 (headV id op co rp au A N M P U ++ wireV (q0 Q).f0.f0 ++ twoV (q0 Q).f1 ++ twoV 1) (by omega) (by simp only [headV, twoV, List.length_append, List.length_cons, List.length_nil]; omega)
    rw [List.drop_zero] at e
    refine Ev.step (f := fun k => spec_l4bytes.l0 k (headV id op co rp au A N M P U ++ wireV (q0 Q).f0.f0 ++ twoV (q0 Q).f1 ++ twoV 1) 0 id rp op au co Q A N M P U) (fun k => ?_) e
    simp only [spec_l4bytes.j2]
    rw [specPut16 _ id (by simp) hid, Option.bind_some, specPut16 _ fl (by simp [twoV]) hf, Option.bind_some, specPut16 _ 1 (by simp [twoV]) (by omega), Option.bind_some,
      specPut16 _ a (by simp [twoV]) (by omega), Option.bind_some, specPut16 _ b (by simp [twoV]) (by omega), Option.bind_some, specPut16 _ _ (by simp [twoV]) (by omega), Option.bind_some, if_pos (by omega),
      show rd_T200 Q 0 = q0 Q from rfl, specPut _ _ hn (by simp [twoV]), Option.bind_some,
      specPut16 _ _ (by simp only [twoV, List.length_append, List.length_cons, List.length_nil]; omega) (kasked_in ha), Option.bind_some,
      specPut16 _ 1 (by simp only [twoV, List.length_append, List.length_cons, List.length_nil]; omega) (by omega), Option.bind_some, hfl, e1, e2]
    simp only [headV, List.nil_append, List.append_assoc]
  have hj1 : ∀ fl : Int, fl = flV op co rp au → Ev (fun k => spec_l4bytes.j1 k fl id rp op au co Q A N M P U) (msgV id op co rp au Q A N M P U) := by
    intro fl hfl
    rcases hop with ⟨h0, h1, h2⟩ | ⟨h0, h1, h2, h3⟩
    · refine Ev.step (fun k => by simp only [spec_l4bytes.j1]; rw [if_neg (show ¬ op = 5 by omega)]) (hj2 fl hfl _ _ ?_ ?_)
      · rw [h1]; simp
      · rw [h2]; simp
    · refine Ev.step (fun k => by simp only [spec_l4bytes.j1]; rw [if_pos h0]) (hj2 fl hfl _ _ ?_ ?_)
      · rw [h1]; simp
      · rw [h2]; simp
  have hb : 0 ≤ op * 2048 + co ∧ op * 2048 + co ≤ 10250 := by
    rcases hop with ⟨h0, _⟩ | ⟨h0, _⟩ <;> omega
  have hj0 : ∀ fl : Int, fl = op * 2048 + co + (if rp = true then 32768 else 0) → Ev (fun k => spec_l4bytes.j0 k fl id rp op au co Q A N M P U) (msgV id op co rp au Q A N M P U) := by
    intro fl hfl
    have hr : 0 ≤ fl ∧ fl ≤ 43018 := by rw [hfl]; split <;> omega
    cases hau : au with
    | true =>
      refine Ev.step (fun k => by simp only [spec_l4bytes.j0, if_true]; rfl) ?_
      rw [← hau]
      exact hj1 _ (by rw [w64 (by omega) (by omega), hfl]; unfold flV; rw [if_pos hau])
    | false =>
      refine Ev.step (fun k => by simp only [spec_l4bytes.j0, Bool.false_eq_true, if_false]; rfl) ?_
      rw [← hau]
      exact hj1 _ (by rw [hfl]; unfold flV; rw [if_neg (show ¬ au = true by simp [hau]), Int.add_zero])
  unfold spec_l4bytes.f
  rw [w64 (x := op * 2048) (by omega) (by omega), w64 (x := op * 2048 + co) (by omega) (by omega), w64 (x := op * 2048 + co + 32768) (by omega) (by omega)]
  by_cases hrp : rp = true
  · simp only [if_pos hrp]; exact hj0 _ (by rw [if_pos hrp])
  · simp only [if_neg hrp]; exact hj0 _ (by rw [if_neg hrp, Int.add_zero])
/-! ### The program -/
theorem implB_l4 (Y : List (List RI)) (c j : Int) (X : List RI) (hX : X.length ≤ 12 ∧ ∀ x ∈ X, okR x = true) (R : List Int) (m : Nat) : ∀ (i : Nat) (acc : List Int), X.length = i + m → acc.length + 400 * m ≤ 1000000 →
    Ev (fun k => impl_Msg_wire.l3 k (acc ++ rsV (X.drop i)) Y c (wrap64 (j + 1))) R → Ev (fun k => impl_Msg_wire.l4 k acc Y c j X (X.length : Int) i) R := by
  induction m with
  | zero =>
    intro i acc hi hb hR
    rw [rsV_nil X i (by omega), List.append_nil] at hR
    refine Ev.step (fun k => ?_) hR
    simp only [impl_Msg_wire.l4]
    rw [if_neg (by omega)]
  | succ m ih =>
    intro i acc hi hb hR
    have hil : i < X.length := by omega
    have hx := hX.2 _ (List.getElem_mem hil)
    have hlen := rrV_len hx
    refine Ev.step (f := fun k => (impl_Rr_wire.f k X[i].f0.f0 X[i].f1 X[i].f2 X[i].f3 X[i].f4.f0 X[i].f5 X[i].f6).bind fun t => if acc.length + t.length < 140737488355328 then impl_Msg_wire.l4 k (acc ++ t) Y c j X (X.length : Int) (wrap64 ((i : Int) + 1)) else none) (fun k => ?_) (Ev.bind (implRrWireV hx) ?_)
    · simp only [impl_Msg_wire.l4]
      rw [if_pos (by omega), if_pos (by omega), if_pos (by omega), rdRI X i hil]
    · simp only [if_pos (show acc.length + (rrV X[i]).length < 140737488355328 by omega), w64 (x := (i : Int) + 1) (by omega) (by omega)]
      exact ih (i + 1) _ (by omega) (by rw [List.length_append]; omega) (by rw [List.append_assoc, ← rsV_drop X i hil]; exact hR)
theorem implB_l2 (Y : List (List WI)) (c j : Int) (X : List WI) (hX : X.length ≤ 12 ∧ ∀ x ∈ X, okW x = true) (R : List Int) (m : Nat) : ∀ (i : Nat) (acc : List Int), X.length = i + m → acc.length + 400 * m ≤ 1000000 →
    Ev (fun k => impl_Msg_wire.l1 k (acc ++ wsV (X.drop i)) Y c (wrap64 (j + 1)) id rp op au co Q A N M P U) R → Ev (fun k => impl_Msg_wire.l2 k acc Y c j X (X.length : Int) i id rp op au co Q A N M P U) R := by
  induction m with
  | zero =>
    intro i acc hi hb hR
    rw [wsV_nil X i (by omega), List.append_nil] at hR
    refine Ev.step (fun k => ?_) hR
    simp only [impl_Msg_wire.l2]
    rw [if_neg (by omega)]
  | succ m ih =>
    intro i acc hi hb hR
    have hil : i < X.length := by omega
    have hx := hX.2 _ (List.getElem_mem hil)
    have hlen := wantV_len hx
    refine Ev.step (f := fun k => (impl_Want_wire.f k X[i].f0.f0.f0 X[i].f0.f1 X[i].f0.f2 X[i].f0.f3 X[i].f0.f4.f0 X[i].f0.f5 X[i].f0.f6 X[i].f1 X[i].f2).bind fun t => if acc.length + t.length < 140737488355328 then impl_Msg_wire.l2 k (acc ++ t) Y c j X (X.length : Int) (wrap64 ((i : Int) + 1)) id rp op au co Q A N M P U else none) (fun k => ?_) (Ev.bind (implWantWire hx) ?_)
    · simp only [impl_Msg_wire.l2]
      rw [if_pos (by omega), if_pos (by omega), if_pos (by omega), rdWI X i hil]
    · simp only [if_pos (show acc.length + (wantV X[i]).length < 140737488355328 by omega), w64 (x := (i : Int) + 1) (by omega) (by omega)]
      exact ih (i + 1) _ (by omega) (by rw [List.length_append]; omega) (by rw [List.append_assoc, ← wsV_drop X i hil]; exact hR)
theorem rsV_le {X : List RI} (hX : X.length ≤ 12 ∧ ∀ x ∈ X, okR x = true) : (rsV X).length ≤ 4800 := by
  have : ∀ L : List RI, (∀ x ∈ L, okR x = true) → (rsV L).length ≤ 400 * L.length := by
    intro L
    induction L with
    | nil => intro _; simp [rsV]
    | cons x L ih =>
      intro h
      have h1 := rrV_len (h x List.mem_cons_self)
      have h2 := ih (fun y hy => h y (List.mem_cons_of_mem _ hy))
      simp only [rsV, List.map_cons, List.flatten_cons, List.length_append, List.length_cons] at h2 ⊢
      omega
  have := this X hX.2
  omega
theorem wsV_le {X : List WI} (hX : X.length ≤ 12 ∧ ∀ x ∈ X, okW x = true) : (wsV X).length ≤ 4800 := by
  have : ∀ L : List WI, (∀ x ∈ L, okW x = true) → (wsV L).length ≤ 400 * L.length := by
    intro L
    induction L with
    | nil => intro _; simp [wsV]
    | cons x L ih =>
      intro h
      have h1 := wantV_len (h x List.mem_cons_self)
      have h2 := ih (fun y hy => h y (List.mem_cons_of_mem _ hy))
      simp only [wsV, List.map_cons, List.flatten_cons, List.length_append, List.length_cons] at h2 ⊢
      omega
  have := this X hX.2
  omega
theorem implB_l3 (hA : A.length ≤ 12 ∧ ∀ x ∈ A, okR x = true) (hN : N.length ≤ 12 ∧ ∀ x ∈ N, okR x = true) (hM : M.length ≤ 12 ∧ ∀ x ∈ M, okR x = true) (acc : List Int) (hb : acc.length ≤ 100000) :
    Ev (fun k => impl_Msg_wire.l3 k acc [A, N, M] 3 0) (acc ++ (rsV A ++ rsV N ++ rsV M)) := by
  have a1 := rsV_le hA
  have a2 := rsV_le hN
  have a3 := rsV_le hM
  have step : ∀ (j : Nat) (X : List RI) (acc : List Int) (R : List Int), X.length ≤ 12 ∧ (∀ x ∈ X, okR x = true) → j < 3 → rd_L23 [A, N, M] (j : Int) = X → acc.length ≤ 200000 → Ev (fun k => impl_Msg_wire.l3 k (acc ++ rsV X) [A, N, M] 3 (j + 1 : Nat)) R → Ev (fun k => impl_Msg_wire.l3 k acc [A, N, M] 3 j) R := by
    intro j X acc R hX hj e hb hR
    refine Ev.step (f := fun k => impl_Msg_wire.l4 k acc [A, N, M] 3 j X (X.length : Int) 0) (fun k => ?_) (implB_l4 [A, N, M] 3 j X hX R X.length 0 acc (by omega) (by omega) (by rw [w64 (by omega) (by omega), List.drop_zero]; exact hR))
    simp only [impl_Msg_wire.l3]
    rw [if_pos (by omega), if_pos (by omega), if_pos (by simp only [List.length_cons, List.length_nil]; omega), e]
  refine step 0 A acc _ hA (by omega) rfl (by omega) (step 1 N _ _ hN (by omega) rfl (by rw [List.length_append]; omega) (step 2 M _ _ hM (by omega) rfl (by simp only [List.length_append]; omega) ?_))
  refine Ev.step (f := fun _ => some (acc ++ (rsV A ++ rsV N ++ rsV M))) (fun k => ?_) (Ev.now _)
  simp only [impl_Msg_wire.l3]
  rw [if_neg (by omega)]
  simp only [List.append_assoc]
theorem implB_l1 (hA : A.length ≤ 12 ∧ ∀ x ∈ A, okR x = true) (hN : N.length ≤ 12 ∧ ∀ x ∈ N, okR x = true) (hM : M.length ≤ 12 ∧ ∀ x ∈ M, okR x = true) (hP : P.length ≤ 12 ∧ ∀ x ∈ P, okW x = true) (hU : U.length ≤ 12 ∧ ∀ x ∈ U, okW x = true) (acc : List Int) (hb : acc.length ≤ 50000) :
    Ev (fun k => impl_Msg_wire.l1 k acc [P, U] 2 0 id rp op au co Q A N M P U) (acc ++ wsV P ++ wsV U ++ (rsV A ++ rsV N ++ rsV M)) := by
  have a1 := wsV_le hP
  have a2 := wsV_le hU
  have step : ∀ (j : Nat) (X : List WI) (acc : List Int) (R : List Int), X.length ≤ 12 ∧ (∀ x ∈ X, okW x = true) → j < 2 → rd_L43 [P, U] (j : Int) = X → acc.length ≤ 200000 → Ev (fun k => impl_Msg_wire.l1 k (acc ++ wsV X) [P, U] 2 (j + 1 : Nat) id rp op au co Q A N M P U) R → Ev (fun k => impl_Msg_wire.l1 k acc [P, U] 2 j id rp op au co Q A N M P U) R := by
    intro j X acc R hX hj e hb hR
    refine Ev.step (f := fun k => impl_Msg_wire.l2 k acc [P, U] 2 j X (X.length : Int) 0 id rp op au co Q A N M P U) (fun k => ?_) (implB_l2 id op co rp au Q A N M P U [P, U] 2 j X hX R X.length 0 acc (by omega) (by omega) (by rw [w64 (by omega) (by omega), List.drop_zero]; exact hR))
    simp only [impl_Msg_wire.l1]
    rw [if_pos (by omega), if_pos (by omega), if_pos (by simp only [List.length_cons, List.length_nil]; omega), e]
  refine step 0 P acc _ hP (by omega) rfl (by omega) (step 1 U _ _ hU (by omega) rfl (by rw [List.length_append]; omega) ?_)
  have e := implB_l3 A N M hA hN hM (acc ++ wsV P ++ wsV U) (by simp only [List.length_append]; omega)
  refine Ev.step (f := fun k => impl_Msg_wire.l3 k (acc ++ wsV P ++ wsV U) [A, N, M] 3 0) (fun k => ?_) e
  simp only [impl_Msg_wire.l1, Option.bind_some]
  rw [if_neg (by omega)]
  rfl
def endV (k : Nat) (acc : List Int) : Option (List Int) := if 0 < (Q.length : Int) then ((impl_Name_wire.f k ((rd_T200 Q 0).f0.f0)).bind fun t116 => ((impl_two.f ((rd_T200 Q 0).f1)).bind fun t120 => ((impl_two.f 1).bind fun t123 => ((slices_Concat_byte_byte.f (([acc, t116, t120, t123] : List (List Int)))).bind fun t129 => ((some (([P, U] : List (List WI)) : List (List WI))).bind fun y132 => (impl_Msg_wire.l1 k t129 y132 (y132.length : Int) 0 id rp op au co Q A N M P U)))))) else (none)
theorem implB_end (hq : Q.length = 1) (hn : impl_NameOk.v (q0 Q).f0.f0 = true) (hA : A.length ≤ 12 ∧ ∀ x ∈ A, okR x = true) (hN : N.length ≤ 12 ∧ ∀ x ∈ N, okR x = true) (hM : M.length ≤ 12 ∧ ∀ x ∈ M, okR x = true) (hP : P.length ≤ 12 ∧ ∀ x ∈ P, okW x = true) (hU : U.length ≤ 12 ∧ ∀ x ∈ U, okW x = true) (acc : List Int) (hb : acc.length ≤ 1000) :
    Ev (fun k => endV id op co rp au Q A N M P U k acc) (acc ++ wireV (q0 Q).f0.f0 ++ twoV (q0 Q).f1 ++ twoV 1 ++ wsV P ++ wsV U ++ (rsV A ++ rsV N ++ rsV M)) := by
  have hw := kwire_len hn
  unfold endV
  simp only [if_pos (show (0 : Int) < (Q.length : Int) by omega), show rd_T200 Q 0 = q0 Q from rfl]
  refine Ev.bind (implWire _ (by have := nameOk_sum hn; omega)) ?_
  simp only [implTwo, Option.bind_some]
  rw [show (fun k : Nat => (slices_Concat_byte_byte.f [acc, wireV (q0 Q).f0.f0, twoV (q0 Q).f1, twoV 1]).bind fun t129 => impl_Msg_wire.l1 k t129 [P, U] (([P, U] : List (List WI)).length : Int) 0 id rp op au co Q A N M P U) = fun k => impl_Msg_wire.l1 k (acc ++ wireV (q0 Q).f0.f0 ++ twoV (q0 Q).f1 ++ twoV 1) [P, U] 2 0 id rp op au co Q A N M P U from by
    funext k
    rw [kconcat _ (by simp only [slices_Concat_byte_byte.total, List.map_cons, List.map_nil, List.sum_cons, List.sum_nil, twoV, List.length_cons, List.length_nil]; omega), Option.bind_some]
    simp [List.append_assoc]]
  exact implB_l1 id op co rp au Q A N M P U hA hN hM hP hU _ (by simp only [twoV, List.length_append, List.length_cons, List.length_nil]; omega)
theorem implB_l0 (ys : List Int) (hy : ys.length = 6) (R : List Int) (hR : Ev (fun k => endV id op co rp au Q A N M P U k (ys.flatMap twoV)) R) (m : Nat) : ∀ (i : Nat), 6 = i + m →
    Ev (fun k => impl_Msg_wire.l0 k ((ys.take i).flatMap twoV) ys (ys.length : Int) i id rp op au co Q A N M P U) R := by
  induction m with
  | zero =>
    intro i hi
    refine Ev.step (fun k => ?_) hR
    simp only [impl_Msg_wire.l0]
    rw [if_neg (by omega), List.take_of_length_le (by omega)]
    rfl
  | succ m ih =>
    intro i hi
    have hil : i < ys.length := by omega
    have e : rd ys (i : Int) = ys[i] := by simp [rd, List.getD_eq_getElem?_getD, hil]
    have hl : ((ys.take i).flatMap twoV).length ≤ 100 := by
      have : ∀ L : List Int, (L.flatMap twoV).length = 2 * L.length := by
        intro L
        induction L with
        | nil => rfl
        | cons x L ih => rw [List.flatMap_cons, List.length_append, ih, List.length_cons]; simp only [twoV, List.length_cons, List.length_nil]; omega
      rw [this, List.length_take]; omega
    refine Ev.step (fun k => ?_) (ih (i + 1) (by omega))
    simp only [impl_Msg_wire.l0, implTwo, Option.bind_some]
    rw [if_pos (by omega), if_pos (by omega), if_pos (by omega), e, if_pos (by simp only [twoV, List.length_cons, List.length_nil]; omega), w64 (by omega) (by omega), List.take_succ_eq_append_getElem hil, List.flatMap_append]
    simp only [List.flatMap_cons, List.flatMap_nil, List.append_nil]
    rfl
theorem flagsOr (hop : op = 0 ∨ op = 5) (h0 : 0 ≤ co) (h1 : co ≤ 10) : Go.bits .or .i64 (wrap64 (op * 2048)) co = op * 2048 + co ∧ Go.bits .or .i64 (op * 2048 + co) 32768 = op * 2048 + co + 32768 ∧ Go.bits .or .i64 (op * 2048 + co) 1024 = op * 2048 + co + 1024 ∧ Go.bits .or .i64 (op * 2048 + co + 32768) 1024 = op * 2048 + co + 32768 + 1024 := by
  have : co = 0 ∨ co = 1 ∨ co = 2 ∨ co = 3 ∨ co = 4 ∨ co = 5 ∨ co = 6 ∨ co = 7 ∨ co = 8 ∨ co = 9 ∨ co = 10 := by omega
  rcases hop with rfl | rfl <;> rcases this with rfl | rfl | rfl | rfl | rfl | rfl | rfl | rfl | rfl | rfl | rfl <;> decide +kernel
theorem implBytes (h : shapedV id op co Q A N M P U = true) : Ev (fun k => impl_Msg_wire.f k id rp op au co Q A N M P U) (msgV id op co rp au Q A N M P U) := by
  obtain ⟨hid, hco, hq, hn, ha, hA, hN, hM, hP, hU, hop⟩ := shaped_parts h
  have hop' : op = 0 ∨ op = 5 := by rcases hop with h | h; exact Or.inl h.1; exact Or.inr h.1
  obtain ⟨f1, f2, f3, f4⟩ := flagsOr op co hop' hco.1 hco.2
  have hj1 : ∀ fl : Int, fl = flV op co rp au → Ev (fun k => impl_Msg_wire.j1 k fl id rp op au co Q A N M P U) (msgV id op co rp au Q A N M P U) := by
    intro fl hfl
    have e := implB_l0 id op co rp au Q A N M P U [id, fl, 1, (A.length : Int) + (P.length : Int), (N.length : Int) + (U.length : Int), (M.length : Int)] rfl (msgV id op co rp au Q A N M P U) (by
      have e := implB_end id op co rp au Q A N M P U hq hn hA hN hM hP hU (headV id op co rp au A N M P U) (by simp [headV, twoV])
      have e2 : ([id, fl, 1, (A.length : Int) + (P.length : Int), (N.length : Int) + (U.length : Int), (M.length : Int)] : List Int).flatMap twoV = headV id op co rp au A N M P U := by
        rw [hfl]; simp [headV, List.append_assoc]
      rw [e2]; exact e) 6 0 (by omega)
    refine Ev.step (fun k => ?_) e
    simp only [impl_Msg_wire.j1, Option.bind_some]
    rw [w64 (x := (A.length : Int) + (P.length : Int)) (by omega) (by omega), w64 (x := (N.length : Int) + (U.length : Int)) (by omega) (by omega)]
    rfl
  have hj0 : ∀ fl : Int, fl = op * 2048 + co + (if rp = true then 32768 else 0) → Go.bits .or .i64 fl 1024 = fl + 1024 → Ev (fun k => impl_Msg_wire.j0 k fl id rp op au co Q A N M P U) (msgV id op co rp au Q A N M P U) := by
    intro fl hfl hor
    cases hau : au with
    | true =>
      refine Ev.step (fun k => by simp only [impl_Msg_wire.j0, if_true]; rfl) ?_
      rw [← hau]
      exact hj1 _ (by rw [hor, hfl]; unfold flV; rw [if_pos hau])
    | false =>
      refine Ev.step (fun k => by simp only [impl_Msg_wire.j0, Bool.false_eq_true, if_false]; rfl) ?_
      rw [← hau]
      exact hj1 _ (by rw [hfl]; unfold flV; rw [if_neg (show ¬ au = true by simp [hau]), Int.add_zero])
  unfold impl_Msg_wire.f
  by_cases hrp : rp = true
  · simp only [if_pos hrp, f1, f2]; exact hj0 _ (by rw [if_pos hrp]) f4
  · simp only [if_neg hrp, f1]; exact hj0 _ (by rw [if_neg hrp, Int.add_zero]) f3
/-! ### A message is right -/
def msgOkV : Bool := shapedV id op co Q A N M P U && decide (((msgV id op co rp au Q A N M P U).length : Int) ≤ 512)
theorem specMsgOk (hQ : ∀ x ∈ Q, FitQ x) (hA : ∀ x ∈ A, FitR x) (hN : ∀ x ∈ N, FitR x) (hM : ∀ x ∈ M, FitR x) (hP : ∀ x ∈ P, FitW x) (hU : ∀ x ∈ U, FitW x) :
    Ev (fun k => spec_MsgOk.f k id rp op au co Q A N M P U) (msgOkV id op co rp au Q A N M P U) := by
  unfold spec_MsgOk.f msgOkV
  refine Ev.bind (specMay id op co rp au Q A N M P U hQ hA hN hM hP hU) ?_
  by_cases h : shapedV id op co Q A N M P U = true
  · simp only [if_pos h, h, Bool.true_and]; exact Ev.bind (specBytes id op co rp au Q A N M P U h) (Ev.now _)
  · rw [Bool.eq_false_iff.mpr h]; simp only [Bool.false_eq_true, if_false, Bool.false_and]; exact Ev.now _
theorem implMsgOk (hQ : ∀ x ∈ Q, I64Q x) (hA : ∀ x ∈ A, I64R x) (hN : ∀ x ∈ N, I64R x) (hM : ∀ x ∈ M, I64R x) (hP : ∀ x ∈ P, I64W x) (hU : ∀ x ∈ U, I64W x) :
    Ev (fun k => impl_MsgOk.f k id rp op au co Q A N M P U) (msgOkV id op co rp au Q A N M P U) := by
  unfold impl_MsgOk.f msgOkV
  refine Ev.bind (implShaped id op co rp au Q A N M P U hQ hA hN hM hP hU) ?_
  by_cases h : shapedV id op co Q A N M P U = true
  · simp only [if_pos h, h, Bool.true_and]; exact Ev.bind (implBytes id op co rp au Q A N M P U h) (Ev.now _)
  · rw [Bool.eq_false_iff.mpr h]; simp only [Bool.false_eq_true, if_false, Bool.false_and]; exact Ev.now _
end
end Go.Proofs.Ytagedmajlppohaa.Pure

/- Plain lemmas on the printed functions: a message measured, copied, compared. -/
namespace Go.Proofs.Ytagedmajlppohaa.Pure
open Go Go.RowKit Go.Proofs.Ytagedmajlppohaa.Q Go.Proofs.YtagedmajlppohaaW.PrintWords Go.Proofs.YtagedmajlppohaaW.PrintLast Go.Proofs.YtagedmajlppohaaW.PrintMore
set_option linter.unusedVariables false
set_option linter.unusedSimpArgs false
theorem rawR_ok {x : RL} (h : okT28 x) : RawR x := by
  obtain ⟨h1, h2, h3, h4, h5, h6, h7⟩ := h
  exact ⟨⟨h1.1, fun y hy => (h1.2 y hy).1⟩, ⟨h5.1, fun y hy => (h5.2 y hy).1⟩, h6.1, h7.1, (i64_of_wf h2).1, (i64_of_wf h2).2⟩
theorem rawW_ok {x : WL} (h : okT198 x) : RawW x := rawR_ok h.1
theorem rawQ_ok {x : QL} (h : okT195 x) : RawQ x := ⟨⟨h.1.1, fun y hy => (h.1.2 y hy).1⟩, (i64_of_wf h.2).1, (i64_of_wf h.2).2⟩
section
variable (id op co : Int) (rp au : Bool) (Q : List QL) (A N M : List RL) (P U : List WL)
def RawM : Prop := (Q.length ≤ 9223372036854775807 ∧ ∀ x ∈ Q, RawQ x) ∧ (A.length ≤ 9223372036854775807 ∧ ∀ x ∈ A, RawR x) ∧ (N.length ≤ 9223372036854775807 ∧ ∀ x ∈ N, RawR x) ∧ (M.length ≤ 9223372036854775807 ∧ ∀ x ∈ M, RawR x) ∧ (P.length ≤ 9223372036854775807 ∧ ∀ x ∈ P, RawW x) ∧ (U.length ≤ 9223372036854775807 ∧ ∀ x ∈ U, RawW x)
def FitM : Prop := (Q.length ≤ 1048576 ∧ ∀ x ∈ Q, FitQ (cvQ x)) ∧ (A.length ≤ 1048576 ∧ ∀ x ∈ A, FitR (cvR x)) ∧ (N.length ≤ 1048576 ∧ ∀ x ∈ N, FitR (cvR x)) ∧ (M.length ≤ 1048576 ∧ ∀ x ∈ M, FitR (cvR x)) ∧ (P.length ≤ 1048576 ∧ ∀ x ∈ P, FitW (cvW x)) ∧ (U.length ≤ 1048576 ∧ ∀ x ∈ U, FitW (cvW x))
theorem szMsg (left : Int) (h : RawM Q A N M P U) (h0 : 0 ≤ left) (h1 : left ≤ 1048576) :
    ∃ u, Ev (fun k => laws_szMsg.f k id rp op au co Q A N M P U left) u ∧ (u < 0 ∨ (0 ≤ u ∧ u ≤ left ∧ FitM Q A N M P U)) := by
  obtain ⟨hQ, hA, hN, hM, hP, hU⟩ := h
  unfold laws_szMsg.f
  obtain ⟨a, ea, ca⟩ := szQuestionS Q left hQ.1 hQ.2 h0 h1
  by_cases h : a < 0
  · exact ⟨-1, Ev.bind ea (by simp only [if_pos h]; exact Ev.now _), Or.inl (by omega)⟩
  obtain ⟨a1, a2, a3⟩ := ca.resolve_left h
  obtain ⟨b, eb, cb⟩ := szRrS A a hA.1 hA.2 (by omega) (by omega)
  by_cases h2 : b < 0
  · exact ⟨-1, Ev.bind ea (by simp only [if_neg h]; exact Ev.bind eb (by simp only [if_pos h2]; exact Ev.now _)), Or.inl (by omega)⟩
  obtain ⟨b1, b2, b3⟩ := cb.resolve_left h2
  obtain ⟨c, ec, cc⟩ := szRrS N b hN.1 hN.2 (by omega) (by omega)
  by_cases h3 : c < 0
  · exact ⟨-1, Ev.bind ea (by simp only [if_neg h]; exact Ev.bind eb (by simp only [if_neg h2]; exact Ev.bind ec (by simp only [if_pos h3]; exact Ev.now _))), Or.inl (by omega)⟩
  obtain ⟨c1, c2, c3⟩ := cc.resolve_left h3
  obtain ⟨d, ed, cd⟩ := szRrS M c hM.1 hM.2 (by omega) (by omega)
  by_cases h4 : d < 0
  · exact ⟨-1, Ev.bind ea (by simp only [if_neg h]; exact Ev.bind eb (by simp only [if_neg h2]; exact Ev.bind ec (by simp only [if_neg h3]; exact Ev.bind ed (by simp only [if_pos h4]; exact Ev.now _)))), Or.inl (by omega)⟩
  obtain ⟨d1, d2, d3⟩ := cd.resolve_left h4
  obtain ⟨e, ee, ce⟩ := szWantS P d hP.1 hP.2 (by omega) (by omega)
  by_cases h5 : e < 0
  · exact ⟨-1, Ev.bind ea (by simp only [if_neg h]; exact Ev.bind eb (by simp only [if_neg h2]; exact Ev.bind ec (by simp only [if_neg h3]; exact Ev.bind ed (by simp only [if_neg h4]; exact Ev.bind ee (by simp only [if_pos h5]; exact Ev.now _))))), Or.inl (by omega)⟩
  obtain ⟨e1, e2, e3⟩ := ce.resolve_left h5
  obtain ⟨f, ef, cf⟩ := szWantS U e hU.1 hU.2 (by omega) (by omega)
  by_cases h6 : f < 0
  · exact ⟨-1, Ev.bind ea (by simp only [if_neg h]; exact Ev.bind eb (by simp only [if_neg h2]; exact Ev.bind ec (by simp only [if_neg h3]; exact Ev.bind ed (by simp only [if_neg h4]; exact Ev.bind ee (by simp only [if_neg h5]; exact Ev.bind ef (by simp only [if_pos h6]; exact Ev.now _)))))), Or.inl (by omega)⟩
  obtain ⟨f1, f2, f3⟩ := cf.resolve_left h6
  exact ⟨f, Ev.bind ea (by simp only [if_neg h]; exact Ev.bind eb (by simp only [if_neg h2]; exact Ev.bind ec (by simp only [if_neg h3]; exact Ev.bind ed (by simp only [if_neg h4]; exact Ev.bind ee (by simp only [if_neg h5]; exact Ev.bind ef (by simp only [if_neg h6]; exact Ev.now _)))))), Or.inr ⟨f1, by omega, a3, b3, c3, d3, e3, f3⟩⟩
theorem toMsg (h : FitM Q A N M P U) : Ev (fun k => laws_toMsg.f k id rp op au co Q A N M P U) (id, rp, op, au, co, Q.map cvQ, A.map cvR, N.map cvR, M.map cvR, P.map cvW, U.map cvW) := by
  obtain ⟨hQ, hA, hN, hM, hP, hU⟩ := h
  unfold laws_toMsg.f
  exact Ev.bind (toQuestionS Q hQ.1 hQ.2) (Ev.bind (toRrS A hA.1 hA.2) (Ev.bind (toRrS N hN.1 hN.2) (Ev.bind (toRrS M hM.1 hM.2) (Ev.bind (toWantS P hP.1 hP.2) (Ev.bind (toWantS U hU.1 hU.2) (Ev.now _))))))
end
def FitI (Q : List QI) (A N M : List RI) (P U : List WI) : Prop := (Q.length ≤ 1048576 ∧ ∀ x ∈ Q, FitQ x) ∧ (A.length ≤ 1048576 ∧ ∀ x ∈ A, FitR x) ∧ (N.length ≤ 1048576 ∧ ∀ x ∈ N, FitR x) ∧ (M.length ≤ 1048576 ∧ ∀ x ∈ M, FitR x) ∧ (P.length ≤ 1048576 ∧ ∀ x ∈ P, FitW x) ∧ (U.length ≤ 1048576 ∧ ∀ x ∈ U, FitW x)
def I64M (Q : List QI) (A N M : List RI) (P U : List WI) : Prop := (∀ x ∈ Q, I64Q x) ∧ (∀ x ∈ A, I64R x) ∧ (∀ x ∈ N, I64R x) ∧ (∀ x ∈ M, I64R x) ∧ (∀ x ∈ P, I64W x) ∧ (∀ x ∈ U, I64W x)
theorem mapAll {α β : Type} {f : α → β} {L : List α} {p : β → Prop} (h : ∀ x ∈ L, p (f x)) : ∀ x ∈ L.map f, p x := fun x hx => by obtain ⟨y, hy, rfl⟩ := List.mem_map.1 hx; exact h y hy
theorem FitM.map {Q : List QL} {A N M : List RL} {P U : List WL} (h : FitM Q A N M P U) : FitI (Q.map cvQ) (A.map cvR) (N.map cvR) (M.map cvR) (P.map cvW) (U.map cvW) := by
  obtain ⟨hQ, hA, hN, hM, hP, hU⟩ := h
  exact ⟨⟨by simpa using hQ.1, mapAll hQ.2⟩, ⟨by simpa using hA.1, mapAll hA.2⟩, ⟨by simpa using hN.1, mapAll hN.2⟩, ⟨by simpa using hM.1, mapAll hM.2⟩, ⟨by simpa using hP.1, mapAll hP.2⟩, ⟨by simpa using hU.1, mapAll hU.2⟩⟩
theorem RawM.map {Q : List QL} {A N M : List RL} {P U : List WL} (h : RawM Q A N M P U) : I64M (Q.map cvQ) (A.map cvR) (N.map cvR) (M.map cvR) (P.map cvW) (U.map cvW) := by
  obtain ⟨hQ, hA, hN, hM, hP, hU⟩ := h
  exact ⟨mapAll fun x hx => (hQ.2 x hx).2, mapAll fun x hx => (hA.2 x hx).2.2.2.2, mapAll fun x hx => (hN.2 x hx).2.2.2.2, mapAll fun x hx => (hM.2 x hx).2.2.2.2, mapAll fun x hx => (hP.2 x hx).2.2.2.2, mapAll fun x hx => (hU.2 x hx).2.2.2.2⟩
theorem eqMsg (id op co : Int) (rp au : Bool) (Q : List QI) (A N M : List RI) (P U : List WI) (h : FitI Q A N M P U) : Ev (fun k => laws_eqMsg.f k id rp op au co Q A N M P U id rp op au co Q A N M P U) true := by
  obtain ⟨hQ, hA, hN, hM, hP, hU⟩ := h
  unfold laws_eqMsg.f
  simp only [if_true, bne_self_eq_false, Bool.false_eq_true, if_false]
  refine Ev.bind (eqQuestionS Q hQ.1 hQ.2) ?_
  simp only [if_true]
  refine Ev.bind (eqRrS A hA.1 hA.2) ?_
  simp only [if_true]
  refine Ev.bind (eqRrS N hN.1 hN.2) ?_
  simp only [if_true]
  refine Ev.bind (eqRrS M hM.1 hM.2) ?_
  simp only [if_true]
  refine Ev.bind (eqWantS P hP.1 hP.2) ?_
  simp only [if_true]
  refine Ev.bind (eqWantS U hU.1 hU.2) ?_
  simp only [if_true]; exact Ev.now _
end Go.Proofs.Ytagedmajlppohaa.Pure

/- The statement FnExactMsgOk: at every message the reference and the program say the same. No condition. -/
namespace Go.Proofs.Ytagedmajlppohaa.Pure
open Go Go.RowKit Go.Proofs.Ytagedmajlppohaa.Q Go.Proofs.YtagedmajlppohaaW.PrintWords Go.Proofs.YtagedmajlppohaaW.PrintLast
set_option linter.unusedVariables false
theorem FnExactMsgOk : laws_FnExactMsgOk.Pure := by
  intro x h
  obtain ⟨_, _, _, _, _, hQ, hA, hN, hM, hP, hU⟩ := h
  have hr : RawM x.f5 x.f6 x.f7 x.f8 x.f9 x.f10 := ⟨⟨hQ.1, fun y hy => rawQ_ok (hQ.2 y hy)⟩, ⟨hA.1, fun y hy => rawR_ok (hA.2 y hy)⟩, ⟨hN.1, fun y hy => rawR_ok (hN.2 y hy)⟩, ⟨hM.1, fun y hy => rawR_ok (hM.2 y hy)⟩, ⟨hP.1, fun y hy => rawW_ok (hP.2 y hy)⟩, ⟨hU.1, fun y hy => rawW_ok (hU.2 y hy)⟩⟩
  clear hQ hA hN hM hP hU
  generalize x.f0 = id
  generalize x.f1 = rp
  generalize x.f2 = op
  generalize x.f3 = au
  generalize x.f4 = co
  generalize x.f5 = Q at hr
  generalize x.f6 = A at hr
  generalize x.f7 = N at hr
  generalize x.f8 = M at hr
  generalize x.f9 = P at hr
  generalize x.f10 = U at hr
  apply Ev.rounds
  unfold laws_FnExactMsgOk.f
  obtain ⟨u, hu, hc⟩ := szMsg id op co rp au Q A N M P U 1048576 hr (by omega) (by omega)
  refine Ev.bind hu ?_
  by_cases h : u < 0
  · simp only [if_pos h]; exact Ev.now _
  simp only [if_neg h]
  obtain ⟨_, _, hf⟩ := hc.resolve_left h
  have hto := toMsg id op co rp au Q A N M P U hf
  have hi := hr.map
  have hf' := hf.map
  generalize Q.map cvQ = Q' at hto hi hf'
  generalize A.map cvR = A' at hto hi hf'
  generalize N.map cvR = N' at hto hi hf'
  generalize M.map cvR = M' at hto hi hf'
  generalize P.map cvW = P' at hto hi hf'
  generalize U.map cvW = U' at hto hi hf'
  refine Ev.bind hto ?_
  refine Ev.bind (specMsgOk id op co rp au Q' A' N' M' P' U' hf'.1.2 hf'.2.1.2 hf'.2.2.1.2 hf'.2.2.2.1.2 hf'.2.2.2.2.1.2 hf'.2.2.2.2.2.2) ?_
  refine Ev.bind hto ?_
  refine Ev.bind (implMsgOk id op co rp au Q' A' N' M' P' U' hi.1 hi.2.1 hi.2.2.1 hi.2.2.2.1 hi.2.2.2.2.1 hi.2.2.2.2.2) ?_
  simp only [bne_self_eq_false, Bool.false_eq_true, if_false]
  refine Ev.bind hto ?_
  refine Ev.bind (eqMsg id op co rp au Q' A' N' M' P' U' hf') ?_
  simp only [if_true]; exact Ev.now _
end Go.Proofs.Ytagedmajlppohaa.Pure

