/- Plain lemmas for the statement FnExactCacheOk. -/
import Derived.Test.YtagedmajlppohaaZFnExactCacheOk0
import Derived.Test.YtagedmajlppohaaZFnExactCacheOk1
import Derived.Test.YtagedmajlppohaaZFnExactCacheOk2
import Derived.Test.YtagedmajlppohaaZFnExactCacheOk3
import Derived.Test.YtagedmajlppohaaZFnExactCacheOk4
import Derived.Test.YtagedmajlppohaaVFnExactCacheOk
import Derived.Deep.Slices
import Derived.Lib.SmallJoins
import Derived.OpenShut
/- What an argument reads as, kind by kind: from the form's reading of a datum to the print's kinds (Kd). -/
namespace Go.Proofs.Ytagedmajlppohaa.Open
open Go Go.RowKit Go.Deep Go.ChangeShapes Go.WideShapes Go.ChangeAt Go.Proofs.YtagedmajlppohaaW.PrintWords
set_option linter.unusedVariables false
variable {H : Type} {enc : TypeId × Value → H} {P : Program} {W : World} {sp : Nat → Bool} {held : Bool}

/-- Whatever cells are read as a datum of type t are those of a y of the kind d, of which ok holds. -/
def Opens (enc : TypeId × Value → H) (P : Program) (W : World) (sp : Nat → Bool) (held : Bool) {α : Type} (d : Kd α) (ok : α → Prop) (t : TypeId) : Prop :=
  ∀ fuel cs x, DataW.trod enc P W 0 sp held fuel t cs = some x → ∃ y : α, d.K W y cs ∧ ok y

theorem opens_int {t : TypeId} {k : IntKind} (ht : P.underlying t = some (.int k)) : Opens enc P W sp held (Kd.int k) (fun x => (Lit.int k x).wf = true) t := by
  intro fuel cs x h;obtain ⟨a, rfl, _, hw⟩ := DataW.trod_int ht h;exact ⟨a, rfl, hw⟩
theorem list_of {α : Type} {n : Nat} {Q : Nat → α → Prop} (h : ∀ i, i < n → ∃ y, Q i y) : ∃ l : List α, l.length = n ∧ ∀ i y, l[i]? = some y → Q i y := by
  induction n with
  | zero => exact ⟨[], rfl, fun i y hy => by simp at hy⟩
  | succ n ih =>
    obtain ⟨l, hl, hq⟩ := ih (fun i hi => h i (by omega));obtain ⟨y, hy⟩ := h n (by omega);refine ⟨l ++ [y], by simp [hl], fun i z hz => ?_⟩;by_cases hi : i < n
    · rw [List.getElem?_append_left (by omega)] at hz; exact hq i z hz
    · by_cases e : i = n
      · subst e
        rw [List.getElem?_append_right (by omega), hl, Nat.sub_self] at hz;simp at hz; subst hz; exact hy
      · rw [List.getElem?_eq_none (by simp; omega)] at hz; cases hz

theorem opens_slice {α : Type} {d : Kd α} {ok : α → Prop} {t e : TypeId} (ht : P.underlying t = some (.slice e)) (hs : d.sz = P.cellsOf e) (h : Opens enc P W sp held d ok e) :
    Opens enc P W sp held (Kd.slice e d) (fun l => l.length ≤ maxLen ∧ ∀ x ∈ l, ok x) t := by
  intro fuel cs x hx;rcases open_slice ht hx with ⟨rfl, _⟩ | ⟨a, len, cap, m, n, D, Pl, rfl, _, hl, hm, hmm, _, hel⟩
  · exact ⟨[], ⟨none, 0, rfl, Nat.le_refl _, Kd.C_nil d W⟩, by simp, by simp⟩
  · have hlm : len ≤ m := by rw [hmm]; split <;> omega
    obtain ⟨l, hll, hq⟩ := list_of (n := len) (Q := fun i (y : α) => ∃ c, W.cells? 0 (a.add (i * P.cellsOf e)) (P.cellsOf e) = some c ∧ d.K W y c ∧ ok y) (fun i hi => by
      obtain ⟨c, h1, h2⟩ := hel i (by omega);obtain ⟨y, hy, hok⟩ := h _ _ _ h2
      exact ⟨y, c, h1, hy, hok⟩)
    refine ⟨l, ⟨some a, cap, by rw [hll], by omega, rfl, by rw [hll]; unfold maxLen at hm; omega, fun _ => ⟨a, rfl, fun j p hj => ?_⟩⟩, by omega, fun x hx => ?_⟩
    · obtain ⟨c, h1, h2, _⟩ := hq j p hj
      obtain ⟨_, hlen, hc⟩ := World.cells?_some h1;refine ⟨c, by rw [hlen, hs], h2, fun i u hu => ?_⟩;have hi : i < c.length := (List.getElem?_eq_some_iff.1 hu).1;have h3 := hc i (by omega);rw [hs, ← Go.Proofs.YtagedmajlppohaaW.PrintWords.add_add, h3, hu]
    · obtain ⟨i, hi⟩ := List.mem_iff_getElem?.1 hx
      obtain ⟨_, _, _, hok⟩ := hq i x hi;exact hok

/-- The fields of a struct, from place o on, as one kind. -/
def OpensF (enc : TypeId × Value → H) (P : Program) (W : World) (sp : Nat → Bool) (held : Bool) {α : Type} (d : Kd α) (ok : α → Prop) (fs : List Field) (o n : Nat) : Prop :=
  ∀ (fuel : Nat) (cs : List Value), cs.length = o + n → (∀ f ∈ fs, ∃ x, DataW.trod enc P W 0 sp held fuel f.type ((cs.drop f.offset).take (P.cellsOf f.type)) = some x) → ∃ y : α, d.K W y (cs.drop o) ∧ ok y
theorem opensF_one {α : Type} {d : Kd α} {ok : α → Prop} {f : Field} {o n : Nat} (ho : f.offset = o) (hn : P.cellsOf f.type = n) (h : Opens enc P W sp held d ok f.type) : OpensF enc P W sp held d ok [f] o n := by
  intro fuel cs hl hf;obtain ⟨x, hx⟩ := hf f (by simp);rw [ho, hn, List.take_of_length_le (by simp; omega)] at hx;exact h _ _ _ hx
theorem opensF_cons {α β : Type} {d : Kd α} {d' : Kd β} {ok : α → Prop} {ok' : β → Prop} {f : Field} {fs : List Field} {o n m : Nat} (ho : f.offset = o) (hn : P.cellsOf f.type = n) (h : Opens enc P W sp held d ok f.type) (hr : OpensF enc P W sp held d' ok' fs (o + n) m) :
    OpensF enc P W sp held (Kd.pair d d') (fun y => ok y.1 ∧ ok' y.2) (f :: fs) o (n + m) := by
  intro fuel cs hl hf;obtain ⟨x, hx⟩ := hf f (by simp);rw [ho, hn] at hx;obtain ⟨y, hy, hoky⟩ := h _ _ _ hx;obtain ⟨z, hz, hokz⟩ := hr fuel cs (by omega) (fun g hg => hf g (by simp [hg]));refine ⟨(y, z), ⟨(cs.drop o).take n, cs.drop (o + n), ?_, hy, hz⟩, hoky, hokz⟩;rw [← List.drop_drop, List.take_append_drop]
theorem opens_struct {α β : Type} {d : Kd α} {ok : α → Prop} {t : TypeId} {fs : Array Field} {n : Nat} (f : β → α) (g : α → β) (hfg : ∀ y, f (g y) = y) (ht : P.underlying t = some (.struct fs)) (hn : P.cellsOf t = n) (h : OpensF enc P W sp held d ok fs.toList 0 n) :
    Opens enc P W sp held (Kd.iso d f) (fun y => ok (f y)) t := by
  intro fuel cs x hx;obtain ⟨xs, m, _, rfl, hl, hlen, hf⟩ := DataW.trod_struct ht hx
  obtain ⟨y, hy, hok⟩ := h m cs (by omega) (fun fl hfl => by
    obtain ⟨i, hi⟩ := List.mem_iff_getElem?.1 hfl;have hfi := hf i fl (by simpa using hi);have hil : i < xs.length := by rw [hlen]; have := (List.getElem?_eq_some_iff.1 hi).1; simpa using this
    exact ⟨xs[i], by rw [hfi, List.getElem?_eq_getElem hil]⟩)
  exact ⟨g y, by show d.K W (f (g y)) cs; rw [hfg]; simpa using hy, by show ok (f (g y)); rw [hfg]; exact hok⟩
/-- An argument of a struct's type. -/
theorem open_arg {r : Reach} {b0 : Nat} {α : Type} {d : Kd α} {ok : α → Prop} {t : TypeId} {fs : Array Field} {v : Value} {dt : DataW H} {p : List MemPlace} (ht : P.underlying t = some (.struct fs)) (hv : Value.okWide P W r b0 t v) (h : DataW.Trod enc P W 0 sp held t v dt p) (ho : Opens enc P W sp held d ok t) :
    ∃ (cs : List Value) (y : α), v = .agg cs.toArray ∧ d.K W y cs ∧ ok y := by
  obtain ⟨cs, rfl, hsz⟩ := okWide_struct ht hv;obtain ⟨fuel, hf⟩ := h;obtain ⟨y, hy, hok⟩ := ho _ _ _ hf;exact ⟨cs.toList, y, by simp, by simpa [Value.cells] using hy, hok⟩
end Go.Proofs.Ytagedmajlppohaa.Open

-- Written by a program of this session (wip/myprint.py): what each type of the laws' parameters reads as.
namespace Go.Proofs.Ytagedmajlppohaa.Q
open Go Go.RowKit Go.Proofs.Ytagedmajlppohaa.Open Go.Proofs.YtagedmajlppohaaW.PrintWords
set_option linter.unusedVariables false
def qvX (x : Int) : Prop := (Lit.int .u8 x).wf = true
theorem opensT5 {H : Type} {enc : TypeId × Value → H} {W : World} : Opens enc Try.prog W (fun _ => true) true (Kd.int .u8) qvX 5 := opens_int Try.underlying5
def qdf (l : List Int) : Prop := l.length ≤ maxLen ∧ ∀ x ∈ l, qvX x
theorem opensT25 {H : Type} {enc : TypeId × Value → H} {W : World} : Opens enc Try.prog W (fun _ => true) true (Kd.slice 5 (Kd.int .u8)) qdf 25 := opens_slice Try.underlying25 (by kernel_rfl) opensT5
def qkY (l : List (List Int)) : Prop := l.length ≤ maxLen ∧ ∀ x ∈ l, qdf x
theorem opensT22 {H : Type} {enc : TypeId × Value → H} {W : World} : Opens enc Try.prog W (fun _ => true) true (Kd.slice 25 (Kd.slice 5 (Kd.int .u8))) qkY 22 := opens_slice Try.underlying22 (by kernel_rfl) opensT25
def qba (x : S24) : Prop := qkY x.f0
theorem opensT24 {H : Type} {enc : TypeId × Value → H} {W : World} : Opens enc Try.prog W (fun _ => true) true k24 qba 24 := by
  have h := opens_struct (d := (Kd.slice 25 (Kd.slice 5 (Kd.int .u8)))) (ok := qkY) (enc := enc) (P := Try.prog) (W := W) (sp := fun _ => true) (held := true) (fun x : S24 => x.f0) (fun y => (⟨y⟩ : S24)) (fun _ => rfl) Try.underlying24 (n := 1) (by kernel_rfl) (by
    refine opensF_one (d := (Kd.slice 25 (Kd.slice 5 (Kd.int .u8)))) (ok := qkY) (n := 1) ?ho ?hn ?h; (case ho => rfl); (case hn => kernel_rfl); (case h => exact opensT22))
  exact h
def yx (x : Int) : Prop := (Lit.int .i64 x).wf = true
theorem opensT3 {H : Type} {enc : TypeId × Value → H} {W : World} : Opens enc Try.prog W (fun _ => true) true (Kd.int .i64) yx 3 := opens_int Try.underlying3
def qde (l : List Int) : Prop := l.length ≤ maxLen ∧ ∀ x ∈ l, yx x
theorem opensT26 {H : Type} {enc : TypeId × Value → H} {W : World} : Opens enc Try.prog W (fun _ => true) true (Kd.slice 3 (Kd.int .i64)) qde 26 := opens_slice Try.underlying26 (by kernel_rfl) opensT3
def qqw (x : S28) : Prop := qba x.f0 ∧ (yx x.f1 ∧ (yx x.f2 ∧ (yx x.f3 ∧ (qba x.f4 ∧ (qdf x.f5 ∧ (qde x.f6))))))
theorem opensT28 {H : Type} {enc : TypeId × Value → H} {W : World} : Opens enc Try.prog W (fun _ => true) true k28 qqw 28 := by
  have h := opens_struct (d := Kd.pair (k24) (Kd.pair ((Kd.int .i64)) (Kd.pair ((Kd.int .i64)) (Kd.pair ((Kd.int .i64)) (Kd.pair (k24) (Kd.pair ((Kd.slice 5 (Kd.int .u8))) ((Kd.slice 3 (Kd.int .i64))))))))) (ok := (fun y => qba y.1 ∧ (fun y => yx y.1 ∧ (fun y => yx y.1 ∧ (fun y => yx y.1 ∧ (fun y => qba y.1 ∧ (fun y => qdf y.1 ∧ qde y.2) y.2) y.2) y.2) y.2) y.2)) (enc := enc) (P := Try.prog) (W := W) (sp := fun _ => true) (held := true) (fun x : S28 => (x.f0, x.f1, x.f2, x.f3, x.f4, x.f5, x.f6)) (fun y => (⟨y.1, y.2.1, y.2.2.1, y.2.2.2.1, y.2.2.2.2.1, y.2.2.2.2.2.1, y.2.2.2.2.2.2⟩ : S28)) (fun _ => rfl) Try.underlying28 (n := 7) (by kernel_rfl) (by
    refine opensF_cons (d := k24) (ok := qba) (d' := Kd.pair ((Kd.int .i64)) (Kd.pair ((Kd.int .i64)) (Kd.pair ((Kd.int .i64)) (Kd.pair (k24) (Kd.pair ((Kd.slice 5 (Kd.int .u8))) ((Kd.slice 3 (Kd.int .i64)))))))) (ok' := (fun y => yx y.1 ∧ (fun y => yx y.1 ∧ (fun y => yx y.1 ∧ (fun y => qba y.1 ∧ (fun y => qdf y.1 ∧ qde y.2) y.2) y.2) y.2) y.2)) (n := 1) (m := 6) ?ho ?hn ?h ?_; (case ho => rfl); (case hn => kernel_rfl); (case h => exact opensT24);refine opensF_cons (d := (Kd.int .i64)) (ok := yx) (d' := Kd.pair ((Kd.int .i64)) (Kd.pair ((Kd.int .i64)) (Kd.pair (k24) (Kd.pair ((Kd.slice 5 (Kd.int .u8))) ((Kd.slice 3 (Kd.int .i64))))))) (ok' := (fun y => yx y.1 ∧ (fun y => yx y.1 ∧ (fun y => qba y.1 ∧ (fun y => qdf y.1 ∧ qde y.2) y.2) y.2) y.2)) (n := 1) (m := 5) ?ho ?hn ?h ?_; (case ho => rfl); (case hn => kernel_rfl); (case h => exact opensT3);refine opensF_cons (d := (Kd.int .i64)) (ok := yx) (d' := Kd.pair ((Kd.int .i64)) (Kd.pair (k24) (Kd.pair ((Kd.slice 5 (Kd.int .u8))) ((Kd.slice 3 (Kd.int .i64)))))) (ok' := (fun y => yx y.1 ∧ (fun y => qba y.1 ∧ (fun y => qdf y.1 ∧ qde y.2) y.2) y.2)) (n := 1) (m := 4) ?ho ?hn ?h ?_; (case ho => rfl); (case hn => kernel_rfl); (case h => exact opensT3);refine opensF_cons (d := (Kd.int .i64)) (ok := yx) (d' := Kd.pair (k24) (Kd.pair ((Kd.slice 5 (Kd.int .u8))) ((Kd.slice 3 (Kd.int .i64))))) (ok' := (fun y => qba y.1 ∧ (fun y => qdf y.1 ∧ qde y.2) y.2)) (n := 1) (m := 3) ?ho ?hn ?h ?_; (case ho => rfl); (case hn => kernel_rfl); (case h => exact opensT3);refine opensF_cons (d := k24) (ok := qba) (d' := Kd.pair ((Kd.slice 5 (Kd.int .u8))) ((Kd.slice 3 (Kd.int .i64)))) (ok' := (fun y => qdf y.1 ∧ qde y.2)) (n := 1) (m := 2) ?ho ?hn ?h ?_; (case ho => rfl); (case hn => kernel_rfl); (case h => exact opensT24);refine opensF_cons (d := (Kd.slice 5 (Kd.int .u8))) (ok := qdf) (d' := (Kd.slice 3 (Kd.int .i64))) (ok' := qde) (n := 1) (m := 1) ?ho ?hn ?h ?_; (case ho => rfl); (case hn => kernel_rfl); (case h => exact opensT25)
    refine opensF_one (d := (Kd.slice 3 (Kd.int .i64))) (ok := qde) (n := 1) ?ho ?hn ?h; (case ho => rfl); (case hn => kernel_rfl); (case h => exact opensT26))
  exact h
def qgz (l : List (S28)) : Prop := l.length ≤ maxLen ∧ ∀ x ∈ l, qqw x
theorem opensT52 {H : Type} {enc : TypeId × Value → H} {W : World} : Opens enc Try.prog W (fun _ => true) true (Kd.slice 28 k28) qgz 52 := opens_slice Try.underlying52 (by kernel_rfl) opensT28
def qlc (x : Yt) : Prop := qba x.f0 ∧ (yx x.f1 ∧ (yx x.f2 ∧ (qgz x.f3 ∧ (yx x.f4 ∧ (yx x.f5 ∧ (yx x.f6))))))
theorem opensT190 {H : Type} {enc : TypeId × Value → H} {W : World} : Opens enc Try.prog W (fun _ => true) true qbG qlc 190 := by
  have h := opens_struct (d := Kd.pair (k24) (Kd.pair ((Kd.int .i64)) (Kd.pair ((Kd.int .i64)) (Kd.pair ((Kd.slice 28 k28)) (Kd.pair ((Kd.int .i64)) (Kd.pair ((Kd.int .i64)) ((Kd.int .i64)))))))) (ok := (fun y => qba y.1 ∧ (fun y => yx y.1 ∧ (fun y => yx y.1 ∧ (fun y => qgz y.1 ∧ (fun y => yx y.1 ∧ (fun y => yx y.1 ∧ yx y.2) y.2) y.2) y.2) y.2) y.2)) (enc := enc) (P := Try.prog) (W := W) (sp := fun _ => true) (held := true) (fun x : Yt => (x.f0, x.f1, x.f2, x.f3, x.f4, x.f5, x.f6)) (fun y => (⟨y.1, y.2.1, y.2.2.1, y.2.2.2.1, y.2.2.2.2.1, y.2.2.2.2.2.1, y.2.2.2.2.2.2⟩ : Yt)) (fun _ => rfl) Try.underlying190 (n := 7) (by kernel_rfl) (by
    refine opensF_cons (d := k24) (ok := qba) (d' := Kd.pair ((Kd.int .i64)) (Kd.pair ((Kd.int .i64)) (Kd.pair ((Kd.slice 28 k28)) (Kd.pair ((Kd.int .i64)) (Kd.pair ((Kd.int .i64)) ((Kd.int .i64))))))) (ok' := (fun y => yx y.1 ∧ (fun y => yx y.1 ∧ (fun y => qgz y.1 ∧ (fun y => yx y.1 ∧ (fun y => yx y.1 ∧ yx y.2) y.2) y.2) y.2) y.2)) (n := 1) (m := 6) ?ho ?hn ?h ?_; (case ho => rfl); (case hn => kernel_rfl); (case h => exact opensT24);refine opensF_cons (d := (Kd.int .i64)) (ok := yx) (d' := Kd.pair ((Kd.int .i64)) (Kd.pair ((Kd.slice 28 k28)) (Kd.pair ((Kd.int .i64)) (Kd.pair ((Kd.int .i64)) ((Kd.int .i64)))))) (ok' := (fun y => yx y.1 ∧ (fun y => qgz y.1 ∧ (fun y => yx y.1 ∧ (fun y => yx y.1 ∧ yx y.2) y.2) y.2) y.2)) (n := 1) (m := 5) ?ho ?hn ?h ?_; (case ho => rfl); (case hn => kernel_rfl); (case h => exact opensT3);refine opensF_cons (d := (Kd.int .i64)) (ok := yx) (d' := Kd.pair ((Kd.slice 28 k28)) (Kd.pair ((Kd.int .i64)) (Kd.pair ((Kd.int .i64)) ((Kd.int .i64))))) (ok' := (fun y => qgz y.1 ∧ (fun y => yx y.1 ∧ (fun y => yx y.1 ∧ yx y.2) y.2) y.2)) (n := 1) (m := 4) ?ho ?hn ?h ?_; (case ho => rfl); (case hn => kernel_rfl); (case h => exact opensT3);refine opensF_cons (d := (Kd.slice 28 k28)) (ok := qgz) (d' := Kd.pair ((Kd.int .i64)) (Kd.pair ((Kd.int .i64)) ((Kd.int .i64)))) (ok' := (fun y => yx y.1 ∧ (fun y => yx y.1 ∧ yx y.2) y.2)) (n := 1) (m := 3) ?ho ?hn ?h ?_; (case ho => rfl); (case hn => kernel_rfl); (case h => exact opensT52);refine opensF_cons (d := (Kd.int .i64)) (ok := yx) (d' := Kd.pair ((Kd.int .i64)) ((Kd.int .i64))) (ok' := (fun y => yx y.1 ∧ yx y.2)) (n := 1) (m := 2) ?ho ?hn ?h ?_; (case ho => rfl); (case hn => kernel_rfl); (case h => exact opensT3);refine opensF_cons (d := (Kd.int .i64)) (ok := yx) (d' := (Kd.int .i64)) (ok' := yx) (n := 1) (m := 1) ?ho ?hn ?h ?_; (case ho => rfl); (case hn => kernel_rfl); (case h => exact opensT3)
    refine opensF_one (d := (Kd.int .i64)) (ok := yx) (n := 1) ?ho ?hn ?h; (case ho => rfl); (case hn => kernel_rfl); (case h => exact opensT3))
  exact h
def qhi (l : List (Yt)) : Prop := l.length ≤ maxLen ∧ ∀ x ∈ l, qlc x
theorem opensT72 {H : Type} {enc : TypeId × Value → H} {W : World} : Opens enc Try.prog W (fun _ => true) true (Kd.slice 190 qbG) qhi 72 := opens_slice Try.underlying72 (by kernel_rfl) opensT190
def qrJ (x : S74) : Prop := yx x.f0 ∧ (yx x.f1 ∧ (qhi x.f2))
theorem opensT74 {H : Type} {enc : TypeId × Value → H} {W : World} : Opens enc Try.prog W (fun _ => true) true k74 qrJ 74 := by
  have h := opens_struct (d := Kd.pair ((Kd.int .i64)) (Kd.pair ((Kd.int .i64)) ((Kd.slice 190 qbG)))) (ok := (fun y => yx y.1 ∧ (fun y => yx y.1 ∧ qhi y.2) y.2)) (enc := enc) (P := Try.prog) (W := W) (sp := fun _ => true) (held := true) (fun x : S74 => (x.f0, x.f1, x.f2)) (fun y => (⟨y.1, y.2.1, y.2.2⟩ : S74)) (fun _ => rfl) Try.underlying74 (n := 3) (by kernel_rfl) (by
    refine opensF_cons (d := (Kd.int .i64)) (ok := yx) (d' := Kd.pair ((Kd.int .i64)) ((Kd.slice 190 qbG))) (ok' := (fun y => yx y.1 ∧ qhi y.2)) (n := 1) (m := 2) ?ho ?hn ?h ?_; (case ho => rfl); (case hn => kernel_rfl); (case h => exact opensT3);refine opensF_cons (d := (Kd.int .i64)) (ok := yx) (d' := (Kd.slice 190 qbG)) (ok' := qhi) (n := 1) (m := 1) ?ho ?hn ?h ?_; (case ho => rfl); (case hn => kernel_rfl); (case h => exact opensT3)
    refine opensF_one (d := (Kd.slice 190 qbG)) (ok := qhi) (n := 1) ?ho ?hn ?h; (case ho => rfl); (case hn => kernel_rfl); (case h => exact opensT72))
  exact h
end Go.Proofs.Ytagedmajlppohaa.Q

-- Written by a program of this session (wip/myprint.py): the pure statement of a law.
namespace Go.Proofs.Ytagedmajlppohaa.Q
open Go Go.RowKit
def Jk.Pure : Prop := ∀ (x0 : S74), qrJ x0 → ∃ k, Jk.f k x0.f0 x0.f1 x0.f2 = some true
end Go.Proofs.Ytagedmajlppohaa.Q

/- Plain lemmas on the printed functions: a list of bytes read into a new one, two lists compared, a number read from bytes. -/
namespace Go.Proofs.Ytagedmajlppohaa.Pure
open Go Go.RowKit Go.Proofs.Ytagedmajlppohaa.Q Go.Proofs.YtagedmajlppohaaW.PrintWords Go.Proofs.YtagedmajlppohaaW.PrintLast Go.Proofs.YtagedmajlppohaaW.PrintMore
set_option linter.unusedVariables false
set_option linter.unusedSimpArgs false

/-- Every element is a byte. -/
def Bytes (l : List Int) : Prop := ∀ x ∈ l, 0 ≤ x ∧ x ≤ 255
theorem i64_of_wf {x : Int} (h : (Lit.int .i64 x).wf = true) : -9223372036854775808 ≤ x ∧ x ≤ 9223372036854775807 := by
  simp [Lit.wf, IntKind.min, IntKind.max, IntKind.signed, IntKind.bits] at h
  omega
theorem w64 {x : Int} (h1 : -9223372036854775808 ≤ x) (h2 : x ≤ 9223372036854775807) : wrap64 x = x := by
  unfold wrap64; omega
theorem Ev.here {α : Type} {g : Nat → Option α} {r : α} (h : ∀ k, g k = some r) : Ev g r := ⟨0, fun k _ => h k⟩

theorem set_prefix (l : List Int) (i : Nat) (h : i < l.length) (m : Nat) (hm : l.length = i + m + 1) :
    (l.take i ++ List.replicate (m+1) 0).set i (l.getD i 0) = l.take (i+1) ++ List.replicate m 0 := by
  rw [List.set_append_right _ _ (by simp; omega)];simp only [List.length_take, Nat.min_eq_left (Nat.le_of_lt h), Nat.sub_self, List.replicate_succ, List.set_cons_zero];rw [List.take_succ_eq_append_getElem h, List.append_assoc];simp [List.getD_eq_getElem?_getD, h]

theorem toByteS_l0 (l : List Int) (hl : l.length ≤ 140737488351232) (m : Nat) : ∀ (i : Nat), l.length = i + m →
    Ev (fun k => zX.l0 k l (l.take i ++ List.replicate m 0) i) l := by
  induction m with
  | zero =>
    intro i hi;refine Ev.step (f := fun _ => some l) (fun k => ?_) (Ev.now _);simp only [zX.l0];rw [if_neg (by omega)];simp [List.take_of_length_le (show l.length ≤ i by omega)]
  | succ m ih =>
    intro i hi;refine Ev.step (fun k => ?_) (ih (i+1) (by omega));simp only [zX.l0];rw [if_pos (by omega), if_pos (by omega), if_pos (by simp; omega), w64 (by omega) (by omega)];rw [show rd l (i : Int) = l.getD i 0 by simp [rd], show ((i : Int)).toNat = i by omega, set_prefix l i (by omega) m (by omega)];rfl
theorem toByteS (l : List Int) (hl : l.length ≤ 140737488351232) : Ev (fun k => zX.f k l) l := by
  unfold zX.f;simp only [if_pos (show 0 ≤ (l.length : Int) by omega), if_pos (show ((l.length : Int)).toNat ≤ 281474976710656 by omega)];simpa using toByteS_l0 l hl l.length 0 (by omega)

theorem eqByteS_l0 (l : List Int) (hl : l.length ≤ 140737488351232) (m : Nat) : ∀ (i : Nat), l.length = i + m →
    Ev (fun k => za.l0 k l l i) true := by
  induction m with
  | zero =>
    intro i hi;refine Ev.step (f := fun _ => some true) (fun k => ?_) (Ev.now _);simp only [za.l0];rw [if_neg (by omega)]
  | succ m ih =>
    intro i hi;refine Ev.step (fun k => ?_) (ih (i+1) (by omega));simp only [za.l0];rw [if_pos (by omega), if_pos (by omega), if_pos (by omega), if_pos trivial, w64 (by omega) (by omega)];rfl
theorem eqByteS (l : List Int) (hl : l.length ≤ 140737488351232) : Ev (fun k => za.f k l l) true := by
  unfold za.f;simp only [if_pos];exact eqByteS_l0 l hl l.length 0 (by omega)

end Go.Proofs.Ytagedmajlppohaa.Pure

/- Plain lemmas on the printed functions that read, measure and compare lists of lists of bytes, and names. -/
namespace Go.Proofs.Ytagedmajlppohaa.Pure
open Go Go.RowKit Go.Proofs.Ytagedmajlppohaa.Q Go.Proofs.YtagedmajlppohaaW.PrintWords Go.Proofs.YtagedmajlppohaaW.PrintLast Go.Proofs.YtagedmajlppohaaW.PrintMore
set_option linter.unusedVariables false
set_option linter.unusedSimpArgs false

theorem rdL_at (l : List (List Int)) (i : Nat) (h : i < l.length) : je l (i : Int) = l[i] := by simp [je, List.getD_eq_getElem?_getD, h]
def lens (l : List (List Int)) : Nat := (l.map List.length).sum
theorem lens_drop (l : List (List Int)) (i : Nat) (h : i < l.length) : lens (l.drop i) = l[i].length + lens (l.drop (i + 1)) := by
  rw [List.drop_eq_getElem_cons h]; simp only [lens, List.map_cons, List.sum_cons]
theorem len_le_lens (l : List (List Int)) (i : Nat) (h : i < l.length) : l[i].length ≤ lens l := by
  induction l generalizing i with
  | nil => simp at h
  | cons x l ih =>
    cases i with
    | zero => simp [lens]
    | succ i => have := ih i (by simpa using h); simp [lens] at this ⊢; omega
theorem szByteS (l : List Int) (left : Int) (hl : l.length ≤ 9223372036854775807) (h0 : 0 ≤ left) (h1 : left ≤ 1048576) : ∃ t, Jn.f l left = some t ∧ (t < 0 ∨ (t = left - l.length ∧ 0 ≤ t)) := by
  unfold Jn.f;rw [w64 (by omega) (by omega)];by_cases h : left - (l.length : Int) < 0
  · exact ⟨-1, by rw [if_pos h], Or.inl (by omega)⟩
  · exact ⟨left - l.length, by rw [if_neg h], Or.inr ⟨rfl, by omega⟩⟩
theorem szByteSS_l0 (l : List (List Int)) (hl : l.length ≤ 1048576) (he : ∀ x ∈ l, x.length ≤ 9223372036854775807) (m : Nat) : ∀ (i : Nat) (left : Int), l.length = i + m → 0 ≤ left → left ≤ 1048576 →
    ∃ t, Ev (fun k => zN.l0 k l left i) t ∧ (t < 0 ∨ (t = left - lens (l.drop i) ∧ 0 ≤ t)) := by
  induction m with
  | zero =>
    intro i left hi h0 h1;refine ⟨left, Ev.step (f := fun _ => some left) (fun k => ?_) (Ev.now _), Or.inr ⟨by rw [List.drop_of_length_le (by omega)]; simp [lens], h0⟩⟩;simp only [zN.l0];rw [if_neg (by omega)]
  | succ m ih =>
    intro i left hi h0 h1;have hil : i < l.length := by omega
    obtain ⟨t, ht, hc⟩ := szByteS l[i] left (he _ (List.getElem_mem hil)) h0 h1;by_cases hneg : t < 0
    · refine ⟨-1, Ev.step (f := fun _ => some (-1)) (fun k => ?_) (Ev.now _), Or.inl (by omega)⟩
      simp only [zN.l0];rw [if_pos (by omega), if_pos (by omega), rdL_at l i hil, ht];simp [hneg]
    · obtain ⟨u, hu, hcu⟩ := ih (i + 1) t (by omega) (by omega) (by omega)
      refine ⟨u, Ev.step (fun k => ?_) hu, ?_⟩
      · simp only [zN.l0]
        rw [if_pos (by omega), if_pos (by omega), rdL_at l i hil, ht, w64 (x := (i : Int) + 1) (by omega) (by omega)];simp [hneg]
      · rw [lens_drop l i hil]
        rcases hcu with h | h
        · exact Or.inl h
        · exact Or.inr (by omega)
theorem szByteSS (l : List (List Int)) (left : Int) (hl : l.length ≤ 9223372036854775807) (he : ∀ x ∈ l, x.length ≤ 9223372036854775807) (h0 : 0 ≤ left) (h1 : left ≤ 1048576) :
    ∃ t, Ev (fun k => zN.f k l left) t ∧ (t < 0 ∨ (t = left - l.length - lens l ∧ 0 ≤ t)) := by
  unfold zN.f;rw [w64 (by omega) (by omega)];by_cases h : left - (l.length : Int) < 0
  · exact ⟨-1, by simp only [if_pos h]; exact Ev.now _, Or.inl (by omega)⟩
  · obtain ⟨t, ht, hc⟩ := szByteSS_l0 l (by omega) he l.length 0 (left - l.length) (by omega) (by omega) (by omega)
    exact ⟨t, by simp only [if_neg h]; exact ht, by rw [List.drop_zero] at hc; omega⟩
theorem szName (l : List (List Int)) (left : Int) (hl : l.length ≤ 9223372036854775807) (he : ∀ x ∈ l, x.length ≤ 9223372036854775807) (h0 : 0 ≤ left) (h1 : left ≤ 1048576) :
    ∃ t, Ev (fun k => zM.f k l left) t ∧ (t < 0 ∨ (t = left - l.length - lens l ∧ 0 ≤ t)) := by
  obtain ⟨t, ht, hc⟩ := szByteSS l left hl he h0 h1;unfold zM.f;by_cases h : t < 0
  · exact ⟨-1, Ev.bind ht (by simp only [if_pos h]; exact Ev.now _), Or.inl (by omega)⟩
  · exact ⟨t, Ev.bind ht (by simp only [if_neg h]; exact Ev.now _), hc⟩
theorem setL_prefix (l : List (List Int)) (i : Nat) (h : i < l.length) (m : Nat) (hm : l.length = i + m + 1) :
    (l.take i ++ List.replicate (m+1) []).set i l[i] = l.take (i+1) ++ List.replicate m [] := by
  rw [List.set_append_right _ _ (by simp; omega)];simp only [List.length_take, Nat.min_eq_left (Nat.le_of_lt h), Nat.sub_self, List.replicate_succ, List.set_cons_zero];rw [List.take_succ_eq_append_getElem h, List.append_assoc];simp
theorem toByteSS_l0 (l : List (List Int)) (hl : l.length ≤ 11728124029610) (he : ∀ x ∈ l, x.length ≤ 140737488351232) (m : Nat) : ∀ (i : Nat), l.length = i + m →
    Ev (fun k => zY.l0 k l (l.take i ++ List.replicate m []) i) l := by
  induction m with
  | zero =>
    intro i hi;refine Ev.step (f := fun _ => some l) (fun k => ?_) (Ev.now _);simp only [zY.l0];rw [if_neg (by omega)];simp [List.take_of_length_le (show l.length ≤ i by omega)]
  | succ m ih =>
    intro i hi;have hil : i < l.length := by omega
    refine Ev.step (f := fun k => (zX.f k l[i]).bind fun t => zY.l0 k l ((l.take i ++ List.replicate (m + 1) []).set i t) ((i + 1 : Nat) : Int)) (fun k => ?_) ?_
    · simp only [zY.l0]
      rw [if_pos (by omega), if_pos (by omega), rdL_at l i hil, w64 (x := (i : Int) + 1) (by omega) (by omega)];simp only [if_pos (show (i : Int) < ((l.take i ++ List.replicate (m + 1) ([] : List Int)).length : Int) by simp; omega), show ((i : Int)).toNat = i by omega];rfl
    · refine Ev.bind (toByteS l[i] (he _ (List.getElem_mem hil))) ?_
      rw [setL_prefix l i hil m (by omega)];exact ih (i + 1) (by omega)
theorem toByteSS (l : List (List Int)) (hl : l.length ≤ 11728124029610) (he : ∀ x ∈ l, x.length ≤ 140737488351232) : Ev (fun k => zY.f k l) l := by
  unfold zY.f;simp only [if_pos (show 0 ≤ (l.length : Int) by omega), if_pos (show ((l.length : Int)).toNat ≤ 11728124029610 by omega)];simpa using toByteSS_l0 l hl he l.length 0 (by omega)
theorem toName (l : List (List Int)) (hl : l.length ≤ 11728124029610) (he : ∀ x ∈ l, x.length ≤ 140737488351232) : Ev (fun k => Jd.f k l) l := by
  unfold Jd.f;exact Ev.bind (toByteSS l hl he) (Ev.now _)
theorem eqByteSS_l0 (l : List (List Int)) (hl : l.length ≤ 11728124029610) (he : ∀ x ∈ l, x.length ≤ 140737488351232) (m : Nat) : ∀ (i : Nat), l.length = i + m →
    Ev (fun k => zO.l0 k l l i) true := by
  induction m with
  | zero =>
    intro i hi;refine Ev.step (f := fun _ => some true) (fun k => ?_) (Ev.now _);simp only [zO.l0];rw [if_neg (by omega)]
  | succ m ih =>
    intro i hi;have hil : i < l.length := by omega
    refine Ev.step (f := fun k => (za.f k l[i] l[i]).bind fun t => if t = true then zO.l0 k l l ((i + 1 : Nat) : Int) else some false) (fun k => ?_) ?_
    · simp only [zO.l0]
      rw [if_pos (by omega), if_pos (by omega), rdL_at l i hil, w64 (x := (i : Int) + 1) (by omega) (by omega), if_pos (by omega)];rfl
    · refine Ev.bind (eqByteS l[i] (he _ (List.getElem_mem hil))) ?_
      simp only [if_true];exact ih (i + 1) (by omega)
theorem eqByteSS (l : List (List Int)) (hl : l.length ≤ 11728124029610) (he : ∀ x ∈ l, x.length ≤ 140737488351232) : Ev (fun k => zO.f k l l) true := by
  unfold zO.f;simp only [if_pos];exact eqByteSS_l0 l hl he l.length 0 (by omega)
theorem eqName (l : List (List Int)) (hl : l.length ≤ 11728124029610) (he : ∀ x ∈ l, x.length ≤ 140737488351232) : Ev (fun k => jR.f k l l) true := by
  unfold jR.f;refine Ev.bind (eqByteSS l hl he) ?_;simp only [if_true]; exact Ev.now _
end Go.Proofs.Ytagedmajlppohaa.Pure

/- Plain lemmas on the printed functions that say whether labels and names are right, and whether one name lies under another. -/
namespace Go.Proofs.Ytagedmajlppohaa.Pure
open Go Go.RowKit Go.Proofs.Ytagedmajlppohaa.Q Go.Proofs.YtagedmajlppohaaW.PrintWords Go.Proofs.YtagedmajlppohaaW.PrintLast Go.Proofs.YtagedmajlppohaaW.PrintMore
set_option linter.unusedVariables false
set_option linter.unusedSimpArgs false
theorem specLabelOk_l0 (l : List Int) (hl : l.length ≤ 140737488351232) (m : Nat) : ∀ (i : Nat), l.length = i + m →
    Ev (fun k => jr.l0 k l i) ((l.drop i).all jS.byte) := by
  induction m with
  | zero =>
    intro i hi;rw [List.drop_of_length_le (by omega)];refine Ev.step (f := fun _ => some true) (fun k => ?_) (Ev.now _);simp only [jr.l0];rw [if_neg (by omega)]
  | succ m ih =>
    intro i hi;have hil : i < l.length := by omega
    have e : rd l (i : Int) = l[i] := by simp [rd, List.getD_eq_getElem?_getD, hil]
    rw [List.drop_eq_getElem_cons hil, List.all_cons];by_cases hb : jS.byte l[i] = true
    · rw [hb, Bool.true_and]
      refine Ev.step (fun k => ?_) (ih (i+1) (by omega));simp only [jr.l0];rw [if_pos (by omega), if_pos (by omega), e, w64 (by omega) (by omega)];unfold jS.byte at hb;generalize l[i] = x at *;by_cases h1 : x ≥ 97 <;> by_cases h2 : x ≤ 122 <;> by_cases h3 : x ≥ 48 <;> by_cases h4 : x ≤ 57 <;> by_cases h5 : x = 45 <;> first | omega | (simp [h1, h2, h3, h4, h5] at hb ⊢; try omega)
    · rw [Bool.not_eq_true] at hb
      rw [hb, Bool.false_and];refine Ev.step (f := fun _ => some false) (fun k => ?_) (Ev.now _);simp only [jr.l0];rw [if_pos (by omega), if_pos (by omega), e];unfold jS.byte at hb;generalize l[i] = x at *;by_cases h1 : x ≥ 97 <;> by_cases h2 : x ≤ 122 <;> by_cases h3 : x ≥ 48 <;> by_cases h4 : x ≤ 57 <;> by_cases h5 : x = 45 <;> first | omega | (simp [h1, h2, h3, h4, h5] at hb ⊢; try omega)
theorem specLabelOk (l : List Int) (hl : l.length ≤ 140737488351232) : Ev (fun k => jr.f k l) (jS.v l) := by
  unfold jr.f jS.v;by_cases h1 : (l.length : Int) < 1
  · simp only [if_pos h1]
    rw [decide_eq_false (show ¬ 1 ≤ l.length by omega)];refine Ev.step (f := fun _ => some false) (fun k => ?_) (Ev.now _);simp [jr.j0]
  · simp only [if_neg h1]
    rw [decide_eq_true (show 1 ≤ l.length by omega)];by_cases h2 : (l.length : Int) > 15
    · rw [decide_eq_true h2, decide_eq_false (show ¬ l.length ≤ 15 by omega)]
      refine Ev.step (f := fun _ => some false) (fun k => ?_) (Ev.now _);simp [jr.j0]
    · rw [decide_eq_false h2, decide_eq_true (show l.length ≤ 15 by omega)]
      have := specLabelOk_l0 l hl l.length 0 (by omega);rw [List.drop_zero] at this;refine Ev.step (fun k => ?_) this;simp [jr.j0]
theorem specNameOk_l0 (l : List (List Int)) (hl : l.length ≤ 1048576) (he : ∀ x ∈ l, x.length ≤ 140737488351232) (m : Nat) : ∀ (i : Nat), l.length = i + m →
    Ev (fun k => jo.l0 k i l) ((l.drop i).all jS.v) := by
  induction m with
  | zero =>
    intro i hi;rw [List.drop_of_length_le (by omega)];refine Ev.step (f := fun _ => some true) (fun k => ?_) (Ev.now _);simp only [jo.l0];rw [if_neg (by omega)]
  | succ m ih =>
    intro i hi;have hil : i < l.length := by omega
    rw [List.drop_eq_getElem_cons hil, List.all_cons];refine Ev.step (f := fun k => (jr.f k l[i]).bind fun t => if t = true then jo.l0 k ((i + 1 : Nat) : Int) l else some false) (fun k => ?_) ?_
    · simp only [jo.l0]
      rw [if_pos (by omega), if_pos (by omega), rdL_at l i hil, w64 (x := (i : Int) + 1) (by omega) (by omega)];rfl
    · refine Ev.bind (specLabelOk l[i] (he _ (List.getElem_mem hil))) ?_
      cases hb : jS.v l[i] with
      | true => simp only [if_true, Bool.true_and]; exact ih (i + 1) (by omega)
      | false => simp only [Bool.false_eq_true, if_false, Bool.false_and]; exact Ev.now _
theorem specNameOk (l : List (List Int)) (hl : l.length ≤ 1048576) (he : ∀ x ∈ l, x.length ≤ 140737488351232) : Ev (fun k => jo.f k l) (jf.v l) := by
  unfold jo.f jf.v;by_cases h : (l.length : Int) > 6
  · simp only [if_pos h]
    rw [decide_eq_false (show ¬ l.length ≤ 6 by omega)];exact Ev.now _
  · simp only [if_neg h]
    rw [decide_eq_true (show l.length ≤ 6 by omega), Bool.true_and];simpa using specNameOk_l0 l hl he l.length 0 (by omega)
end Go.Proofs.Ytagedmajlppohaa.Pure

/- Plain lemmas on the printed functions that compare names, and say whether one lies under another. -/
namespace Go.Proofs.Ytagedmajlppohaa.Pure
open Go Go.RowKit Go.Proofs.Ytagedmajlppohaa.Q Go.Proofs.YtagedmajlppohaaW.PrintWords Go.Proofs.YtagedmajlppohaaW.PrintLast Go.Proofs.YtagedmajlppohaaW.PrintMore
set_option linter.unusedVariables false
set_option linter.unusedSimpArgs false

def cb (a b : List Int) : Int := yD.v a b
/-- Two lists of labels, compared from their heads on. -/
def cmpL : List (List Int) → List (List Int) → Int
  | [], [] => 0
  | [], _ :: _ => -1
  | _ :: _, [] => 1
  | x :: xs, y :: ys => if cb x y = 0 then cmpL xs ys else cb x y
def nameCmpV (a b : List (List Int)) : Int := cmpL a.reverse b.reverse
theorem rev_at (l : List (List Int)) (i : Nat) (h : i < l.length) : je l ((l.length : Int) - ((i + 1 : Nat) : Int)) = l.reverse[i]'(by simpa using h) := by
  have e : ((l.length : Int) - ((i + 1 : Nat) : Int)) = ((l.length - 1 - i : Nat) : Int) := by omega
  rw [e, rdL_at l _ (by omega), List.getElem_reverse]
theorem specCmp_l0 (a b : List (List Int)) (ha : a.length ≤ 1048576) (hb : b.length ≤ 1048576) (m : Nat) : ∀ (i : Nat), min a.length b.length = i + m →
    Ev (fun k => jk.l0 k ((i + 1 : Nat) : Int) a b) (cmpL (a.reverse.drop i) (b.reverse.drop i)) := by
  induction m with
  | zero =>
    intro i hi
    have hend : cmpL (a.reverse.drop i) (b.reverse.drop i) = if (a.length : Int) = (b.length : Int) then 0 else if (a.length : Int) < (b.length : Int) then -1 else 1 := by
      by_cases h1 : a.length = b.length
      · rw [List.drop_of_length_le (by simp; omega), List.drop_of_length_le (by simp; omega), if_pos (by omega)]; rfl
      · by_cases h2 : a.length < b.length
        · rw [List.drop_of_length_le (l := a.reverse) (by simp; omega), List.drop_eq_getElem_cons (l := b.reverse) (by simp; omega), if_neg (by omega), if_pos (by omega)]; rfl
        · rw [List.drop_of_length_le (l := b.reverse) (by simp; omega), List.drop_eq_getElem_cons (l := a.reverse) (by simp; omega), if_neg (by omega), if_neg (by omega)]; rfl
    rw [hend];refine Ev.step (f := fun k => jk.j1 k ((i + 1 : Nat) : Int) false a b) (fun k => ?_) ?_
    · simp only [jk.l0]
      by_cases h : ((i + 1 : Nat) : Int) ≤ (a.length : Int)
      · rw [if_pos h, decide_eq_false (by omega)]
      · rw [if_neg h]
    · refine Ev.step (f := fun _ => some (if (a.length : Int) = (b.length : Int) then 0 else if (a.length : Int) < (b.length : Int) then -1 else 1)) (fun k => ?_) (Ev.now _)
      simp only [jk.j1, Bool.false_eq_true, if_false];by_cases h1 : (a.length : Int) = (b.length : Int)
      · rw [if_pos h1, if_pos h1]
      · by_cases h2 : (a.length : Int) < (b.length : Int)
        · rw [if_neg h1, if_pos h2, if_neg h1, if_pos h2]
        · rw [if_neg h1, if_neg h2, if_neg h1, if_neg h2]
  | succ m ih =>
    intro i hi;have h1 : i < a.length := by omega
    have h2 : i < b.length := by omega
    rw [List.drop_eq_getElem_cons (l := a.reverse) (by simpa using h1), List.drop_eq_getElem_cons (l := b.reverse) (by simpa using h2)];have ea := rev_at a i h1;have eb := rev_at b i h2;generalize hx : a.reverse[i]'(by simpa using h1) = x at ea ⊢;generalize hy : b.reverse[i]'(by simpa using h2) = y at eb ⊢;refine Ev.step (f := fun k => jk.j1 k ((i + 1 : Nat) : Int) true a b) (fun k => ?_) ?_
    · simp only [jk.l0]
      rw [if_pos (by omega), decide_eq_true (by omega)]
    · refine Ev.step (f := fun k => if cb x y = 0 then jk.l0 k ((i + 1 + 1 : Nat) : Int) a b else some (cb x y)) (fun k => ?_) ?_
      · simp only [jk.j1, if_true]
        rw [w64 (x := (a.length : Int) - ((i + 1 : Nat) : Int)) (by omega) (by omega), w64 (x := (b.length : Int) - ((i + 1 : Nat) : Int)) (by omega) (by omega), if_pos (by omega), if_pos (by omega), if_pos (by omega), if_pos (by omega), ea, eb, w64 (x := ((i + 1 : Nat) : Int) + 1) (by omega) (by omega)];rfl
      · show Ev _ (if cb x y = 0 then cmpL _ _ else cb x y)
        by_cases hc : cb x y = 0
        · simp only [if_pos hc]; exact ih (i + 1) (by omega)
        · simp only [if_neg hc]; exact Ev.now _
theorem specCmp (a b : List (List Int)) (ha : a.length ≤ 1048576) (hb : b.length ≤ 1048576) : Ev (fun k => jk.f k a b) (nameCmpV a b) := by
  have := specCmp_l0 a b ha hb (min a.length b.length) 0 (by omega);simpa [jk.f, nameCmpV] using this
theorem compareBytes_eq (a b : List UInt8) : Lib.compareBytes a b = if Op.bytesLess a b = true then -1 else if (a == b) = true then 0 else 1 := by
  induction a generalizing b with
  | nil => cases b <;> simp [Lib.compareBytes, Op.bytesLess]
  | cons x a ih =>
    cases b with
    | nil => simp [Lib.compareBytes, Op.bytesLess]
    | cons y b =>
      simp only [Lib.compareBytes, Op.bytesLess];by_cases h1 : x < y
      · simp [h1]
      · by_cases h2 : y < x
        · have h3 : x ≠ y := by intro e; subst e; exact h1 h2
          simp [h1, h2, h3]
        · have h3 : x = y := by
            have a1 := UInt8.not_lt.1 h1;have a2 := UInt8.not_lt.1 h2;exact UInt8.le_antisymm a2 a1
          subst h3;simp only [h1, if_false, decide_false, Bool.false_or, BEq.rfl, Bool.true_and, ih b];simp
theorem compareV (a b : List Int) : zv.f a b = some (cb a b) := by
  unfold zv.f cb yD.v;rw [compareBytes_eq];simp only [Go.ByteArray.toList_eq]
theorem cmpInt (a b : Int) : yt.f a b = some (if a < b then -1 else if a > b then 1 else 0) := by
  unfold yt.f zP.f;by_cases h1 : a < b <;> by_cases h2 : a > b <;> simp [h1, h2]
theorem implCmp_l0 (a b : List (List Int)) (ha : a.length ≤ 1048576) (hb : b.length ≤ 1048576) (m : Nat) : ∀ (i : Nat), min a.length b.length = i + m →
    Ev (fun k => js.l0 k ((i + 1 : Nat) : Int) a b) (cmpL (a.reverse.drop i) (b.reverse.drop i)) := by
  induction m with
  | zero =>
    intro i hi
    have hend : cmpL (a.reverse.drop i) (b.reverse.drop i) = if (a.length : Int) < (b.length : Int) then -1 else if (a.length : Int) > (b.length : Int) then 1 else 0 := by
      by_cases h1 : a.length = b.length
      · rw [List.drop_of_length_le (by simp; omega), List.drop_of_length_le (by simp; omega), if_neg (by omega), if_neg (by omega)]; rfl
      · by_cases h2 : a.length < b.length
        · rw [List.drop_of_length_le (l := a.reverse) (by simp; omega), List.drop_eq_getElem_cons (l := b.reverse) (by simp; omega), if_pos (by omega)]; rfl
        · rw [List.drop_of_length_le (l := b.reverse) (by simp; omega), List.drop_eq_getElem_cons (l := a.reverse) (by simp; omega), if_neg (by omega), if_pos (by omega)]; rfl
    rw [hend];refine Ev.step (f := fun _ => some (if (a.length : Int) < (b.length : Int) then -1 else if (a.length : Int) > (b.length : Int) then 1 else 0)) (fun k => ?_) (Ev.now _);simp only [js.l0];rw [if_neg (by unfold mn; split <;> omega), cmpInt];rfl
  | succ m ih =>
    intro i hi;have h1 : i < a.length := by omega
    have h2 : i < b.length := by omega
    rw [List.drop_eq_getElem_cons (l := a.reverse) (by simpa using h1), List.drop_eq_getElem_cons (l := b.reverse) (by simpa using h2)];have ea := rev_at a i h1;have eb := rev_at b i h2;generalize hx : a.reverse[i]'(by simpa using h1) = x at ea ⊢;generalize hy : b.reverse[i]'(by simpa using h2) = y at eb ⊢;refine Ev.step (f := fun k => if cb x y = 0 then js.l0 k ((i + 1 + 1 : Nat) : Int) a b else some (cb x y)) (fun k => ?_) ?_
    · simp only [js.l0]
      rw [if_pos (by unfold mn; split <;> omega), w64 (x := (a.length : Int) - ((i + 1 : Nat) : Int)) (by omega) (by omega), w64 (x := (b.length : Int) - ((i + 1 : Nat) : Int)) (by omega) (by omega), if_pos (by omega), if_pos (by omega), if_pos (by omega), if_pos (by omega), ea, eb, w64 (x := ((i + 1 : Nat) : Int) + 1) (by omega) (by omega), compareV];rfl
    · show Ev _ (if cb x y = 0 then cmpL _ _ else cb x y)
      by_cases hc : cb x y = 0
      · simp only [if_pos hc]; exact ih (i + 1) (by omega)
      · simp only [if_neg hc]; exact Ev.now _
theorem implCmp (a b : List (List Int)) (ha : a.length ≤ 1048576) (hb : b.length ≤ 1048576) : Ev (fun k => js.f k a b) (nameCmpV a b) := by
  have := implCmp_l0 a b ha hb (min a.length b.length) 0 (by omega);simpa [js.f, nameCmpV] using this
end Go.Proofs.Ytagedmajlppohaa.Pure

/- Plain lemmas on the printed functions that read, measure and compare records, and say whether they are right. -/
namespace Go.Proofs.Ytagedmajlppohaa.Pure
open Go Go.RowKit Go.Proofs.Ytagedmajlppohaa.Q Go.Proofs.YtagedmajlppohaaW.PrintWords Go.Proofs.YtagedmajlppohaaW.PrintLast Go.Proofs.YtagedmajlppohaaW.PrintMore
set_option linter.unusedVariables false
set_option linter.unusedSimpArgs false

/-- A name of any length that there can be, and one that fits. -/
def RawN (l : List (List Int)) : Prop := l.length ≤ 9223372036854775807 ∧ ∀ x ∈ l, x.length ≤ 9223372036854775807
def FitN (l : List (List Int)) : Prop := l.length ≤ 1048576 ∧ (∀ x ∈ l, x.length ≤ 1048576) ∧ lens l ≤ 1048576
theorem FitN.big {l : List (List Int)} (h : FitN l) : ∀ x ∈ l, x.length ≤ 140737488351232 := fun x hx => by have := h.2.1 x hx; omega
theorem lens_fit {l : List (List Int)} (h : l.length + lens l ≤ 1048576) : FitN l := ⟨by omega, fun x hx => by
  obtain ⟨i, hi, rfl⟩ := List.getElem_of_mem hx;have := len_le_lens l i hi
  omega, by omega⟩
theorem szName' (l : List (List Int)) (left : Int) (hl : RawN l) (h0 : 0 ≤ left) (h1 : left ≤ 1048576) :
    ∃ t, Ev (fun k => zM.f k l left) t ∧ (t < 0 ∨ (0 ≤ t ∧ t ≤ left ∧ FitN l)) := by
  obtain ⟨t, ht, hc⟩ := szName l left hl.1 hl.2 h0 h1;refine ⟨t, ht, hc.imp id fun h => ⟨h.2, by omega, lens_fit (by omega)⟩⟩
theorem toName' (l : List (List Int)) (h : FitN l) : Ev (fun k => Jd.f k l) l := toName l (by have := h.1; omega) h.big
theorem eqName' (l : List (List Int)) (h : FitN l) : Ev (fun k => jR.f k l l) true := eqName l (by have := h.1; omega) h.big

theorem szIntS (l : List Int) (left : Int) (hl : l.length ≤ 9223372036854775807) (h0 : 0 ≤ left) (h1 : left ≤ 1048576) : ∃ t, Yj.f l left = some t ∧ (t < 0 ∨ (t = left - l.length ∧ 0 ≤ t)) := by
  unfold Yj.f;rw [w64 (by omega) (by omega)];by_cases h : left - (l.length : Int) < 0
  · exact ⟨-1, by rw [if_pos h], Or.inl (by omega)⟩
  · exact ⟨left - l.length, by rw [if_neg h], Or.inr ⟨rfl, by omega⟩⟩
theorem toIntS_l0 (l : List Int) (hl : l.length ≤ 35184372088832) (m : Nat) : ∀ (i : Nat), l.length = i + m →
    Ev (fun k => yQ.l0 k l (l.take i ++ List.replicate m 0) i) l := by
  induction m with
  | zero =>
    intro i hi;refine Ev.step (f := fun _ => some l) (fun k => ?_) (Ev.now _);simp only [yQ.l0];rw [if_neg (by omega)];simp [List.take_of_length_le (show l.length ≤ i by omega)]
  | succ m ih =>
    intro i hi;refine Ev.step (fun k => ?_) (ih (i+1) (by omega));simp only [yQ.l0];rw [if_pos (by omega), if_pos (by omega), if_pos (by simp; omega), w64 (by omega) (by omega)];rw [show rd l (i : Int) = l.getD i 0 by simp [rd], show ((i : Int)).toNat = i by omega, set_prefix l i (by omega) m (by omega)];rfl
theorem toIntS (l : List Int) (hl : l.length ≤ 35184372088832) : Ev (fun k => yQ.f k l) l := by
  unfold yQ.f;simp only [if_pos (show 0 ≤ (l.length : Int) by omega), if_pos (show ((l.length : Int)).toNat ≤ 35184372088832 by omega)];simpa using toIntS_l0 l hl l.length 0 (by omega)
theorem eqIntS_l0 (l : List Int) (hl : l.length ≤ 140737488351232) (m : Nat) : ∀ (i : Nat), l.length = i + m →
    Ev (fun k => yI.l0 k l l i) true := by
  induction m with
  | zero =>
    intro i hi;refine Ev.step (f := fun _ => some true) (fun k => ?_) (Ev.now _);simp only [yI.l0];rw [if_neg (by omega)]
  | succ m ih =>
    intro i hi;refine Ev.step (fun k => ?_) (ih (i+1) (by omega));simp only [yI.l0];rw [if_pos (by omega), if_pos (by omega), if_pos (by omega), if_pos trivial, w64 (by omega) (by omega)];rfl
theorem eqIntS (l : List Int) (hl : l.length ≤ 140737488351232) : Ev (fun k => yI.f k l l) true := by
  unfold yI.f;simp only [if_pos];exact eqIntS_l0 l hl l.length 0 (by omega)
theorem szRr (n : List (List Int)) (t ttl addr : Int) (dst : List (List Int)) (text nums : List Int) (left : Int) (hn : RawN n) (hto : RawN dst) (ht : text.length ≤ 9223372036854775807) (hnu : nums.length ≤ 9223372036854775807) (h0 : 0 ≤ left) (h1 : left ≤ 1048576) :
    ∃ u, Ev (fun k => Xh.f k n t ttl addr dst text nums left) u ∧ (u < 0 ∨ (0 ≤ u ∧ u ≤ left ∧ FitN n ∧ FitN dst ∧ text.length ≤ 1048576 ∧ nums.length ≤ 1048576)) := by
  unfold Xh.f;obtain ⟨a, ha, hca⟩ := szName' n left hn h0 h1;by_cases h : a < 0
  · exact ⟨-1, Ev.bind ha (by simp only [if_pos h]; exact Ev.now _), Or.inl (by omega)⟩
  obtain ⟨b, hb, hcb⟩ := szName' dst a hto (by omega) (by omega);by_cases h2 : b < 0
  · exact ⟨-1, Ev.bind ha (by simp only [if_neg h]; exact Ev.bind hb (by simp only [if_pos h2]; exact Ev.now _)), Or.inl (by omega)⟩
  obtain ⟨c, hc, hcc⟩ := szByteS text b ht (by omega) (by omega);by_cases h3 : c < 0
  · exact ⟨-1, Ev.bind ha (by simp only [if_neg h]; exact Ev.bind hb (by simp only [if_neg h2, hc, Option.bind_some, if_pos h3]; exact Ev.now _)), Or.inl (by omega)⟩
  obtain ⟨d, hd, hcd⟩ := szIntS nums c hnu (by omega) (by omega);by_cases h4 : d < 0
  · exact ⟨-1, Ev.bind ha (by simp only [if_neg h]; exact Ev.bind hb (by simp only [if_neg h2, hc, Option.bind_some, if_neg h3, hd, if_pos h4]; exact Ev.now _)), Or.inl (by omega)⟩
  refine ⟨d, Ev.bind ha (by simp only [if_neg h]; exact Ev.bind hb (by simp only [if_neg h2, hc, Option.bind_some, if_neg h3, hd, if_neg h4]; exact Ev.now _)), Or.inr ?_⟩;have f1 := hca.resolve_left h;have f2 := hcb.resolve_left h2;exact ⟨by omega, by omega, f1.2.2, f2.2.2, by omega, by omega⟩
theorem toRr (n : List (List Int)) (t ttl addr : Int) (dst : List (List Int)) (text nums : List Int) (hn : FitN n) (hto : FitN dst) (ht : text.length ≤ 1048576) (hnu : nums.length ≤ 1048576) :
    Ev (fun k => qaN.f k n t ttl addr dst text nums) (n, t, ttl, addr, dst, text, nums) := by
  unfold qaN.f;exact Ev.bind (toName' n hn) (Ev.bind (toName' dst hto) (Ev.bind (toByteS text (by omega)) (Ev.bind (toIntS nums (by omega)) (Ev.now _))))
theorem eqRr (n : List (List Int)) (t ttl addr : Int) (dst : List (List Int)) (text nums : List Int) (hn : FitN n) (hto : FitN dst) (ht : text.length ≤ 1048576) (hnu : nums.length ≤ 1048576) :
    Ev (fun k => XN.f k n t ttl addr dst text nums n t ttl addr dst text nums) true := by
  unfold XN.f;refine Ev.bind (eqName' n hn) ?_;simp only [if_true];refine Ev.bind (eqName' dst hto) ?_;simp only [if_true];refine Ev.bind (eqByteS text (by omega)) ?_;simp only [if_true];refine Ev.bind (eqIntS nums (by omega)) ?_;simp only [if_true];exact Ev.now _
def typeOkV (t : Int) : Bool := t == 1 || t == 2 || t == 5 || t == 6 || t == 12 || t == 16 || t == 49
theorem specTypeOk (t : Int) : zW.f t = some (typeOkV t) := by
  unfold zW.f typeOkV;by_cases h1 : t = 1
  · simp [h1]
  by_cases h2 : t = 2
  · simp [h2]
  by_cases h3 : t = 5
  · simp [h3]
  by_cases h4 : t = 6
  · simp [h4]
  by_cases h5 : t = 12
  · simp [h5]
  by_cases h6 : t = 16
  · simp [h6]
  by_cases h7 : t = 49
  · simp [h7]
  simp [h1, h2, h3, h4, h5, h6, h7]
theorem implTypeOk (t : Int) (ht : -9223372036854775808 ≤ t ∧ t ≤ 9223372036854775807) : QD.f t = some (typeOkV t) := by
  unfold QD.f zf.f typeOkV zf.v;rw [if_pos ht];simp only [Option.bind_some, Go.ByteArray.toList_eq];by_cases h1 : t = 1
  · subst h1; decide
  by_cases h2 : t = 2
  · subst h2; decide
  by_cases h3 : t = 5
  · subst h3; decide
  by_cases h4 : t = 6
  · subst h4; decide
  by_cases h5 : t = 12
  · subst h5; decide
  by_cases h6 : t = 16
  · subst h6; decide
  by_cases h7 : t = 49
  · subst h7; decide
  rw [if_neg h1, if_neg h2, if_neg h3, if_neg h4, if_neg h5, if_neg h6, if_neg h7];simp [h1, h2, h3, h4, h5, h6, h7]
def namedV (t : Int) : Bool := t == 2 || t == 5 || t == 6 || t == 12
def textedV (t : Int) : Bool := t == 16 || t == 49
theorem specNamed (t : Int) : Ze.f t = some (namedV t) := by
  unfold Ze.f namedV;by_cases h1 : t = 2
  · simp [h1]
  by_cases h2 : t = 5
  · simp [h2]
  by_cases h3 : t = 6
  · simp [h3]
  simp [h1, h2, h3]
theorem implNamed (t : Int) : ZY.f t = some (namedV t) := specNamed t
theorem specTexted (t : Int) : YU.f t = some (textedV t) := by
  unfold YU.f textedV;by_cases h1 : t = 16
  · simp [h1]
  simp [h1]
theorem implTexted (t : Int) : Jo.f t = some (textedV t) := specTexted t
theorem implWithin (a b c : Int) : jj.f a b c = some (decide (b ≤ a ∧ a ≤ c)) := by
  unfold jj.f;by_cases h : b ≤ a <;> simp [h]
theorem implIsWord (a : Int) : ZW.f a = some (decide (0 ≤ a ∧ a ≤ 4294967295)) := by
  unfold ZW.f;rw [implWithin]; rfl
def numsV (t : Int) (nums : List Int) : Bool := if t = 6 then decide (nums.length = 2 ∧ (0 ≤ rd nums 0 ∧ rd nums 0 ≤ 4294967295) ∧ 0 ≤ rd nums 1 ∧ rd nums 1 ≤ 100000) else decide (nums.length = 0)
def addrV (t addr : Int) : Bool := if t = 1 then decide (0 ≤ addr ∧ addr ≤ 4294967295) else decide (addr = 0)
def toV (t : Int) (dst : List (List Int)) : Bool := if namedV t = true then jf.v dst else decide (dst.length = 0)
def textV (t : Int) (text : List Int) : Bool := if textedV t = true then decide (text.length ≤ 40) else decide (text.length = 0)
def rrOkV (n : List (List Int)) (t ttl addr : Int) (dst : List (List Int)) (text nums : List Int) : Bool :=
  jf.v n && (typeOkV t && (decide (0 ≤ ttl ∧ ttl ≤ 100000) && (addrV t addr && (toV t dst && (textV t text && numsV t nums)))))
theorem specData_j2 (n : List (List Int)) (t ttl addr : Int) (dst : List (List Int)) (text nums : List Int) : Ev (fun k => jy.j2 k n t ttl addr dst text nums) (numsV t nums) := by
  refine Ev.step (f := fun _ => some (numsV t nums)) (fun k => ?_) (Ev.now _);simp only [jy.j2];unfold numsV;by_cases h6 : t = 6
  · rw [if_pos h6, if_pos h6]
    by_cases h2 : nums.length = 2
    · rw [if_pos (by omega), if_pos (by omega)]
      by_cases a1 : rd nums 0 < 0
      · rw [if_pos a1, decide_eq_false (by omega)]
      rw [if_neg a1];by_cases a2 : rd nums 0 ≥ 4294967296
      · rw [if_pos a2, decide_eq_false (by omega)]
      rw [if_neg a2, if_pos (by omega)];by_cases a3 : rd nums 1 ≥ 0
      · rw [if_pos a3]; congr 1; apply decide_eq_decide.2; constructor <;> intro h <;> omega
      · rw [if_neg a3, decide_eq_false (by omega)]
    · rw [if_neg (by omega), decide_eq_false (by omega)]
  · rw [if_neg h6, if_neg h6]
    congr 1
    rw [Bool.eq_iff_iff, beq_iff_eq, decide_eq_true_iff]; omega
theorem specData_j1 (n : List (List Int)) (t ttl addr : Int) (dst : List (List Int)) (text nums : List Int) : Ev (fun k => jy.j1 k n t ttl addr dst text nums) (textV t text && numsV t nums) := by
  refine Ev.step (f := fun k => if textV t text = true then jy.j2 k n t ttl addr dst text nums else some false) (fun k => ?_) ?_
  · simp only [jy.j1]
    rw [specTexted, Option.bind_some];unfold textV;cases textedV t
    · simp only [Bool.false_eq_true, if_false, decide_eq_true_iff]
      by_cases h : text.length = 0
      · rw [if_neg (by omega), if_pos h]
      · rw [if_pos (by omega), if_neg h]
    · simp only [if_true, decide_eq_true_iff]
      by_cases h : text.length ≤ 40
      · rw [if_neg (by omega), if_pos h]
      · rw [if_pos (by omega), if_neg h]
  · cases textV t text
    · simp only [Bool.false_eq_true, if_false, Bool.false_and]; exact Ev.now _
    · simp only [if_true, Bool.true_and]; exact specData_j2 ..
theorem specData_j0 (n : List (List Int)) (t ttl addr : Int) (dst : List (List Int)) (text nums : List Int) (hto : FitN dst) : Ev (fun k => jy.j0 k n t ttl addr dst text nums) (toV t dst && (textV t text && numsV t nums)) := by
  refine Ev.step (f := fun k => if namedV t = true then ((jo.f k dst).bind fun jh => (if jh = true then (jy.j1 k n t ttl addr dst text nums) else (some false))) else (if (dst.length : Int) > 0 then (some false) else (jy.j1 k n t ttl addr dst text nums))) (fun k => ?_) ?_
  · simp only [jy.j0]
    rw [specNamed, Option.bind_some]
  · unfold toV
    cases namedV t
    · simp only [Bool.false_eq_true, if_false]
      by_cases h : dst.length = 0
      · simp only [if_neg (show ¬ (dst.length : Int) > 0 by omega)]
        rw [decide_eq_true h, Bool.true_and]; exact specData_j1 ..
      · simp only [if_pos (show (dst.length : Int) > 0 by omega)]
        rw [decide_eq_false h, Bool.false_and]; exact Ev.now _
    · simp only [if_true]
      refine Ev.bind (specNameOk dst hto.1 hto.big) ?_;cases jf.v dst
      · simp only [Bool.false_eq_true, if_false, Bool.false_and]; exact Ev.now _
      · simp only [if_true, Bool.true_and]; exact specData_j1 ..
theorem specData (n : List (List Int)) (t ttl addr : Int) (dst : List (List Int)) (text nums : List Int) (hto : FitN dst) : Ev (fun k => jy.f k n t ttl addr dst text nums) (addrV t addr && (toV t dst && (textV t text && numsV t nums))) := by
  unfold jy.f addrV;by_cases h1 : t = 1
  · simp only [if_pos h1]
    by_cases a1 : addr < 0
    · simp only [if_pos a1]; rw [decide_eq_false (by omega), Bool.false_and]; exact Ev.now _
    simp only [if_neg a1];by_cases a2 : addr ≥ 4294967296
    · simp only [if_pos a2]; rw [decide_eq_false (by omega), Bool.false_and]; exact Ev.now _
    simp only [if_neg a2]; rw [decide_eq_true (show 0 ≤ addr ∧ addr ≤ 4294967295 by omega), Bool.true_and]; exact specData_j0 _ _ _ _ _ _ _ hto
  · simp only [if_neg h1]
    by_cases a1 : addr = 0
    · simp only [if_pos a1]; rw [decide_eq_true a1, Bool.true_and]; exact specData_j0 _ _ _ _ _ _ _ hto
    · simp only [if_neg a1]; rw [decide_eq_false a1, Bool.false_and]; exact Ev.now _
theorem specRrOk (n : List (List Int)) (t ttl addr : Int) (dst : List (List Int)) (text nums : List Int) (hn : FitN n) (hto : FitN dst) : Ev (fun k => Zu.f k n t ttl addr dst text nums) (rrOkV n t ttl addr dst text nums) := by
  unfold Zu.f rrOkV;refine Ev.bind (specNameOk n hn.1 hn.big) ?_;cases jf.v n
  · simp only [Bool.false_eq_true, if_false, Bool.false_and]; exact Ev.now _
  simp only [if_true, Bool.true_and, specTypeOk, Option.bind_some];cases typeOkV t
  · simp only [Bool.false_eq_true, if_false, Bool.false_and]; exact Ev.now _
  simp only [if_true, Bool.true_and];by_cases a1 : ttl ≥ 0
  · simp only [if_pos a1]
    by_cases a2 : ttl ≤ 100000
    · simp only [if_pos a2]; rw [decide_eq_true (show 0 ≤ ttl ∧ ttl ≤ 100000 by omega), Bool.true_and]
      exact Ev.bind (specData _ _ _ _ _ _ _ hto) (Ev.now _)
    · simp only [if_neg a2]; rw [decide_eq_false (by omega), Bool.false_and]; exact Ev.now _
  · simp only [if_neg a1]; rw [decide_eq_false (by omega), Bool.false_and]; exact Ev.now _
theorem rrOk_j3 (x3 x4 x5 : Bool) (n : List (List Int)) (t ttl addr : Int) (dst : List (List Int)) (text nums : List Int) : Ev (fun k => jl.j3 k x3 x4 x5 n t ttl addr dst text nums) (x3 && (x4 && (x5 && textV t text))) := by
  refine Ev.step (f := fun _ => some (x3 && (x4 && (x5 && textV t text)))) (fun k => ?_) (Ev.now _);simp only [jl.j3];rw [implTexted, Option.bind_some];unfold textV;by_cases h : text.length = 0
  · rw [if_pos (by omega), decide_eq_true h, decide_eq_true (show text.length ≤ 40 by omega)]
    cases x3 <;> cases x4 <;> cases x5 <;> cases textedV t <;> rfl
  · rw [if_neg (by omega), decide_eq_false h, show decide ((text.length : Int) ≤ 40) = decide (text.length ≤ 40) from decide_eq_decide.2 (by omega)]
    cases x3 <;> cases x4 <;> cases x5 <;> cases textedV t <;> simp
theorem rrOk_j2 (x3 x4 : Bool) (n : List (List Int)) (t ttl addr : Int) (dst : List (List Int)) (text nums : List Int) : Ev (fun k => jl.j2 k x3 x4 n t ttl addr dst text nums) (x3 && (x4 && (toV t dst && textV t text))) := by
  refine Ev.step (f := fun k => jl.j3 k x3 x4 (toV t dst) n t ttl addr dst text nums) (fun k => ?_) (rrOk_j3 ..);simp only [jl.j2];rw [implNamed, Option.bind_some];unfold toV jf.f;by_cases h : dst.length = 0
  · have := List.eq_nil_of_length_eq_zero h
    subst this;cases namedV t <;> simp [jf.v]
  · rw [if_neg (by omega), decide_eq_false h]
    cases namedV t <;> simp
theorem rrOk_j1 (x3 : Bool) (n : List (List Int)) (t ttl addr : Int) (dst : List (List Int)) (text nums : List Int) : Ev (fun k => jl.j1 k x3 n t ttl addr dst text nums) (x3 && (addrV t addr && (toV t dst && textV t text))) := by
  refine Ev.step (f := fun k => jl.j2 k x3 (addrV t addr) n t ttl addr dst text nums) (fun k => ?_) (rrOk_j2 ..);simp only [jl.j1];rw [implIsWord, Option.bind_some];unfold addrV;by_cases h : addr = 0
  · subst h; simp
  · rw [if_neg h, decide_eq_false h]
    by_cases h1 : t = 1
    · rw [if_pos h1, if_pos h1]
    · rw [if_neg h1, if_neg h1]
theorem rrOk_j0 (x22 : Bool) (n : List (List Int)) (t ttl addr : Int) (dst : List (List Int)) (text nums : List Int) : Ev (fun k => jl.j0 k x22 n t ttl addr dst text nums) (!x22 && (numsV t nums && (addrV t addr && (toV t dst && textV t text)))) := by
  cases x22
  · refine Ev.step (f := fun k => jl.j1 k (numsV t nums) n t ttl addr dst text nums) (fun k => ?_) ?_
    · simp only [jl.j0, Bool.false_eq_true, if_false]
      simp only [implIsWord, implWithin, Option.bind_some];unfold numsV;by_cases h6 : t = 6
      · simp only [if_pos h6]
        by_cases h2 : nums.length = 2
        · rw [if_pos (by omega), if_pos (by omega)]
          by_cases a1 : 0 ≤ rd nums 0 ∧ rd nums 0 ≤ 4294967295
          · simp only [decide_eq_true_iff, if_pos a1]
            rw [if_pos (by omega)];congr 1; apply decide_eq_decide.2; constructor <;> intro h <;> omega
          · simp only [decide_eq_true_iff, if_neg a1]
            rw [decide_eq_false (by omega)]
        · rw [if_neg (by omega), decide_eq_false (by omega)]
      · simp only [if_neg h6]
        congr 1
        rw [Bool.eq_iff_iff, beq_iff_eq, decide_eq_true_iff]; omega
    · simpa using rrOk_j1 (numsV t nums) n t ttl addr dst text nums
  · refine Ev.step (f := fun _ => some false) (fun k => ?_) (Ev.now _)
    simp only [jl.j0, if_true]
theorem implRrOk (n : List (List Int)) (t ttl addr : Int) (dst : List (List Int)) (text nums : List Int) (ht : -9223372036854775808 ≤ t ∧ t ≤ 9223372036854775807) : Ev (fun k => jl.f k n t ttl addr dst text nums) (rrOkV n t ttl addr dst text nums) := by
  have e : rrOkV n t ttl addr dst text nums = (!(!(jf.v n && (typeOkV t && decide (0 ≤ ttl ∧ ttl ≤ 100000)))) && (numsV t nums && (addrV t addr && (toV t dst && textV t text)))) := by
    unfold rrOkV;cases jf.v n <;> cases typeOkV t <;> cases decide (0 ≤ ttl ∧ ttl ≤ 100000) <;> cases numsV t nums <;> cases addrV t addr <;> cases toV t dst <;> cases textV t text <;> rfl
  rw [e];unfold jl.f jf.f;simp only [Option.bind_some, implTypeOk t ht, implWithin];cases jf.v n
  · simp only [Bool.false_eq_true, if_false, Bool.false_and, Bool.not_false]; exact rrOk_j0 ..
  cases typeOkV t
  · simp only [Bool.false_eq_true, if_false, if_true, Bool.false_and, Bool.true_and, Bool.not_false]; exact rrOk_j0 ..
  simp only [if_true, Bool.true_and]; exact rrOk_j0 ..
end Go.Proofs.Ytagedmajlppohaa.Pure

/- Plain lemmas on the printed functions that write names and records as bytes, and compare records. -/
namespace Go.Proofs.Ytagedmajlppohaa.Pure
open Go Go.RowKit Go.Proofs.Ytagedmajlppohaa.Q Go.Proofs.YtagedmajlppohaaW.PrintWords Go.Proofs.YtagedmajlppohaaW.PrintLast Go.Proofs.YtagedmajlppohaaW.PrintMore
set_option linter.unusedVariables false
set_option linter.unusedSimpArgs false

def fourV (a : Int) : List Int := [(a / 16777216) % 256, (a / 65536) % 256, (a / 256) % 256, a % 256]
theorem specPut32 (l : List Int) (a : Int) (hl : l.length ≤ 140737488355000) (ha : 0 ≤ a ∧ a ≤ 4294967295) : JN.f l a = some (l ++ fourV a) := by
  unfold JN.f;simp only [Option.bind_some, List.length_nil, List.nil_append];rw [if_pos (by omega), if_neg (by omega), if_neg (by omega), if_pos (by simp; omega)];rfl
theorem implFour (a : Int) : Xi.f a = some (fourV a) := by
  unfold Xi.f XU.f fourV;simp only [Option.bind_some, List.length_cons, List.length_nil];rw [if_pos (by omega)];simp only [List.cons_append, List.nil_append];congr 2
  omega
def wireV (l : List (List Int)) : List Int := qS.w l ++ [0]
theorem w_len (l : List (List Int)) : (qS.w l).length = l.length + lens l := by
  induction l with
  | nil => simp [qS.w, lens]
  | cons x l ih => simp only [qS.w, List.length_cons, List.length_append, ih, lens, List.map_cons, List.sum_cons]; omega
theorem lens_le (l : List (List Int)) (m : Nat) (h : ∀ x ∈ l, x.length ≤ m) : lens l ≤ l.length * m := by
  induction l with
  | nil => simp [lens]
  | cons x l ih =>
    have h1 := h x (by simp);have h2 := ih (fun y hy => h y (by simp [hy]));simp only [lens, List.map_cons, List.sum_cons, List.length_cons, Nat.add_mul, Nat.one_mul] at h2 ⊢;omega
theorem nameOk_len {l : List (List Int)} (h : jf.v l = true) : l.length ≤ 6 ∧ ∀ x ∈ l, 1 ≤ x.length ∧ x.length ≤ 15 ∧ Bytes x := by
  unfold jf.v at h;rw [Bool.and_eq_true, decide_eq_true_iff, List.all_eq_true] at h;refine ⟨h.1, fun x hx => ?_⟩;have h2 := h.2 x hx;unfold jS.v at h2;simp only [Bool.and_eq_true, decide_eq_true_iff, List.all_eq_true] at h2;refine ⟨by omega, by omega, fun y hy => ?_⟩;have h3 := h2.2 y hy;unfold jS.byte at h3;simp at h3
  omega
theorem nameOk_w {l : List (List Int)} (h : jf.v l = true) : (qS.w l).length ≤ 96 := by
  obtain ⟨h1, h2⟩ := nameOk_len h;have := lens_le l 15 (fun x hx => (h2 x hx).2.1);rw [w_len]; omega
theorem specPut (b : List Int) (l : List (List Int)) (h : jf.v l = true) (hb : b.length ≤ 140737488355000) : qS.f b l = some (b ++ wireV l) := by
  have := nameOk_w h;unfold qS.f wireV;rw [if_pos (by omega), List.append_assoc]
theorem implWire_l0 (l : List (List Int)) (hl : l.length + lens l ≤ 1048576) (m : Nat) : ∀ (i : Nat), l.length = i + m →
    Ev (fun k => zK.l0 k (qS.w (l.take i)) l (l.length : Int) i) (wireV l) := by
  induction m with
  | zero =>
    intro i hi;refine Ev.step (f := fun _ => some (wireV l)) (fun k => ?_) (Ev.now _);have hw := qS.w_take l i;rw [w_len l] at hw;simp only [zK.l0];rw [if_neg (by omega), if_pos (by omega), List.take_of_length_le (by omega)];rfl
  | succ m ih =>
    intro i hi;have hil : i < l.length := by omega
    have hw := qS.w_take l i;have hw1 := qS.w_take l (i + 1);rw [w_len l] at hw hw1
    have e : qS.w (l.take (i + 1)) = qS.w (l.take i) ++ [(l[i].length : Int) % 256] ++ l[i] := by
      rw [List.take_succ_eq_append_getElem hil, qS.w_snoc]
    rw [e] at hw1;simp only [List.length_append, List.length_singleton] at hw1;refine Ev.step (fun k => ?_) (ih (i+1) (by omega));simp only [zK.l0, Option.bind_some];rw [if_pos (by omega), if_pos (by omega), if_pos (by omega), if_pos (by omega), rdL_at l i hil, if_pos (by simp only [List.length_append, List.length_singleton]; omega), w64 (by omega) (by omega), e];rfl
theorem implWire (l : List (List Int)) (hl : l.length + lens l ≤ 1048576) : Ev (fun k => zK.f k l) (wireV l) := by
  unfold zK.f;simpa [qS.w] using implWire_l0 l hl l.length 0 (by omega)
theorem nameOk_sum {l : List (List Int)} (h : jf.v l = true) : l.length + lens l ≤ 96 := by
  have := nameOk_w h;rwa [w_len] at this
def dataV (t addr : Int) (dst : List (List Int)) (text nums : List Int) : List Int :=
  if t = 1 then fourV addr else if t = 6 then wireV dst ++ fourV (rd nums 0) ++ fourV (rd nums 1) else if namedV t = true then wireV dst else (text.length : Int) % 256 :: text
theorem rrOk_parts {n : List (List Int)} {t ttl addr : Int} {dst : List (List Int)} {text nums : List Int} (h : rrOkV n t ttl addr dst text nums = true) :
    jf.v n = true ∧ typeOkV t = true ∧ (0 ≤ ttl ∧ ttl ≤ 100000) ∧ addrV t addr = true ∧ toV t dst = true ∧ textV t text = true ∧ numsV t nums = true := by
  unfold rrOkV at h;simp only [Bool.and_eq_true, decide_eq_true_iff] at h;exact h
theorem specL3put {n : List (List Int)} {t ttl addr : Int} {dst : List (List Int)} {text nums : List Int} (h : rrOkV n t ttl addr dst text nums = true) : Qg.f n t ttl addr dst text nums = some (dataV t addr dst text nums) := by
  obtain ⟨_, _, _, ha, hd, ht, hn⟩ := rrOk_parts h;unfold Qg.f dataV;by_cases h1 : t = 1
  · rw [if_pos h1, if_pos h1]
    unfold addrV at ha;rw [if_pos h1, decide_eq_true_iff] at ha;rw [specPut32 [] addr (by simp) ha];rfl
  rw [if_neg h1, if_neg h1];by_cases h6 : t = 6
  · rw [if_pos h6, if_pos h6]
    unfold toV namedV at hd;rw [if_pos (by simp [h6])] at hd;unfold numsV at hn;rw [if_pos h6, decide_eq_true_iff] at hn;have hw := nameOk_w hd;rw [specPut [] dst hd (by simp), Option.bind_some, if_pos (by omega), List.nil_append, specPut32 _ _ (by simp only [wireV, List.length_append, List.length_singleton]; omega) hn.2.1, Option.bind_some, if_pos (by omega), specPut32 _ _ (by simp only [wireV, fourV, List.length_append, List.length_cons, List.length_nil]; omega) (by omega)];rfl
  rw [if_neg h6, if_neg h6, specNamed, Option.bind_some];by_cases hm : namedV t = true
  · rw [if_pos hm, if_pos hm]
    unfold toV at hd;rw [if_pos hm] at hd;rw [specPut [] dst hd (by simp)];rfl
  · rw [if_neg hm, if_neg hm]
    have hl : text.length ≤ 40 := by
      unfold textV at ht;split at ht <;> rw [decide_eq_true_iff] at ht <;> omega
    rw [Option.bind_some, if_pos (by simp; omega)];rfl
theorem implData_none (b : List Int) : Ev (fun k => zw.l0 k b [] 0 0) b := by
  refine Ev.step (f := fun _ => some b) (fun k => ?_) (Ev.now _);simp only [zw.l0];rw [if_neg (by omega)]
theorem implData_two (b nums : List Int) (h : nums.length = 2) (hb : b.length ≤ 140737488355000) : Ev (fun k => zw.l0 k b nums (nums.length : Int) 0) (b ++ fourV (rd nums 0) ++ fourV (rd nums 1)) := by
  rw [show ((nums.length : Nat) : Int) = 2 by omega];have h0 : w64 (x := 0 + 1) (by omega) (by omega) = w64 (x := 0 + 1) (by omega) (by omega) := rfl;refine Ev.step (f := fun k => zw.l0 k (b ++ fourV (rd nums 0)) nums 2 1) (fun k => ?_) ?_
  · simp only [zw.l0]
    rw [if_pos (by omega), if_pos (by omega), if_pos (by omega), implFour, Option.bind_some, if_pos (by simp only [fourV, List.length_cons, List.length_nil]; omega), w64 (by omega) (by omega)];rfl
  refine Ev.step (f := fun k => zw.l0 k (b ++ fourV (rd nums 0) ++ fourV (rd nums 1)) nums 2 2) (fun k => ?_) ?_
  · simp only [zw.l0]
    rw [if_pos (by omega), if_pos (by omega), if_pos (by omega), implFour, Option.bind_some, if_pos (by simp only [fourV, List.length_append, List.length_cons, List.length_nil]; omega), w64 (by omega) (by omega)];rfl
  refine Ev.step (f := fun _ => some (b ++ fourV (rd nums 0) ++ fourV (rd nums 1))) (fun k => ?_) (Ev.now _);simp only [zw.l0];rw [if_neg (by omega)]
theorem implData {n : List (List Int)} {t ttl addr : Int} {dst : List (List Int)} {text nums : List Int} (h : rrOkV n t ttl addr dst text nums = true) : Ev (fun k => zw.f k n t ttl addr dst text nums) (dataV t addr dst text nums) := by
  obtain ⟨_, _, _, ha, hd, ht, hn⟩ := rrOk_parts h;unfold zw.f dataV;by_cases h1 : t = 1
  · simp only [if_pos h1, implFour, Option.bind_some]
    exact Ev.now _
  simp only [if_neg h1, implNamed, Option.bind_some];by_cases hm : namedV t = true
  · simp only [if_pos hm]
    unfold toV at hd;rw [if_pos hm] at hd;have hs := nameOk_sum hd;have hw := nameOk_w hd;refine Ev.bind (implWire dst (by omega)) ?_;unfold numsV at hn;by_cases h6 : t = 6
    · simp only [if_pos h6]
      rw [if_pos h6, decide_eq_true_iff] at hn;exact implData_two _ nums hn.1 (by simp only [wireV, List.length_append, List.length_singleton]; omega)
    · simp only [if_neg h6]
      rw [if_neg h6, decide_eq_true_iff] at hn;have := List.eq_nil_of_length_eq_zero hn;subst this;exact implData_none _
  · have h6 : ¬ t = 6 := fun e => hm (by simp [namedV, e])
    simp only [if_neg hm, if_neg h6]
    have hl : text.length ≤ 40 := by
      unfold textV at ht;split at ht <;> rw [decide_eq_true_iff] at ht <;> omega
    simp only [if_pos (show ([(text.length : Int) % 256] : List Int).length + text.length < 140737488355328 by simp; omega)];exact Ev.now _
def numV (a b : Int) : Int := if a < b then -1 else if a > b then 1 else 0
def rrCmpV (n : List (List Int)) (t addr : Int) (dst : List (List Int)) (text nums : List Int) (n' : List (List Int)) (t' addr' : Int) (dst' : List (List Int)) (text' nums' : List Int) : Int :=
  if nameCmpV n n' = 0 then (if numV t t' = 0 then cb (dataV t addr dst text nums) (dataV t' addr' dst' text' nums') else numV t t') else nameCmpV n n'
theorem orInt (a b c : Int) : Ev (fun k => jF.f k [a, b, c]) (if a = 0 then (if b = 0 then c else b) else a) := by
  unfold jF.f;simp only [List.length_cons, List.length_nil];by_cases h1 : a = 0
  · rw [if_pos h1]
    refine Ev.step (f := fun k => jF.l0 k 0 [a, b, c] 3 1) (fun k => ?_) ?_
    · simp only [jF.l0]
      rw [if_pos (by omega), if_pos (by omega), if_pos (by simp), if_pos (by simpa [rd] using h1), w64 (by omega) (by omega)];rfl
    by_cases h2 : b = 0
    · rw [if_pos h2]
      refine Ev.step (f := fun k => jF.l0 k 0 [a, b, c] 3 2) (fun k => ?_) ?_
      · simp only [jF.l0]
        rw [if_pos (by omega), if_pos (by omega), if_pos (by simp), if_pos (by simpa [rd] using h2), w64 (by omega) (by omega)];rfl
      by_cases h3 : c = 0
      · refine Ev.step (f := fun k => jF.l0 k 0 [a, b, c] 3 3) (fun k => ?_) ?_
        · simp only [jF.l0]
          rw [if_pos (by omega), if_pos (by omega), if_pos (by simp), if_pos (by simpa [rd] using h3), w64 (by omega) (by omega)];rfl
        refine Ev.step (f := fun _ => some c) (fun k => ?_) (Ev.now _);simp only [jF.l0];rw [if_neg (by omega), h3]
      · refine Ev.step (f := fun _ => some c) (fun k => ?_) (Ev.now _)
        simp only [jF.l0];rw [if_pos (by omega), if_pos (by omega), if_pos (by simp), if_neg (by simpa [rd] using h3)];rfl
    · rw [if_neg h2]
      refine Ev.step (f := fun _ => some b) (fun k => ?_) (Ev.now _);simp only [jF.l0];rw [if_pos (by omega), if_pos (by omega), if_pos (by simp), if_neg (by simpa [rd] using h2)];rfl
  · rw [if_neg h1]
    refine Ev.step (f := fun _ => some a) (fun k => ?_) (Ev.now _);simp only [jF.l0];rw [if_pos (by omega), if_pos (by omega), if_pos (by simp), if_neg (by simpa [rd] using h1)];rfl
theorem specL3cmp {n : List (List Int)} {t ttl addr : Int} {dst : List (List Int)} {text nums : List Int} {n' : List (List Int)} {t' ttl' addr' : Int} {dst' : List (List Int)} {text' nums' : List Int} (h : rrOkV n t ttl addr dst text nums = true) (h' : rrOkV n' t' ttl' addr' dst' text' nums' = true) :
    Ev (fun k => yV.f k n t ttl addr dst text nums n' t' ttl' addr' dst' text' nums') (rrCmpV n t addr dst text nums n' t' addr' dst' text' nums') := by
  have l1 := (nameOk_len (rrOk_parts h).1).1;have l2 := (nameOk_len (rrOk_parts h').1).1
  have hj : ∀ x, Ev (fun k => yV.j0 k x n t ttl addr dst text nums n' t' ttl' addr' dst' text' nums') (if x = 0 then cb (dataV t addr dst text nums) (dataV t' addr' dst' text' nums') else x) := by
    intro x;refine Ev.step (f := fun _ => some (if x = 0 then cb (dataV t addr dst text nums) (dataV t' addr' dst' text' nums') else x)) (fun k => ?_) (Ev.now _);simp only [yV.j0];by_cases hx : x = 0
    · rw [if_pos hx, if_pos hx, specL3put h, Option.bind_some, specL3put h']
      rfl
    · rw [if_neg hx, if_neg hx]
  unfold yV.f rrCmpV;refine Ev.bind (specCmp n n' (by omega) (by omega)) ?_;by_cases h0 : nameCmpV n n' = 0
  · simp only [if_pos h0]
    have e : XK.f t t' = some (numV t t') := by
      unfold XK.f numV;split
      · rfl
      · split <;> rfl
    simp only [e, Option.bind_some];exact hj _
  · simp only [if_neg h0]
    have := hj (nameCmpV n n');rwa [if_neg h0] at this
theorem implRrCompare {n : List (List Int)} {t ttl addr : Int} {dst : List (List Int)} {text nums : List Int} {n' : List (List Int)} {t' ttl' addr' : Int} {dst' : List (List Int)} {text' nums' : List Int} (h : rrOkV n t ttl addr dst text nums = true) (h' : rrOkV n' t' ttl' addr' dst' text' nums' = true) :
    Ev (fun k => zJ.f k n t ttl addr dst text nums n' t' ttl' addr' dst' text' nums') (rrCmpV n t addr dst text nums n' t' addr' dst' text' nums') := by
  have l1 := (nameOk_len (rrOk_parts h).1).1;have l2 := (nameOk_len (rrOk_parts h').1).1;unfold zJ.f;refine Ev.bind (implCmp n n' (by omega) (by omega)) ?_;simp only [cmpInt, Option.bind_some];refine Ev.bind (implData h) (Ev.bind (implData h') ?_);simp only [compareV, Option.bind_some];exact Ev.bind (orInt _ _ _) (Ev.now _)
end Go.Proofs.Ytagedmajlppohaa.Pure

/- Plain lemmas on the printed functions: rows of records read, measured, copied, compared, all right. -/
namespace Go.Proofs.Ytagedmajlppohaa.Pure
open Go Go.RowKit Go.Proofs.Ytagedmajlppohaa.Q Go.Proofs.YtagedmajlppohaaW.PrintWords Go.Proofs.YtagedmajlppohaaW.PrintLast Go.Proofs.YtagedmajlppohaaW.PrintMore
set_option linter.unusedVariables false
set_option linter.unusedSimpArgs false
abbrev RL := S28
abbrev RI := S33
def cvR (x : RL) : RI := ⟨⟨x.f0.f0⟩, x.f1, x.f2, x.f3, ⟨x.f4.f0⟩, x.f5, x.f6⟩
theorem rdRL (l : List RL) (i : Nat) (h : i < l.length) : jn l (i : Int) = l[i] := by simp [jn, List.getD_eq_getElem?_getD, h]
theorem rdRI (l : List RI) (i : Nat) (h : i < l.length) : qb l (i : Int) = l[i] := by simp [qb, List.getD_eq_getElem?_getD, h]
def RawR (x : RL) : Prop := RawN x.f0.f0 ∧ RawN x.f4.f0 ∧ x.f5.length ≤ 9223372036854775807 ∧ x.f6.length ≤ 9223372036854775807 ∧ -9223372036854775808 ≤ x.f1 ∧ x.f1 ≤ 9223372036854775807
def FitR (x : RI) : Prop := FitN x.f0.f0 ∧ FitN x.f4.f0 ∧ x.f5.length ≤ 1048576 ∧ x.f6.length ≤ 1048576
def I64R (x : RI) : Prop := -9223372036854775808 ≤ x.f1 ∧ x.f1 ≤ 9223372036854775807
theorem szRrS_l0 (l : List RL) (hl : l.length ≤ 1048576) (he : ∀ x ∈ l, RawR x) (m : Nat) : ∀ (i : Nat) (left : Int), l.length = i + m → 0 ≤ left → left ≤ 1048576 →
    ∃ u, Ev (fun k => yB.l0 k l left i) u ∧ (u < 0 ∨ (0 ≤ u ∧ u ≤ left ∧ ∀ x ∈ l.drop i, FitR (cvR x))) := by
  induction m with
  | zero =>
    intro i left hi h0 h1;refine ⟨left, Ev.step (f := fun _ => some left) (fun k => ?_) (Ev.now _), Or.inr ⟨h0, by omega, fun x hx => by rw [List.drop_of_length_le (by omega)] at hx; cases hx⟩⟩;simp only [yB.l0];rw [if_neg (by omega)]
  | succ m ih =>
    intro i left hi h0 h1;have hil : i < l.length := by omega
    obtain ⟨r0, r4, r5, r6, _⟩ := he _ (List.getElem_mem hil);obtain ⟨t, ht, hc⟩ := szRr l[i].f0.f0 l[i].f1 l[i].f2 l[i].f3 l[i].f4.f0 l[i].f5 l[i].f6 left r0 r4 r5 r6 h0 h1;by_cases hneg : t < 0
    · refine ⟨-1, Ev.step (f := fun k => (Xh.f k l[i].f0.f0 l[i].f1 l[i].f2 l[i].f3 l[i].f4.f0 l[i].f5 l[i].f6 left).bind fun ji => if ji < 0 then some (-1) else yB.l0 k l ji (wrap64 ((i : Int) + 1))) (fun k => ?_) (Ev.bind ht (by simp only [if_pos hneg]; exact Ev.now _)), Or.inl (by omega)⟩
      simp only [yB.l0];rw [if_pos (by omega), if_pos (by omega), rdRL l i hil]
    · obtain ⟨h2, h3, hf⟩ := hc.resolve_left hneg
      obtain ⟨u, hu, hcu⟩ := ih (i + 1) t (by omega) (by omega) (by omega);refine ⟨u, Ev.step (f := fun k => (Xh.f k l[i].f0.f0 l[i].f1 l[i].f2 l[i].f3 l[i].f4.f0 l[i].f5 l[i].f6 left).bind fun ji => if ji < 0 then some (-1) else yB.l0 k l ji (wrap64 ((i : Int) + 1))) (fun k => ?_) (Ev.bind ht ?_), ?_⟩
      · simp only [yB.l0]
        rw [if_pos (by omega), if_pos (by omega), rdRL l i hil]
      · simp only [if_neg hneg]
        rw [w64 (x := (i : Int) + 1) (by omega) (by omega)];exact hu
      · rcases hcu with h | ⟨h, h', hd⟩
        · exact Or.inl h
        · refine Or.inr ⟨h, by omega, fun x hx => ?_⟩
          rw [List.drop_eq_getElem_cons hil] at hx;rcases List.mem_cons.1 hx with rfl | hx
          · exact hf
          · exact hd x hx
theorem szRrS (l : List RL) (left : Int) (hl : l.length ≤ 9223372036854775807) (he : ∀ x ∈ l, RawR x) (h0 : 0 ≤ left) (h1 : left ≤ 1048576) :
    ∃ u, Ev (fun k => yB.f k l left) u ∧ (u < 0 ∨ (0 ≤ u ∧ u ≤ left ∧ l.length ≤ 1048576 ∧ ∀ x ∈ l, FitR (cvR x))) := by
  unfold yB.f;rw [w64 (by omega) (by omega)];by_cases h : left - (l.length : Int) < 0
  · exact ⟨-1, by simp only [if_pos h]; exact Ev.now _, Or.inl (by omega)⟩
  · obtain ⟨u, hu, hc⟩ := szRrS_l0 l (by omega) he l.length 0 (left - l.length) (by omega) (by omega) (by omega)
    refine ⟨u, by simp only [if_neg h]; exact hu, ?_⟩;rcases hc with h2 | ⟨h2, h3, h4⟩
    · exact Or.inl h2
    · exact Or.inr ⟨h2, by omega, by omega, by rw [List.drop_zero] at h4; exact h4⟩
theorem setR_prefix {α : Type} (z : α) (l : List α) (i : Nat) (h : i < l.length) (m : Nat) :
    (l.take i ++ List.replicate (m + 1) z).set i l[i] = l.take (i + 1) ++ List.replicate m z := by
  rw [List.set_append_right _ _ (by simp; omega)];simp only [List.length_take, Nat.min_eq_left (Nat.le_of_lt h), Nat.sub_self, List.replicate_succ, List.set_cons_zero];rw [List.take_succ_eq_append_getElem h, List.append_assoc];simp
theorem toRrS_l0 (l : List RL) (hl : l.length ≤ 1048576) (he : ∀ x ∈ l, FitR (cvR x)) (m : Nat) : ∀ (i : Nat), l.length = i + m →
    Ev (fun k => yP.l0 k l ((l.map cvR).take i ++ List.replicate m z33) i) (l.map cvR) := by
  induction m with
  | zero =>
    intro i hi;refine Ev.step (f := fun _ => some (l.map cvR)) (fun k => ?_) (Ev.now _);simp only [yP.l0];rw [if_neg (by omega), List.take_of_length_le (by simp; omega)];simp
  | succ m ih =>
    intro i hi;have hil : i < l.length := by omega
    have hil' : i < (l.map cvR).length := by simpa using hil
    obtain ⟨f0, f4, f5, f6⟩ := he _ (List.getElem_mem hil);have ht := toRr l[i].f0.f0 l[i].f1 l[i].f2 l[i].f3 l[i].f4.f0 l[i].f5 l[i].f6 f0 f4 f5 f6;have hs := setR_prefix z33 (l.map cvR) i hil' m;have hlen : ((l.map cvR).take i ++ List.replicate (m + 1) z33).length = l.length := by simp; omega
    generalize (l.map cvR).take i ++ List.replicate (m + 1) z33 = L at hs hlen;refine Ev.step (f := fun k => (qaN.f k l[i].f0.f0 l[i].f1 l[i].f2 l[i].f3 l[i].f4.f0 l[i].f5 l[i].f6).bind fun b => if (i : Int) < (L.length : Int) then yP.l0 k l (L.set ((i : Int)).toNat ⟨⟨b.1⟩, b.2.1, b.2.2.1, b.2.2.2.1, ⟨b.2.2.2.2.1⟩, b.2.2.2.2.2.1, b.2.2.2.2.2.2⟩) (wrap64 ((i : Int) + 1)) else none) (fun k => ?_) (Ev.bind ht ?_)
    · simp only [yP.l0]
      rw [if_pos (by omega), if_pos (by omega), rdRL l i hil]
    · simp only [if_pos (show (i : Int) < (L.length : Int) by omega), show ((i : Int)).toNat = i by omega, w64 (x := (i : Int) + 1) (by omega) (by omega)]
      have e : (⟨⟨l[i].f0.f0⟩, l[i].f1, l[i].f2, l[i].f3, ⟨l[i].f4.f0⟩, l[i].f5, l[i].f6⟩ : RI) = (l.map cvR)[i] := by simp [cvR]
      rw [e, hs];exact ih (i + 1) (by omega)
theorem toRrS (l : List RL) (hl : l.length ≤ 1048576) (he : ∀ x ∈ l, FitR (cvR x)) : Ev (fun k => yP.f k l) (l.map cvR) := by
  have h := toRrS_l0 l hl he l.length 0 (by omega);unfold yP.f;simp only [if_pos (show 0 ≤ (l.length : Int) by omega), show ((l.length : Int)).toNat = l.length by omega, if_pos (show l.length ≤ 2345624805922 by omega)];simpa using h
theorem eqRrS_l0 (l : List RI) (hl : l.length ≤ 1048576) (he : ∀ x ∈ l, FitR x) (m : Nat) : ∀ (i : Nat), l.length = i + m → Ev (fun k => jV.l0 k l l i) true := by
  induction m with
  | zero =>
    intro i hi;refine Ev.step (f := fun _ => some true) (fun k => ?_) (Ev.now _);simp only [jV.l0];rw [if_neg (by omega)]
  | succ m ih =>
    intro i hi;have hil : i < l.length := by omega
    obtain ⟨f0, f4, f5, f6⟩ := he _ (List.getElem_mem hil);have ht := eqRr l[i].f0.f0 l[i].f1 l[i].f2 l[i].f3 l[i].f4.f0 l[i].f5 l[i].f6 f0 f4 f5 f6;refine Ev.step (f := fun k => (XN.f k l[i].f0.f0 l[i].f1 l[i].f2 l[i].f3 l[i].f4.f0 l[i].f5 l[i].f6 l[i].f0.f0 l[i].f1 l[i].f2 l[i].f3 l[i].f4.f0 l[i].f5 l[i].f6).bind fun b => if b = true then jV.l0 k l l (wrap64 ((i : Int) + 1)) else some false) (fun k => ?_) (Ev.bind ht ?_)
    · simp only [jV.l0]
      rw [if_pos (by omega), if_pos (by omega), if_pos (by omega), rdRI l i hil]
    · simp only [if_true, w64 (x := (i : Int) + 1) (by omega) (by omega)]
      exact ih (i + 1) (by omega)
theorem eqRrS (l : List RI) (hl : l.length ≤ 1048576) (he : ∀ x ∈ l, FitR x) : Ev (fun k => jV.f k l l) true := by
  unfold jV.f;simp only [if_true];exact eqRrS_l0 l hl he l.length 0 (by omega)
def okR (x : RI) : Bool := rrOkV x.f0.f0 x.f1 x.f2 x.f3 x.f4.f0 x.f5 x.f6
theorem idx_all (q : Nat → RI → Option Bool) (v : RI → Bool) : ∀ (l : List RI) (j : Nat), (∀ x ∈ l, Ev (fun k => q k x) (v x)) → ∃ r : Int, Ev (fun k => Jz.idx (fun x => (q k x).map (fun b => !b)) l j) r ∧ (!decide (0 ≤ r)) = l.all v
  | [], j, _ => ⟨-1, Ev.here (fun _ => rfl), by simp⟩
  | x :: l, j, h => by
    have hx := h x List.mem_cons_self;obtain ⟨r, hr, e⟩ := idx_all q v l (j + 1) (fun y hy => h y (List.mem_cons_of_mem _ hy));simp only [Jz.idx, Option.bind_map];cases hv : v x with
    | true =>
      rw [hv] at hx;refine ⟨r, Ev.bind hx ?_, by rw [e]; simp [hv]⟩;simpa using hr
    | false =>
      rw [hv] at hx;refine ⟨j, Ev.bind hx ?_, by simp [hv]⟩;simpa using Ev.now _
theorem allOk (L : List RI) (ht : ∀ x ∈ L, I64R x) : Ev (fun k => QE.f k L) (L.all okR) := by
  obtain ⟨r, hr, e⟩ := idx_all (fun k x => QE.q k x) okR L 0 (fun x hx => implRrOk _ _ _ _ _ _ _ (ht x hx));unfold QE.f;rw [← e];obtain ⟨n, hn⟩ := hr;exact ⟨n, fun k hk => by have h := hn k hk; have h : Jz.idx (fun x => (QE.q k x).map (fun b => !b)) L 0 = some r := h; show Option.map (fun r => !decide (0 ≤ r)) (Jz.idx (fun x => (QE.q k x).map (fun b => !b)) L 0) = _; rw [h]; rfl⟩
end Go.Proofs.Ytagedmajlppohaa.Pure

/- Plain lemmas on the printed functions: slots and caches measured, copied, compared. -/
namespace Go.Proofs.Ytagedmajlppohaa.Pure
open Go Go.RowKit Go.Proofs.Ytagedmajlppohaa.Q Go.Proofs.YtagedmajlppohaaW.PrintWords Go.Proofs.YtagedmajlppohaaW.PrintLast Go.Proofs.YtagedmajlppohaaW.PrintMore
set_option linter.unusedVariables false
set_option linter.unusedSimpArgs false
abbrev SL := Yt
abbrev SI := zy
theorem rdSL (l : List SL) (i : Nat) (h : i < l.length) : jq l (i : Int) = l[i] := by simp [jq, List.getD_eq_getElem?_getD, h]
theorem rdSI (l : List SI) (i : Nat) (h : i < l.length) : qa l (i : Int) = l[i] := by simp [qa, List.getD_eq_getElem?_getD, h]
def cvS (x : SL) : SI := ⟨⟨x.f0.f0⟩, x.f1, x.f2, x.f3.map cvR, x.f4, x.f5, x.f6⟩
def RawS (x : SL) : Prop := RawN x.f0.f0 ∧ (x.f3.length ≤ 9223372036854775807 ∧ ∀ y ∈ x.f3, RawR y) ∧ -9223372036854775808 ≤ x.f1 ∧ x.f1 ≤ 9223372036854775807
def FitS (x : SI) : Prop := FitN x.f0.f0 ∧ x.f3.length ≤ 1048576 ∧ ∀ y ∈ x.f3, FitR y
def I64S (x : SI) : Prop := (-9223372036854775808 ≤ x.f1 ∧ x.f1 ≤ 9223372036854775807) ∧ ∀ y ∈ x.f3, I64R y
theorem mapAllS {α β : Type} {f : α → β} {L : List α} {p : β → Prop} (h : ∀ x ∈ L, p (f x)) : ∀ x ∈ L.map f, p x := fun x hx => by obtain ⟨y, hy, rfl⟩ := List.mem_map.1 hx; exact h y hy
theorem szSlot (n : List (List Int)) (t kd : Int) (rs : List RL) (rk un us left : Int) (hn : RawN n) (hr : rs.length ≤ 9223372036854775807 ∧ ∀ y ∈ rs, RawR y) (h0 : 0 ≤ left) (h1 : left ≤ 1048576) :
    ∃ u, Ev (fun k => ZV.f k n t kd rs rk un us left) u ∧ (u < 0 ∨ (0 ≤ u ∧ u ≤ left ∧ FitN n ∧ (rs.map cvR).length ≤ 1048576 ∧ ∀ y ∈ rs.map cvR, FitR y)) := by
  unfold ZV.f;obtain ⟨a, ha, hca⟩ := szName' n left hn h0 h1;by_cases h : a < 0
  · exact ⟨-1, Ev.bind ha (by simp only [if_pos h]; exact Ev.now _), Or.inl (by omega)⟩
  obtain ⟨a1, a2, a3⟩ := hca.resolve_left h;obtain ⟨b, hb, hcb⟩ := szRrS rs a hr.1 hr.2 (by omega) (by omega);by_cases h2 : b < 0
  · exact ⟨-1, Ev.bind ha (by simp only [if_neg h]; exact Ev.bind hb (by simp only [if_pos h2]; exact Ev.now _)), Or.inl (by omega)⟩
  obtain ⟨b1, b2, b3, b4⟩ := hcb.resolve_left h2;exact ⟨b, Ev.bind ha (by simp only [if_neg h]; exact Ev.bind hb (by simp only [if_neg h2]; exact Ev.now _)), Or.inr ⟨b1, by omega, a3, by simpa using b3, mapAllS b4⟩⟩
theorem toSlot (n : List (List Int)) (t kd : Int) (rs : List RL) (rk un us : Int) (hn : FitN n) (hr : (rs.map cvR).length ≤ 1048576 ∧ ∀ y ∈ rs.map cvR, FitR y) : Ev (fun k => Xg.f k n t kd rs rk un us) (n, t, kd, rs.map cvR, rk, un, us) := by
  unfold Xg.f;exact Ev.bind (toName' n hn) (Ev.bind (toRrS rs (by simpa using hr.1) (fun x hx => hr.2 _ (List.mem_map_of_mem hx))) (Ev.now _))
theorem eqSlot (n : List (List Int)) (t kd : Int) (rs : List RI) (rk un us : Int) (hn : FitN n) (hr : rs.length ≤ 1048576 ∧ ∀ y ∈ rs, FitR y) : Ev (fun k => Yk.f k n t kd rs rk un us n t kd rs rk un us) true := by
  unfold Yk.f;refine Ev.bind (eqName' n hn) ?_;simp only [if_true];refine Ev.bind (eqRrS rs hr.1 hr.2) ?_;simp only [if_true];exact Ev.now _
theorem szSlotS_l0 (l : List SL) (hl : l.length ≤ 1048576) (he : ∀ x ∈ l, RawS x) (m : Nat) : ∀ (i : Nat) (left : Int), l.length = i + m → 0 ≤ left → left ≤ 1048576 →
    ∃ u, Ev (fun k => zL.l0 k l left i) u ∧ (u < 0 ∨ (0 ≤ u ∧ u ≤ left ∧ ∀ x ∈ l.drop i, FitS (cvS x))) := by
  induction m with
  | zero =>
    intro i left hi h0 h1;refine ⟨left, Ev.step (f := fun _ => some left) (fun k => ?_) (Ev.now _), Or.inr ⟨h0, by omega, fun x hx => by rw [List.drop_of_length_le (by omega)] at hx; cases hx⟩⟩;simp only [zL.l0];rw [if_neg (by omega)]
  | succ m ih =>
    intro i left hi h0 h1;have hil : i < l.length := by omega
    obtain ⟨r0, r3, _⟩ := he _ (List.getElem_mem hil);obtain ⟨t, ht, hc⟩ := szSlot l[i].f0.f0 l[i].f1 l[i].f2 l[i].f3 l[i].f4 l[i].f5 l[i].f6 left r0 r3 h0 h1;by_cases hneg : t < 0
    · refine ⟨-1, Ev.step (f := fun k => (ZV.f k l[i].f0.f0 l[i].f1 l[i].f2 l[i].f3 l[i].f4 l[i].f5 l[i].f6 left).bind fun ji => if ji < 0 then some (-1) else zL.l0 k l ji (wrap64 ((i : Int) + 1))) (fun k => ?_) (Ev.bind ht (by simp only [if_pos hneg]; exact Ev.now _)), Or.inl (by omega)⟩
      simp only [zL.l0];rw [if_pos (by omega), if_pos (by omega), rdSL l i hil]
    · obtain ⟨h2, h3, hf⟩ := hc.resolve_left hneg
      obtain ⟨u, hu, hcu⟩ := ih (i + 1) t (by omega) (by omega) (by omega);refine ⟨u, Ev.step (f := fun k => (ZV.f k l[i].f0.f0 l[i].f1 l[i].f2 l[i].f3 l[i].f4 l[i].f5 l[i].f6 left).bind fun ji => if ji < 0 then some (-1) else zL.l0 k l ji (wrap64 ((i : Int) + 1))) (fun k => ?_) (Ev.bind ht ?_), ?_⟩
      · simp only [zL.l0]
        rw [if_pos (by omega), if_pos (by omega), rdSL l i hil]
      · simp only [if_neg hneg]
        rw [w64 (x := (i : Int) + 1) (by omega) (by omega)];exact hu
      · rcases hcu with h | ⟨h, h', hd⟩
        · exact Or.inl h
        · refine Or.inr ⟨h, by omega, fun x hx => ?_⟩
          rw [List.drop_eq_getElem_cons hil] at hx;rcases List.mem_cons.1 hx with rfl | hx
          · exact hf
          · exact hd x hx
theorem szSlotS (l : List SL) (left : Int) (hl : l.length ≤ 9223372036854775807) (he : ∀ x ∈ l, RawS x) (h0 : 0 ≤ left) (h1 : left ≤ 1048576) :
    ∃ u, Ev (fun k => zL.f k l left) u ∧ (u < 0 ∨ (0 ≤ u ∧ u ≤ left ∧ l.length ≤ 1048576 ∧ ∀ x ∈ l, FitS (cvS x))) := by
  unfold zL.f;rw [w64 (by omega) (by omega)];by_cases h : left - (l.length : Int) < 0
  · exact ⟨-1, by simp only [if_pos h]; exact Ev.now _, Or.inl (by omega)⟩
  · obtain ⟨u, hu, hc⟩ := szSlotS_l0 l (by omega) he l.length 0 (left - l.length) (by omega) (by omega) (by omega)
    refine ⟨u, by simp only [if_neg h]; exact hu, ?_⟩;rcases hc with h2 | ⟨h2, h3, h4⟩
    · exact Or.inl h2
    · exact Or.inr ⟨h2, by omega, by omega, by rw [List.drop_zero] at h4; exact h4⟩
theorem toSlotS_l0 (l : List SL) (hl : l.length ≤ 1048576) (he : ∀ x ∈ l, FitS (cvS x)) (m : Nat) : ∀ (i : Nat), l.length = i + m →
    Ev (fun k => ya.l0 k l ((l.map cvS).take i ++ List.replicate m qbe) i) (l.map cvS) := by
  induction m with
  | zero =>
    intro i hi;refine Ev.step (f := fun _ => some (l.map cvS)) (fun k => ?_) (Ev.now _);simp only [ya.l0];rw [if_neg (by omega), List.take_of_length_le (by simp; omega)];simp
  | succ m ih =>
    intro i hi;have hil : i < l.length := by omega
    have hil' : i < (l.map cvS).length := by simpa using hil
    obtain ⟨f0, f3⟩ := he _ (List.getElem_mem hil);have ht := toSlot l[i].f0.f0 l[i].f1 l[i].f2 l[i].f3 l[i].f4 l[i].f5 l[i].f6 f0 f3;have hs := setR_prefix qbe (l.map cvS) i hil' m;have hlen : ((l.map cvS).take i ++ List.replicate (m + 1) qbe).length = l.length := by simp; omega
    generalize (l.map cvS).take i ++ List.replicate (m + 1) qbe = L at hs hlen;refine Ev.step (f := fun k => (Xg.f k l[i].f0.f0 l[i].f1 l[i].f2 l[i].f3 l[i].f4 l[i].f5 l[i].f6).bind fun b => if (i : Int) < (L.length : Int) then ya.l0 k l (L.set ((i : Int)).toNat ⟨⟨b.1⟩, b.2.1, b.2.2.1, b.2.2.2.1, b.2.2.2.2.1, b.2.2.2.2.2.1, b.2.2.2.2.2.2⟩) (wrap64 ((i : Int) + 1)) else none) (fun k => ?_) (Ev.bind ht ?_)
    · simp only [ya.l0]
      rw [if_pos (by omega), if_pos (by omega), rdSL l i hil]
    · simp only [if_pos (show (i : Int) < (L.length : Int) by omega), show ((i : Int)).toNat = i by omega, w64 (x := (i : Int) + 1) (by omega) (by omega)]
      have e : (⟨⟨l[i].f0.f0⟩, l[i].f1, l[i].f2, l[i].f3.map cvR, l[i].f4, l[i].f5, l[i].f6⟩ : SI) = (l.map cvS)[i] := by simp [cvS]
      rw [e, hs];exact ih (i + 1) (by omega)
theorem toSlotS (l : List SL) (hl : l.length ≤ 1048576) (he : ∀ x ∈ l, FitS (cvS x)) : Ev (fun k => ya.f k l) (l.map cvS) := by
  have h := toSlotS_l0 l hl he l.length 0 (by omega);unfold ya.f;simp only [if_pos (show 0 ≤ (l.length : Int) by omega), show ((l.length : Int)).toNat = l.length by omega, if_pos (show l.length ≤ 3198579280802 by omega)];simpa using h
theorem eqSlotS_l0 (l : List SI) (hl : l.length ≤ 1048576) (he : ∀ x ∈ l, FitS x) (m : Nat) : ∀ (i : Nat), l.length = i + m → Ev (fun k => jE.l0 k l l i) true := by
  induction m with
  | zero =>
    intro i hi;refine Ev.step (f := fun _ => some true) (fun k => ?_) (Ev.now _);simp only [jE.l0];rw [if_neg (by omega)]
  | succ m ih =>
    intro i hi;have hil : i < l.length := by omega
    obtain ⟨f0, f3⟩ := he _ (List.getElem_mem hil);have ht := eqSlot l[i].f0.f0 l[i].f1 l[i].f2 l[i].f3 l[i].f4 l[i].f5 l[i].f6 f0 f3;refine Ev.step (f := fun k => (Yk.f k l[i].f0.f0 l[i].f1 l[i].f2 l[i].f3 l[i].f4 l[i].f5 l[i].f6 l[i].f0.f0 l[i].f1 l[i].f2 l[i].f3 l[i].f4 l[i].f5 l[i].f6).bind fun b => if b = true then jE.l0 k l l (wrap64 ((i : Int) + 1)) else some false) (fun k => ?_) (Ev.bind ht ?_)
    · simp only [jE.l0]
      rw [if_pos (by omega), if_pos (by omega), if_pos (by omega), rdSI l i hil]
    · simp only [if_true, w64 (x := (i : Int) + 1) (by omega) (by omega)]
      exact ih (i + 1) (by omega)
theorem eqSlotS (l : List SI) (hl : l.length ≤ 1048576) (he : ∀ x ∈ l, FitS x) : Ev (fun k => jE.f k l l) true := by
  unfold jE.f;simp only [if_true];exact eqSlotS_l0 l hl he l.length 0 (by omega)theorem idx_allS (q : Nat → SI → Option Bool) (v : SI → Bool) : ∀ (l : List SI) (j : Nat), (∀ x ∈ l, Ev (fun k => q k x) (v x)) → ∃ r : Int, Ev (fun k => yS.idx (fun x => (q k x).map (fun b => !b)) l j) r ∧ (!decide (0 ≤ r)) = l.all v
  | [], j, _ => ⟨-1, Ev.here (fun _ => rfl), by simp⟩
  | x :: l, j, h => by
    have hx := h x List.mem_cons_self;obtain ⟨r, hr, e⟩ := idx_allS q v l (j + 1) (fun y hy => h y (List.mem_cons_of_mem _ hy));simp only [yS.idx, Option.bind_map];cases hv : v x with
    | true =>
      rw [hv] at hx;refine ⟨r, Ev.bind hx ?_, by rw [e]; simp [hv]⟩;simpa using hr
    | false =>
      rw [hv] at hx;refine ⟨j, Ev.bind hx ?_, by simp [hv]⟩;simpa using Ev.now _
theorem idx_anyS (v : SI → Bool) : ∀ (l : List SI) (j : Nat), ∃ r : Int, yS.idx (fun x => some (v x)) l j = some r ∧ decide (0 ≤ r) = l.any v
  | [], j => ⟨-1, rfl, by simp⟩
  | x :: l, j => by
    obtain ⟨r, hr, e⟩ := idx_anyS v l (j + 1);simp only [yS.idx, Option.bind_some];cases hv : v x with
    | true => exact ⟨j, rfl, by simp [hv]⟩
    | false => exact ⟨r, by simpa using hr, by rw [e]; simp [hv]⟩
theorem szCache (now turn : Int) (l : List SL) (left : Int) (hl : l.length ≤ 9223372036854775807) (he : ∀ x ∈ l, RawS x) (h0 : 0 ≤ left) (h1 : left ≤ 1048576) :
    ∃ u, Ev (fun k => ZX.f k now turn l left) u ∧ (u < 0 ∨ (l.length ≤ 1048576 ∧ ∀ x ∈ l, FitS (cvS x))) := by
  unfold ZX.f;obtain ⟨a, ha, hca⟩ := szSlotS l left hl he h0 h1;by_cases h : a < 0
  · exact ⟨-1, Ev.bind ha (by simp only [if_pos h]; exact Ev.now _), Or.inl (by omega)⟩
  · obtain ⟨a1, a2, a3⟩ := hca.resolve_left h
    exact ⟨a, Ev.bind ha (by simp only [if_neg h]; exact Ev.now _), Or.inr a3⟩
theorem toCache (now turn : Int) (l : List SL) (hl : l.length ≤ 1048576) (he : ∀ x ∈ l, FitS (cvS x)) : Ev (fun k => yL.f k now turn l) (now, turn, l.map cvS) := by
  unfold yL.f;exact Ev.bind (toSlotS l hl he) (Ev.now _)
theorem eqCache (now turn : Int) (l : List SI) (hl : l.length ≤ 1048576) (he : ∀ x ∈ l, FitS x) : Ev (fun k => Zh.f k now turn l now turn l) true := by
  unfold Zh.f;simp only [if_true];refine Ev.bind (eqSlotS l hl he) ?_;simp only [if_true];exact Ev.now _
end Go.Proofs.Ytagedmajlppohaa.Pure

/- Plain lemmas on the printed functions that read, measure and compare what an update asks for, and say whether it is right. -/

namespace Go.Proofs.Ytagedmajlppohaa.Pure
open Go Go.RowKit Go.Proofs.Ytagedmajlppohaa.Q Go.Proofs.YtagedmajlppohaaW.PrintWords Go.Proofs.YtagedmajlppohaaW.PrintLast Go.Proofs.YtagedmajlppohaaW.PrintMore
set_option linter.unusedVariables false
set_option linter.unusedSimpArgs false

end Go.Proofs.Ytagedmajlppohaa.Pure

/- Plain lemmas on the printed functions: rows of wants and of questions read, measured, copied, compared. -/

namespace Go.Proofs.Ytagedmajlppohaa.Pure
open Go Go.RowKit Go.Proofs.Ytagedmajlppohaa.Q Go.Proofs.YtagedmajlppohaaW.PrintWords Go.Proofs.YtagedmajlppohaaW.PrintLast Go.Proofs.YtagedmajlppohaaW.PrintMore
set_option linter.unusedVariables false
set_option linter.unusedSimpArgs false
--@if qrK.f
end Go.Proofs.Ytagedmajlppohaa.Pure

/- Plain lemmas on the printed functions: a message is right; its bytes. -/
namespace Go.Proofs.Ytagedmajlppohaa.Pure
open Go Go.RowKit Go.Proofs.Ytagedmajlppohaa.Q Go.Proofs.YtagedmajlppohaaW.PrintWords Go.Proofs.YtagedmajlppohaaW.PrintLast Go.Proofs.YtagedmajlppohaaW.PrintMore
set_option linter.unusedVariables false
set_option linter.unusedSimpArgs false
/-! ### Bytes of records and wants -/
/-! ### Rows of them are right -/
def rrsV (L : List RI) : Bool := decide (L.length ≤ 12) && L.all okR
theorem implRrs (L : List RI) (ht : ∀ x ∈ L, I64R x) : Ev (fun k => Xj.f k L) (rrsV L) := by
  unfold Xj.f rrsV;by_cases h : (L.length : Int) ≤ 12
  · rw [decide_eq_true (by omega)]; simp only [if_pos h]; exact Ev.bind (allOk L ht) (Ev.now _)
  · rw [decide_eq_false (by omega)]; simp only [if_neg h]; exact Ev.now _
end Go.Proofs.Ytagedmajlppohaa.Pure

/- Plain lemmas on the printed functions: rows of records read, measured, copied, compared; a zone is right. (Names of all[Rr] and its index function as in the seat r3.) -/
namespace Go.Proofs.Ytagedmajlppohaa.Pure
open Go Go.RowKit Go.Proofs.Ytagedmajlppohaa.Q Go.Proofs.YtagedmajlppohaaW.PrintWords Go.Proofs.YtagedmajlppohaaW.PrintLast Go.Proofs.YtagedmajlppohaaW.PrintMore
set_option linter.unusedVariables false
set_option linter.unusedSimpArgs false
/-! ### A zone is right -/
def cmpR (a b : RI) : Int := rrCmpV a.f0.f0 a.f1 a.f3 a.f4.f0 a.f5 a.f6 b.f0.f0 b.f1 b.f3 b.f4.f0 b.f5 b.f6
def sameN (a b : List (List Int)) : Bool := nameCmpV a b == 0
theorem getD_at (L : List RI) (i : Nat) (h : i < L.length) : L.getD i z33 = L[i] := by simp [List.getD_eq_getElem?_getD, h]
/-! ### the program's -/
theorem implIs (a b : List (List Int)) (ha : a.length ≤ 1048576) (hb : b.length ≤ 1048576) : Ev (fun k => yM.f k a b) (sameN a b) := by
  unfold yM.f;exact Ev.bind (implCmp a b ha hb) (Ev.now _)
end Go.Proofs.Ytagedmajlppohaa.Pure

/- Plain lemmas on the printed functions: whether a row of records is a set (of one name, type and time; in order). -/
namespace Go.Proofs.Ytagedmajlppohaa.Pure
open Go Go.RowKit Go.Proofs.Ytagedmajlppohaa.Q Go.Proofs.YtagedmajlppohaaW.PrintWords Go.Proofs.YtagedmajlppohaaW.PrintLast Go.Proofs.YtagedmajlppohaaW.PrintMore
set_option linter.unusedVariables false
set_option linter.unusedSimpArgs false
abbrev zR : RI := z33
/-- Whether a record stands right behind the one before it, in a set whose first is y. -/
def setAt (y : RI) (L : List RI) (i : Nat) (x : RI) : Bool := sameN x.f0.f0 y.f0.f0 && (x.f1 == y.f1 && (x.f2 == y.f2 && (i == 0 || decide (cmpR (L.getD (i - 1) zR) x < 0))))
def runSet (y : RI) (L : List RI) : Nat → Nat → Bool
  | 0, _ => true
  | m + 1, i => okR (L.getD i zR) && (setAt y L i (L.getD i zR) && runSet y L m (i + 1))
def setV (L : List RI) : Bool := decide (1 ≤ L.length ∧ L.length ≤ 12) && runSet (L.getD 0 zR) L L.length 0
theorem runSet_at (y : RI) (L : List RI) (m i : Nat) (h : i < L.length) : runSet y L (m + 1) i = (okR L[i] && (setAt y L i L[i] && runSet y L m (i + 1))) := by rw [runSet, getD_at L i h]
theorem specSet_l0 (L : List RI) (h0 : 1 ≤ L.length) (hL : L.length ≤ 12) (he : ∀ x ∈ L, FitR x) (m : Nat) : ∀ (i : Nat), L.length = i + m → (i = 0 ∨ okR (L.getD (i - 1) zR) = true) →
    Ev (fun k => qO.l0 k L i) (runSet (L.getD 0 zR) L m i) := by
  induction m with
  | zero =>
    intro i hi _;refine Ev.step (f := fun _ => some true) (fun k => ?_) (Ev.now _);rw [qO.l0, if_neg (by omega)]
  | succ m ih =>
    intro i hi hp;have hil : i < L.length := by omega
    have hF := he _ (List.getElem_mem hil);have hz : 0 < L.length := by omega
    have hF0 := he _ (List.getElem_mem hz);rw [runSet_at _ L m i hil, getD_at L 0 hz];refine Ev.step (f := fun k => (Zu.f k L[i].f0.f0 L[i].f1 L[i].f2 L[i].f3 L[i].f4.f0 L[i].f5 L[i].f6).bind fun t => if t = true then (if (0 : Int) < (L.length : Int) then (jk.f k L[i].f0.f0 L[0].f0.f0).bind fun c => (if c = 0 then (if L[i].f1 = L[0].f1 then (if L[i].f2 = L[0].f2 then (if (i : Int) > 0 then (if 0 ≤ wrap64 ((i : Int) - 1) then (if wrap64 ((i : Int) - 1) < (L.length : Int) then ((yV.f k (qb L (wrap64 ((i : Int) - 1))).f0.f0 (qb L (wrap64 ((i : Int) - 1))).f1 (qb L (wrap64 ((i : Int) - 1))).f2 (qb L (wrap64 ((i : Int) - 1))).f3 (qb L (wrap64 ((i : Int) - 1))).f4.f0 (qb L (wrap64 ((i : Int) - 1))).f5 (qb L (wrap64 ((i : Int) - 1))).f6 L[i].f0.f0 L[i].f1 L[i].f2 L[i].f3 L[i].f4.f0 L[i].f5 L[i].f6).bind fun d => if d ≥ 0 then some false else qO.l0 k L (wrap64 ((i : Int) + 1))) else none) else none) else qO.l0 k L (wrap64 ((i : Int) + 1))) else some false) else some false) else some false) else none) else some false) (fun k => ?_) ?_
    · rw [qO.l0, if_pos (by omega), if_pos (by omega), rdRI L i hil, show qb L 0 = L[0] from rdRI L 0 hz]
    refine Ev.bind (specRrOk _ _ _ _ _ _ _ hF.1 hF.2.1) ?_;by_cases hok : okR L[i] = true
    · have hok' : rrOkV L[i].f0.f0 L[i].f1 L[i].f2 L[i].f3 L[i].f4.f0 L[i].f5 L[i].f6 = true := hok
      simp only [hok', if_true, if_pos (show (0 : Int) < (L.length : Int) by omega)];rw [hok, Bool.true_and];refine Ev.bind (specCmp _ _ hF.1.1 hF0.1.1) ?_;unfold setAt sameN;by_cases h1 : nameCmpV L[i].f0.f0 L[0].f0.f0 = 0
      · simp only [if_pos h1, h1, beq_self_eq_true, Bool.true_and]
        by_cases h2 : L[i].f1 = L[0].f1
        · simp only [if_pos h2]
          rw [show (L[i].f1 == L[0].f1) = true from by simpa using h2, Bool.true_and];by_cases h3 : L[i].f2 = L[0].f2
          · simp only [if_pos h3]
            rw [show (L[i].f2 == L[0].f2) = true from by simpa using h3, Bool.true_and];have hn := ih (i + 1) (by omega) (Or.inr (by rw [Nat.add_sub_cancel, getD_at L i hil]; exact hok));rw [getD_at L 0 hz] at hn;simp only [w64 (x := (i : Int) + 1) (by omega) (by omega)];by_cases hi0 : i = 0
            · subst hi0
              simp only [if_neg (show ¬ ((0 : Nat) : Int) > 0 by omega), beq_self_eq_true, Bool.true_or, Bool.true_and];exact hn
            · have hpl : i - 1 < L.length := by omega
              have hpok : okR L[i - 1] = true := by rcases hp with h | h; exact absurd h hi0; rwa [getD_at L (i - 1) hpl] at h
              simp only [if_pos (show (i : Int) > 0 by omega), w64 (x := (i : Int) - 1) (by omega) (by omega), if_pos (show 0 ≤ (i : Int) - 1 by omega), if_pos (show (i : Int) - 1 < (L.length : Int) by omega)];simp only [show (i : Int) - 1 = ((i - 1 : Nat) : Int) by omega, rdRI L (i - 1) hpl];refine Ev.bind (specL3cmp hpok hok) ?_;rw [getD_at L (i - 1) hpl, show (i == 0) = false from by simpa using hi0, Bool.false_or];by_cases hc : cmpR L[i - 1] L[i] < 0
              · have hc' : ¬ rrCmpV L[i - 1].f0.f0 L[i - 1].f1 L[i - 1].f3 L[i - 1].f4.f0 L[i - 1].f5 L[i - 1].f6 L[i].f0.f0 L[i].f1 L[i].f3 L[i].f4.f0 L[i].f5 L[i].f6 ≥ 0 := by
                  have : rrCmpV L[i - 1].f0.f0 L[i - 1].f1 L[i - 1].f3 L[i - 1].f4.f0 L[i - 1].f5 L[i - 1].f6 L[i].f0.f0 L[i].f1 L[i].f3 L[i].f4.f0 L[i].f5 L[i].f6 < 0 := hc;omega
                simp only [if_neg hc'];rw [decide_eq_true hc, Bool.true_and];exact hn
              · have hc' : rrCmpV L[i - 1].f0.f0 L[i - 1].f1 L[i - 1].f3 L[i - 1].f4.f0 L[i - 1].f5 L[i - 1].f6 L[i].f0.f0 L[i].f1 L[i].f3 L[i].f4.f0 L[i].f5 L[i].f6 ≥ 0 := by
                  have : ¬ rrCmpV L[i - 1].f0.f0 L[i - 1].f1 L[i - 1].f3 L[i - 1].f4.f0 L[i - 1].f5 L[i - 1].f6 L[i].f0.f0 L[i].f1 L[i].f3 L[i].f4.f0 L[i].f5 L[i].f6 < 0 := hc;omega
                simp only [if_pos hc'];rw [decide_eq_false hc, Bool.false_and];exact Ev.now _
          · simp only [if_neg h3, show (L[i].f2 == L[0].f2) = false from by simpa using h3, Bool.false_and]
            exact Ev.now _
        · simp only [if_neg h2, show (L[i].f1 == L[0].f1) = false from by simpa using h2, Bool.false_and]
          exact Ev.now _
      · simp only [if_neg h1, show (nameCmpV L[i].f0.f0 L[0].f0.f0 == 0) = false from by simpa using h1, Bool.false_and]
        exact Ev.now _
    · have hok' : rrOkV L[i].f0.f0 L[i].f1 L[i].f2 L[i].f3 L[i].f4.f0 L[i].f5 L[i].f6 = false := by simpa [okR] using hok
      simp only [hok', show okR L[i] = false from hok', Bool.false_eq_true, if_false, Bool.false_and];exact Ev.now _
theorem specSet (L : List RI) (hL : L.length ≤ 1048576) (he : ∀ x ∈ L, FitR x) : Ev (fun k => qO.f k L) (setV L) := by
  unfold qO.f setV
  have hT : Ev (fun k => qO.j0 k L true) false := by
    refine Ev.step (f := fun _ => some false) (fun k => ?_) (Ev.now _);rw [qO.j0, if_pos rfl]
  by_cases h0 : L.length < 1
  · simp only [if_pos (show (L.length : Int) < 1 by omega)]
    rw [decide_eq_false (show ¬ (1 ≤ L.length ∧ L.length ≤ 12) by omega), Bool.false_and];exact hT
  · simp only [if_neg (show ¬ (L.length : Int) < 1 by omega)]
    by_cases h2 : L.length ≤ 12
    · rw [decide_eq_true (show 1 ≤ L.length ∧ L.length ≤ 12 by omega), Bool.true_and]
      simp only [show decide ((L.length : Int) > 12) = false from decide_eq_false (by omega)];refine Ev.step (f := fun k => qO.l0 k L ((0 : Nat) : Int)) (fun k => ?_) (specSet_l0 L (by omega) h2 he L.length 0 (by omega) (Or.inl rfl));rw [qO.j0, if_neg (by decide)];rfl
    · rw [decide_eq_false (show ¬ (1 ≤ L.length ∧ L.length ≤ 12) by omega), Bool.false_and]
      simp only [show decide ((L.length : Int) > 12) = true from decide_eq_true (by omega)];exact hT
theorem implSet_l0 (L : List RI) (h0 : 1 ≤ L.length) (hL : L.length ≤ 12) (he : ∀ x ∈ L, FitR x) (hall : ∀ x ∈ L, okR x = true) (m : Nat) : ∀ (i : Nat), L.length = i + m →
    Ev (fun k => jc.l0 k L L (L.length : Int) i) (runSet (L.getD 0 zR) L m i) := by
  induction m with
  | zero =>
    intro i hi;refine Ev.step (f := fun _ => some true) (fun k => ?_) (Ev.now _);rw [jc.l0, if_neg (by omega)]
  | succ m ih =>
    intro i hi;have hil : i < L.length := by omega
    have hF := he _ (List.getElem_mem hil);have hz : 0 < L.length := by omega
    have hF0 := he _ (List.getElem_mem hz);have hok : okR L[i] = true := hall _ (List.getElem_mem hil);rw [runSet_at _ L m i hil, getD_at L 0 hz, hok, Bool.true_and];refine Ev.step (f := fun k => (yM.f k L[i].f0.f0 L[0].f0.f0).bind fun t => if t = true then (if L[i].f1 = L[0].f1 then (if L[i].f2 = L[0].f2 then (if (i : Int) > 0 then (if 0 ≤ wrap64 ((i : Int) - 1) then (if wrap64 ((i : Int) - 1) < (L.length : Int) then ((zJ.f k (qb L (wrap64 ((i : Int) - 1))).f0.f0 (qb L (wrap64 ((i : Int) - 1))).f1 (qb L (wrap64 ((i : Int) - 1))).f2 (qb L (wrap64 ((i : Int) - 1))).f3 (qb L (wrap64 ((i : Int) - 1))).f4.f0 (qb L (wrap64 ((i : Int) - 1))).f5 (qb L (wrap64 ((i : Int) - 1))).f6 L[i].f0.f0 L[i].f1 L[i].f2 L[i].f3 L[i].f4.f0 L[i].f5 L[i].f6).bind fun d => if d ≥ 0 then some false else jc.l0 k L L (L.length : Int) (wrap64 ((i : Int) + 1))) else none) else none) else jc.l0 k L L (L.length : Int) (wrap64 ((i : Int) + 1))) else some false) else some false) else some false) (fun k => ?_) ?_
    · rw [jc.l0, if_pos (by omega), if_pos (by omega), if_pos (by omega), if_pos (by omega), rdRI L i hil, show qb L 0 = L[0] from rdRI L 0 hz]
    refine Ev.bind (implIs _ _ hF.1.1 hF0.1.1) ?_;unfold setAt;by_cases h1 : sameN L[i].f0.f0 L[0].f0.f0 = true
    · simp only [if_pos h1, h1, Bool.true_and]
      by_cases h2 : L[i].f1 = L[0].f1
      · simp only [if_pos h2]
        rw [show (L[i].f1 == L[0].f1) = true from by simpa using h2, Bool.true_and];by_cases h3 : L[i].f2 = L[0].f2
        · simp only [if_pos h3]
          rw [show (L[i].f2 == L[0].f2) = true from by simpa using h3, Bool.true_and];have hn := ih (i + 1) (by omega);rw [getD_at L 0 hz] at hn;simp only [w64 (x := (i : Int) + 1) (by omega) (by omega)];by_cases hi0 : i = 0
          · subst hi0
            simp only [if_neg (show ¬ ((0 : Nat) : Int) > 0 by omega), beq_self_eq_true, Bool.true_or, Bool.true_and];exact hn
          · have hpl : i - 1 < L.length := by omega
            have hpok : okR L[i - 1] = true := hall _ (List.getElem_mem hpl);simp only [if_pos (show (i : Int) > 0 by omega), w64 (x := (i : Int) - 1) (by omega) (by omega), if_pos (show 0 ≤ (i : Int) - 1 by omega), if_pos (show (i : Int) - 1 < (L.length : Int) by omega)];simp only [show (i : Int) - 1 = ((i - 1 : Nat) : Int) by omega, rdRI L (i - 1) hpl];refine Ev.bind (implRrCompare hpok hok) ?_;rw [getD_at L (i - 1) hpl, show (i == 0) = false from by simpa using hi0, Bool.false_or];by_cases hc : cmpR L[i - 1] L[i] < 0
            · have hc' : ¬ rrCmpV L[i - 1].f0.f0 L[i - 1].f1 L[i - 1].f3 L[i - 1].f4.f0 L[i - 1].f5 L[i - 1].f6 L[i].f0.f0 L[i].f1 L[i].f3 L[i].f4.f0 L[i].f5 L[i].f6 ≥ 0 := by
                have : rrCmpV L[i - 1].f0.f0 L[i - 1].f1 L[i - 1].f3 L[i - 1].f4.f0 L[i - 1].f5 L[i - 1].f6 L[i].f0.f0 L[i].f1 L[i].f3 L[i].f4.f0 L[i].f5 L[i].f6 < 0 := hc;omega
              simp only [if_neg hc'];rw [decide_eq_true hc, Bool.true_and];exact hn
            · have hc' : rrCmpV L[i - 1].f0.f0 L[i - 1].f1 L[i - 1].f3 L[i - 1].f4.f0 L[i - 1].f5 L[i - 1].f6 L[i].f0.f0 L[i].f1 L[i].f3 L[i].f4.f0 L[i].f5 L[i].f6 ≥ 0 := by
                have : ¬ rrCmpV L[i - 1].f0.f0 L[i - 1].f1 L[i - 1].f3 L[i - 1].f4.f0 L[i - 1].f5 L[i - 1].f6 L[i].f0.f0 L[i].f1 L[i].f3 L[i].f4.f0 L[i].f5 L[i].f6 < 0 := hc;omega
              simp only [if_pos hc'];rw [decide_eq_false hc, Bool.false_and];exact Ev.now _
        · simp only [if_neg h3, show (L[i].f2 == L[0].f2) = false from by simpa using h3, Bool.false_and]
          exact Ev.now _
      · simp only [if_neg h2, show (L[i].f1 == L[0].f1) = false from by simpa using h2, Bool.false_and]
        exact Ev.now _
    · have h1' : sameN L[i].f0.f0 L[0].f0.f0 = false := by simpa using h1
      simp only [h1', Bool.false_eq_true, if_false, Bool.false_and];exact Ev.now _
theorem runSet_false (y : RI) (L : List RI) (m : Nat) : ∀ (i : Nat), L.length = i + m → (∃ x ∈ L.drop i, okR x = false) → runSet y L m i = false := by
  induction m with
  | zero =>
    intro i hi ⟨x, hx, _⟩;rw [List.drop_of_length_le (by omega)] at hx;cases hx
  | succ m ih =>
    intro i hi ⟨x, hx, hf⟩;have hil : i < L.length := by omega
    rw [runSet_at y L m i hil];rw [List.drop_eq_getElem_cons hil] at hx;rcases List.mem_cons.1 hx with rfl | hx
    · rw [hf, Bool.false_and]
    · rw [ih (i + 1) (by omega) ⟨x, hx, hf⟩, Bool.and_false, Bool.and_false]
theorem implSet (L : List RI) (hL : L.length ≤ 1048576) (he : ∀ x ∈ L, FitR x) (ht : ∀ x ∈ L, I64R x) : Ev (fun k => jc.f k L) (setV L) := by
  unfold jc.f setV
  have hT : Ev (fun k => jc.j0 k L true) false := by
    refine Ev.step (f := fun _ => some false) (fun k => ?_) (Ev.now _);rw [jc.j0, if_pos rfl]
  by_cases h0 : L.length = 0
  · simp only [if_pos (show (L.length : Int) = 0 by omega)]
    rw [decide_eq_false (show ¬ (1 ≤ L.length ∧ L.length ≤ 12) by omega), Bool.false_and];exact hT
  · simp only [if_neg (show ¬ (L.length : Int) = 0 by omega)]
    refine Ev.bind (implRrs L ht) ?_;unfold rrsV;by_cases h2 : L.length ≤ 12
    · rw [decide_eq_true (show 1 ≤ L.length ∧ L.length ≤ 12 by omega), Bool.true_and]
      by_cases ha : L.all okR = true
      · simp only [decide_eq_true h2, ha, Bool.and_self, Bool.true_and, Bool.not_true]
        refine Ev.step (f := fun k => jc.l0 k L L (L.length : Int) ((0 : Nat) : Int)) (fun k => ?_) (implSet_l0 L (by omega) h2 he (fun x hx => List.all_eq_true.1 ha x hx) L.length 0 (by omega));rw [jc.j0, if_neg (by decide)];rfl
      · have ha' : L.all okR = false := by simpa using ha
        rw [runSet_false _ L L.length 0 (by omega) (by
          rw [List.drop_zero];rw [List.all_eq_false] at ha';obtain ⟨x, hx, hf⟩ := ha'
          exact ⟨x, hx, by simpa using hf⟩)]
        simp only [ha', Bool.and_false, Bool.not_false];exact hT
    · rw [decide_eq_false (show ¬ (1 ≤ L.length ∧ L.length ≤ 12) by omega), Bool.false_and]
      simp only [decide_eq_false h2, Bool.false_and, Bool.not_false];exact hT
end Go.Proofs.Ytagedmajlppohaa.Pure

/- Plain lemmas on the printed functions: whether a cache is right, by the specification and by the implementation. -/
namespace Go.Proofs.Ytagedmajlppohaa.Pure
open Go Go.RowKit Go.Proofs.Ytagedmajlppohaa.Q Go.Proofs.YtagedmajlppohaaW.PrintWords Go.Proofs.YtagedmajlppohaaW.PrintLast Go.Proofs.YtagedmajlppohaaW.PrintMore
set_option linter.unusedVariables false
set_option linter.unusedSimpArgs false
abbrev zS : SI := qbe
theorem getS_at (L : List SI) (i : Nat) (h : i < L.length) : L.getD i zS = L[i] := by simp [List.getD_eq_getElem?_getD, h]
def kindV (x : SI) : Bool := if x.f2 = 1 then setV x.f3 && (sameN (x.f3.getD 0 zR).f0.f0 x.f0.f0 && (x.f3.getD 0 zR).f1 == x.f1) else decide (x.f3.length = 0)
/-- Whether a slot's own fields are right but for its row of records. -/
def plainV (now turn : Int) (x : SI) : Bool := jf.v x.f0.f0 && (typeOkV x.f1 && (decide (1 ≤ x.f2 ∧ x.f2 ≤ 3) && (decide (0 ≤ x.f4 ∧ x.f4 ≤ 3) && (decide (now + 1 ≤ x.f5 ∧ x.f5 ≤ now + 1000) && decide (1 ≤ x.f6 ∧ x.f6 ≤ turn)))))
def slotV (now turn : Int) (x : SI) : Bool := plainV now turn x && kindV x
def cmpS (a b : SI) : Int := if nameCmpV a.f0.f0 b.f0.f0 = 0 then numV a.f1 b.f1 else nameCmpV a.f0.f0 b.f0.f0
def usedV (L : List SI) (i : Nat) (x : SI) : Bool := (L.take i).any (fun y => decide (y.f6 = x.f6))
def runC (now turn : Int) (L : List SI) : Nat → Nat → Bool
  | 0, _ => true
  | m + 1, i => slotV now turn (L.getD i zS) && ((i == 0 || decide (cmpS (L.getD (i - 1) zS) (L.getD i zS) < 0)) && (!usedV L i (L.getD i zS) && runC now turn L m (i + 1)))
def cacheV (now turn : Int) (L : List SI) : Bool := decide (0 ≤ now ∧ now ≤ 1000000) && (decide (0 ≤ turn ∧ turn ≤ 1000000) && (decide (L.length ≤ 8) && runC now turn L L.length 0))
theorem runC_at (now turn : Int) (L : List SI) (m i : Nat) (h : i < L.length) : runC now turn L (m + 1) i = (slotV now turn L[i] && ((i == 0 || decide (cmpS (L.getD (i - 1) zS) L[i] < 0)) && (!usedV L i L[i] && runC now turn L m (i + 1)))) := by rw [runC, getS_at L i h]
theorem specAhead (a b : SI) (ha : FitS a) (hb : FitS b) : Ev (fun k => YV.f k a.f0.f0 a.f1 a.f2 a.f3 a.f4 a.f5 a.f6 b.f0.f0 b.f1 b.f2 b.f3 b.f4 b.f5 b.f6) (decide (cmpS a b < 0)) := by
  unfold YV.f cmpS numV;refine Ev.bind (specCmp _ _ ha.1.1 hb.1.1) ?_;by_cases h : nameCmpV a.f0.f0 b.f0.f0 = 0
  · simp only [h, if_true, if_neg (show ¬ (0 : Int) < 0 by omega)]
    by_cases h2 : a.f1 < b.f1
    · simp only [if_pos h2, decide_eq_true h2]; exact Ev.now _
    · simp only [if_neg h2, decide_eq_false h2]
      by_cases h3 : a.f1 > b.f1
      · simp only [if_pos h3]; exact Ev.now _
      · simp only [if_neg h3]; exact Ev.now _
  · simp only [if_neg h]
    by_cases h2 : nameCmpV a.f0.f0 b.f0.f0 < 0
    · simp only [if_pos h2, decide_eq_true h2]; exact Ev.now _
    · simp only [if_neg h2, decide_eq_false h2]; exact Ev.now _
theorem orTwo (a b : Int) : Ev (fun k => jF.f k [a, b]) (if a = 0 then b else a) := by
  unfold jF.f;simp only [List.length_cons, List.length_nil];by_cases h1 : a = 0
  · rw [if_pos h1]
    refine Ev.step (f := fun k => jF.l0 k 0 [a, b] 2 1) (fun k => ?_) ?_
    · simp only [jF.l0]
      rw [if_pos (by omega), if_pos (by omega), if_pos (by simp), if_pos (by simpa [rd] using h1), w64 (by omega) (by omega)];rfl
    by_cases h2 : b = 0
    · refine Ev.step (f := fun k => jF.l0 k 0 [a, b] 2 2) (fun k => ?_) ?_
      · simp only [jF.l0]
        rw [if_pos (by omega), if_pos (by omega), if_pos (by simp), if_pos (by simpa [rd] using h2), w64 (by omega) (by omega)];rfl
      refine Ev.step (f := fun _ => some b) (fun k => ?_) (Ev.now _);simp only [jF.l0];rw [if_neg (by omega), h2]
    · refine Ev.step (f := fun _ => some b) (fun k => ?_) (Ev.now _)
      simp only [jF.l0];rw [if_pos (by omega), if_pos (by omega), if_pos (by simp), if_neg (by simpa [rd] using h2)];rfl
  · rw [if_neg h1]
    refine Ev.step (f := fun _ => some a) (fun k => ?_) (Ev.now _);simp only [jF.l0];rw [if_pos (by omega), if_pos (by omega), if_pos (by simp), if_neg (by simpa [rd] using h1)];rfl
theorem implSlotCompare (a b : SI) (ha : FitS a) (hb : FitS b) : Ev (fun k => ze.f k a.f0.f0 a.f1 a.f2 a.f3 a.f4 a.f5 a.f6 b.f0.f0 b.f1 b.f2 b.f3 b.f4 b.f5 b.f6) (cmpS a b) := by
  unfold ze.f cmpS;refine Ev.bind (implCmp _ _ ha.1.1 hb.1.1) ?_;simp only [cmpInt, Option.bind_some];exact Ev.bind (orTwo _ (numV a.f1 b.f1)) (Ev.now _)
theorem specC_l1 (now turn : Int) (L : List SI) (i : Nat) (hi : i < L.length) (hL : L.length ≤ 8) (R : Bool) (hn : Ev (fun k => qh.l0 k (wrap64 ((i : Int) + 1)) now turn L) R) (m : Nat) : ∀ (j : Nat), i = j + m →
    Ev (fun k => qh.l1 k i j now turn L L[i].f0.f0 L[i].f1 L[i].f2 L[i].f3 L[i].f4 L[i].f5 L[i].f6) (!((L.take i).drop j).any (fun y => decide (y.f6 = L[i].f6)) && R) := by
  induction m with
  | zero =>
    intro j hj;rw [List.drop_of_length_le (by simp; omega), List.any_nil, Bool.not_false, Bool.true_and];refine Ev.step (fun k => ?_) hn;rw [qh.l1, if_neg (by omega)]
  | succ m ih =>
    intro j hj;have hjl : j < L.length := by omega
    have hjt : j < (L.take i).length := by simp; omega
    rw [List.drop_eq_getElem_cons hjt, List.any_cons, List.getElem_take];by_cases h : L[j].f6 = L[i].f6
    · rw [decide_eq_true h, Bool.true_or, Bool.not_true, Bool.false_and]
      refine Ev.step (f := fun _ => some false) (fun k => ?_) (Ev.now _);rw [qh.l1, if_pos (by omega), if_pos (by omega), if_pos (by omega), rdSI L j hjl, if_pos h]
    · rw [decide_eq_false h, Bool.false_or]
      refine Ev.step (fun k => ?_) (ih (j + 1) (by omega));rw [qh.l1, if_pos (by omega), if_pos (by omega), if_pos (by omega), rdSI L j hjl, if_neg h, w64 (by omega) (by omega)];rfl
theorem specC_j4 (now turn : Int) (L : List SI) (i : Nat) (hi : i < L.length) (hL : L.length ≤ 8) (R : Bool) (hn : Ev (fun k => qh.l0 k (wrap64 ((i : Int) + 1)) now turn L) R) (b : Bool) :
    Ev (fun k => qh.j4 k i b now turn L L[i].f0.f0 L[i].f1 L[i].f2 L[i].f3 L[i].f4 L[i].f5 L[i].f6) (!b && (!usedV L i L[i] && R)) := by
  cases b with
  | true =>
    refine Ev.step (f := fun _ => some false) (fun k => ?_) (Ev.now _);rw [qh.j4, if_pos rfl]
  | false =>
    have := specC_l1 now turn L i hi hL R hn i 0 (by omega);rw [List.drop_zero] at this;refine Ev.step (fun k => ?_) this;rw [qh.j4, if_neg (by decide)];rfl
theorem specC_j3 (now turn : Int) (L : List SI) (he : ∀ x ∈ L, FitS x) (i : Nat) (hi : i < L.length) (hL : L.length ≤ 8) (R : Bool) (hn : Ev (fun k => qh.l0 k (wrap64 ((i : Int) + 1)) now turn L) R) (b : Bool) (hb : b = false → L[i].f2 = 1 → 1 ≤ L[i].f3.length) :
    Ev (fun k => qh.j3 k i b now turn L L[i].f0.f0 L[i].f1 L[i].f2 L[i].f3 L[i].f4 L[i].f5 L[i].f6) (!b && ((if L[i].f2 = 1 then sameN (L[i].f3.getD 0 zR).f0.f0 L[i].f0.f0 && (L[i].f3.getD 0 zR).f1 == L[i].f1 else true) && (!usedV L i L[i] && R))) := by
  cases b with
  | true =>
    refine Ev.step (f := fun _ => some false) (fun k => ?_) (Ev.now _);rw [qh.j3, if_pos rfl]
  | false =>
    have hF := he _ (List.getElem_mem hi);by_cases h2 : L[i].f2 = 1
    · have hz : 0 < L[i].f3.length := hb rfl h2
      have hF0 := hF.2.2 _ (List.getElem_mem hz);rw [if_pos h2, getD_at _ 0 hz];refine Ev.step (f := fun k => (jk.f k L[i].f3[0].f0.f0 L[i].f0.f0).bind fun t => if t = 0 then qh.j4 k i (L[i].f3[0].f1 != L[i].f1) now turn L L[i].f0.f0 L[i].f1 L[i].f2 L[i].f3 L[i].f4 L[i].f5 L[i].f6 else qh.j4 k i true now turn L L[i].f0.f0 L[i].f1 L[i].f2 L[i].f3 L[i].f4 L[i].f5 L[i].f6) (fun k => ?_) ?_
      · rw [qh.j3, if_neg (by decide), if_pos h2, if_pos (by omega), show qb L[i].f3 0 = L[i].f3[0] from rdRI _ 0 hz]
      refine Ev.bind (specCmp _ _ hF0.1.1 hF.1.1) ?_;unfold sameN;by_cases h3 : nameCmpV L[i].f3[0].f0.f0 L[i].f0.f0 = 0
      · simp only [h3, if_true, beq_self_eq_true, Bool.true_and, Bool.not_false]
        have := specC_j4 now turn L i hi hL R hn (L[i].f3[0].f1 != L[i].f1);simpa [bne] using this
      · simp only [if_neg h3, show (nameCmpV L[i].f3[0].f0.f0 L[i].f0.f0 == 0) = false from by simpa using h3, Bool.false_and, Bool.and_false]
        simpa using specC_j4 now turn L i hi hL R hn true
    · rw [if_neg h2]
      refine Ev.step (fun k => ?_) (by simpa using specC_j4 now turn L i hi hL R hn false);rw [qh.j3, if_neg (by decide), if_neg h2]
theorem setV_pos {L : List RI} (h : setV L = true) : 1 ≤ L.length := by
  unfold setV at h;rw [Bool.and_eq_true] at h;exact (of_decide_eq_true h.1).1
theorem specC_j2 (now turn : Int) (L : List SI) (he : ∀ x ∈ L, FitS x) (i : Nat) (hi : i < L.length) (hL : L.length ≤ 8) (R : Bool) (hn : Ev (fun k => qh.l0 k (wrap64 ((i : Int) + 1)) now turn L) R) (b : Bool) :
    Ev (fun k => qh.j2 k i b now turn L L[i].f0.f0 L[i].f1 L[i].f2 L[i].f3 L[i].f4 L[i].f5 L[i].f6) (!b && (kindV L[i] && (!usedV L i L[i] && R))) := by
  cases b with
  | true =>
    refine Ev.step (f := fun _ => some false) (fun k => ?_) (Ev.now _);rw [qh.j2, if_pos rfl]
  | false =>
    have hF := he _ (List.getElem_mem hi);refine Ev.step (f := fun k => (qO.f k L[i].f3).bind fun t => if ((L[i].f2 == 1) != t) = true then qh.j3 k i true now turn L L[i].f0.f0 L[i].f1 L[i].f2 L[i].f3 L[i].f4 L[i].f5 L[i].f6 else if L[i].f2 = 1 then qh.j3 k i false now turn L L[i].f0.f0 L[i].f1 L[i].f2 L[i].f3 L[i].f4 L[i].f5 L[i].f6 else qh.j3 k i (decide ((L[i].f3.length : Int) > 0)) now turn L L[i].f0.f0 L[i].f1 L[i].f2 L[i].f3 L[i].f4 L[i].f5 L[i].f6) (fun k => ?_) ?_
    · rw [qh.j2, if_neg (by decide)]
    refine Ev.bind (specSet _ hF.2.1 hF.2.2) ?_;have hj := specC_j3 now turn L he i hi hL R hn;unfold kindV;by_cases h2 : L[i].f2 = 1
    · simp only [h2, beq_self_eq_true, if_true]
      cases hs : setV L[i].f3 with
      | true =>
        have := hj false (fun _ _ => setV_pos hs);rw [if_pos h2] at this;simpa [h2] using this
      | false => simpa [h2] using hj true (fun h => by cases h)
    · simp only [if_neg h2, show (L[i].f2 == 1) = false from by simpa using h2]
      cases hs : setV L[i].f3 with
      | true =>
        have hp := setV_pos hs;rw [decide_eq_false (show ¬ L[i].f3.length = 0 by omega)];simpa using hj true (fun h => by cases h)
      | false =>
        have := hj (decide ((L[i].f3.length : Int) > 0)) (fun _ h => absurd h h2);rw [if_neg h2] at this;by_cases h0 : L[i].f3.length = 0
        · simp only [h0] at this ⊢
          simpa using this
        · rw [decide_eq_true (show (L[i].f3.length : Int) > 0 by omega)] at this
          simp only [decide_eq_false h0];simpa [show (0 < L[i].f3.length) by omega] using this
theorem plain_parts {now turn : Int} {x : SI} (h : plainV now turn x = true) : jf.v x.f0.f0 = true ∧ typeOkV x.f1 = true ∧ (1 ≤ x.f2 ∧ x.f2 ≤ 3) ∧ (0 ≤ x.f4 ∧ x.f4 ≤ 3) ∧ (now + 1 ≤ x.f5 ∧ x.f5 ≤ now + 1000) ∧ (1 ≤ x.f6 ∧ x.f6 ≤ turn) := by
  simpa only [plainV, Bool.and_eq_true, decide_eq_true_eq] using h
theorem slot_no {now turn : Int} {x : SI} (h : plainV now turn x = true → False) : slotV now turn x = false := by
  unfold slotV;cases hh : plainV now turn x with
  | true => exact (h hh).elim
  | false => rfl
theorem plain_yes {now turn : Int} {x : SI} (h : jf.v x.f0.f0 = true ∧ typeOkV x.f1 = true ∧ (1 ≤ x.f2 ∧ x.f2 ≤ 3) ∧ (0 ≤ x.f4 ∧ x.f4 ≤ 3) ∧ (now + 1 ≤ x.f5 ∧ x.f5 ≤ now + 1000) ∧ (1 ≤ x.f6 ∧ x.f6 ≤ turn)) : slotV now turn x = kindV x := by
  have hp : plainV now turn x = true := by simpa only [plainV, Bool.and_eq_true, decide_eq_true_eq] using h
  rw [slotV, hp, Bool.true_and]
theorem specC_l0 (now turn : Int) (hnow : 0 ≤ now ∧ now ≤ 1000000) (L : List SI) (he : ∀ x ∈ L, FitS x) (hL : L.length ≤ 8) (m : Nat) : ∀ (i : Nat), L.length = i + m →
    Ev (fun k => qh.l0 k i now turn L) (runC now turn L m i) := by
  induction m with
  | zero =>
    intro i hi;refine Ev.step (f := fun _ => some true) (fun k => ?_) (Ev.now _);rw [qh.l0, if_neg (by omega)]
  | succ m ih =>
    intro i hi;have hil : i < L.length := by omega
    have hF := he _ (List.getElem_mem hil)
    have hn : Ev (fun k => qh.l0 k (wrap64 ((i : Int) + 1)) now turn L) (runC now turn L m (i + 1)) := by
      rw [w64 (by omega) (by omega)]; exact ih (i + 1) (by omega)
    have hj := specC_j2 now turn L he i hil hL (runC now turn L m (i + 1)) hn;have hT : Ev (fun k => qh.j2 k i true now turn L L[i].f0.f0 L[i].f1 L[i].f2 L[i].f3 L[i].f4 L[i].f5 L[i].f6) false := hj true;rw [runC_at now turn L m i hil];generalize hR : runC now turn L m (i + 1) = R at hj;clear hR hn ih;apply Ev.step
    · intro k
      rw [qh.l0, if_pos (by omega), if_pos (by omega), rdSI L i hil]
    refine Ev.bind (specNameOk _ hF.1.1 hF.1.big) ?_;by_cases c0 : jf.v L[i].f0.f0 = true
    case neg =>
      rw [slot_no (fun h => c0 (plain_parts h).1), Bool.false_and];simp only [if_neg c0]; exact hT
    simp only [if_pos c0, specTypeOk, Option.bind_some];by_cases c1 : typeOkV L[i].f1 = true
    case neg =>
      rw [slot_no (fun h => c1 (plain_parts h).2.1), Bool.false_and];simp only [if_neg c1]; exact hT
    simp only [if_pos c1];rw [w64 (x := now + 1000) (by omega) (by omega)];by_cases c2 : L[i].f2 < 1
    · rw [slot_no (fun h => by have := plain_parts h; omega), Bool.false_and]
      simp only [if_pos c2]; exact hT
    simp only [if_neg c2];by_cases c3 : L[i].f2 > 3
    · rw [slot_no (fun h => by have := plain_parts h; omega), Bool.false_and]
      simp only [if_pos c3]; exact hT
    simp only [if_neg c3];by_cases c4 : L[i].f4 < 0
    · rw [slot_no (fun h => by have := plain_parts h; omega), Bool.false_and]
      simp only [if_pos c4]; exact hT
    simp only [if_neg c4];by_cases c5 : L[i].f4 > 3
    · rw [slot_no (fun h => by have := plain_parts h; omega), Bool.false_and]
      simp only [if_pos c5]; exact hT
    simp only [if_neg c5];by_cases c6 : L[i].f5 ≤ now
    · rw [slot_no (fun h => by have := plain_parts h; omega), Bool.false_and]
      simp only [if_pos c6]; exact hT
    simp only [if_neg c6];by_cases c7 : L[i].f5 > now + 1000
    · rw [slot_no (fun h => by have := plain_parts h; omega), Bool.false_and]
      simp only [if_pos c7]; exact hT
    simp only [if_neg c7];by_cases c8 : L[i].f6 < 1
    · rw [slot_no (fun h => by have := plain_parts h; omega), Bool.false_and]
      simp only [if_pos c8]; exact hT
    simp only [if_neg c8];by_cases c9 : L[i].f6 > turn
    · rw [slot_no (fun h => by have := plain_parts h; omega), Bool.false_and]
      simp only [if_pos c9]; exact hT
    simp only [if_neg c9];rw [plain_yes ⟨c0, c1, by omega, by omega, by omega, by omega⟩];by_cases hi0 : i = 0
    · subst hi0
      simp only [if_neg (show ¬ ((0 : Nat) : Int) > 0 by omega), beq_self_eq_true, Bool.true_or, Bool.true_and];exact hj false
    · have hpl : i - 1 < L.length := by omega
      simp only [if_pos (show (i : Int) > 0 by omega), w64 (x := (i : Int) - 1) (by omega) (by omega), if_pos (show 0 ≤ (i : Int) - 1 by omega), if_pos (show (i : Int) - 1 < (L.length : Int) by omega)];simp only [show (i : Int) - 1 = ((i - 1 : Nat) : Int) by omega, rdSI L (i - 1) hpl];refine Ev.bind (specAhead _ _ (he _ (List.getElem_mem hpl)) hF) ?_;rw [getS_at L (i - 1) hpl, show (i == 0) = false from by simpa using hi0, Bool.false_or];have := hj (!decide (cmpS L[i - 1] L[i] < 0));rw [Bool.not_not, Bool.and_left_comm] at this;exact this
theorem specCacheOk (now turn : Int) (L : List SI) (he : ∀ x ∈ L, FitS x) : Ev (fun k => qh.f k now turn L) (cacheV now turn L) := by
  unfold qh.f cacheV
  have hT : Ev (fun k => qh.j0 k true now turn L) false := by
    refine Ev.step (f := fun _ => some false) (fun k => ?_) (Ev.now _);rw [qh.j0, if_pos rfl]
  by_cases c0 : now < 0
  · simp only [if_pos c0]; rw [decide_eq_false (by omega), Bool.false_and]; exact hT
  simp only [if_neg c0];by_cases c1 : now > 1000000
  · simp only [if_pos c1]; rw [decide_eq_false (by omega), Bool.false_and]; exact hT
  simp only [if_neg c1];rw [decide_eq_true (show 0 ≤ now ∧ now ≤ 1000000 by omega), Bool.true_and];by_cases c2 : turn < 0
  · simp only [if_pos c2]; rw [decide_eq_false (by omega), Bool.false_and]; exact hT
  simp only [if_neg c2];by_cases c3 : turn > 1000000
  · simp only [if_pos c3]; rw [decide_eq_false (by omega), Bool.false_and]; exact hT
  simp only [if_neg c3];rw [decide_eq_true (show 0 ≤ turn ∧ turn ≤ 1000000 by omega), Bool.true_and];by_cases c4 : L.length ≤ 8
  · rw [decide_eq_true c4, Bool.true_and]
    simp only [show decide ((L.length : Int) > 8) = false from decide_eq_false (by omega)];refine Ev.step (f := fun k => qh.l0 k ((0 : Nat) : Int) now turn L) (fun k => ?_) (specC_l0 now turn (by omega) L he c4 L.length 0 (by omega));rw [qh.j0, if_neg (by decide)];rfl
  · rw [decide_eq_false c4, Bool.false_and]
    simp only [show decide ((L.length : Int) > 8) = true from decide_eq_true (by omega)];exact hT
theorem implSlot_j0 (b : Bool) (x : SI) (hF : FitS x) (hI : I64S x) : Ev (fun k => qB.j0 k b x.f0.f0 x.f1 x.f2 x.f3 x.f4 x.f5 x.f6) (!b && kindV x) := by
  cases b with
  | true =>
    refine Ev.step (f := fun _ => some false) (fun k => ?_) (Ev.now _);rw [qB.j0, if_pos rfl]
  | false =>
    unfold kindV;by_cases h2 : x.f2 = 1
    · rw [if_pos h2, Bool.not_false, Bool.true_and]
      refine Ev.step (f := fun k => (jc.f k x.f3).bind fun t => if t = true then (if (0 : Int) < (x.f3.length : Int) then (yM.f k (qb x.f3 0).f0.f0 x.f0.f0).bind fun u => if u = true then some ((qb x.f3 0).f1 == x.f1) else some false else none) else some false) (fun k => ?_) ?_
      · rw [qB.j0, if_neg (by decide), if_pos h2]
      refine Ev.bind (implSet _ hF.2.1 hF.2.2 hI.2) ?_;cases hs : setV x.f3 with
      | true =>
        have hz : 0 < x.f3.length := setV_pos hs;simp only [if_true, if_pos (show (0 : Int) < (x.f3.length : Int) by omega), Bool.true_and];rw [show qb x.f3 0 = x.f3[0] from rdRI _ 0 hz, getD_at _ 0 hz];refine Ev.bind (implIs _ _ (hF.2.2 _ (List.getElem_mem hz)).1.1 hF.1.1) ?_;cases sameN x.f3[0].f0.f0 x.f0.f0 with
        | true => simp only [if_true, Bool.true_and]; exact Ev.now _
        | false => simp only [Bool.false_eq_true, if_false, Bool.false_and]; exact Ev.now _
      | false => simp only [Bool.false_eq_true, if_false, Bool.false_and]; exact Ev.now _
    · rw [if_neg h2, Bool.not_false, Bool.true_and]
      refine Ev.step (f := fun _ => some (decide (x.f3.length = 0))) (fun k => ?_) (Ev.now _);rw [qB.j0, if_neg (by decide), if_neg h2];congr 1
      by_cases h : x.f3.length = 0
      · simp [h]
      · rw [decide_eq_false h]; simpa using h
theorem implSlotOk (now turn : Int) (hnow : 0 ≤ now ∧ now ≤ 1000000) (L : List SI) (x : SI) (hF : FitS x) (hI : I64S x) : Ev (fun k => qB.f k now turn L x.f0.f0 x.f1 x.f2 x.f3 x.f4 x.f5 x.f6) (slotV now turn x) := by
  unfold qB.f;have hj := fun b => implSlot_j0 b x hF hI
  have hT : Ev (fun k => qB.j0 k true x.f0.f0 x.f1 x.f2 x.f3 x.f4 x.f5 x.f6) false := hj true;simp only [show jf.f x.f0.f0 = some (jf.v x.f0.f0) from rfl, implTypeOk x.f1 hI.1, implWithin, Option.bind_some, w64 (x := now + 1) (by omega) (by omega), w64 (x := now + 1000) (by omega) (by omega)];by_cases c0 : jf.v x.f0.f0 = true
  case neg => rw [slot_no (fun h => c0 (plain_parts h).1)]; simp only [if_neg c0]; exact hT
  by_cases c1 : typeOkV x.f1 = true
  case neg => rw [slot_no (fun h => c1 (plain_parts h).2.1)]; simp only [if_pos c0, if_neg c1]; exact hT
  simp only [if_pos c0, if_pos c1, decide_eq_true_eq];by_cases c2 : 1 ≤ x.f2 ∧ x.f2 ≤ 3
  case neg => rw [slot_no (fun h => c2 (plain_parts h).2.2.1)]; simp only [if_neg c2]; exact hT
  simp only [if_pos c2];by_cases c3 : 0 ≤ x.f4 ∧ x.f4 ≤ 3
  case neg => rw [slot_no (fun h => c3 (plain_parts h).2.2.2.1)]; simp only [if_neg c3]; exact hT
  simp only [if_pos c3];by_cases c4 : now + 1 ≤ x.f5 ∧ x.f5 ≤ now + 1000
  case neg => rw [slot_no (fun h => c4 (plain_parts h).2.2.2.2.1)]; simp only [if_neg c4]; exact hT
  simp only [if_pos c4];by_cases c5 : 1 ≤ x.f6 ∧ x.f6 ≤ turn
  · rw [plain_yes ⟨c0, c1, c2, c3, c4, c5⟩, decide_eq_true c5]
    exact hj false
  · rw [slot_no (fun h => c5 (plain_parts h).2.2.2.2.2), decide_eq_false c5]
    exact hT
theorem implAll (now turn : Int) (hnow : 0 ≤ now ∧ now ≤ 1000000) (L : List SI) (he : ∀ x ∈ L, FitS x) (ht : ∀ x ∈ L, I64S x) : Ev (fun k => qr.all k now turn L L) (L.all (slotV now turn)) := by
  obtain ⟨r, hr, e⟩ := idx_allS (fun k x => qB.f k now turn L x.f0.f0 x.f1 x.f2 x.f3 x.f4 x.f5 x.f6) (slotV now turn) L 0 (fun x hx => implSlotOk now turn hnow L x (he x hx) (ht x hx));rw [← e];obtain ⟨n, hn⟩ := hr;refine ⟨n, fun k hk => ?_⟩;have h := hn k hk;unfold qr.all;exact Option.map_eq_some_iff.2 ⟨r, h, rfl⟩
theorem implUsed (L : List SI) (u : Int) : qr.used L u = some (L.any (fun y => decide (y.f6 = u))) := by
  obtain ⟨r, hr, e⟩ := idx_anyS (fun y => decide (y.f6 = u)) L 0;unfold qr.used;exact Option.map_eq_some_iff.2 ⟨r, hr, e⟩
theorem implC_l0 (now turn : Int) (L : List SI) (he : ∀ x ∈ L, FitS x) (hL : L.length ≤ 8) (hall : ∀ x ∈ L, slotV now turn x = true) (m : Nat) : ∀ (i : Nat), L.length = i + m →
    Ev (fun k => qr.l0 k L (L.length : Int) i now turn L) (runC now turn L m i) := by
  induction m with
  | zero =>
    intro i hi;refine Ev.step (f := fun _ => some true) (fun k => ?_) (Ev.now _);rw [qr.l0, if_neg (by omega)]
  | succ m ih =>
    intro i hi;have hil : i < L.length := by omega
    have hF := he _ (List.getElem_mem hil);have hn := ih (i + 1) (by omega);rw [runC_at now turn L m i hil, hall _ (List.getElem_mem hil), Bool.true_and];have hu : qr.used (L.take i) L[i].f6 = some (usedV L i L[i]) := implUsed _ _
    have hU : Ev (fun k => (qr.used (L.take i) L[i].f6).bind fun t => if t = true then some false else qr.l0 k L (L.length : Int) (wrap64 ((i : Int) + 1)) now turn L) (!usedV L i L[i] && runC now turn L m (i + 1)) := by
      simp only [hu, Option.bind_some];cases usedV L i L[i] with
      | true => simp only [if_true, Bool.not_true, Bool.false_and]; exact Ev.now _
      | false =>
        simp only [Bool.false_eq_true, if_false, Bool.not_false, Bool.true_and];rw [w64 (by omega) (by omega)];exact hn
    by_cases hi0 : i = 0
    · subst hi0
      rw [show ((0 : Nat) == 0) = true from rfl, Bool.true_or, Bool.true_and];refine Ev.step (fun k => ?_) hU;rw [qr.l0, if_pos (by omega), if_pos (by omega), if_pos (by omega), if_neg (by omega), if_pos (by omega), rdSI L 0 hil];rfl
    · have hpl : i - 1 < L.length := by omega
      rw [show (i == 0) = false from by simpa using hi0, Bool.false_or, getS_at L (i - 1) hpl];refine Ev.step (f := fun k => (ze.f k L[i - 1].f0.f0 L[i - 1].f1 L[i - 1].f2 L[i - 1].f3 L[i - 1].f4 L[i - 1].f5 L[i - 1].f6 L[i].f0.f0 L[i].f1 L[i].f2 L[i].f3 L[i].f4 L[i].f5 L[i].f6).bind fun t => if t ≥ 0 then some false else ((qr.used (L.take i) L[i].f6).bind fun t => if t = true then some false else qr.l0 k L (L.length : Int) (wrap64 ((i : Int) + 1)) now turn L)) (fun k => ?_) ?_
      · rw [qr.l0, if_pos (by omega), if_pos (by omega), if_pos (by omega), if_pos (by omega)]
        simp only [w64 (x := (i : Int) - 1) (by omega) (by omega)];rw [if_pos (by omega), if_pos (by omega)];simp only [show (i : Int) - 1 = ((i - 1 : Nat) : Int) by omega, rdSI L (i - 1) hpl, rdSI L i hil, if_pos (show (i : Int) ≤ (L.length : Int) by omega), Option.bind_some, show ((i : Int)).toNat = i by omega]
      refine Ev.bind (implSlotCompare _ _ (he _ (List.getElem_mem hpl)) hF) ?_;by_cases hc : cmpS L[i - 1] L[i] < 0
      · simp only [if_neg (show ¬ cmpS L[i - 1] L[i] ≥ 0 by omega)]
        rw [decide_eq_true hc, Bool.true_and];exact hU
      · simp only [if_pos (show cmpS L[i - 1] L[i] ≥ 0 by omega)]
        rw [decide_eq_false hc, Bool.false_and];exact Ev.now _
theorem runC_false (now turn : Int) (L : List SI) (m : Nat) : ∀ (i : Nat), L.length = i + m → (∃ x ∈ L.drop i, slotV now turn x = false) → runC now turn L m i = false := by
  induction m with
  | zero =>
    intro i hi ⟨x, hx, _⟩;rw [List.drop_of_length_le (by omega)] at hx;cases hx
  | succ m ih =>
    intro i hi ⟨x, hx, hf⟩;have hil : i < L.length := by omega
    rw [runC_at now turn L m i hil];rw [List.drop_eq_getElem_cons hil] at hx;rcases List.mem_cons.1 hx with rfl | hx
    · rw [hf, Bool.false_and]
    · rw [ih (i + 1) (by omega) ⟨x, hx, hf⟩, Bool.and_false, Bool.and_false, Bool.and_false]
theorem implCacheOk (now turn : Int) (L : List SI) (he : ∀ x ∈ L, FitS x) (ht : ∀ x ∈ L, I64S x) : Ev (fun k => qr.f k now turn L) (cacheV now turn L) := by
  unfold qr.f cacheV
  have hT : Ev (fun k => qr.j0 k true now turn L) false := by
    refine Ev.step (f := fun _ => some false) (fun k => ?_) (Ev.now _);rw [qr.j0, if_pos rfl]
  simp only [implWithin, Option.bind_some, decide_eq_true_eq];by_cases c0 : 0 ≤ now ∧ now ≤ 1000000
  case neg => simp only [if_neg c0]; rw [decide_eq_false c0, Bool.false_and]; exact hT
  simp only [if_pos c0];rw [decide_eq_true c0, Bool.true_and];by_cases c1 : 0 ≤ turn ∧ turn ≤ 1000000
  case neg => simp only [if_neg c1]; rw [decide_eq_false c1, Bool.false_and]; exact hT
  simp only [if_pos c1];rw [decide_eq_true c1, Bool.true_and];by_cases c4 : L.length ≤ 8
  · rw [decide_eq_true c4, Bool.true_and]
    simp only [if_neg (show ¬ (L.length : Int) > 8 by omega)];refine Ev.bind (implAll now turn c0 L he ht) ?_;by_cases ha : L.all (slotV now turn) = true
    · rw [ha]
      refine Ev.step (f := fun k => qr.l0 k L (L.length : Int) ((0 : Nat) : Int) now turn L) (fun k => ?_) (implC_l0 now turn L he c4 (fun x hx => List.all_eq_true.1 ha x hx) L.length 0 (by omega));rw [qr.j0, if_neg (by decide)];rfl
    · have ha' : L.all (slotV now turn) = false := by simpa using ha
      rw [runC_false now turn L L.length 0 (by omega) (by
        rw [List.drop_zero];rw [List.all_eq_false] at ha';obtain ⟨x, hx, hf⟩ := ha'
        exact ⟨x, hx, by simpa using hf⟩), ha']
      exact hT
  · rw [decide_eq_false c4, Bool.false_and]
    simp only [if_pos (show (L.length : Int) > 8 by omega)];exact hT
theorem rawR_okC {x : RL} (h : qqw x) : RawR x := by
  obtain ⟨h1, h2, h3, h4, h5, h6, h7⟩ := h;exact ⟨⟨h1.1, fun y hy => (h1.2 y hy).1⟩, ⟨h5.1, fun y hy => (h5.2 y hy).1⟩, h6.1, h7.1, (i64_of_wf h2).1, (i64_of_wf h2).2⟩
theorem rawS_ok {x : SL} (h : qlc x) : RawS x := by
  obtain ⟨h1, h2, h3, h4, _⟩ := h;exact ⟨⟨h1.1, fun y hy => (h1.2 y hy).1⟩, ⟨h4.1, fun y hy => rawR_okC (h4.2 y hy)⟩, (i64_of_wf h2).1, (i64_of_wf h2).2⟩
theorem FnExactCacheOk : Jk.Pure := by
  intro x h;obtain ⟨_, _, hS⟩ := h;have hr : x.f2.length ≤ 9223372036854775807 ∧ ∀ y ∈ x.f2, RawS y := ⟨hS.1, fun y hy => rawS_ok (hS.2 y hy)⟩;clear hS;generalize x.f0 = now;generalize x.f1 = turn;generalize x.f2 = L at hr;apply Ev.rounds;unfold Jk.f;obtain ⟨u, hu, hc⟩ := szCache now turn L 1048576 hr.1 hr.2 (by omega) (by omega);refine Ev.bind hu ?_;by_cases h : u < 0
  · simp only [if_pos h]; exact Ev.now _
  simp only [if_neg h];obtain ⟨hl, hf⟩ := hc.resolve_left h;have hto := toCache now turn L hl hf;have hi : ∀ y ∈ L.map cvS, I64S y := mapAllS fun y hy => ⟨(hr.2 y hy).2.2, mapAllS fun z hz => ((hr.2 y hy).2.1.2 z hz).2.2.2.2⟩
  have hf' : ∀ y ∈ L.map cvS, FitS y := mapAllS hf;have hl' : (L.map cvS).length ≤ 1048576 := by simpa using hl
  generalize L.map cvS = L' at hto hi hf' hl';refine Ev.bind hto ?_;refine Ev.bind (specCacheOk now turn L' hf') ?_;refine Ev.bind hto ?_;refine Ev.bind (implCacheOk now turn L' hf' hi) ?_;simp only [bne_self_eq_false, Bool.false_eq_true, if_false];refine Ev.bind hto ?_;refine Ev.bind (eqCache now turn L' hl' hf') ?_;simp only [if_true]; exact Ev.now _
end Go.Proofs.Ytagedmajlppohaa.Pure

