/- Plain lemmas for the statement FnExactDataPut. -/
import Derived.Test.YtedbpnfkeabpnaaZFnExactDataPut0
import Derived.Test.YtedbpnfkeabpnaaZFnExactDataPut1
import Derived.Test.YtedbpnfkeabpnaaZFnExactDataPut2
import Derived.Test.YtedbpnfkeabpnaaZFnExactDataPut3
import Derived.Test.YtedbpnfkeabpnaaVFnExactDataPut
import Derived.Deep.Slices
import Derived.Lib.SmallJoins
import Derived.OpenShut
/- What an argument reads as, kind by kind: from the form's reading of a datum to the print's kinds (Kd). -/
namespace Go.Proofs.Ytedbpnfkeabpnaa.Open
open Go Go.RowKit Go.Deep Go.ChangeShapes Go.WideShapes Go.ChangeAt Go.Proofs.YtedbpnfkeabpnaaW.PrintWords
set_option linter.unusedVariables false
variable {H : Type} {enc : TypeId × Value → H} {P : Program} {W : World} {sp : Nat → Bool} {held : Bool}

/-- Whatever cells are read as a datum of type t are those of a y of the kind d, of which ok holds. -/
def Opens (enc : TypeId × Value → H) (P : Program) (W : World) (sp : Nat → Bool) (held : Bool) {α : Type} (d : Kd α) (ok : α → Prop) (t : TypeId) : Prop :=
  ∀ fuel cs x, DataW.trod enc P W 0 sp held fuel t cs = some x → ∃ y : α, d.K W y cs ∧ ok y

theorem opens_int {t : TypeId} {k : IntKind} (ht : P.underlying t = some (.int k)) : Opens enc P W sp held (Kd.int k) (fun x => (Lit.int k x).wf = true) t := by
  intro fuel cs x h
  obtain ⟨a, rfl, _, hw⟩ := DataW.trod_int ht h
  exact ⟨a, rfl, hw⟩
theorem opens_bool {t : TypeId} (ht : P.underlying t = some .bool) : Opens enc P W sp held Kd.bool (fun _ => True) t := by
  intro fuel cs x h
  obtain ⟨a, rfl, _⟩ := DataW.trod_bool ht h
  exact ⟨a, rfl, trivial⟩

theorem list_of {α : Type} {n : Nat} {Q : Nat → α → Prop} (h : ∀ i, i < n → ∃ y, Q i y) : ∃ l : List α, l.length = n ∧ ∀ i y, l[i]? = some y → Q i y := by
  induction n with
  | zero => exact ⟨[], rfl, fun i y hy => by simp at hy⟩
  | succ n ih =>
    obtain ⟨l, hl, hq⟩ := ih (fun i hi => h i (by omega))
    obtain ⟨y, hy⟩ := h n (by omega)
    refine ⟨l ++ [y], by simp [hl], fun i z hz => ?_⟩
    by_cases hi : i < n
    · rw [List.getElem?_append_left (by omega)] at hz; exact hq i z hz
    · by_cases e : i = n
      · subst e
        rw [List.getElem?_append_right (by omega), hl, Nat.sub_self] at hz
        simp at hz; subst hz; exact hy
      · rw [List.getElem?_eq_none (by simp; omega)] at hz; cases hz

theorem opens_slice {α : Type} {d : Kd α} {ok : α → Prop} {t e : TypeId} (ht : P.underlying t = some (.slice e)) (hs : d.sz = P.cellsOf e) (h : Opens enc P W sp held d ok e) :
    Opens enc P W sp held (Kd.slice e d) (fun l => l.length ≤ maxLen ∧ ∀ x ∈ l, ok x) t := by
  intro fuel cs x hx
  rcases open_slice ht hx with ⟨rfl, _⟩ | ⟨a, len, cap, m, n, D, Pl, rfl, _, hl, hm, hmm, _, hel⟩
  · exact ⟨[], ⟨none, 0, rfl, Nat.le_refl _, Kd.C_nil d W⟩, by simp, by simp⟩
  · have hlm : len ≤ m := by rw [hmm]; split <;> omega
    obtain ⟨l, hll, hq⟩ := list_of (n := len) (Q := fun i (y : α) => ∃ c, W.cells? 0 (a.add (i * P.cellsOf e)) (P.cellsOf e) = some c ∧ d.K W y c ∧ ok y) (fun i hi => by
      obtain ⟨c, h1, h2⟩ := hel i (by omega)
      obtain ⟨y, hy, hok⟩ := h _ _ _ h2
      exact ⟨y, c, h1, hy, hok⟩)
    refine ⟨l, ⟨some a, cap, by rw [hll], by omega, rfl, by rw [hll]; unfold maxLen at hm; omega, fun _ => ⟨a, rfl, fun j p hj => ?_⟩⟩, by omega, fun x hx => ?_⟩
    · obtain ⟨c, h1, h2, _⟩ := hq j p hj
      obtain ⟨_, hlen, hc⟩ := World.cells?_some h1
      refine ⟨c, by rw [hlen, hs], h2, fun i u hu => ?_⟩
      have hi : i < c.length := (List.getElem?_eq_some_iff.1 hu).1
      have h3 := hc i (by omega)
      rw [hs, ← Go.Proofs.YtedbpnfkeabpnaaW.PrintWords.add_add, h3, hu]
    · obtain ⟨i, hi⟩ := List.mem_iff_getElem?.1 hx
      obtain ⟨_, _, _, hok⟩ := hq i x hi
      exact hok

/-- The fields of a struct, from place o on, as one kind. -/
def OpensF (enc : TypeId × Value → H) (P : Program) (W : World) (sp : Nat → Bool) (held : Bool) {α : Type} (d : Kd α) (ok : α → Prop) (fs : List Field) (o n : Nat) : Prop :=
  ∀ (fuel : Nat) (cs : List Value), cs.length = o + n → (∀ f ∈ fs, ∃ x, DataW.trod enc P W 0 sp held fuel f.type ((cs.drop f.offset).take (P.cellsOf f.type)) = some x) → ∃ y : α, d.K W y (cs.drop o) ∧ ok y
theorem opensF_one {α : Type} {d : Kd α} {ok : α → Prop} {f : Field} {o n : Nat} (ho : f.offset = o) (hn : P.cellsOf f.type = n) (h : Opens enc P W sp held d ok f.type) : OpensF enc P W sp held d ok [f] o n := by
  intro fuel cs hl hf
  obtain ⟨x, hx⟩ := hf f (by simp)
  rw [ho, hn, List.take_of_length_le (by simp; omega)] at hx
  exact h _ _ _ hx
theorem opensF_cons {α β : Type} {d : Kd α} {d' : Kd β} {ok : α → Prop} {ok' : β → Prop} {f : Field} {fs : List Field} {o n m : Nat} (ho : f.offset = o) (hn : P.cellsOf f.type = n) (h : Opens enc P W sp held d ok f.type) (hr : OpensF enc P W sp held d' ok' fs (o + n) m) :
    OpensF enc P W sp held (Kd.pair d d') (fun y => ok y.1 ∧ ok' y.2) (f :: fs) o (n + m) := by
  intro fuel cs hl hf
  obtain ⟨x, hx⟩ := hf f (by simp)
  rw [ho, hn] at hx
  obtain ⟨y, hy, hoky⟩ := h _ _ _ hx
  obtain ⟨z, hz, hokz⟩ := hr fuel cs (by omega) (fun g hg => hf g (by simp [hg]))
  refine ⟨(y, z), ⟨(cs.drop o).take n, cs.drop (o + n), ?_, hy, hz⟩, hoky, hokz⟩
  rw [← List.drop_drop, List.take_append_drop]
theorem opens_struct {α β : Type} {d : Kd α} {ok : α → Prop} {t : TypeId} {fs : Array Field} {n : Nat} (f : β → α) (g : α → β) (hfg : ∀ y, f (g y) = y) (ht : P.underlying t = some (.struct fs)) (hn : P.cellsOf t = n) (h : OpensF enc P W sp held d ok fs.toList 0 n) :
    Opens enc P W sp held (Kd.iso d f) (fun y => ok (f y)) t := by
  intro fuel cs x hx
  obtain ⟨xs, m, _, rfl, hl, hlen, hf⟩ := DataW.trod_struct ht hx
  obtain ⟨y, hy, hok⟩ := h m cs (by omega) (fun fl hfl => by
    obtain ⟨i, hi⟩ := List.mem_iff_getElem?.1 hfl
    have hfi := hf i fl (by simpa using hi)
    have hil : i < xs.length := by rw [hlen]; have := (List.getElem?_eq_some_iff.1 hi).1; simpa using this
    exact ⟨xs[i], by rw [hfi, List.getElem?_eq_getElem hil]⟩)
  exact ⟨g y, by show d.K W (f (g y)) cs; rw [hfg]; simpa using hy, by show ok (f (g y)); rw [hfg]; exact hok⟩
/-- An argument of a struct's type. -/
theorem open_arg {r : Reach} {b0 : Nat} {α : Type} {d : Kd α} {ok : α → Prop} {t : TypeId} {fs : Array Field} {v : Value} {dt : DataW H} {p : List MemPlace} (ht : P.underlying t = some (.struct fs)) (hv : Value.okWide P W r b0 t v) (h : DataW.Trod enc P W 0 sp held t v dt p) (ho : Opens enc P W sp held d ok t) :
    ∃ (cs : List Value) (y : α), v = .agg cs.toArray ∧ d.K W y cs ∧ ok y := by
  obtain ⟨cs, rfl, hsz⟩ := okWide_struct ht hv
  obtain ⟨fuel, hf⟩ := h
  obtain ⟨y, hy, hok⟩ := ho _ _ _ hf
  exact ⟨cs.toList, y, by simp, by simpa [Value.cells] using hy, hok⟩
end Go.Proofs.Ytedbpnfkeabpnaa.Open

-- Written by a program of this session (wip/myprint.py): what each type of the laws' parameters reads as.
namespace Go.Proofs.Ytedbpnfkeabpnaa.Q
open Go Go.RowKit Go.Proofs.Ytedbpnfkeabpnaa.Open Go.Proofs.YtedbpnfkeabpnaaW.PrintWords
set_option linter.unusedVariables false
def okT5 (x : Int) : Prop := (Lit.int .u8 x).wf = true
theorem opensT5 {H : Type} {enc : TypeId × Value → H} {W : World} : Opens enc Try.prog W (fun _ => true) true (Kd.int .u8) okT5 5 := opens_int Try.underlying5
def okT31 (l : List Int) : Prop := l.length ≤ maxLen ∧ ∀ x ∈ l, okT5 x
theorem opensT31 {H : Type} {enc : TypeId × Value → H} {W : World} : Opens enc Try.prog W (fun _ => true) true (Kd.slice 5 (Kd.int .u8)) okT31 31 := opens_slice Try.underlying31 (by kernel_rfl) opensT5
def okT22 (l : List (List Int)) : Prop := l.length ≤ maxLen ∧ ∀ x ∈ l, okT31 x
theorem opensT22 {H : Type} {enc : TypeId × Value → H} {W : World} : Opens enc Try.prog W (fun _ => true) true (Kd.slice 31 (Kd.slice 5 (Kd.int .u8))) okT22 22 := opens_slice Try.underlying22 (by kernel_rfl) opensT31
def okT24 (x : S24) : Prop := okT22 x.f0
theorem opensT24 {H : Type} {enc : TypeId × Value → H} {W : World} : Opens enc Try.prog W (fun _ => true) true k24 okT24 24 := by
  have h := opens_struct (d := (Kd.slice 31 (Kd.slice 5 (Kd.int .u8)))) (ok := okT22) (enc := enc) (P := Try.prog) (W := W) (sp := fun _ => true) (held := true) (fun x : S24 => x.f0) (fun y => (⟨y⟩ : S24)) (fun _ => rfl) Try.underlying24 (n := 1) (by kernel_rfl) (by
    refine opensF_one (d := (Kd.slice 31 (Kd.slice 5 (Kd.int .u8)))) (ok := okT22) (n := 1) ?ho ?hn ?h; (case ho => rfl); (case hn => kernel_rfl); (case h => exact opensT22))
  exact h
def okT3 (x : Int) : Prop := (Lit.int .i64 x).wf = true
theorem opensT3 {H : Type} {enc : TypeId × Value → H} {W : World} : Opens enc Try.prog W (fun _ => true) true (Kd.int .i64) okT3 3 := opens_int Try.underlying3
def okT42 (l : List Int) : Prop := l.length ≤ maxLen ∧ ∀ x ∈ l, okT3 x
theorem opensT42 {H : Type} {enc : TypeId × Value → H} {W : World} : Opens enc Try.prog W (fun _ => true) true (Kd.slice 3 (Kd.int .i64)) okT42 42 := opens_slice Try.underlying42 (by kernel_rfl) opensT3
def okT44 (x : S44) : Prop := okT24 x.f0 ∧ (okT3 x.f1 ∧ (okT3 x.f2 ∧ (okT3 x.f3 ∧ (okT24 x.f4 ∧ (okT31 x.f5 ∧ (okT42 x.f6))))))
theorem opensT44 {H : Type} {enc : TypeId × Value → H} {W : World} : Opens enc Try.prog W (fun _ => true) true k44 okT44 44 := by
  have h := opens_struct (d := Kd.pair (k24) (Kd.pair ((Kd.int .i64)) (Kd.pair ((Kd.int .i64)) (Kd.pair ((Kd.int .i64)) (Kd.pair (k24) (Kd.pair ((Kd.slice 5 (Kd.int .u8))) ((Kd.slice 3 (Kd.int .i64))))))))) (ok := (fun y => okT24 y.1 ∧ (fun y => okT3 y.1 ∧ (fun y => okT3 y.1 ∧ (fun y => okT3 y.1 ∧ (fun y => okT24 y.1 ∧ (fun y => okT31 y.1 ∧ okT42 y.2) y.2) y.2) y.2) y.2) y.2)) (enc := enc) (P := Try.prog) (W := W) (sp := fun _ => true) (held := true) (fun x : S44 => (x.f0, x.f1, x.f2, x.f3, x.f4, x.f5, x.f6)) (fun y => (⟨y.1, y.2.1, y.2.2.1, y.2.2.2.1, y.2.2.2.2.1, y.2.2.2.2.2.1, y.2.2.2.2.2.2⟩ : S44)) (fun _ => rfl) Try.underlying44 (n := 7) (by kernel_rfl) (by
    refine opensF_cons (d := k24) (ok := okT24) (d' := Kd.pair ((Kd.int .i64)) (Kd.pair ((Kd.int .i64)) (Kd.pair ((Kd.int .i64)) (Kd.pair (k24) (Kd.pair ((Kd.slice 5 (Kd.int .u8))) ((Kd.slice 3 (Kd.int .i64)))))))) (ok' := (fun y => okT3 y.1 ∧ (fun y => okT3 y.1 ∧ (fun y => okT3 y.1 ∧ (fun y => okT24 y.1 ∧ (fun y => okT31 y.1 ∧ okT42 y.2) y.2) y.2) y.2) y.2)) (n := 1) (m := 6) ?ho ?hn ?h ?_; (case ho => rfl); (case hn => kernel_rfl); (case h => exact opensT24)
    refine opensF_cons (d := (Kd.int .i64)) (ok := okT3) (d' := Kd.pair ((Kd.int .i64)) (Kd.pair ((Kd.int .i64)) (Kd.pair (k24) (Kd.pair ((Kd.slice 5 (Kd.int .u8))) ((Kd.slice 3 (Kd.int .i64))))))) (ok' := (fun y => okT3 y.1 ∧ (fun y => okT3 y.1 ∧ (fun y => okT24 y.1 ∧ (fun y => okT31 y.1 ∧ okT42 y.2) y.2) y.2) y.2)) (n := 1) (m := 5) ?ho ?hn ?h ?_; (case ho => rfl); (case hn => kernel_rfl); (case h => exact opensT3)
    refine opensF_cons (d := (Kd.int .i64)) (ok := okT3) (d' := Kd.pair ((Kd.int .i64)) (Kd.pair (k24) (Kd.pair ((Kd.slice 5 (Kd.int .u8))) ((Kd.slice 3 (Kd.int .i64)))))) (ok' := (fun y => okT3 y.1 ∧ (fun y => okT24 y.1 ∧ (fun y => okT31 y.1 ∧ okT42 y.2) y.2) y.2)) (n := 1) (m := 4) ?ho ?hn ?h ?_; (case ho => rfl); (case hn => kernel_rfl); (case h => exact opensT3)
    refine opensF_cons (d := (Kd.int .i64)) (ok := okT3) (d' := Kd.pair (k24) (Kd.pair ((Kd.slice 5 (Kd.int .u8))) ((Kd.slice 3 (Kd.int .i64))))) (ok' := (fun y => okT24 y.1 ∧ (fun y => okT31 y.1 ∧ okT42 y.2) y.2)) (n := 1) (m := 3) ?ho ?hn ?h ?_; (case ho => rfl); (case hn => kernel_rfl); (case h => exact opensT3)
    refine opensF_cons (d := k24) (ok := okT24) (d' := Kd.pair ((Kd.slice 5 (Kd.int .u8))) ((Kd.slice 3 (Kd.int .i64)))) (ok' := (fun y => okT31 y.1 ∧ okT42 y.2)) (n := 1) (m := 2) ?ho ?hn ?h ?_; (case ho => rfl); (case hn => kernel_rfl); (case h => exact opensT24)
    refine opensF_cons (d := (Kd.slice 5 (Kd.int .u8))) (ok := okT31) (d' := (Kd.slice 3 (Kd.int .i64))) (ok' := okT42) (n := 1) (m := 1) ?ho ?hn ?h ?_; (case ho => rfl); (case hn => kernel_rfl); (case h => exact opensT31)
    refine opensF_one (d := (Kd.slice 3 (Kd.int .i64))) (ok := okT42) (n := 1) ?ho ?hn ?h; (case ho => rfl); (case hn => kernel_rfl); (case h => exact opensT42))
  exact h
def okT4 (_ : Bool) : Prop := True
theorem opensT4 {H : Type} {enc : TypeId × Value → H} {W : World} : Opens enc Try.prog W (fun _ => true) true Kd.bool okT4 4 := opens_bool Try.underlying4
def okT54 (x : S54) : Prop := okT44 x.f0 ∧ (okT3 x.f1 ∧ (okT4 x.f2))
theorem opensT54 {H : Type} {enc : TypeId × Value → H} {W : World} : Opens enc Try.prog W (fun _ => true) true k54 okT54 54 := by
  have h := opens_struct (d := Kd.pair (k44) (Kd.pair ((Kd.int .i64)) (Kd.bool))) (ok := (fun y => okT44 y.1 ∧ (fun y => okT3 y.1 ∧ okT4 y.2) y.2)) (enc := enc) (P := Try.prog) (W := W) (sp := fun _ => true) (held := true) (fun x : S54 => (x.f0, x.f1, x.f2)) (fun y => (⟨y.1, y.2.1, y.2.2⟩ : S54)) (fun _ => rfl) Try.underlying54 (n := 9) (by kernel_rfl) (by
    refine opensF_cons (d := k44) (ok := okT44) (d' := Kd.pair ((Kd.int .i64)) (Kd.bool)) (ok' := (fun y => okT3 y.1 ∧ okT4 y.2)) (n := 7) (m := 2) ?ho ?hn ?h ?_; (case ho => rfl); (case hn => kernel_rfl); (case h => exact opensT44)
    refine opensF_cons (d := (Kd.int .i64)) (ok := okT3) (d' := Kd.bool) (ok' := okT4) (n := 1) (m := 1) ?ho ?hn ?h ?_; (case ho => rfl); (case hn => kernel_rfl); (case h => exact opensT3)
    refine opensF_one (d := Kd.bool) (ok := okT4) (n := 1) ?ho ?hn ?h; (case ho => rfl); (case hn => kernel_rfl); (case h => exact opensT4))
  exact h
def okT94 (x : Int) : Prop := (Lit.int .u32 x).wf = true
theorem opensT94 {H : Type} {enc : TypeId × Value → H} {W : World} : Opens enc Try.prog W (fun _ => true) true (Kd.int .u32) okT94 94 := opens_int Try.underlying94
def okT99 (l : List Int) : Prop := l.length ≤ maxLen ∧ ∀ x ∈ l, okT94 x
theorem opensT99 {H : Type} {enc : TypeId × Value → H} {W : World} : Opens enc Try.prog W (fun _ => true) true (Kd.slice 94 (Kd.int .u32)) okT99 99 := opens_slice Try.underlying99 (by kernel_rfl) opensT94
def okT104 (x : Int) : Prop := (Lit.int .u64 x).wf = true
theorem opensT104 {H : Type} {enc : TypeId × Value → H} {W : World} : Opens enc Try.prog W (fun _ => true) true (Kd.int .u64) okT104 104 := opens_int Try.underlying104
def okT102 (l : List Int) : Prop := l.length ≤ maxLen ∧ ∀ x ∈ l, okT104 x
theorem opensT102 {H : Type} {enc : TypeId × Value → H} {W : World} : Opens enc Try.prog W (fun _ => true) true (Kd.slice 104 (Kd.int .u64)) okT102 102 := opens_slice Try.underlying102 (by kernel_rfl) opensT104
end Go.Proofs.Ytedbpnfkeabpnaa.Q

-- Written by a program of this session (wip/myprint.py): the pure statement of a law.
namespace Go.Proofs.Ytedbpnfkeabpnaa.Q
open Go Go.RowKit
def laws_FnExactDataPut.Pure : Prop := ∀ (x0 : S44), okT44 x0 → ∃ k, laws_FnExactDataPut.f k x0.f0.f0 x0.f1 x0.f2 x0.f3 x0.f4.f0 x0.f5 x0.f6 = some true
end Go.Proofs.Ytedbpnfkeabpnaa.Q

/- Plain lemmas on the printed functions: a list of bytes read into a new one, two lists compared, a number read from bytes. -/
namespace Go.Proofs.Ytedbpnfkeabpnaa.Pure
open Go Go.RowKit Go.Proofs.Ytedbpnfkeabpnaa.Q Go.Proofs.YtedbpnfkeabpnaaW.PrintWords Go.Proofs.YtedbpnfkeabpnaaW.PrintLast Go.Proofs.YtedbpnfkeabpnaaW.PrintMore
set_option linter.unusedVariables false
set_option linter.unusedSimpArgs false

/-- Every element is a byte. -/
def Bytes (l : List Int) : Prop := ∀ x ∈ l, 0 ≤ x ∧ x ≤ 255
theorem Bytes.of_wf {l : List Int} (h : ∀ x ∈ l, (Lit.int .u8 x).wf = true) : Bytes l := fun x hx => by
  have := h x hx
  simp [Lit.wf, IntKind.min, IntKind.max, IntKind.signed, IntKind.bits] at this
  omega
theorem i64_of_wf {x : Int} (h : (Lit.int .i64 x).wf = true) : -9223372036854775808 ≤ x ∧ x ≤ 9223372036854775807 := by
  simp [Lit.wf, IntKind.min, IntKind.max, IntKind.signed, IntKind.bits] at h
  omega
theorem Bytes.rd {l : List Int} (h : Bytes l) (i : Int) : 0 ≤ rd l i ∧ rd l i ≤ 255 := by
  unfold Go.Proofs.YtedbpnfkeabpnaaW.PrintWords.rd
  rw [List.getD_eq_getElem?_getD]
  by_cases hi : i.toNat < l.length
  · rw [List.getElem?_eq_getElem hi]; exact h _ (List.getElem_mem hi)
  · rw [List.getElem?_eq_none (by omega)]; simp
theorem w64 {x : Int} (h1 : -9223372036854775808 ≤ x) (h2 : x ≤ 9223372036854775807) : wrap64 x = x := by
  unfold wrap64; omega
theorem Ev.here {α : Type} {g : Nat → Option α} {r : α} (h : ∀ k, g k = some r) : Ev g r := ⟨0, fun k _ => h k⟩

theorem set_prefix (l : List Int) (i : Nat) (h : i < l.length) (m : Nat) (hm : l.length = i + m + 1) :
    (l.take i ++ List.replicate (m+1) 0).set i (l.getD i 0) = l.take (i+1) ++ List.replicate m 0 := by
  rw [List.set_append_right _ _ (by simp; omega)]
  simp only [List.length_take, Nat.min_eq_left (Nat.le_of_lt h), Nat.sub_self, List.replicate_succ, List.set_cons_zero]
  rw [List.take_succ_eq_append_getElem h, List.append_assoc]
  simp [List.getD_eq_getElem?_getD, h]

theorem toByteS_l0 (l : List Int) (hl : l.length ≤ 140737488351232) (m : Nat) : ∀ (i : Nat), l.length = i + m →
    Ev (fun k => laws_toByteS.l0 k l (l.take i ++ List.replicate m 0) i) l := by
  induction m with
  | zero =>
    intro i hi
    refine Ev.step (f := fun _ => some l) (fun k => ?_) (Ev.now _)
    simp only [laws_toByteS.l0]
    rw [if_neg (by omega)]
    simp [List.take_of_length_le (show l.length ≤ i by omega)]
  | succ m ih =>
    intro i hi
    refine Ev.step (fun k => ?_) (ih (i+1) (by omega))
    simp only [laws_toByteS.l0]
    rw [if_pos (by omega), if_pos (by omega), if_pos (by simp; omega), w64 (by omega) (by omega)]
    rw [show rd l (i : Int) = l.getD i 0 by simp [rd], show ((i : Int)).toNat = i by omega, set_prefix l i (by omega) m (by omega)]
    rfl
theorem toByteS (l : List Int) (hl : l.length ≤ 140737488351232) : Ev (fun k => laws_toByteS.f k l) l := by
  unfold laws_toByteS.f
  simp only [if_pos (show 0 ≤ (l.length : Int) by omega), if_pos (show ((l.length : Int)).toNat ≤ 281474976710656 by omega)]
  simpa using toByteS_l0 l hl l.length 0 (by omega)

theorem eqByteS_l0 (l : List Int) (hl : l.length ≤ 140737488351232) (m : Nat) : ∀ (i : Nat), l.length = i + m →
    Ev (fun k => laws_eqByteS.l0 k l l i) true := by
  induction m with
  | zero =>
    intro i hi
    refine Ev.step (f := fun _ => some true) (fun k => ?_) (Ev.now _)
    simp only [laws_eqByteS.l0]
    rw [if_neg (by omega)]
  | succ m ih =>
    intro i hi
    refine Ev.step (fun k => ?_) (ih (i+1) (by omega))
    simp only [laws_eqByteS.l0]
    rw [if_pos (by omega), if_pos (by omega), if_pos (by omega), if_pos trivial, w64 (by omega) (by omega)]
    rfl
theorem eqByteS (l : List Int) (hl : l.length ≤ 140737488351232) : Ev (fun k => laws_eqByteS.f k l l) true := by
  unfold laws_eqByteS.f
  simp only [if_pos]
  exact eqByteS_l0 l hl l.length 0 (by omega)

/-- The number that bytes make, the highest first. -/
def be (acc : Int) (l : List Int) : Int := l.foldl (fun a x => a * 256 + x) acc
theorem wraps_i64 (n : Int) (h0 : 0 ≤ n) (h1 : n < 2 ^ 63) : IntKind.i64.wrap n = n := by rw [IntKind.wrap_i64]; omega
theorem bits_or_byte (a x : Int) (h0 : 0 ≤ a) (h1 : a < 36028797018963968) (h2 : 0 ≤ x) (h3 : x ≤ 255) : Go.bits .or .i64 (a * 256) x = a * 256 + x :=
  bits_join .i64 63 (by decide) wraps_i64 8 (a * 256) x (by omega) (by omega) (by omega) (by omega) (by omega) (by omega)
/-- What 'get' tells. -/

def getV (l : List Int) (at_ n : Int) : Int × Int := if at_ < 0 ∨ n > l.length - at_ then (0, -1) else (be 0 ((l.take (at_ + n).toNat).drop at_.toNat), at_ + n)
theorem be_two (a b : Int) : be 0 [a, b] = a * 256 + b := by simp [be]
theorem be_four (a b c d : Int) : be 0 [a, b, c, d] = a * 16777216 + b * 65536 + c * 256 + d := by simp [be]; omega
theorem cut_two (l : List Int) (i : Nat) (h : i + 2 ≤ l.length) : (l.take (i + 2)).drop i = [rd l i, rd l (i + 1 : Nat)] := by
  apply List.ext_getElem
  · simp; omega
  · intro j h1 h2
    simp at h2
    rcases j with _ | _ | j
    · simp [rd, List.getD_eq_getElem?_getD, show i < l.length by omega]
    · simp [rd, List.getD_eq_getElem?_getD, show i + 1 < l.length by omega]
    · omega
theorem cut_four (l : List Int) (i : Nat) (h : i + 4 ≤ l.length) : (l.take (i + 4)).drop i = [rd l i, rd l (i + 1 : Nat), rd l (i + 2 : Nat), rd l (i + 3 : Nat)] := by
  apply List.ext_getElem
  · simp; omega
  · intro j h1 h2
    simp at h2
    rcases j with _ | _ | _ | _ | j
    · simp [rd, List.getD_eq_getElem?_getD, show i < l.length by omega]
    · simp [rd, List.getD_eq_getElem?_getD, show i + 1 < l.length by omega]
    · simp [rd, List.getD_eq_getElem?_getD, show ((i : Int) + 2).toNat = i + 2 by omega, show i + 2 < l.length by omega]
    · simp [rd, List.getD_eq_getElem?_getD, show ((i : Int) + 3).toNat = i + 3 by omega, show i + 3 < l.length by omega]
    · omega
end Go.Proofs.Ytedbpnfkeabpnaa.Pure

/- Plain lemmas on the printed functions that read, measure and compare lists of lists of bytes, and names. -/
namespace Go.Proofs.Ytedbpnfkeabpnaa.Pure
open Go Go.RowKit Go.Proofs.Ytedbpnfkeabpnaa.Q Go.Proofs.YtedbpnfkeabpnaaW.PrintWords Go.Proofs.YtedbpnfkeabpnaaW.PrintLast Go.Proofs.YtedbpnfkeabpnaaW.PrintMore
set_option linter.unusedVariables false
set_option linter.unusedSimpArgs false

theorem rdL_at (l : List (List Int)) (i : Nat) (h : i < l.length) : rd_L10 l (i : Int) = l[i] := by simp [rd_L10, List.getD_eq_getElem?_getD, h]
def lens (l : List (List Int)) : Nat := (l.map List.length).sum
theorem lens_drop (l : List (List Int)) (i : Nat) (h : i < l.length) : lens (l.drop i) = l[i].length + lens (l.drop (i + 1)) := by
  rw [List.drop_eq_getElem_cons h]; simp only [lens, List.map_cons, List.sum_cons]
theorem len_le_lens (l : List (List Int)) (i : Nat) (h : i < l.length) : l[i].length ≤ lens l := by
  induction l generalizing i with
  | nil => simp at h
  | cons x l ih =>
    cases i with
    | zero => simp [lens]
    | succ i => have := ih i (by simpa using h); simp [lens] at this ⊢; omega
theorem szByteS (l : List Int) (left : Int) (hl : l.length ≤ 9223372036854775807) (h0 : 0 ≤ left) (h1 : left ≤ 1048576) : ∃ t, laws_szByteS.f l left = some t ∧ (t < 0 ∨ (t = left - l.length ∧ 0 ≤ t)) := by
  unfold laws_szByteS.f
  rw [w64 (by omega) (by omega)]
  by_cases h : left - (l.length : Int) < 0
  · exact ⟨-1, by rw [if_pos h], Or.inl (by omega)⟩
  · exact ⟨left - l.length, by rw [if_neg h], Or.inr ⟨rfl, by omega⟩⟩
theorem szByteSS_l0 (l : List (List Int)) (hl : l.length ≤ 1048576) (he : ∀ x ∈ l, x.length ≤ 9223372036854775807) (m : Nat) : ∀ (i : Nat) (left : Int), l.length = i + m → 0 ≤ left → left ≤ 1048576 →
    ∃ t, Ev (fun k => laws_szByteSS.l0 k l left i) t ∧ (t < 0 ∨ (t = left - lens (l.drop i) ∧ 0 ≤ t)) := by
  induction m with
  | zero =>
    intro i left hi h0 h1
    refine ⟨left, Ev.step (f := fun _ => some left) (fun k => ?_) (Ev.now _), Or.inr ⟨by rw [List.drop_of_length_le (by omega)]; simp [lens], h0⟩⟩
    simp only [laws_szByteSS.l0]
    rw [if_neg (by omega)]
  | succ m ih =>
    intro i left hi h0 h1
    have hil : i < l.length := by omega
    obtain ⟨t, ht, hc⟩ := szByteS l[i] left (he _ (List.getElem_mem hil)) h0 h1
    by_cases hneg : t < 0
    · refine ⟨-1, Ev.step (f := fun _ => some (-1)) (fun k => ?_) (Ev.now _), Or.inl (by omega)⟩
      simp only [laws_szByteSS.l0]
      rw [if_pos (by omega), if_pos (by omega), rdL_at l i hil, ht]
      simp [hneg]
    · obtain ⟨u, hu, hcu⟩ := ih (i + 1) t (by omega) (by omega) (by omega)
      refine ⟨u, Ev.step (fun k => ?_) hu, ?_⟩
      · simp only [laws_szByteSS.l0]
        rw [if_pos (by omega), if_pos (by omega), rdL_at l i hil, ht, w64 (x := (i : Int) + 1) (by omega) (by omega)]
        simp [hneg]
      · rw [lens_drop l i hil]
        rcases hcu with h | h
        · exact Or.inl h
        · exact Or.inr (by omega)
theorem szByteSS (l : List (List Int)) (left : Int) (hl : l.length ≤ 9223372036854775807) (he : ∀ x ∈ l, x.length ≤ 9223372036854775807) (h0 : 0 ≤ left) (h1 : left ≤ 1048576) :
    ∃ t, Ev (fun k => laws_szByteSS.f k l left) t ∧ (t < 0 ∨ (t = left - l.length - lens l ∧ 0 ≤ t)) := by
  unfold laws_szByteSS.f
  rw [w64 (by omega) (by omega)]
  by_cases h : left - (l.length : Int) < 0
  · exact ⟨-1, by simp only [if_pos h]; exact Ev.now _, Or.inl (by omega)⟩
  · obtain ⟨t, ht, hc⟩ := szByteSS_l0 l (by omega) he l.length 0 (left - l.length) (by omega) (by omega) (by omega)
    exact ⟨t, by simp only [if_neg h]; exact ht, by rw [List.drop_zero] at hc; omega⟩
theorem szName (l : List (List Int)) (left : Int) (hl : l.length ≤ 9223372036854775807) (he : ∀ x ∈ l, x.length ≤ 9223372036854775807) (h0 : 0 ≤ left) (h1 : left ≤ 1048576) :
    ∃ t, Ev (fun k => laws_szName.f k l left) t ∧ (t < 0 ∨ (t = left - l.length - lens l ∧ 0 ≤ t)) := by
  obtain ⟨t, ht, hc⟩ := szByteSS l left hl he h0 h1
  unfold laws_szName.f
  by_cases h : t < 0
  · exact ⟨-1, Ev.bind ht (by simp only [if_pos h]; exact Ev.now _), Or.inl (by omega)⟩
  · exact ⟨t, Ev.bind ht (by simp only [if_neg h]; exact Ev.now _), hc⟩

theorem setL_prefix (l : List (List Int)) (i : Nat) (h : i < l.length) (m : Nat) (hm : l.length = i + m + 1) :
    (l.take i ++ List.replicate (m+1) []).set i l[i] = l.take (i+1) ++ List.replicate m [] := by
  rw [List.set_append_right _ _ (by simp; omega)]
  simp only [List.length_take, Nat.min_eq_left (Nat.le_of_lt h), Nat.sub_self, List.replicate_succ, List.set_cons_zero]
  rw [List.take_succ_eq_append_getElem h, List.append_assoc]
  simp
theorem toByteSS_l0 (l : List (List Int)) (hl : l.length ≤ 11728124029610) (he : ∀ x ∈ l, x.length ≤ 140737488351232) (m : Nat) : ∀ (i : Nat), l.length = i + m →
    Ev (fun k => laws_toByteSS.l0 k l (l.take i ++ List.replicate m []) i) l := by
  induction m with
  | zero =>
    intro i hi
    refine Ev.step (f := fun _ => some l) (fun k => ?_) (Ev.now _)
    simp only [laws_toByteSS.l0]
    rw [if_neg (by omega)]
    simp [List.take_of_length_le (show l.length ≤ i by omega)]
  | succ m ih =>
    intro i hi
    have hil : i < l.length := by omega
    refine Ev.step (f := fun k => (laws_toByteS.f k l[i]).bind fun t => laws_toByteSS.l0 k l ((l.take i ++ List.replicate (m + 1) []).set i t) ((i + 1 : Nat) : Int)) (fun k => ?_) ?_
    · simp only [laws_toByteSS.l0]
      rw [if_pos (by omega), if_pos (by omega), rdL_at l i hil, w64 (x := (i : Int) + 1) (by omega) (by omega)]
      simp only [if_pos (show (i : Int) < ((l.take i ++ List.replicate (m + 1) ([] : List Int)).length : Int) by simp; omega), show ((i : Int)).toNat = i by omega]
      rfl
    · refine Ev.bind (toByteS l[i] (he _ (List.getElem_mem hil))) ?_
      rw [setL_prefix l i hil m (by omega)]
      exact ih (i + 1) (by omega)
theorem toByteSS (l : List (List Int)) (hl : l.length ≤ 11728124029610) (he : ∀ x ∈ l, x.length ≤ 140737488351232) : Ev (fun k => laws_toByteSS.f k l) l := by
  unfold laws_toByteSS.f
  simp only [if_pos (show 0 ≤ (l.length : Int) by omega), if_pos (show ((l.length : Int)).toNat ≤ 11728124029610 by omega)]
  simpa using toByteSS_l0 l hl he l.length 0 (by omega)
theorem toName (l : List (List Int)) (hl : l.length ≤ 11728124029610) (he : ∀ x ∈ l, x.length ≤ 140737488351232) : Ev (fun k => laws_toName.f k l) l := by
  unfold laws_toName.f
  exact Ev.bind (toByteSS l hl he) (Ev.now _)

theorem eqByteSS_l0 (l : List (List Int)) (hl : l.length ≤ 11728124029610) (he : ∀ x ∈ l, x.length ≤ 140737488351232) (m : Nat) : ∀ (i : Nat), l.length = i + m →
    Ev (fun k => laws_eqByteSS.l0 k l l i) true := by
  induction m with
  | zero =>
    intro i hi
    refine Ev.step (f := fun _ => some true) (fun k => ?_) (Ev.now _)
    simp only [laws_eqByteSS.l0]
    rw [if_neg (by omega)]
  | succ m ih =>
    intro i hi
    have hil : i < l.length := by omega
    refine Ev.step (f := fun k => (laws_eqByteS.f k l[i] l[i]).bind fun t => if t = true then laws_eqByteSS.l0 k l l ((i + 1 : Nat) : Int) else some false) (fun k => ?_) ?_
    · simp only [laws_eqByteSS.l0]
      rw [if_pos (by omega), if_pos (by omega), rdL_at l i hil, w64 (x := (i : Int) + 1) (by omega) (by omega), if_pos (by omega)]
      rfl
    · refine Ev.bind (eqByteS l[i] (he _ (List.getElem_mem hil))) ?_
      simp only [if_true]
      exact ih (i + 1) (by omega)
theorem eqByteSS (l : List (List Int)) (hl : l.length ≤ 11728124029610) (he : ∀ x ∈ l, x.length ≤ 140737488351232) : Ev (fun k => laws_eqByteSS.f k l l) true := by
  unfold laws_eqByteSS.f
  simp only [if_pos]
  exact eqByteSS_l0 l hl he l.length 0 (by omega)
theorem eqName (l : List (List Int)) (hl : l.length ≤ 11728124029610) (he : ∀ x ∈ l, x.length ≤ 140737488351232) : Ev (fun k => laws_eqName.f k l l) true := by
  unfold laws_eqName.f
  refine Ev.bind (eqByteSS l hl he) ?_
  simp only [if_true]; exact Ev.now _
end Go.Proofs.Ytedbpnfkeabpnaa.Pure

/- Plain lemmas on the printed functions that say whether labels and names are right, and whether one name lies under another. -/
namespace Go.Proofs.Ytedbpnfkeabpnaa.Pure
open Go Go.RowKit Go.Proofs.Ytedbpnfkeabpnaa.Q Go.Proofs.YtedbpnfkeabpnaaW.PrintWords Go.Proofs.YtedbpnfkeabpnaaW.PrintLast Go.Proofs.YtedbpnfkeabpnaaW.PrintMore
set_option linter.unusedVariables false
set_option linter.unusedSimpArgs false
theorem specLabelOk_l0 (l : List Int) (hl : l.length ≤ 140737488351232) (m : Nat) : ∀ (i : Nat), l.length = i + m →
    Ev (fun k => spec_LabelOk.l0 k l i) ((l.drop i).all impl_LabelOk.byte) := by
  induction m with
  | zero =>
    intro i hi
    rw [List.drop_of_length_le (by omega)]
    refine Ev.step (f := fun _ => some true) (fun k => ?_) (Ev.now _)
    simp only [spec_LabelOk.l0]
    rw [if_neg (by omega)]
  | succ m ih =>
    intro i hi
    have hil : i < l.length := by omega
    have e : rd l (i : Int) = l[i] := by simp [rd, List.getD_eq_getElem?_getD, hil]
    rw [List.drop_eq_getElem_cons hil, List.all_cons]
    by_cases hb : impl_LabelOk.byte l[i] = true
    · rw [hb, Bool.true_and]
      refine Ev.step (fun k => ?_) (ih (i+1) (by omega))
      simp only [spec_LabelOk.l0]
      rw [if_pos (by omega), if_pos (by omega), e, w64 (by omega) (by omega)]
      unfold impl_LabelOk.byte at hb
      generalize l[i] = x at *
      by_cases h1 : x ≥ 97 <;> by_cases h2 : x ≤ 122 <;> by_cases h3 : x ≥ 48 <;> by_cases h4 : x ≤ 57 <;> by_cases h5 : x = 45 <;> first | omega | (simp [h1, h2, h3, h4, h5] at hb ⊢; try omega)
    · rw [Bool.not_eq_true] at hb
      rw [hb, Bool.false_and]
      refine Ev.step (f := fun _ => some false) (fun k => ?_) (Ev.now _)
      simp only [spec_LabelOk.l0]
      rw [if_pos (by omega), if_pos (by omega), e]
      unfold impl_LabelOk.byte at hb
      generalize l[i] = x at *
      by_cases h1 : x ≥ 97 <;> by_cases h2 : x ≤ 122 <;> by_cases h3 : x ≥ 48 <;> by_cases h4 : x ≤ 57 <;> by_cases h5 : x = 45 <;> first | omega | (simp [h1, h2, h3, h4, h5] at hb ⊢; try omega)
theorem specLabelOk (l : List Int) (hl : l.length ≤ 140737488351232) : Ev (fun k => spec_LabelOk.f k l) (impl_LabelOk.v l) := by
  unfold spec_LabelOk.f impl_LabelOk.v
  by_cases h1 : (l.length : Int) < 1
  · simp only [if_pos h1]
    rw [decide_eq_false (show ¬ 1 ≤ l.length by omega)]
    refine Ev.step (f := fun _ => some false) (fun k => ?_) (Ev.now _)
    simp [spec_LabelOk.j0]
  · simp only [if_neg h1]
    rw [decide_eq_true (show 1 ≤ l.length by omega)]
    by_cases h2 : (l.length : Int) > 15
    · rw [decide_eq_true h2, decide_eq_false (show ¬ l.length ≤ 15 by omega)]
      refine Ev.step (f := fun _ => some false) (fun k => ?_) (Ev.now _)
      simp [spec_LabelOk.j0]
    · rw [decide_eq_false h2, decide_eq_true (show l.length ≤ 15 by omega)]
      have := specLabelOk_l0 l hl l.length 0 (by omega)
      rw [List.drop_zero] at this
      refine Ev.step (fun k => ?_) this
      simp [spec_LabelOk.j0]
theorem specNameOk_l0 (l : List (List Int)) (hl : l.length ≤ 1048576) (he : ∀ x ∈ l, x.length ≤ 140737488351232) (m : Nat) : ∀ (i : Nat), l.length = i + m →
    Ev (fun k => spec_NameOk.l0 k i l) ((l.drop i).all impl_LabelOk.v) := by
  induction m with
  | zero =>
    intro i hi
    rw [List.drop_of_length_le (by omega)]
    refine Ev.step (f := fun _ => some true) (fun k => ?_) (Ev.now _)
    simp only [spec_NameOk.l0]
    rw [if_neg (by omega)]
  | succ m ih =>
    intro i hi
    have hil : i < l.length := by omega
    rw [List.drop_eq_getElem_cons hil, List.all_cons]
    refine Ev.step (f := fun k => (spec_LabelOk.f k l[i]).bind fun t => if t = true then spec_NameOk.l0 k ((i + 1 : Nat) : Int) l else some false) (fun k => ?_) ?_
    · simp only [spec_NameOk.l0]
      rw [if_pos (by omega), if_pos (by omega), rdL_at l i hil, w64 (x := (i : Int) + 1) (by omega) (by omega)]
      rfl
    · refine Ev.bind (specLabelOk l[i] (he _ (List.getElem_mem hil))) ?_
      cases hb : impl_LabelOk.v l[i] with
      | true => simp only [if_true, Bool.true_and]; exact ih (i + 1) (by omega)
      | false => simp only [Bool.false_eq_true, if_false, Bool.false_and]; exact Ev.now _
theorem specNameOk (l : List (List Int)) (hl : l.length ≤ 1048576) (he : ∀ x ∈ l, x.length ≤ 140737488351232) : Ev (fun k => spec_NameOk.f k l) (impl_NameOk.v l) := by
  unfold spec_NameOk.f impl_NameOk.v
  by_cases h : (l.length : Int) > 6
  · simp only [if_pos h]
    rw [decide_eq_false (show ¬ l.length ≤ 6 by omega)]
    exact Ev.now _
  · simp only [if_neg h]
    rw [decide_eq_true (show l.length ≤ 6 by omega), Bool.true_and]
    simpa using specNameOk_l0 l hl he l.length 0 (by omega)
end Go.Proofs.Ytedbpnfkeabpnaa.Pure

/- Plain lemmas on the printed functions that compare names, and say whether one lies under another. -/

namespace Go.Proofs.Ytedbpnfkeabpnaa.Pure
open Go Go.RowKit Go.Proofs.Ytedbpnfkeabpnaa.Q Go.Proofs.YtedbpnfkeabpnaaW.PrintWords Go.Proofs.YtedbpnfkeabpnaaW.PrintLast Go.Proofs.YtedbpnfkeabpnaaW.PrintMore
set_option linter.unusedVariables false
set_option linter.unusedSimpArgs false
end Go.Proofs.Ytedbpnfkeabpnaa.Pure

/- Plain lemmas on the printed functions that read, measure and compare records, and say whether they are right. -/
namespace Go.Proofs.Ytedbpnfkeabpnaa.Pure
open Go Go.RowKit Go.Proofs.Ytedbpnfkeabpnaa.Q Go.Proofs.YtedbpnfkeabpnaaW.PrintWords Go.Proofs.YtedbpnfkeabpnaaW.PrintLast Go.Proofs.YtedbpnfkeabpnaaW.PrintMore
set_option linter.unusedVariables false
set_option linter.unusedSimpArgs false

/-- A name of any length that there can be, and one that fits. -/
def RawN (l : List (List Int)) : Prop := l.length ≤ 9223372036854775807 ∧ ∀ x ∈ l, x.length ≤ 9223372036854775807
def FitN (l : List (List Int)) : Prop := l.length ≤ 1048576 ∧ (∀ x ∈ l, x.length ≤ 1048576) ∧ lens l ≤ 1048576
theorem FitN.big {l : List (List Int)} (h : FitN l) : ∀ x ∈ l, x.length ≤ 140737488351232 := fun x hx => by have := h.2.1 x hx; omega
theorem lens_fit {l : List (List Int)} (h : l.length + lens l ≤ 1048576) : FitN l := ⟨by omega, fun x hx => by
  obtain ⟨i, hi, rfl⟩ := List.getElem_of_mem hx
  have := len_le_lens l i hi
  omega, by omega⟩
theorem szName' (l : List (List Int)) (left : Int) (hl : RawN l) (h0 : 0 ≤ left) (h1 : left ≤ 1048576) :
    ∃ t, Ev (fun k => laws_szName.f k l left) t ∧ (t < 0 ∨ (0 ≤ t ∧ t ≤ left ∧ FitN l)) := by
  obtain ⟨t, ht, hc⟩ := szName l left hl.1 hl.2 h0 h1
  refine ⟨t, ht, hc.imp id fun h => ⟨h.2, by omega, lens_fit (by omega)⟩⟩
theorem toName' (l : List (List Int)) (h : FitN l) : Ev (fun k => laws_toName.f k l) l := toName l (by have := h.1; omega) h.big
theorem eqName' (l : List (List Int)) (h : FitN l) : Ev (fun k => laws_eqName.f k l l) true := eqName l (by have := h.1; omega) h.big

theorem szIntS (l : List Int) (left : Int) (hl : l.length ≤ 9223372036854775807) (h0 : 0 ≤ left) (h1 : left ≤ 1048576) : ∃ t, laws_szIntS.f l left = some t ∧ (t < 0 ∨ (t = left - l.length ∧ 0 ≤ t)) := by
  unfold laws_szIntS.f
  rw [w64 (by omega) (by omega)]
  by_cases h : left - (l.length : Int) < 0
  · exact ⟨-1, by rw [if_pos h], Or.inl (by omega)⟩
  · exact ⟨left - l.length, by rw [if_neg h], Or.inr ⟨rfl, by omega⟩⟩
theorem toIntS_l0 (l : List Int) (hl : l.length ≤ 35184372088832) (m : Nat) : ∀ (i : Nat), l.length = i + m →
    Ev (fun k => laws_toIntS.l0 k l (l.take i ++ List.replicate m 0) i) l := by
  induction m with
  | zero =>
    intro i hi
    refine Ev.step (f := fun _ => some l) (fun k => ?_) (Ev.now _)
    simp only [laws_toIntS.l0]
    rw [if_neg (by omega)]
    simp [List.take_of_length_le (show l.length ≤ i by omega)]
  | succ m ih =>
    intro i hi
    refine Ev.step (fun k => ?_) (ih (i+1) (by omega))
    simp only [laws_toIntS.l0]
    rw [if_pos (by omega), if_pos (by omega), if_pos (by simp; omega), w64 (by omega) (by omega)]
    rw [show rd l (i : Int) = l.getD i 0 by simp [rd], show ((i : Int)).toNat = i by omega, set_prefix l i (by omega) m (by omega)]
    rfl
theorem toIntS (l : List Int) (hl : l.length ≤ 35184372088832) : Ev (fun k => laws_toIntS.f k l) l := by
  unfold laws_toIntS.f
  simp only [if_pos (show 0 ≤ (l.length : Int) by omega), if_pos (show ((l.length : Int)).toNat ≤ 35184372088832 by omega)]
  simpa using toIntS_l0 l hl l.length 0 (by omega)
theorem eqIntS_l0 (l : List Int) (hl : l.length ≤ 140737488351232) (m : Nat) : ∀ (i : Nat), l.length = i + m →
    Ev (fun k => laws_eqIntS.l0 k l l i) true := by
  induction m with
  | zero =>
    intro i hi
    refine Ev.step (f := fun _ => some true) (fun k => ?_) (Ev.now _)
    simp only [laws_eqIntS.l0]
    rw [if_neg (by omega)]
  | succ m ih =>
    intro i hi
    refine Ev.step (fun k => ?_) (ih (i+1) (by omega))
    simp only [laws_eqIntS.l0]
    rw [if_pos (by omega), if_pos (by omega), if_pos (by omega), if_pos trivial, w64 (by omega) (by omega)]
    rfl
theorem eqIntS (l : List Int) (hl : l.length ≤ 140737488351232) : Ev (fun k => laws_eqIntS.f k l l) true := by
  unfold laws_eqIntS.f
  simp only [if_pos]
  exact eqIntS_l0 l hl l.length 0 (by omega)
theorem szRr (n : List (List Int)) (t ttl addr : Int) (dst : List (List Int)) (text nums : List Int) (left : Int) (hn : RawN n) (hto : RawN dst) (ht : text.length ≤ 9223372036854775807) (hnu : nums.length ≤ 9223372036854775807) (h0 : 0 ≤ left) (h1 : left ≤ 1048576) :
    ∃ u, Ev (fun k => laws_szRr.f k n t ttl addr dst text nums left) u ∧ (u < 0 ∨ (0 ≤ u ∧ u ≤ left ∧ FitN n ∧ FitN dst ∧ text.length ≤ 1048576 ∧ nums.length ≤ 1048576)) := by
  unfold laws_szRr.f
  obtain ⟨a, ha, hca⟩ := szName' n left hn h0 h1
  by_cases h : a < 0
  · exact ⟨-1, Ev.bind ha (by simp only [if_pos h]; exact Ev.now _), Or.inl (by omega)⟩
  obtain ⟨b, hb, hcb⟩ := szName' dst a hto (by omega) (by omega)
  by_cases h2 : b < 0
  · exact ⟨-1, Ev.bind ha (by simp only [if_neg h]; exact Ev.bind hb (by simp only [if_pos h2]; exact Ev.now _)), Or.inl (by omega)⟩
  obtain ⟨c, hc, hcc⟩ := szByteS text b ht (by omega) (by omega)
  by_cases h3 : c < 0
  · exact ⟨-1, Ev.bind ha (by simp only [if_neg h]; exact Ev.bind hb (by simp only [if_neg h2, hc, Option.bind_some, if_pos h3]; exact Ev.now _)), Or.inl (by omega)⟩
  obtain ⟨d, hd, hcd⟩ := szIntS nums c hnu (by omega) (by omega)
  by_cases h4 : d < 0
  · exact ⟨-1, Ev.bind ha (by simp only [if_neg h]; exact Ev.bind hb (by simp only [if_neg h2, hc, Option.bind_some, if_neg h3, hd, if_pos h4]; exact Ev.now _)), Or.inl (by omega)⟩
  refine ⟨d, Ev.bind ha (by simp only [if_neg h]; exact Ev.bind hb (by simp only [if_neg h2, hc, Option.bind_some, if_neg h3, hd, if_neg h4]; exact Ev.now _)), Or.inr ?_⟩
  have f1 := hca.resolve_left h
  have f2 := hcb.resolve_left h2
  exact ⟨by omega, by omega, f1.2.2, f2.2.2, by omega, by omega⟩
theorem toRr (n : List (List Int)) (t ttl addr : Int) (dst : List (List Int)) (text nums : List Int) (hn : FitN n) (hto : FitN dst) (ht : text.length ≤ 1048576) (hnu : nums.length ≤ 1048576) :
    Ev (fun k => laws_toRr.f k n t ttl addr dst text nums) (n, t, ttl, addr, dst, text, nums) := by
  unfold laws_toRr.f
  exact Ev.bind (toName' n hn) (Ev.bind (toName' dst hto) (Ev.bind (toByteS text (by omega)) (Ev.bind (toIntS nums (by omega)) (Ev.now _))))
theorem eqRr (n : List (List Int)) (t ttl addr : Int) (dst : List (List Int)) (text nums : List Int) (hn : FitN n) (hto : FitN dst) (ht : text.length ≤ 1048576) (hnu : nums.length ≤ 1048576) :
    Ev (fun k => laws_eqRr.f k n t ttl addr dst text nums n t ttl addr dst text nums) true := by
  unfold laws_eqRr.f
  refine Ev.bind (eqName' n hn) ?_
  simp only [if_true]
  refine Ev.bind (eqName' dst hto) ?_
  simp only [if_true]
  refine Ev.bind (eqByteS text (by omega)) ?_
  simp only [if_true]
  refine Ev.bind (eqIntS nums (by omega)) ?_
  simp only [if_true]
  exact Ev.now _
def typeOkV (t : Int) : Bool := t == 1 || t == 2 || t == 5 || t == 6 || t == 12 || t == 16 || t == 49
theorem specTypeOk (t : Int) : spec_TypeOk.f t = some (typeOkV t) := by
  unfold spec_TypeOk.f typeOkV
  by_cases h1 : t = 1
  · simp [h1]
  by_cases h2 : t = 2
  · simp [h2]
  by_cases h3 : t = 5
  · simp [h3]
  by_cases h4 : t = 6
  · simp [h4]
  by_cases h5 : t = 12
  · simp [h5]
  by_cases h6 : t = 16
  · simp [h6]
  by_cases h7 : t = 49
  · simp [h7]
  simp [h1, h2, h3, h4, h5, h6, h7]
theorem implTypeOk (t : Int) (ht : -9223372036854775808 ≤ t ∧ t ≤ 9223372036854775807) : impl_TypeOk.f t = some (typeOkV t) := by
  unfold impl_TypeOk.f impl_typeName.f typeOkV impl_typeName.v
  rw [if_pos ht]
  simp only [Option.bind_some, Go.ByteArray.toList_eq]
  by_cases h1 : t = 1
  · subst h1; decide
  by_cases h2 : t = 2
  · subst h2; decide
  by_cases h3 : t = 5
  · subst h3; decide
  by_cases h4 : t = 6
  · subst h4; decide
  by_cases h5 : t = 12
  · subst h5; decide
  by_cases h6 : t = 16
  · subst h6; decide
  by_cases h7 : t = 49
  · subst h7; decide
  rw [if_neg h1, if_neg h2, if_neg h3, if_neg h4, if_neg h5, if_neg h6, if_neg h7]
  simp [h1, h2, h3, h4, h5, h6, h7]
def namedV (t : Int) : Bool := t == 2 || t == 5 || t == 6 || t == 12
def textedV (t : Int) : Bool := t == 16 || t == 49
theorem specNamed (t : Int) : spec_l3named.f t = some (namedV t) := by
  unfold spec_l3named.f namedV
  by_cases h1 : t = 2
  · simp [h1]
  by_cases h2 : t = 5
  · simp [h2]
  by_cases h3 : t = 6
  · simp [h3]
  simp [h1, h2, h3]
theorem implNamed (t : Int) : impl_hasTo.f t = some (namedV t) := specNamed t
theorem specTexted (t : Int) : spec_l3texted.f t = some (textedV t) := by
  unfold spec_l3texted.f textedV
  by_cases h1 : t = 16
  · simp [h1]
  simp [h1]
theorem implTexted (t : Int) : impl_hasText.f t = some (textedV t) := specTexted t
theorem implWithin (a b c : Int) : impl_within.f a b c = some (decide (b ≤ a ∧ a ≤ c)) := by
  unfold impl_within.f
  by_cases h : b ≤ a <;> simp [h]
theorem implIsWord (a : Int) : impl_isWord.f a = some (decide (0 ≤ a ∧ a ≤ 4294967295)) := by
  unfold impl_isWord.f
  rw [implWithin]; rfl
def numsV (t : Int) (nums : List Int) : Bool := if t = 6 then decide (nums.length = 2 ∧ (0 ≤ rd nums 0 ∧ rd nums 0 ≤ 4294967295) ∧ 0 ≤ rd nums 1 ∧ rd nums 1 ≤ 100000) else decide (nums.length = 0)
def addrV (t addr : Int) : Bool := if t = 1 then decide (0 ≤ addr ∧ addr ≤ 4294967295) else decide (addr = 0)
def toV (t : Int) (dst : List (List Int)) : Bool := if namedV t = true then impl_NameOk.v dst else decide (dst.length = 0)
def textV (t : Int) (text : List Int) : Bool := if textedV t = true then decide (text.length ≤ 40) else decide (text.length = 0)
def rrOkV (n : List (List Int)) (t ttl addr : Int) (dst : List (List Int)) (text nums : List Int) : Bool :=
  impl_NameOk.v n && (typeOkV t && (decide (0 ≤ ttl ∧ ttl ≤ 100000) && (addrV t addr && (toV t dst && (textV t text && numsV t nums)))))
theorem specData_j2 (n : List (List Int)) (t ttl addr : Int) (dst : List (List Int)) (text nums : List Int) : Ev (fun k => spec_l3data.j2 k n t ttl addr dst text nums) (numsV t nums) := by
  refine Ev.step (f := fun _ => some (numsV t nums)) (fun k => ?_) (Ev.now _)
  simp only [spec_l3data.j2]
  unfold numsV
  by_cases h6 : t = 6
  · rw [if_pos h6, if_pos h6]
    by_cases h2 : nums.length = 2
    · rw [if_pos (by omega), if_pos (by omega)]
      by_cases a1 : rd nums 0 < 0
      · rw [if_pos a1, decide_eq_false (by omega)]
      rw [if_neg a1]
      by_cases a2 : rd nums 0 ≥ 4294967296
      · rw [if_pos a2, decide_eq_false (by omega)]
      rw [if_neg a2, if_pos (by omega)]
      by_cases a3 : rd nums 1 ≥ 0
      · rw [if_pos a3]; congr 1; apply decide_eq_decide.2; constructor <;> intro h <;> omega
      · rw [if_neg a3, decide_eq_false (by omega)]
    · rw [if_neg (by omega), decide_eq_false (by omega)]
  · rw [if_neg h6, if_neg h6]
    congr 1
    rw [Bool.eq_iff_iff, beq_iff_eq, decide_eq_true_iff]; omega
theorem specData_j1 (n : List (List Int)) (t ttl addr : Int) (dst : List (List Int)) (text nums : List Int) : Ev (fun k => spec_l3data.j1 k n t ttl addr dst text nums) (textV t text && numsV t nums) := by
  refine Ev.step (f := fun k => if textV t text = true then spec_l3data.j2 k n t ttl addr dst text nums else some false) (fun k => ?_) ?_
  · simp only [spec_l3data.j1]
    rw [specTexted, Option.bind_some]
    unfold textV
    cases textedV t
    · simp only [Bool.false_eq_true, if_false, decide_eq_true_iff]
      by_cases h : text.length = 0
      · rw [if_neg (by omega), if_pos h]
      · rw [if_pos (by omega), if_neg h]
    · simp only [if_true, decide_eq_true_iff]
      by_cases h : text.length ≤ 40
      · rw [if_neg (by omega), if_pos h]
      · rw [if_pos (by omega), if_neg h]
  · cases textV t text
    · simp only [Bool.false_eq_true, if_false, Bool.false_and]; exact Ev.now _
    · simp only [if_true, Bool.true_and]; exact specData_j2 ..
theorem specData_j0 (n : List (List Int)) (t ttl addr : Int) (dst : List (List Int)) (text nums : List Int) (hto : FitN dst) : Ev (fun k => spec_l3data.j0 k n t ttl addr dst text nums) (toV t dst && (textV t text && numsV t nums)) := by
  refine Ev.step (f := fun k => if namedV t = true then ((spec_NameOk.f k dst).bind fun t103 => (if t103 = true then (spec_l3data.j1 k n t ttl addr dst text nums) else (some false))) else (if (dst.length : Int) > 0 then (some false) else (spec_l3data.j1 k n t ttl addr dst text nums))) (fun k => ?_) ?_
  · simp only [spec_l3data.j0]
    rw [specNamed, Option.bind_some]
  · unfold toV
    cases namedV t
    · simp only [Bool.false_eq_true, if_false]
      by_cases h : dst.length = 0
      · simp only [if_neg (show ¬ (dst.length : Int) > 0 by omega)]
        rw [decide_eq_true h, Bool.true_and]; exact specData_j1 ..
      · simp only [if_pos (show (dst.length : Int) > 0 by omega)]
        rw [decide_eq_false h, Bool.false_and]; exact Ev.now _
    · simp only [if_true]
      refine Ev.bind (specNameOk dst hto.1 hto.big) ?_
      cases impl_NameOk.v dst
      · simp only [Bool.false_eq_true, if_false, Bool.false_and]; exact Ev.now _
      · simp only [if_true, Bool.true_and]; exact specData_j1 ..
theorem specData (n : List (List Int)) (t ttl addr : Int) (dst : List (List Int)) (text nums : List Int) (hto : FitN dst) : Ev (fun k => spec_l3data.f k n t ttl addr dst text nums) (addrV t addr && (toV t dst && (textV t text && numsV t nums))) := by
  unfold spec_l3data.f addrV
  by_cases h1 : t = 1
  · simp only [if_pos h1]
    by_cases a1 : addr < 0
    · simp only [if_pos a1]; rw [decide_eq_false (by omega), Bool.false_and]; exact Ev.now _
    simp only [if_neg a1]
    by_cases a2 : addr ≥ 4294967296
    · simp only [if_pos a2]; rw [decide_eq_false (by omega), Bool.false_and]; exact Ev.now _
    simp only [if_neg a2]; rw [decide_eq_true (show 0 ≤ addr ∧ addr ≤ 4294967295 by omega), Bool.true_and]; exact specData_j0 _ _ _ _ _ _ _ hto
  · simp only [if_neg h1]
    by_cases a1 : addr = 0
    · simp only [if_pos a1]; rw [decide_eq_true a1, Bool.true_and]; exact specData_j0 _ _ _ _ _ _ _ hto
    · simp only [if_neg a1]; rw [decide_eq_false a1, Bool.false_and]; exact Ev.now _
theorem specRrOk (n : List (List Int)) (t ttl addr : Int) (dst : List (List Int)) (text nums : List Int) (hn : FitN n) (hto : FitN dst) : Ev (fun k => spec_RrOk.f k n t ttl addr dst text nums) (rrOkV n t ttl addr dst text nums) := by
  unfold spec_RrOk.f rrOkV
  refine Ev.bind (specNameOk n hn.1 hn.big) ?_
  cases impl_NameOk.v n
  · simp only [Bool.false_eq_true, if_false, Bool.false_and]; exact Ev.now _
  simp only [if_true, Bool.true_and, specTypeOk, Option.bind_some]
  cases typeOkV t
  · simp only [Bool.false_eq_true, if_false, Bool.false_and]; exact Ev.now _
  simp only [if_true, Bool.true_and]
  by_cases a1 : ttl ≥ 0
  · simp only [if_pos a1]
    by_cases a2 : ttl ≤ 100000
    · simp only [if_pos a2]; rw [decide_eq_true (show 0 ≤ ttl ∧ ttl ≤ 100000 by omega), Bool.true_and]
      exact Ev.bind (specData _ _ _ _ _ _ _ hto) (Ev.now _)
    · simp only [if_neg a2]; rw [decide_eq_false (by omega), Bool.false_and]; exact Ev.now _
  · simp only [if_neg a1]; rw [decide_eq_false (by omega), Bool.false_and]; exact Ev.now _
theorem rrOk_j3 (x3 x4 x5 : Bool) (n : List (List Int)) (t ttl addr : Int) (dst : List (List Int)) (text nums : List Int) : Ev (fun k => impl_RrOk.j3 k x3 x4 x5 n t ttl addr dst text nums) (x3 && (x4 && (x5 && textV t text))) := by
  refine Ev.step (f := fun _ => some (x3 && (x4 && (x5 && textV t text)))) (fun k => ?_) (Ev.now _)
  simp only [impl_RrOk.j3]
  rw [implTexted, Option.bind_some]
  unfold textV
  by_cases h : text.length = 0
  · rw [if_pos (by omega), decide_eq_true h, decide_eq_true (show text.length ≤ 40 by omega)]
    cases x3 <;> cases x4 <;> cases x5 <;> cases textedV t <;> rfl
  · rw [if_neg (by omega), decide_eq_false h, show decide ((text.length : Int) ≤ 40) = decide (text.length ≤ 40) from decide_eq_decide.2 (by omega)]
    cases x3 <;> cases x4 <;> cases x5 <;> cases textedV t <;> simp
theorem rrOk_j2 (x3 x4 : Bool) (n : List (List Int)) (t ttl addr : Int) (dst : List (List Int)) (text nums : List Int) : Ev (fun k => impl_RrOk.j2 k x3 x4 n t ttl addr dst text nums) (x3 && (x4 && (toV t dst && textV t text))) := by
  refine Ev.step (f := fun k => impl_RrOk.j3 k x3 x4 (toV t dst) n t ttl addr dst text nums) (fun k => ?_) (rrOk_j3 ..)
  simp only [impl_RrOk.j2]
  rw [implNamed, Option.bind_some]
  unfold toV impl_NameOk.f
  by_cases h : dst.length = 0
  · have := List.eq_nil_of_length_eq_zero h
    subst this
    cases namedV t <;> simp [impl_NameOk.v]
  · rw [if_neg (by omega), decide_eq_false h]
    cases namedV t <;> simp
theorem rrOk_j1 (x3 : Bool) (n : List (List Int)) (t ttl addr : Int) (dst : List (List Int)) (text nums : List Int) : Ev (fun k => impl_RrOk.j1 k x3 n t ttl addr dst text nums) (x3 && (addrV t addr && (toV t dst && textV t text))) := by
  refine Ev.step (f := fun k => impl_RrOk.j2 k x3 (addrV t addr) n t ttl addr dst text nums) (fun k => ?_) (rrOk_j2 ..)
  simp only [impl_RrOk.j1]
  rw [implIsWord, Option.bind_some]
  unfold addrV
  by_cases h : addr = 0
  · subst h; simp
  · rw [if_neg h, decide_eq_false h]
    by_cases h1 : t = 1
    · rw [if_pos h1, if_pos h1]
    · rw [if_neg h1, if_neg h1]
theorem rrOk_j0 (x22 : Bool) (n : List (List Int)) (t ttl addr : Int) (dst : List (List Int)) (text nums : List Int) : Ev (fun k => impl_RrOk.j0 k x22 n t ttl addr dst text nums) (!x22 && (numsV t nums && (addrV t addr && (toV t dst && textV t text)))) := by
  cases x22
  · refine Ev.step (f := fun k => impl_RrOk.j1 k (numsV t nums) n t ttl addr dst text nums) (fun k => ?_) ?_
    · simp only [impl_RrOk.j0, Bool.false_eq_true, if_false]
      simp only [implIsWord, implWithin, Option.bind_some]
      unfold numsV
      by_cases h6 : t = 6
      · simp only [if_pos h6]
        by_cases h2 : nums.length = 2
        · rw [if_pos (by omega), if_pos (by omega)]
          by_cases a1 : 0 ≤ rd nums 0 ∧ rd nums 0 ≤ 4294967295
          · simp only [decide_eq_true_iff, if_pos a1]
            rw [if_pos (by omega)]
            congr 1; apply decide_eq_decide.2; constructor <;> intro h <;> omega
          · simp only [decide_eq_true_iff, if_neg a1]
            rw [decide_eq_false (by omega)]
        · rw [if_neg (by omega), decide_eq_false (by omega)]
      · simp only [if_neg h6]
        congr 1
        rw [Bool.eq_iff_iff, beq_iff_eq, decide_eq_true_iff]; omega
    · simpa using rrOk_j1 (numsV t nums) n t ttl addr dst text nums
  · refine Ev.step (f := fun _ => some false) (fun k => ?_) (Ev.now _)
    simp only [impl_RrOk.j0, if_true]
theorem implRrOk (n : List (List Int)) (t ttl addr : Int) (dst : List (List Int)) (text nums : List Int) (ht : -9223372036854775808 ≤ t ∧ t ≤ 9223372036854775807) : Ev (fun k => impl_RrOk.f k n t ttl addr dst text nums) (rrOkV n t ttl addr dst text nums) := by
  have e : rrOkV n t ttl addr dst text nums = (!(!(impl_NameOk.v n && (typeOkV t && decide (0 ≤ ttl ∧ ttl ≤ 100000)))) && (numsV t nums && (addrV t addr && (toV t dst && textV t text)))) := by
    unfold rrOkV
    cases impl_NameOk.v n <;> cases typeOkV t <;> cases decide (0 ≤ ttl ∧ ttl ≤ 100000) <;> cases numsV t nums <;> cases addrV t addr <;> cases toV t dst <;> cases textV t text <;> rfl
  rw [e]
  unfold impl_RrOk.f impl_NameOk.f
  simp only [Option.bind_some, implTypeOk t ht, implWithin]
  cases impl_NameOk.v n
  · simp only [Bool.false_eq_true, if_false, Bool.false_and, Bool.not_false]; exact rrOk_j0 ..
  cases typeOkV t
  · simp only [Bool.false_eq_true, if_false, if_true, Bool.false_and, Bool.true_and, Bool.not_false]; exact rrOk_j0 ..
  simp only [if_true, Bool.true_and]; exact rrOk_j0 ..
end Go.Proofs.Ytedbpnfkeabpnaa.Pure

/- Plain lemmas on the printed functions that write names and records as bytes, and compare records. -/
namespace Go.Proofs.Ytedbpnfkeabpnaa.Pure
open Go Go.RowKit Go.Proofs.Ytedbpnfkeabpnaa.Q Go.Proofs.YtedbpnfkeabpnaaW.PrintWords Go.Proofs.YtedbpnfkeabpnaaW.PrintLast Go.Proofs.YtedbpnfkeabpnaaW.PrintMore
set_option linter.unusedVariables false
set_option linter.unusedSimpArgs false

def fourV (a : Int) : List Int := [(a / 16777216) % 256, (a / 65536) % 256, (a / 256) % 256, a % 256]
theorem specPut32 (l : List Int) (a : Int) (hl : l.length ≤ 140737488355000) (ha : 0 ≤ a ∧ a ≤ 4294967295) : spec_Put32.f l a = some (l ++ fourV a) := by
  unfold spec_Put32.f
  simp only [Option.bind_some, List.length_nil, List.nil_append]
  rw [if_pos (by omega), if_neg (by omega), if_neg (by omega), if_pos (by simp; omega)]
  rfl
def twoV (a : Int) : List Int := [(a / 256) % 256, a % 256]
theorem specPut16 (l : List Int) (a : Int) (hl : l.length ≤ 140737488355000) (ha : 0 ≤ a ∧ a ≤ 65535) : spec_Put16.f l a = some (l ++ twoV a) := by
  unfold spec_Put16.f
  simp only [Option.bind_some, List.length_nil, List.nil_append]
  rw [if_pos (by omega), if_neg (by omega), if_neg (by omega), if_pos (by simp; omega)]
  rfl
theorem implFour (a : Int) : impl_four.f a = some (fourV a) := by
  unfold impl_four.f impl_two.f fourV
  simp only [Option.bind_some, List.length_cons, List.length_nil]
  rw [if_pos (by omega)]
  simp only [List.cons_append, List.nil_append]
  congr 2
  omega
def wireV (l : List (List Int)) : List Int := spec_l2put.w l ++ [0]
theorem w_len (l : List (List Int)) : (spec_l2put.w l).length = l.length + lens l := by
  induction l with
  | nil => simp [spec_l2put.w, lens]
  | cons x l ih => simp only [spec_l2put.w, List.length_cons, List.length_append, ih, lens, List.map_cons, List.sum_cons]; omega
theorem lens_le (l : List (List Int)) (m : Nat) (h : ∀ x ∈ l, x.length ≤ m) : lens l ≤ l.length * m := by
  induction l with
  | nil => simp [lens]
  | cons x l ih =>
    have h1 := h x (by simp)
    have h2 := ih (fun y hy => h y (by simp [hy]))
    simp only [lens, List.map_cons, List.sum_cons, List.length_cons, Nat.add_mul, Nat.one_mul] at h2 ⊢
    omega
theorem nameOk_len {l : List (List Int)} (h : impl_NameOk.v l = true) : l.length ≤ 6 ∧ ∀ x ∈ l, 1 ≤ x.length ∧ x.length ≤ 15 ∧ Bytes x := by
  unfold impl_NameOk.v at h
  rw [Bool.and_eq_true, decide_eq_true_iff, List.all_eq_true] at h
  refine ⟨h.1, fun x hx => ?_⟩
  have h2 := h.2 x hx
  unfold impl_LabelOk.v at h2
  simp only [Bool.and_eq_true, decide_eq_true_iff, List.all_eq_true] at h2
  refine ⟨by omega, by omega, fun y hy => ?_⟩
  have h3 := h2.2 y hy
  unfold impl_LabelOk.byte at h3
  simp at h3
  omega
theorem nameOk_w {l : List (List Int)} (h : impl_NameOk.v l = true) : (spec_l2put.w l).length ≤ 96 := by
  obtain ⟨h1, h2⟩ := nameOk_len h
  have := lens_le l 15 (fun x hx => (h2 x hx).2.1)
  rw [w_len]; omega
theorem specPut (b : List Int) (l : List (List Int)) (h : impl_NameOk.v l = true) (hb : b.length ≤ 140737488355000) : spec_l2put.f b l = some (b ++ wireV l) := by
  have := nameOk_w h
  unfold spec_l2put.f wireV
  rw [if_pos (by omega), List.append_assoc]
theorem implWire_l0 (l : List (List Int)) (hl : l.length + lens l ≤ 1048576) (m : Nat) : ∀ (i : Nat), l.length = i + m →
    Ev (fun k => impl_Name_wire.l0 k (spec_l2put.w (l.take i)) l (l.length : Int) i) (wireV l) := by
  induction m with
  | zero =>
    intro i hi
    refine Ev.step (f := fun _ => some (wireV l)) (fun k => ?_) (Ev.now _)
    have hw := spec_l2put.w_take l i
    rw [w_len l] at hw
    simp only [impl_Name_wire.l0]
    rw [if_neg (by omega), if_pos (by omega), List.take_of_length_le (by omega)]
    rfl
  | succ m ih =>
    intro i hi
    have hil : i < l.length := by omega
    have hw := spec_l2put.w_take l i
    have hw1 := spec_l2put.w_take l (i + 1)
    rw [w_len l] at hw hw1
    have e : spec_l2put.w (l.take (i + 1)) = spec_l2put.w (l.take i) ++ [(l[i].length : Int) % 256] ++ l[i] := by
      rw [List.take_succ_eq_append_getElem hil, spec_l2put.w_snoc]
    rw [e] at hw1
    simp only [List.length_append, List.length_singleton] at hw1
    refine Ev.step (fun k => ?_) (ih (i+1) (by omega))
    simp only [impl_Name_wire.l0, Option.bind_some]
    rw [if_pos (by omega), if_pos (by omega), if_pos (by omega), if_pos (by omega), rdL_at l i hil, if_pos (by simp only [List.length_append, List.length_singleton]; omega), w64 (by omega) (by omega), e]
    rfl
theorem implWire (l : List (List Int)) (hl : l.length + lens l ≤ 1048576) : Ev (fun k => impl_Name_wire.f k l) (wireV l) := by
  unfold impl_Name_wire.f
  simpa [spec_l2put.w] using implWire_l0 l hl l.length 0 (by omega)
theorem nameOk_sum {l : List (List Int)} (h : impl_NameOk.v l = true) : l.length + lens l ≤ 96 := by
  have := nameOk_w h
  rwa [w_len] at this
def dataV (t addr : Int) (dst : List (List Int)) (text nums : List Int) : List Int :=
  if t = 1 then fourV addr else if t = 6 then wireV dst ++ fourV (rd nums 0) ++ fourV (rd nums 1) else if namedV t = true then wireV dst else (text.length : Int) % 256 :: text
theorem rrOk_parts {n : List (List Int)} {t ttl addr : Int} {dst : List (List Int)} {text nums : List Int} (h : rrOkV n t ttl addr dst text nums = true) :
    impl_NameOk.v n = true ∧ typeOkV t = true ∧ (0 ≤ ttl ∧ ttl ≤ 100000) ∧ addrV t addr = true ∧ toV t dst = true ∧ textV t text = true ∧ numsV t nums = true := by
  unfold rrOkV at h
  simp only [Bool.and_eq_true, decide_eq_true_iff] at h
  exact h
theorem specL3put {n : List (List Int)} {t ttl addr : Int} {dst : List (List Int)} {text nums : List Int} (h : rrOkV n t ttl addr dst text nums = true) : spec_l3put.f n t ttl addr dst text nums = some (dataV t addr dst text nums) := by
  obtain ⟨_, _, _, ha, hd, ht, hn⟩ := rrOk_parts h
  unfold spec_l3put.f dataV
  by_cases h1 : t = 1
  · rw [if_pos h1, if_pos h1]
    unfold addrV at ha
    rw [if_pos h1, decide_eq_true_iff] at ha
    rw [specPut32 [] addr (by simp) ha]
    rfl
  rw [if_neg h1, if_neg h1]
  by_cases h6 : t = 6
  · rw [if_pos h6, if_pos h6]
    unfold toV namedV at hd
    rw [if_pos (by simp [h6])] at hd
    unfold numsV at hn
    rw [if_pos h6, decide_eq_true_iff] at hn
    have hw := nameOk_w hd
    rw [specPut [] dst hd (by simp), Option.bind_some, if_pos (by omega), List.nil_append, specPut32 _ _ (by simp only [wireV, List.length_append, List.length_singleton]; omega) hn.2.1, Option.bind_some, if_pos (by omega), specPut32 _ _ (by simp only [wireV, fourV, List.length_append, List.length_cons, List.length_nil]; omega) (by omega)]
    rfl
  rw [if_neg h6, if_neg h6, specNamed, Option.bind_some]
  by_cases hm : namedV t = true
  · rw [if_pos hm, if_pos hm]
    unfold toV at hd
    rw [if_pos hm] at hd
    rw [specPut [] dst hd (by simp)]
    rfl
  · rw [if_neg hm, if_neg hm]
    have hl : text.length ≤ 40 := by
      unfold textV at ht
      split at ht <;> rw [decide_eq_true_iff] at ht <;> omega
    rw [Option.bind_some, if_pos (by simp; omega)]
    rfl
theorem implData_none (b : List Int) : Ev (fun k => impl_Rr_data.l0 k b [] 0 0) b := by
  refine Ev.step (f := fun _ => some b) (fun k => ?_) (Ev.now _)
  simp only [impl_Rr_data.l0]
  rw [if_neg (by omega)]
theorem implData_two (b nums : List Int) (h : nums.length = 2) (hb : b.length ≤ 140737488355000) : Ev (fun k => impl_Rr_data.l0 k b nums (nums.length : Int) 0) (b ++ fourV (rd nums 0) ++ fourV (rd nums 1)) := by
  rw [show ((nums.length : Nat) : Int) = 2 by omega]
  have h0 : w64 (x := 0 + 1) (by omega) (by omega) = w64 (x := 0 + 1) (by omega) (by omega) := rfl
  refine Ev.step (f := fun k => impl_Rr_data.l0 k (b ++ fourV (rd nums 0)) nums 2 1) (fun k => ?_) ?_
  · simp only [impl_Rr_data.l0]
    rw [if_pos (by omega), if_pos (by omega), if_pos (by omega), implFour, Option.bind_some, if_pos (by simp only [fourV, List.length_cons, List.length_nil]; omega), w64 (by omega) (by omega)]
    rfl
  refine Ev.step (f := fun k => impl_Rr_data.l0 k (b ++ fourV (rd nums 0) ++ fourV (rd nums 1)) nums 2 2) (fun k => ?_) ?_
  · simp only [impl_Rr_data.l0]
    rw [if_pos (by omega), if_pos (by omega), if_pos (by omega), implFour, Option.bind_some, if_pos (by simp only [fourV, List.length_append, List.length_cons, List.length_nil]; omega), w64 (by omega) (by omega)]
    rfl
  refine Ev.step (f := fun _ => some (b ++ fourV (rd nums 0) ++ fourV (rd nums 1))) (fun k => ?_) (Ev.now _)
  simp only [impl_Rr_data.l0]
  rw [if_neg (by omega)]
theorem implData {n : List (List Int)} {t ttl addr : Int} {dst : List (List Int)} {text nums : List Int} (h : rrOkV n t ttl addr dst text nums = true) : Ev (fun k => impl_Rr_data.f k n t ttl addr dst text nums) (dataV t addr dst text nums) := by
  obtain ⟨_, _, _, ha, hd, ht, hn⟩ := rrOk_parts h
  unfold impl_Rr_data.f dataV
  by_cases h1 : t = 1
  · simp only [if_pos h1, implFour, Option.bind_some]
    exact Ev.now _
  simp only [if_neg h1, implNamed, Option.bind_some]
  by_cases hm : namedV t = true
  · simp only [if_pos hm]
    unfold toV at hd
    rw [if_pos hm] at hd
    have hs := nameOk_sum hd
    have hw := nameOk_w hd
    refine Ev.bind (implWire dst (by omega)) ?_
    unfold numsV at hn
    by_cases h6 : t = 6
    · simp only [if_pos h6]
      rw [if_pos h6, decide_eq_true_iff] at hn
      exact implData_two _ nums hn.1 (by simp only [wireV, List.length_append, List.length_singleton]; omega)
    · simp only [if_neg h6]
      rw [if_neg h6, decide_eq_true_iff] at hn
      have := List.eq_nil_of_length_eq_zero hn
      subst this
      exact implData_none _
  · have h6 : ¬ t = 6 := fun e => hm (by simp [namedV, e])
    simp only [if_neg hm, if_neg h6]
    have hl : text.length ≤ 40 := by
      unfold textV at ht
      split at ht <;> rw [decide_eq_true_iff] at ht <;> omega
    simp only [if_pos (show ([(text.length : Int) % 256] : List Int).length + text.length < 140737488355328 by simp; omega)]
    exact Ev.now _
end Go.Proofs.Ytedbpnfkeabpnaa.Pure

/- Plain lemmas on the printed functions: marks laid over a list of bytes, and found again; two lists compared; Put, Take. -/
namespace Go.Proofs.Ytedbpnfkeabpnaa.Pure
open Go Go.RowKit Go.Proofs.Ytedbpnfkeabpnaa.Q Go.Proofs.YtedbpnfkeabpnaaW.PrintWords Go.Proofs.YtedbpnfkeabpnaaW.PrintLast Go.Proofs.YtedbpnfkeabpnaaW.PrintMore
set_option linter.unusedVariables false
set_option linter.unusedSimpArgs false

/-- n marks from a on. -/
def marks (a : Int) (n : Nat) : List Int := (List.range n).map fun (i : Nat) => (a + (i : Int)) % 256
theorem marks_len (a : Int) (n : Nat) : (marks a n).length = n := by simp [marks]
theorem marks_rd (a : Int) (n i : Nat) (h : i < n) : rd (marks a n) (i : Int) = (a + i) % 256 := by
  simp [rd, marks, List.getD_eq_getElem?_getD, h]
theorem marks_succ (a : Int) (i : Nat) : marks a (i + 1) = marks a i ++ [(a + i) % 256] := by simp [marks, List.range_succ]
theorem mark_l0 (l : List Int) (a : Int) (h0 : 0 ≤ a) (h1 : a ≤ 1099511627776) (hl : l.length ≤ 140737488351232) (m : Nat) : ∀ (i : Nat), l.length = i + m →
    Ev (fun k => laws_markByteS.l0 k (marks a i ++ l.drop i) (a + i) i) (a + l.length, marks a l.length) := by
  induction m with
  | zero =>
    intro i hi
    refine Ev.step (f := fun _ => some (a + l.length, marks a l.length)) (fun k => ?_) (Ev.now _)
    simp only [laws_markByteS.l0]
    rw [List.length_append, marks_len, List.length_drop, if_neg (by omega), List.drop_of_length_le (by omega), List.append_nil, show i = l.length by omega]
  | succ m ih =>
    intro i hi
    refine Ev.step (fun k => ?_) (ih (i + 1) (by omega))
    simp only [laws_markByteS.l0]
    rw [List.length_append, marks_len, List.length_drop, if_pos (by omega), if_pos (by omega), w64 (show -9223372036854775808 ≤ a + i + 1 by omega) (by omega), w64 (show -9223372036854775808 ≤ (i : Int) + 1 by omega) (by omega)]
    rw [show ((i : Int)).toNat = i by omega, List.set_append_right _ _ (by rw [marks_len]; omega), marks_len, Nat.sub_self, List.drop_eq_getElem_cons (show i < l.length by omega), List.set_cons_zero, marks_succ, List.append_assoc, List.singleton_append]
    rw [show a + (i : Int) + 1 = a + ((i + 1 : Nat) : Int) by omega, show (i : Int) + 1 = ((i + 1 : Nat) : Int) by omega]
theorem markByteS (l : List Int) (a : Int) (h0 : 0 ≤ a) (h1 : a ≤ 1099511627776) (hl : l.length ≤ 140737488351232) : Ev (fun k => laws_markByteS.f k l a) (a + l.length, marks a l.length) := by
  have := mark_l0 l a h0 h1 hl l.length 0 (by omega)
  simpa [laws_markByteS.f, marks] using this
theorem held_l0 (a : Int) (h0 : 0 ≤ a) (h1 : a ≤ 1099511627776) (n : Nat) (hl : n ≤ 140737488351232) (m : Nat) : ∀ (i : Nat), n = i + m →
    Ev (fun k => laws_heldByteS.l0 k (marks a n) (a + i) i) (a + n) := by
  induction m with
  | zero =>
    intro i hi
    refine Ev.step (f := fun _ => some (a + n)) (fun k => ?_) (Ev.now _)
    simp only [laws_heldByteS.l0]
    rw [marks_len, if_neg (by omega), show i = n by omega]
  | succ m ih =>
    intro i hi
    refine Ev.step (fun k => ?_) (ih (i + 1) (by omega))
    simp only [laws_heldByteS.l0]
    rw [marks_len, if_pos (by omega), if_pos (by omega), marks_rd a n i (by omega), if_pos rfl, w64 (show -9223372036854775808 ≤ a + i + 1 by omega) (by omega), w64 (show -9223372036854775808 ≤ (i : Int) + 1 by omega) (by omega)]
    rw [show a + (i : Int) + 1 = a + ((i + 1 : Nat) : Int) by omega, show (i : Int) + 1 = ((i + 1 : Nat) : Int) by omega]
theorem heldByteS (a : Int) (h0 : 0 ≤ a) (h1 : a ≤ 1099511627776) (n : Nat) (hl : n ≤ 140737488351232) : Ev (fun k => laws_heldByteS.f k (marks a n) a) (a + n) := by
  have := held_l0 a h0 h1 n hl n 0 (by omega)
  simpa [laws_heldByteS.f] using this
end Go.Proofs.Ytedbpnfkeabpnaa.Pure

/- Plain lemmas on the printed functions: marks over names and records. -/
namespace Go.Proofs.Ytedbpnfkeabpnaa.Pure
open Go Go.RowKit Go.Proofs.Ytedbpnfkeabpnaa.Q Go.Proofs.YtedbpnfkeabpnaaW.PrintWords Go.Proofs.YtedbpnfkeabpnaaW.PrintLast Go.Proofs.YtedbpnfkeabpnaaW.PrintMore
set_option linter.unusedVariables false
set_option linter.unusedSimpArgs false
theorem markName (l : List (List Int)) (a : Int) (h0 : 0 ≤ a) (h1 : a ≤ 1099511627776) (hl : FitN l) : laws_markName.f l a = some (a + (lens l : Int), laws_markByteSS.all a l) := by
  unfold laws_markName.f laws_markByteSS.f
  have h2 := hl.2.2
  rw [if_pos (show 0 ≤ a ∧ a + (laws_markByteSS.sum l : Int) ≤ 4611686018427387904 from ⟨h0, by show a + (lens l : Int) ≤ _; omega⟩)]
  rfl
end Go.Proofs.Ytedbpnfkeabpnaa.Pure

/- Plain lemmas on the printed functions: a record's data and a whole record put behind bytes. -/
namespace Go.Proofs.Ytedbpnfkeabpnaa.Pure
open Go Go.RowKit Go.Proofs.Ytedbpnfkeabpnaa.Q Go.Proofs.YtedbpnfkeabpnaaW.PrintWords Go.Proofs.YtedbpnfkeabpnaaW.PrintLast Go.Proofs.YtedbpnfkeabpnaaW.PrintMore
set_option linter.unusedVariables false
set_option linter.unusedSimpArgs false
def marked (n dst : List (List Int)) (text nums : List Int) : Nat := lens n + lens dst + text.length + nums.length
theorem markRr (n : List (List Int)) (t ttl addr : Int) (dst : List (List Int)) (text nums : List Int) (a : Int) (h0 : 0 ≤ a) (h1 : a ≤ 1099511627776) (hn : FitN n) (hd : FitN dst) (ht : text.length ≤ 1048576) (hnu : nums.length ≤ 1048576) :
    laws_markRr.f n t ttl addr dst text nums a = some (a + (marked n dst text nums : Int)) := by
  have e : laws_markRr.n n dst text nums = marked n dst text nums := rfl
  have h2 := hn.2.2
  have h3 := hd.2.2
  unfold laws_markRr.f
  rw [e, if_pos ⟨h0, by unfold marked; omega⟩]
theorem dataV_len {n : List (List Int)} {t ttl addr : Int} {dst : List (List Int)} {text nums : List Int} (h : rrOkV n t ttl addr dst text nums = true) : (dataV t addr dst text nums).length ≤ 200 := by
  obtain ⟨_, _, _, _, hd, ht, _⟩ := rrOk_parts h
  unfold dataV
  by_cases h1 : t = 1
  · rw [if_pos h1]; simp [fourV]
  rw [if_neg h1]
  by_cases h6 : t = 6
  · rw [if_pos h6]
    unfold toV namedV at hd
    rw [if_pos (by simp [h6])] at hd
    have hw := nameOk_w hd
    simp only [wireV, fourV, List.length_append, List.length_cons, List.length_nil]; omega
  rw [if_neg h6]
  by_cases hm : namedV t = true
  · rw [if_pos hm]
    unfold toV at hd
    rw [if_pos hm] at hd
    have hw := nameOk_w hd
    simp only [wireV, List.length_append, List.length_cons, List.length_nil]; omega
  · rw [if_neg hm]
    unfold textV at ht
    have hl : text.length ≤ 40 := by split at ht <;> rw [decide_eq_true_iff] at ht <;> omega
    simp only [List.length_cons]; omega
def dataPutV (n : List (List Int)) (t ttl addr : Int) (dst : List (List Int)) (text nums : List Int) : List Int × Bool :=
  if rrOkV n t ttl addr dst text nums = true then (dataV t addr dst text nums, true) else ([], false)
theorem dataPutV_len (n : List (List Int)) (t ttl addr : Int) (dst : List (List Int)) (text nums : List Int) : (dataPutV n t ttl addr dst text nums).1.length ≤ 200 := by
  unfold dataPutV
  by_cases h : rrOkV n t ttl addr dst text nums = true
  · rw [if_pos h]; exact dataV_len h
  · rw [if_neg h]; simp
theorem specDataPut (n : List (List Int)) (t ttl addr : Int) (dst : List (List Int)) (text nums : List Int) (hn : FitN n) (hto : FitN dst) :
    Ev (fun k => spec_DataPut.f k n t ttl addr dst text nums) (dataPutV n t ttl addr dst text nums) := by
  unfold spec_DataPut.f dataPutV
  refine Ev.bind (specRrOk _ _ _ _ _ _ _ hn hto) ?_
  by_cases h : rrOkV n t ttl addr dst text nums = true
  · simp only [if_pos h, specL3put h, Option.bind_some]; exact Ev.now _
  · simp only [if_neg h]; exact Ev.now _
theorem implDataPut (n : List (List Int)) (t ttl addr : Int) (dst : List (List Int)) (text nums : List Int) (ht : -9223372036854775808 ≤ t ∧ t ≤ 9223372036854775807) :
    Ev (fun k => impl_DataPut.f k n t ttl addr dst text nums) (dataPutV n t ttl addr dst text nums) := by
  unfold impl_DataPut.f dataPutV
  refine Ev.bind (implRrOk _ _ _ _ _ _ _ ht) ?_
  by_cases h : rrOkV n t ttl addr dst text nums = true
  · simp only [if_pos h]
    exact Ev.bind (implData h) (Ev.now _)
  · simp only [if_neg h]; exact Ev.now _
def rrWireV (n : List (List Int)) (t ttl addr : Int) (dst : List (List Int)) (text nums : List Int) : List Int :=
  wireV n ++ twoV t ++ twoV 1 ++ fourV ttl ++ twoV ((dataV t addr dst text nums).length : Int) ++ dataV t addr dst text nums
def rrPutV (b : List Int) (n : List (List Int)) (t ttl addr : Int) (dst : List (List Int)) (text nums : List Int) : List Int × Bool :=
  if rrOkV n t ttl addr dst text nums = true then (b ++ rrWireV n t ttl addr dst text nums, true) else ([], false)
theorem typeOk_in {t : Int} (h : typeOkV t = true) : 0 ≤ t ∧ t ≤ 65535 := by
  unfold typeOkV at h
  simp only [Bool.or_eq_true, beq_iff_eq] at h
  omega
theorem wireV_len {n : List (List Int)} (h : impl_NameOk.v n = true) : (wireV n).length ≤ 97 := by
  have := nameOk_w h
  simp only [wireV, List.length_append, List.length_singleton]; omega
theorem rrWireV_len {n : List (List Int)} {t ttl addr : Int} {dst : List (List Int)} {text nums : List Int} (h : rrOkV n t ttl addr dst text nums = true) : (rrWireV n t ttl addr dst text nums).length ≤ 400 := by
  have h1 := dataV_len h
  have h2 := wireV_len (rrOk_parts h).1
  simp only [rrWireV, twoV, fourV, List.length_append, List.length_cons, List.length_nil]; omega
theorem rrPutV_len (b : List Int) (n : List (List Int)) (t ttl addr : Int) (dst : List (List Int)) (text nums : List Int) : (rrPutV b n t ttl addr dst text nums).1.length ≤ b.length + 400 := by
  unfold rrPutV
  by_cases h : rrOkV n t ttl addr dst text nums = true
  · rw [if_pos h]
    have := rrWireV_len h
    simp only [List.length_append]; omega
  · rw [if_neg h]; simp
theorem specL3rr (b : List Int) {n : List (List Int)} {t ttl addr : Int} {dst : List (List Int)} {text nums : List Int} (h : rrOkV n t ttl addr dst text nums = true) (hb : b.length ≤ 1048576) :
    spec_l3rr.f b n t ttl addr dst text nums 1 = some (b ++ rrWireV n t ttl addr dst text nums) := by
  obtain ⟨hn, ht, hl, _⟩ := rrOk_parts h
  have ht := typeOk_in ht
  have h1 := dataV_len h
  have h2 := wireV_len hn
  unfold spec_l3rr.f
  rw [specL3put h, Option.bind_some, specPut b n hn (by omega), Option.bind_some,
    specPut16 _ t (by simp only [List.length_append]; omega) ht, Option.bind_some,
    specPut16 _ 1 (by simp only [twoV, List.length_append, List.length_cons, List.length_nil]; omega) (by omega), Option.bind_some,
    specPut32 _ ttl (by simp only [twoV, List.length_append, List.length_cons, List.length_nil]; omega) (by omega), Option.bind_some,
    specPut16 _ _ (by simp only [twoV, fourV, List.length_append, List.length_cons, List.length_nil]; omega) (by omega), Option.bind_some,
    if_pos (by simp only [twoV, fourV, List.length_append, List.length_cons, List.length_nil]; omega)]
  simp only [rrWireV, List.append_assoc]
theorem concatV (l : List (List Int)) (h : slices_Concat_byte_byte.total l < 140737488355328) : slices_Concat_byte_byte.f l = some l.flatten := by
  unfold slices_Concat_byte_byte.f
  rw [if_pos h]
theorem implRrWire {n : List (List Int)} {t ttl addr : Int} {dst : List (List Int)} {text nums : List Int} (h : rrOkV n t ttl addr dst text nums = true) : Ev (fun k => impl_Rr_wire.f k n t ttl addr dst text nums) (rrWireV n t ttl addr dst text nums) := by
  obtain ⟨hn, ht, hl, _⟩ := rrOk_parts h
  have h1 := dataV_len h
  have h2 := wireV_len hn
  unfold impl_Rr_wire.f
  refine Ev.bind (implData h) (Ev.bind ?_ (Ev.now _))
  unfold impl_recordBytes.f
  refine Ev.bind (implWire n (by have := nameOk_sum hn; omega)) ?_
  simp only [show ∀ a, impl_two.f a = some (twoV a) from fun _ => rfl, implFour, Option.bind_some]
  rw [show (fun k : Nat => (slices_Concat_byte_byte.f [wireV n, twoV t, twoV 1, fourV ttl, twoV ((dataV t addr dst text nums).length : Int), dataV t addr dst text nums]).bind fun t120 => some t120) = fun _ => some (rrWireV n t ttl addr dst text nums) from by
    funext k
    rw [concatV _ (by simp only [slices_Concat_byte_byte.total, List.map_cons, List.map_nil, List.sum_cons, List.sum_nil, twoV, fourV, List.length_cons, List.length_nil]; omega)]
    simp [rrWireV, List.append_assoc]]
  exact Ev.now _
theorem specRrPut (b : List Int) (n : List (List Int)) (t ttl addr : Int) (dst : List (List Int)) (text nums : List Int) (hn : FitN n) (hto : FitN dst) (hb : b.length ≤ 1048576) :
    Ev (fun k => spec_RrPut.f k b n t ttl addr dst text nums) (rrPutV b n t ttl addr dst text nums) := by
  unfold spec_RrPut.f rrPutV
  refine Ev.bind (specRrOk _ _ _ _ _ _ _ hn hto) ?_
  by_cases h : rrOkV n t ttl addr dst text nums = true
  · simp only [if_pos h, Option.bind_some, List.length_nil, List.nil_append]
    simp only [if_pos (show 0 + b.length < 140737488355328 by omega), specL3rr b h hb, Option.bind_some]
    exact Ev.now _
  · simp only [if_neg h]; exact Ev.now _
theorem implRrPut (b : List Int) (n : List (List Int)) (t ttl addr : Int) (dst : List (List Int)) (text nums : List Int) (ht : -9223372036854775808 ≤ t ∧ t ≤ 9223372036854775807) (hb : b.length ≤ 1048576) :
    Ev (fun k => impl_RrPut.f k b n t ttl addr dst text nums) (rrPutV b n t ttl addr dst text nums) := by
  unfold impl_RrPut.f rrPutV
  refine Ev.bind (implRrOk _ _ _ _ _ _ _ ht) ?_
  by_cases h : rrOkV n t ttl addr dst text nums = true
  · simp only [if_pos h]
    have h1 := rrWireV_len h
    refine Ev.bind (implRrWire h) ?_
    rw [show (fun k : Nat => (slices_Concat_byte_byte.f [b, rrWireV n t ttl addr dst text nums]).bind fun t109 => some (t109, true)) = fun _ => some (b ++ rrWireV n t ttl addr dst text nums, true) from by
      funext k
      rw [concatV _ (by simp only [slices_Concat_byte_byte.total, List.map_cons, List.map_nil, List.sum_cons, List.sum_nil]; omega)]
      simp]
    exact Ev.now _
  · simp only [if_neg h]; exact Ev.now _
end Go.Proofs.Ytedbpnfkeabpnaa.Pure

/- The statement FnExactDataPut: at every record the reference and the program put the same data. No condition. -/
namespace Go.Proofs.Ytedbpnfkeabpnaa.Pure
open Go Go.RowKit Go.Proofs.Ytedbpnfkeabpnaa.Q Go.Proofs.YtedbpnfkeabpnaaW.PrintWords Go.Proofs.YtedbpnfkeabpnaaW.PrintLast
theorem FnExactDataPut : laws_FnExactDataPut.Pure := by
  intro x0 h0
  obtain ⟨hn, ht, httl, haddr, hd, htext, hnums⟩ := h0
  have hn : RawN x0.f0.f0 := ⟨hn.1, fun x hx => (hn.2 x hx).1⟩
  have hd : RawN x0.f4.f0 := ⟨hd.1, fun x hx => (hd.2 x hx).1⟩
  have ht := i64_of_wf ht
  have htext : x0.f5.length ≤ 9223372036854775807 := htext.1
  have hnums : x0.f6.length ≤ 9223372036854775807 := hnums.1
  generalize x0.f0.f0 = n at hn
  generalize x0.f4.f0 = d at hd
  generalize x0.f1 = t at ht
  generalize x0.f5 = text at htext
  generalize x0.f6 = nums at hnums
  apply Ev.rounds
  unfold laws_FnExactDataPut.f
  obtain ⟨u, hu, hc⟩ := szRr n t x0.f2 x0.f3 d text nums 1048576 hn hd htext hnums (by omega) (by omega)
  refine Ev.bind hu ?_
  by_cases h : u < 0
  · simp only [if_pos h]; exact Ev.now _
  simp only [if_neg h]
  obtain ⟨_, _, fn, fd, f5, f6⟩ := hc.resolve_left h
  have hto := toRr n t x0.f2 x0.f3 d text nums fn fd f5 f6
  have hlen := dataPutV_len n t x0.f2 x0.f3 d text nums
  have heq := eqByteS (dataPutV n t x0.f2 x0.f3 d text nums).1 (by omega)
  have hh := heldByteS 1 (by omega) (by omega) (dataPutV n t x0.f2 x0.f3 d text nums).1.length (by omega)
  refine Ev.bind hto (Ev.bind (specDataPut _ _ _ _ _ _ _ fn fd) (Ev.bind hto (Ev.bind (implDataPut _ _ _ _ _ _ _ ht) (Ev.bind heq ?_))))
  simp only [if_true, bne_self_eq_false, Bool.false_eq_true, if_false]
  refine Ev.bind hto (Ev.bind (eqRr n t x0.f2 x0.f3 d text nums fn fd f5 f6) ?_)
  simp only [if_true]
  simp only [markRr n t x0.f2 x0.f3 d text nums 1 (by omega) (by omega) fn fd f5 f6, Option.bind_some]
  simp only [if_neg (show ¬ (1 + (marked n d text nums : Int) < 0) by omega)]
  refine Ev.bind heq ?_
  simp only [if_true]
  refine Ev.bind (markByteS _ 1 (by omega) (by omega) (by omega)) (Ev.bind hh ?_)
  simp only [if_neg (show ¬ (1 + ((dataPutV n t x0.f2 x0.f3 d text nums).1.length : Int) < 0) by omega), if_true]
  refine Ev.bind hto (Ev.bind (implDataPut _ _ _ _ _ _ _ ht) (Ev.bind heq ?_))
  simp only [if_true, bne_self_eq_false, Bool.false_eq_true, if_false]
  refine Ev.bind hh ?_
  simp only [if_neg (show ¬ (1 + ((dataPutV n t x0.f2 x0.f3 d text nums).1.length : Int) < 0) by omega), if_true]
  exact Ev.now _
end Go.Proofs.Ytedbpnfkeabpnaa.Pure

