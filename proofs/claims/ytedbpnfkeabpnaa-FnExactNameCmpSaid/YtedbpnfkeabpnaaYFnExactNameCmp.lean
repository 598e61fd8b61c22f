/- Plain lemmas for the statement FnExactNameCmp. -/
import Derived.Test.YtedbpnfkeabpnaaZFnExactNameCmp0
import Derived.Test.YtedbpnfkeabpnaaZFnExactNameCmp1
import Derived.Test.YtedbpnfkeabpnaaWMore
import Derived.Deep.Slices
import Derived.Lib.SmallJoins
import Derived.OpenShut
/- What an argument reads as, kind by kind: from the form's reading of a datum to the print's kinds (Kd). -/
namespace Go.Proofs.Ytedbpnfkeabpnaa.Open
open Go Go.RowKit Go.Deep Go.ChangeShapes Go.WideShapes Go.ChangeAt Go.Proofs.YtedbpnfkeabpnaaW.PrintWords
set_option linter.unusedVariables false
variable {H : Type} {enc : TypeId × Value → H} {P : Program} {W : World} {sp : Nat → Bool} {held : Bool}

/-- Whatever cells are read as a datum of type t are those of a y of the kind d, of which ok holds. -/
def Opens (enc : TypeId × Value → H) (P : Program) (W : World) (sp : Nat → Bool) (held : Bool) {α : Type} (d : Kd α) (ok : α → Prop) (t : TypeId) : Prop :=
  ∀ fuel cs x, DataW.trod enc P W 0 sp held fuel t cs = some x → ∃ y : α, d.K W y cs ∧ ok y

theorem opens_int {t : TypeId} {k : IntKind} (ht : P.underlying t = some (.int k)) : Opens enc P W sp held (Kd.int k) (fun x => (Lit.int k x).wf = true) t := by
  intro fuel cs x h
  obtain ⟨a, rfl, _, hw⟩ := DataW.trod_int ht h
  exact ⟨a, rfl, hw⟩
theorem opens_bool {t : TypeId} (ht : P.underlying t = some .bool) : Opens enc P W sp held Kd.bool (fun _ => True) t := by
  intro fuel cs x h
  obtain ⟨a, rfl, _⟩ := DataW.trod_bool ht h
  exact ⟨a, rfl, trivial⟩

theorem list_of {α : Type} {n : Nat} {Q : Nat → α → Prop} (h : ∀ i, i < n → ∃ y, Q i y) : ∃ l : List α, l.length = n ∧ ∀ i y, l[i]? = some y → Q i y := by
  induction n with
  | zero => exact ⟨[], rfl, fun i y hy => by simp at hy⟩
  | succ n ih =>
    obtain ⟨l, hl, hq⟩ := ih (fun i hi => h i (by omega))
    obtain ⟨y, hy⟩ := h n (by omega)
    refine ⟨l ++ [y], by simp [hl], fun i z hz => ?_⟩
    by_cases hi : i < n
    · rw [List.getElem?_append_left (by omega)] at hz; exact hq i z hz
    · by_cases e : i = n
      · subst e
        rw [List.getElem?_append_right (by omega), hl, Nat.sub_self] at hz
        simp at hz; subst hz; exact hy
      · rw [List.getElem?_eq_none (by simp; omega)] at hz; cases hz

theorem opens_slice {α : Type} {d : Kd α} {ok : α → Prop} {t e : TypeId} (ht : P.underlying t = some (.slice e)) (hs : d.sz = P.cellsOf e) (h : Opens enc P W sp held d ok e) :
    Opens enc P W sp held (Kd.slice e d) (fun l => l.length ≤ maxLen ∧ ∀ x ∈ l, ok x) t := by
  intro fuel cs x hx
  rcases open_slice ht hx with ⟨rfl, _⟩ | ⟨a, len, cap, m, n, D, Pl, rfl, _, hl, hm, hmm, _, hel⟩
  · exact ⟨[], ⟨none, 0, rfl, Nat.le_refl _, Kd.C_nil d W⟩, by simp, by simp⟩
  · have hlm : len ≤ m := by rw [hmm]; split <;> omega
    obtain ⟨l, hll, hq⟩ := list_of (n := len) (Q := fun i (y : α) => ∃ c, W.cells? 0 (a.add (i * P.cellsOf e)) (P.cellsOf e) = some c ∧ d.K W y c ∧ ok y) (fun i hi => by
      obtain ⟨c, h1, h2⟩ := hel i (by omega)
      obtain ⟨y, hy, hok⟩ := h _ _ _ h2
      exact ⟨y, c, h1, hy, hok⟩)
    refine ⟨l, ⟨some a, cap, by rw [hll], by omega, rfl, by rw [hll]; unfold maxLen at hm; omega, fun _ => ⟨a, rfl, fun j p hj => ?_⟩⟩, by omega, fun x hx => ?_⟩
    · obtain ⟨c, h1, h2, _⟩ := hq j p hj
      obtain ⟨_, hlen, hc⟩ := World.cells?_some h1
      refine ⟨c, by rw [hlen, hs], h2, fun i u hu => ?_⟩
      have hi : i < c.length := (List.getElem?_eq_some_iff.1 hu).1
      have h3 := hc i (by omega)
      rw [hs, ← Go.Proofs.YtedbpnfkeabpnaaW.PrintWords.add_add, h3, hu]
    · obtain ⟨i, hi⟩ := List.mem_iff_getElem?.1 hx
      obtain ⟨_, _, _, hok⟩ := hq i x hi
      exact hok

/-- The fields of a struct, from place o on, as one kind. -/
def OpensF (enc : TypeId × Value → H) (P : Program) (W : World) (sp : Nat → Bool) (held : Bool) {α : Type} (d : Kd α) (ok : α → Prop) (fs : List Field) (o n : Nat) : Prop :=
  ∀ (fuel : Nat) (cs : List Value), cs.length = o + n → (∀ f ∈ fs, ∃ x, DataW.trod enc P W 0 sp held fuel f.type ((cs.drop f.offset).take (P.cellsOf f.type)) = some x) → ∃ y : α, d.K W y (cs.drop o) ∧ ok y
theorem opensF_one {α : Type} {d : Kd α} {ok : α → Prop} {f : Field} {o n : Nat} (ho : f.offset = o) (hn : P.cellsOf f.type = n) (h : Opens enc P W sp held d ok f.type) : OpensF enc P W sp held d ok [f] o n := by
  intro fuel cs hl hf
  obtain ⟨x, hx⟩ := hf f (by simp)
  rw [ho, hn, List.take_of_length_le (by simp; omega)] at hx
  exact h _ _ _ hx
theorem opensF_cons {α β : Type} {d : Kd α} {d' : Kd β} {ok : α → Prop} {ok' : β → Prop} {f : Field} {fs : List Field} {o n m : Nat} (ho : f.offset = o) (hn : P.cellsOf f.type = n) (h : Opens enc P W sp held d ok f.type) (hr : OpensF enc P W sp held d' ok' fs (o + n) m) :
    OpensF enc P W sp held (Kd.pair d d') (fun y => ok y.1 ∧ ok' y.2) (f :: fs) o (n + m) := by
  intro fuel cs hl hf
  obtain ⟨x, hx⟩ := hf f (by simp)
  rw [ho, hn] at hx
  obtain ⟨y, hy, hoky⟩ := h _ _ _ hx
  obtain ⟨z, hz, hokz⟩ := hr fuel cs (by omega) (fun g hg => hf g (by simp [hg]))
  refine ⟨(y, z), ⟨(cs.drop o).take n, cs.drop (o + n), ?_, hy, hz⟩, hoky, hokz⟩
  rw [← List.drop_drop, List.take_append_drop]
theorem opens_struct {α β : Type} {d : Kd α} {ok : α → Prop} {t : TypeId} {fs : Array Field} {n : Nat} (f : β → α) (g : α → β) (hfg : ∀ y, f (g y) = y) (ht : P.underlying t = some (.struct fs)) (hn : P.cellsOf t = n) (h : OpensF enc P W sp held d ok fs.toList 0 n) :
    Opens enc P W sp held (Kd.iso d f) (fun y => ok (f y)) t := by
  intro fuel cs x hx
  obtain ⟨xs, m, _, rfl, hl, hlen, hf⟩ := DataW.trod_struct ht hx
  obtain ⟨y, hy, hok⟩ := h m cs (by omega) (fun fl hfl => by
    obtain ⟨i, hi⟩ := List.mem_iff_getElem?.1 hfl
    have hfi := hf i fl (by simpa using hi)
    have hil : i < xs.length := by rw [hlen]; have := (List.getElem?_eq_some_iff.1 hi).1; simpa using this
    exact ⟨xs[i], by rw [hfi, List.getElem?_eq_getElem hil]⟩)
  exact ⟨g y, by show d.K W (f (g y)) cs; rw [hfg]; simpa using hy, by show ok (f (g y)); rw [hfg]; exact hok⟩
/-- An argument of a struct's type. -/
theorem open_arg {r : Reach} {b0 : Nat} {α : Type} {d : Kd α} {ok : α → Prop} {t : TypeId} {fs : Array Field} {v : Value} {dt : DataW H} {p : List MemPlace} (ht : P.underlying t = some (.struct fs)) (hv : Value.okWide P W r b0 t v) (h : DataW.Trod enc P W 0 sp held t v dt p) (ho : Opens enc P W sp held d ok t) :
    ∃ (cs : List Value) (y : α), v = .agg cs.toArray ∧ d.K W y cs ∧ ok y := by
  obtain ⟨cs, rfl, hsz⟩ := okWide_struct ht hv
  obtain ⟨fuel, hf⟩ := h
  obtain ⟨y, hy, hok⟩ := ho _ _ _ hf
  exact ⟨cs.toList, y, by simp, by simpa [Value.cells] using hy, hok⟩
end Go.Proofs.Ytedbpnfkeabpnaa.Open

-- Written by a program of this session (wip/myprint.py): what each type of the laws' parameters reads as.
namespace Go.Proofs.Ytedbpnfkeabpnaa.Q
open Go Go.RowKit Go.Proofs.Ytedbpnfkeabpnaa.Open Go.Proofs.YtedbpnfkeabpnaaW.PrintWords
set_option linter.unusedVariables false
def okT5 (x : Int) : Prop := (Lit.int .u8 x).wf = true
theorem opensT5 {H : Type} {enc : TypeId × Value → H} {W : World} : Opens enc Try.prog W (fun _ => true) true (Kd.int .u8) okT5 5 := opens_int Try.underlying5
def okT31 (l : List Int) : Prop := l.length ≤ maxLen ∧ ∀ x ∈ l, okT5 x
theorem opensT31 {H : Type} {enc : TypeId × Value → H} {W : World} : Opens enc Try.prog W (fun _ => true) true (Kd.slice 5 (Kd.int .u8)) okT31 31 := opens_slice Try.underlying31 (by kernel_rfl) opensT5
def okT22 (l : List (List Int)) : Prop := l.length ≤ maxLen ∧ ∀ x ∈ l, okT31 x
theorem opensT22 {H : Type} {enc : TypeId × Value → H} {W : World} : Opens enc Try.prog W (fun _ => true) true (Kd.slice 31 (Kd.slice 5 (Kd.int .u8))) okT22 22 := opens_slice Try.underlying22 (by kernel_rfl) opensT31
def okT24 (x : S24) : Prop := okT22 x.f0
theorem opensT24 {H : Type} {enc : TypeId × Value → H} {W : World} : Opens enc Try.prog W (fun _ => true) true k24 okT24 24 := by
  have h := opens_struct (d := (Kd.slice 31 (Kd.slice 5 (Kd.int .u8)))) (ok := okT22) (enc := enc) (P := Try.prog) (W := W) (sp := fun _ => true) (held := true) (fun x : S24 => x.f0) (fun y => (⟨y⟩ : S24)) (fun _ => rfl) Try.underlying24 (n := 1) (by kernel_rfl) (by
    refine opensF_one (d := (Kd.slice 31 (Kd.slice 5 (Kd.int .u8)))) (ok := okT22) (n := 1) ?ho ?hn ?h; (case ho => rfl); (case hn => kernel_rfl); (case h => exact opensT22))
  exact h
def okT3 (x : Int) : Prop := (Lit.int .i64 x).wf = true
theorem opensT3 {H : Type} {enc : TypeId × Value → H} {W : World} : Opens enc Try.prog W (fun _ => true) true (Kd.int .i64) okT3 3 := opens_int Try.underlying3
def okT42 (l : List Int) : Prop := l.length ≤ maxLen ∧ ∀ x ∈ l, okT3 x
theorem opensT42 {H : Type} {enc : TypeId × Value → H} {W : World} : Opens enc Try.prog W (fun _ => true) true (Kd.slice 3 (Kd.int .i64)) okT42 42 := opens_slice Try.underlying42 (by kernel_rfl) opensT3
def okT44 (x : S44) : Prop := okT24 x.f0 ∧ (okT3 x.f1 ∧ (okT3 x.f2 ∧ (okT3 x.f3 ∧ (okT24 x.f4 ∧ (okT31 x.f5 ∧ (okT42 x.f6))))))
theorem opensT44 {H : Type} {enc : TypeId × Value → H} {W : World} : Opens enc Try.prog W (fun _ => true) true k44 okT44 44 := by
  have h := opens_struct (d := Kd.pair (k24) (Kd.pair ((Kd.int .i64)) (Kd.pair ((Kd.int .i64)) (Kd.pair ((Kd.int .i64)) (Kd.pair (k24) (Kd.pair ((Kd.slice 5 (Kd.int .u8))) ((Kd.slice 3 (Kd.int .i64))))))))) (ok := (fun y => okT24 y.1 ∧ (fun y => okT3 y.1 ∧ (fun y => okT3 y.1 ∧ (fun y => okT3 y.1 ∧ (fun y => okT24 y.1 ∧ (fun y => okT31 y.1 ∧ okT42 y.2) y.2) y.2) y.2) y.2) y.2)) (enc := enc) (P := Try.prog) (W := W) (sp := fun _ => true) (held := true) (fun x : S44 => (x.f0, x.f1, x.f2, x.f3, x.f4, x.f5, x.f6)) (fun y => (⟨y.1, y.2.1, y.2.2.1, y.2.2.2.1, y.2.2.2.2.1, y.2.2.2.2.2.1, y.2.2.2.2.2.2⟩ : S44)) (fun _ => rfl) Try.underlying44 (n := 7) (by kernel_rfl) (by
    refine opensF_cons (d := k24) (ok := okT24) (d' := Kd.pair ((Kd.int .i64)) (Kd.pair ((Kd.int .i64)) (Kd.pair ((Kd.int .i64)) (Kd.pair (k24) (Kd.pair ((Kd.slice 5 (Kd.int .u8))) ((Kd.slice 3 (Kd.int .i64)))))))) (ok' := (fun y => okT3 y.1 ∧ (fun y => okT3 y.1 ∧ (fun y => okT3 y.1 ∧ (fun y => okT24 y.1 ∧ (fun y => okT31 y.1 ∧ okT42 y.2) y.2) y.2) y.2) y.2)) (n := 1) (m := 6) ?ho ?hn ?h ?_; (case ho => rfl); (case hn => kernel_rfl); (case h => exact opensT24)
    refine opensF_cons (d := (Kd.int .i64)) (ok := okT3) (d' := Kd.pair ((Kd.int .i64)) (Kd.pair ((Kd.int .i64)) (Kd.pair (k24) (Kd.pair ((Kd.slice 5 (Kd.int .u8))) ((Kd.slice 3 (Kd.int .i64))))))) (ok' := (fun y => okT3 y.1 ∧ (fun y => okT3 y.1 ∧ (fun y => okT24 y.1 ∧ (fun y => okT31 y.1 ∧ okT42 y.2) y.2) y.2) y.2)) (n := 1) (m := 5) ?ho ?hn ?h ?_; (case ho => rfl); (case hn => kernel_rfl); (case h => exact opensT3)
    refine opensF_cons (d := (Kd.int .i64)) (ok := okT3) (d' := Kd.pair ((Kd.int .i64)) (Kd.pair (k24) (Kd.pair ((Kd.slice 5 (Kd.int .u8))) ((Kd.slice 3 (Kd.int .i64)))))) (ok' := (fun y => okT3 y.1 ∧ (fun y => okT24 y.1 ∧ (fun y => okT31 y.1 ∧ okT42 y.2) y.2) y.2)) (n := 1) (m := 4) ?ho ?hn ?h ?_; (case ho => rfl); (case hn => kernel_rfl); (case h => exact opensT3)
    refine opensF_cons (d := (Kd.int .i64)) (ok := okT3) (d' := Kd.pair (k24) (Kd.pair ((Kd.slice 5 (Kd.int .u8))) ((Kd.slice 3 (Kd.int .i64))))) (ok' := (fun y => okT24 y.1 ∧ (fun y => okT31 y.1 ∧ okT42 y.2) y.2)) (n := 1) (m := 3) ?ho ?hn ?h ?_; (case ho => rfl); (case hn => kernel_rfl); (case h => exact opensT3)
    refine opensF_cons (d := k24) (ok := okT24) (d' := Kd.pair ((Kd.slice 5 (Kd.int .u8))) ((Kd.slice 3 (Kd.int .i64)))) (ok' := (fun y => okT31 y.1 ∧ okT42 y.2)) (n := 1) (m := 2) ?ho ?hn ?h ?_; (case ho => rfl); (case hn => kernel_rfl); (case h => exact opensT24)
    refine opensF_cons (d := (Kd.slice 5 (Kd.int .u8))) (ok := okT31) (d' := (Kd.slice 3 (Kd.int .i64))) (ok' := okT42) (n := 1) (m := 1) ?ho ?hn ?h ?_; (case ho => rfl); (case hn => kernel_rfl); (case h => exact opensT31)
    refine opensF_one (d := (Kd.slice 3 (Kd.int .i64))) (ok := okT42) (n := 1) ?ho ?hn ?h; (case ho => rfl); (case hn => kernel_rfl); (case h => exact opensT42))
  exact h
def okT4 (_ : Bool) : Prop := True
theorem opensT4 {H : Type} {enc : TypeId × Value → H} {W : World} : Opens enc Try.prog W (fun _ => true) true Kd.bool okT4 4 := opens_bool Try.underlying4
def okT54 (x : S54) : Prop := okT44 x.f0 ∧ (okT3 x.f1 ∧ (okT4 x.f2))
theorem opensT54 {H : Type} {enc : TypeId × Value → H} {W : World} : Opens enc Try.prog W (fun _ => true) true k54 okT54 54 := by
  have h := opens_struct (d := Kd.pair (k44) (Kd.pair ((Kd.int .i64)) (Kd.bool))) (ok := (fun y => okT44 y.1 ∧ (fun y => okT3 y.1 ∧ okT4 y.2) y.2)) (enc := enc) (P := Try.prog) (W := W) (sp := fun _ => true) (held := true) (fun x : S54 => (x.f0, x.f1, x.f2)) (fun y => (⟨y.1, y.2.1, y.2.2⟩ : S54)) (fun _ => rfl) Try.underlying54 (n := 9) (by kernel_rfl) (by
    refine opensF_cons (d := k44) (ok := okT44) (d' := Kd.pair ((Kd.int .i64)) (Kd.bool)) (ok' := (fun y => okT3 y.1 ∧ okT4 y.2)) (n := 7) (m := 2) ?ho ?hn ?h ?_; (case ho => rfl); (case hn => kernel_rfl); (case h => exact opensT44)
    refine opensF_cons (d := (Kd.int .i64)) (ok := okT3) (d' := Kd.bool) (ok' := okT4) (n := 1) (m := 1) ?ho ?hn ?h ?_; (case ho => rfl); (case hn => kernel_rfl); (case h => exact opensT3)
    refine opensF_one (d := Kd.bool) (ok := okT4) (n := 1) ?ho ?hn ?h; (case ho => rfl); (case hn => kernel_rfl); (case h => exact opensT4))
  exact h
def okT94 (x : Int) : Prop := (Lit.int .u32 x).wf = true
theorem opensT94 {H : Type} {enc : TypeId × Value → H} {W : World} : Opens enc Try.prog W (fun _ => true) true (Kd.int .u32) okT94 94 := opens_int Try.underlying94
def okT99 (l : List Int) : Prop := l.length ≤ maxLen ∧ ∀ x ∈ l, okT94 x
theorem opensT99 {H : Type} {enc : TypeId × Value → H} {W : World} : Opens enc Try.prog W (fun _ => true) true (Kd.slice 94 (Kd.int .u32)) okT99 99 := opens_slice Try.underlying99 (by kernel_rfl) opensT94
def okT104 (x : Int) : Prop := (Lit.int .u64 x).wf = true
theorem opensT104 {H : Type} {enc : TypeId × Value → H} {W : World} : Opens enc Try.prog W (fun _ => true) true (Kd.int .u64) okT104 104 := opens_int Try.underlying104
def okT102 (l : List Int) : Prop := l.length ≤ maxLen ∧ ∀ x ∈ l, okT104 x
theorem opensT102 {H : Type} {enc : TypeId × Value → H} {W : World} : Opens enc Try.prog W (fun _ => true) true (Kd.slice 104 (Kd.int .u64)) okT102 102 := opens_slice Try.underlying102 (by kernel_rfl) opensT104
end Go.Proofs.Ytedbpnfkeabpnaa.Q

-- Written by a program of this session (wip/myprint.py): the pure statement of a law.
namespace Go.Proofs.Ytedbpnfkeabpnaa.Q
open Go Go.RowKit
def laws_FnExactNameCmp.Pure : Prop := ∀ (x0 : S24) (x1 : S24), okT24 x0 → okT24 x1 → ∃ k, laws_FnExactNameCmp.f k x0.f0 x1.f0 = some true
end Go.Proofs.Ytedbpnfkeabpnaa.Q

/- Plain lemmas on the printed functions: a list of bytes read into a new one, two lists compared, a number read from bytes. -/
namespace Go.Proofs.Ytedbpnfkeabpnaa.Pure
open Go Go.RowKit Go.Proofs.Ytedbpnfkeabpnaa.Q Go.Proofs.YtedbpnfkeabpnaaW.PrintWords Go.Proofs.YtedbpnfkeabpnaaW.PrintLast Go.Proofs.YtedbpnfkeabpnaaW.PrintMore
set_option linter.unusedVariables false
set_option linter.unusedSimpArgs false

/-- Every element is a byte. -/
def Bytes (l : List Int) : Prop := ∀ x ∈ l, 0 ≤ x ∧ x ≤ 255
theorem Bytes.of_wf {l : List Int} (h : ∀ x ∈ l, (Lit.int .u8 x).wf = true) : Bytes l := fun x hx => by
  have := h x hx
  simp [Lit.wf, IntKind.min, IntKind.max, IntKind.signed, IntKind.bits] at this
  omega
theorem i64_of_wf {x : Int} (h : (Lit.int .i64 x).wf = true) : -9223372036854775808 ≤ x ∧ x ≤ 9223372036854775807 := by
  simp [Lit.wf, IntKind.min, IntKind.max, IntKind.signed, IntKind.bits] at h
  omega
theorem Bytes.rd {l : List Int} (h : Bytes l) (i : Int) : 0 ≤ rd l i ∧ rd l i ≤ 255 := by
  unfold Go.Proofs.YtedbpnfkeabpnaaW.PrintWords.rd
  rw [List.getD_eq_getElem?_getD]
  by_cases hi : i.toNat < l.length
  · rw [List.getElem?_eq_getElem hi]; exact h _ (List.getElem_mem hi)
  · rw [List.getElem?_eq_none (by omega)]; simp
theorem w64 {x : Int} (h1 : -9223372036854775808 ≤ x) (h2 : x ≤ 9223372036854775807) : wrap64 x = x := by
  unfold wrap64; omega
theorem Ev.here {α : Type} {g : Nat → Option α} {r : α} (h : ∀ k, g k = some r) : Ev g r := ⟨0, fun k _ => h k⟩

theorem set_prefix (l : List Int) (i : Nat) (h : i < l.length) (m : Nat) (hm : l.length = i + m + 1) :
    (l.take i ++ List.replicate (m+1) 0).set i (l.getD i 0) = l.take (i+1) ++ List.replicate m 0 := by
  rw [List.set_append_right _ _ (by simp; omega)]
  simp only [List.length_take, Nat.min_eq_left (Nat.le_of_lt h), Nat.sub_self, List.replicate_succ, List.set_cons_zero]
  rw [List.take_succ_eq_append_getElem h, List.append_assoc]
  simp [List.getD_eq_getElem?_getD, h]

theorem toByteS_l0 (l : List Int) (hl : l.length ≤ 140737488351232) (m : Nat) : ∀ (i : Nat), l.length = i + m →
    Ev (fun k => laws_toByteS.l0 k l (l.take i ++ List.replicate m 0) i) l := by
  induction m with
  | zero =>
    intro i hi
    refine Ev.step (f := fun _ => some l) (fun k => ?_) (Ev.now _)
    simp only [laws_toByteS.l0]
    rw [if_neg (by omega)]
    simp [List.take_of_length_le (show l.length ≤ i by omega)]
  | succ m ih =>
    intro i hi
    refine Ev.step (fun k => ?_) (ih (i+1) (by omega))
    simp only [laws_toByteS.l0]
    rw [if_pos (by omega), if_pos (by omega), if_pos (by simp; omega), w64 (by omega) (by omega)]
    rw [show rd l (i : Int) = l.getD i 0 by simp [rd], show ((i : Int)).toNat = i by omega, set_prefix l i (by omega) m (by omega)]
    rfl
theorem toByteS (l : List Int) (hl : l.length ≤ 140737488351232) : Ev (fun k => laws_toByteS.f k l) l := by
  unfold laws_toByteS.f
  simp only [if_pos (show 0 ≤ (l.length : Int) by omega), if_pos (show ((l.length : Int)).toNat ≤ 281474976710656 by omega)]
  simpa using toByteS_l0 l hl l.length 0 (by omega)

theorem eqByteS_l0 (l : List Int) (hl : l.length ≤ 140737488351232) (m : Nat) : ∀ (i : Nat), l.length = i + m →
    Ev (fun k => laws_eqByteS.l0 k l l i) true := by
  induction m with
  | zero =>
    intro i hi
    refine Ev.step (f := fun _ => some true) (fun k => ?_) (Ev.now _)
    simp only [laws_eqByteS.l0]
    rw [if_neg (by omega)]
  | succ m ih =>
    intro i hi
    refine Ev.step (fun k => ?_) (ih (i+1) (by omega))
    simp only [laws_eqByteS.l0]
    rw [if_pos (by omega), if_pos (by omega), if_pos (by omega), if_pos trivial, w64 (by omega) (by omega)]
    rfl
theorem eqByteS (l : List Int) (hl : l.length ≤ 140737488351232) : Ev (fun k => laws_eqByteS.f k l l) true := by
  unfold laws_eqByteS.f
  simp only [if_pos]
  exact eqByteS_l0 l hl l.length 0 (by omega)

/-- The number that bytes make, the highest first. -/
def be (acc : Int) (l : List Int) : Int := l.foldl (fun a x => a * 256 + x) acc
theorem wraps_i64 (n : Int) (h0 : 0 ≤ n) (h1 : n < 2 ^ 63) : IntKind.i64.wrap n = n := by rw [IntKind.wrap_i64]; omega
theorem bits_or_byte (a x : Int) (h0 : 0 ≤ a) (h1 : a < 36028797018963968) (h2 : 0 ≤ x) (h3 : x ≤ 255) : Go.bits .or .i64 (a * 256) x = a * 256 + x :=
  bits_join .i64 63 (by decide) wraps_i64 8 (a * 256) x (by omega) (by omega) (by omega) (by omega) (by omega) (by omega)
theorem get_l0 (at_ n : Int) (l : List Int) (hb : Bytes l) (hl : l.length ≤ 7) (m : Nat) : ∀ (i : Nat) (acc : Int), l.length = i + m → 0 ≤ acc → acc < 256 ^ i →
    Ev (fun k => impl_get.l0 k at_ n acc l (l.length : Int) i) (be acc (l.drop i), wrap64 (at_ + n)) := by
  induction m with
  | zero =>
    intro i acc hi h0 h1
    refine Ev.step (f := fun _ => some (acc, wrap64 (at_ + n))) (fun k => ?_) ?_
    · simp only [impl_get.l0]
      rw [if_neg (by omega)]
    · rw [List.drop_of_length_le (by omega)]; exact Ev.now _
  | succ m ih =>
    intro i acc hi h0 h1
    have hil : i < l.length := by omega
    have hr := hb _ (List.getElem_mem hil)
    have h256 : (256 : Int) ^ i ≤ 256 ^ 6 := by
      have : i ≤ 6 := by omega
      rcases i with _|_|_|_|_|_|_|i <;> simp_all
    have h7 : (256 : Int) ^ 6 = 281474976710656 := by decide
    have hd : l.drop i = l[i] :: l.drop (i+1) := List.drop_eq_getElem_cons hil
    rw [hd]
    show Ev _ (be (acc * 256 + l[i]) (l.drop (i+1)), _)
    refine Ev.step (fun k => ?_) (ih (i+1) (acc * 256 + l[i]) (by omega) (by omega) (by rw [Int.pow_succ]; omega))
    simp only [impl_get.l0]
    have e : rd l (i : Int) = l[i] := by simp [rd, List.getD_eq_getElem?_getD, hil]
    rw [if_pos (by omega), if_pos (by omega), if_pos (by omega), e, w64 (show -9223372036854775808 ≤ acc * 256 by omega) (by omega), w64 (show -9223372036854775808 ≤ l[i] by omega) (by omega), w64 (show -9223372036854775808 ≤ (i : Int) + 1 by omega) (by omega), bits_or_byte _ _ h0 (by omega) hr.1 hr.2]
    rfl

/-- What 'get' tells. -/

def getV (l : List Int) (at_ n : Int) : Int × Int := if at_ < 0 ∨ n > l.length - at_ then (0, -1) else (be 0 ((l.take (at_ + n).toNat).drop at_.toNat), at_ + n)
theorem get_ev (l : List Int) (hb : Bytes l) (hl : l.length ≤ 140737488351232) (at_ n : Int) (ha : -9223372036854775808 ≤ at_ ∧ at_ ≤ 9223372036854775807) (hn : 0 ≤ n ∧ n ≤ 7) :
    Ev (fun k => impl_get.f k l at_ n) (getV l at_ n) := by
  unfold impl_get.f getV
  by_cases h1 : at_ < 0
  · simp only [if_pos h1, if_pos (Or.inl h1 : at_ < 0 ∨ n > l.length - at_)]
    refine Ev.step (f := fun _ => some (0, -1)) (fun k => ?_) (Ev.now _)
    simp [impl_get.j0]
  · simp only [if_neg h1]
    rw [w64 (by omega) (by omega)]
    by_cases h2 : n > l.length - at_
    · rw [if_pos (Or.inr h2 : at_ < 0 ∨ n > l.length - at_), decide_eq_true h2]
      refine Ev.step (f := fun _ => some (0, -1)) (fun k => ?_) (Ev.now _)
      simp [impl_get.j0]
    · have h3 : ¬ (at_ < 0 ∨ n > l.length - at_) := by omega
      rw [decide_eq_false h2, if_neg h3]
      have hlen : ((l.take (at_ + n).toNat).drop at_.toNat).length = n.toNat := by simp; omega
      have hbb : Bytes ((l.take (at_ + n).toNat).drop at_.toNat) := fun x hx => hb x (List.mem_of_mem_take (List.mem_of_mem_drop hx))
      have := get_l0 at_ n _ hbb (by omega) n.toNat 0 0 (by omega) (by omega) (by simp)
      rw [List.drop_zero, w64 (by omega) (by omega)] at this
      refine Ev.step (fun k => ?_) this
      simp only [impl_get.j0]
      rw [w64 (show -9223372036854775808 ≤ at_ + n by omega) (by omega)]
      rw [if_neg (by simp), if_pos (by omega), if_pos (by omega), if_pos (by omega)]
      rfl

theorem be_two (a b : Int) : be 0 [a, b] = a * 256 + b := by simp [be]
theorem be_four (a b c d : Int) : be 0 [a, b, c, d] = a * 16777216 + b * 65536 + c * 256 + d := by simp [be]; omega
theorem cut_two (l : List Int) (i : Nat) (h : i + 2 ≤ l.length) : (l.take (i + 2)).drop i = [rd l i, rd l (i + 1 : Nat)] := by
  apply List.ext_getElem
  · simp; omega
  · intro j h1 h2
    simp at h2
    rcases j with _ | _ | j
    · simp [rd, List.getD_eq_getElem?_getD, show i < l.length by omega]
    · simp [rd, List.getD_eq_getElem?_getD, show i + 1 < l.length by omega]
    · omega
theorem cut_four (l : List Int) (i : Nat) (h : i + 4 ≤ l.length) : (l.take (i + 4)).drop i = [rd l i, rd l (i + 1 : Nat), rd l (i + 2 : Nat), rd l (i + 3 : Nat)] := by
  apply List.ext_getElem
  · simp; omega
  · intro j h1 h2
    simp at h2
    rcases j with _ | _ | _ | _ | j
    · simp [rd, List.getD_eq_getElem?_getD, show i < l.length by omega]
    · simp [rd, List.getD_eq_getElem?_getD, show i + 1 < l.length by omega]
    · simp [rd, List.getD_eq_getElem?_getD, show ((i : Int) + 2).toNat = i + 2 by omega, show i + 2 < l.length by omega]
    · simp [rd, List.getD_eq_getElem?_getD, show ((i : Int) + 3).toNat = i + 3 by omega, show i + 3 < l.length by omega]
    · omega
theorem specGet16 (l : List Int) (hb : Bytes l) (hl : l.length ≤ 140737488351232) (at_ : Int) (ha : -9223372036854775808 ≤ at_ ∧ at_ ≤ 9223372036854775807) :
    spec_Get16.f l at_ = some (getV l at_ 2) := by
  unfold spec_Get16.f getV
  by_cases h1 : at_ < 0
  · rw [if_pos h1, if_pos (Or.inl h1)]
  rw [if_neg h1, w64 (show -9223372036854775808 ≤ (l.length : Int) - 2 by omega) (by omega)]
  by_cases h2 : at_ > (l.length : Int) - 2
  · rw [if_pos h2, if_pos (Or.inr (by omega))]
  rw [if_neg h2, if_neg (show ¬ (at_ < 0 ∨ 2 > (l.length : Int) - at_) by omega), w64 (show -9223372036854775808 ≤ at_ + 1 by omega) (by omega), if_pos (by omega), if_pos (by omega), if_pos (by omega), if_pos (by omega)]
  obtain ⟨i, rfl⟩ := Int.eq_ofNat_of_zero_le (show 0 ≤ at_ by omega)
  have r0 := hb.rd (i : Int); have r1 := hb.rd ((i : Int) + 1)
  rw [show ((i : Int) + 2).toNat = i + 2 by omega, show (i : Int).toNat = i by omega, cut_two l i (by omega), be_two, show ((i + 1 : Nat) : Int) = (i : Int) + 1 by omega]
  simp only [w64 (show -9223372036854775808 ≤ rd l (i : Int) by omega) (by omega), w64 (show -9223372036854775808 ≤ rd l (i : Int) * 256 by omega) (by omega), w64 (show -9223372036854775808 ≤ rd l ((i : Int) + 1) by omega) (by omega), w64 (show -9223372036854775808 ≤ (i : Int) + 2 by omega) (by omega)]
  rw [w64 (by omega) (by omega)]
end Go.Proofs.Ytedbpnfkeabpnaa.Pure

/- Plain lemmas on the printed functions that read, measure and compare lists of lists of bytes, and names. -/
namespace Go.Proofs.Ytedbpnfkeabpnaa.Pure
open Go Go.RowKit Go.Proofs.Ytedbpnfkeabpnaa.Q Go.Proofs.YtedbpnfkeabpnaaW.PrintWords Go.Proofs.YtedbpnfkeabpnaaW.PrintLast Go.Proofs.YtedbpnfkeabpnaaW.PrintMore
set_option linter.unusedVariables false
set_option linter.unusedSimpArgs false

theorem rdL_at (l : List (List Int)) (i : Nat) (h : i < l.length) : rd_L10 l (i : Int) = l[i] := by simp [rd_L10, List.getD_eq_getElem?_getD, h]
def lens (l : List (List Int)) : Nat := (l.map List.length).sum
theorem lens_drop (l : List (List Int)) (i : Nat) (h : i < l.length) : lens (l.drop i) = l[i].length + lens (l.drop (i + 1)) := by
  rw [List.drop_eq_getElem_cons h]; simp only [lens, List.map_cons, List.sum_cons]
theorem len_le_lens (l : List (List Int)) (i : Nat) (h : i < l.length) : l[i].length ≤ lens l := by
  induction l generalizing i with
  | nil => simp at h
  | cons x l ih =>
    cases i with
    | zero => simp [lens]
    | succ i => have := ih i (by simpa using h); simp [lens] at this ⊢; omega
theorem szByteS (l : List Int) (left : Int) (hl : l.length ≤ 9223372036854775807) (h0 : 0 ≤ left) (h1 : left ≤ 1048576) : ∃ t, laws_szByteS.f l left = some t ∧ (t < 0 ∨ (t = left - l.length ∧ 0 ≤ t)) := by
  unfold laws_szByteS.f
  rw [w64 (by omega) (by omega)]
  by_cases h : left - (l.length : Int) < 0
  · exact ⟨-1, by rw [if_pos h], Or.inl (by omega)⟩
  · exact ⟨left - l.length, by rw [if_neg h], Or.inr ⟨rfl, by omega⟩⟩
theorem szByteSS_l0 (l : List (List Int)) (hl : l.length ≤ 1048576) (he : ∀ x ∈ l, x.length ≤ 9223372036854775807) (m : Nat) : ∀ (i : Nat) (left : Int), l.length = i + m → 0 ≤ left → left ≤ 1048576 →
    ∃ t, Ev (fun k => laws_szByteSS.l0 k l left i) t ∧ (t < 0 ∨ (t = left - lens (l.drop i) ∧ 0 ≤ t)) := by
  induction m with
  | zero =>
    intro i left hi h0 h1
    refine ⟨left, Ev.step (f := fun _ => some left) (fun k => ?_) (Ev.now _), Or.inr ⟨by rw [List.drop_of_length_le (by omega)]; simp [lens], h0⟩⟩
    simp only [laws_szByteSS.l0]
    rw [if_neg (by omega)]
  | succ m ih =>
    intro i left hi h0 h1
    have hil : i < l.length := by omega
    obtain ⟨t, ht, hc⟩ := szByteS l[i] left (he _ (List.getElem_mem hil)) h0 h1
    by_cases hneg : t < 0
    · refine ⟨-1, Ev.step (f := fun _ => some (-1)) (fun k => ?_) (Ev.now _), Or.inl (by omega)⟩
      simp only [laws_szByteSS.l0]
      rw [if_pos (by omega), if_pos (by omega), rdL_at l i hil, ht]
      simp [hneg]
    · obtain ⟨u, hu, hcu⟩ := ih (i + 1) t (by omega) (by omega) (by omega)
      refine ⟨u, Ev.step (fun k => ?_) hu, ?_⟩
      · simp only [laws_szByteSS.l0]
        rw [if_pos (by omega), if_pos (by omega), rdL_at l i hil, ht, w64 (x := (i : Int) + 1) (by omega) (by omega)]
        simp [hneg]
      · rw [lens_drop l i hil]
        rcases hcu with h | h
        · exact Or.inl h
        · exact Or.inr (by omega)
theorem szByteSS (l : List (List Int)) (left : Int) (hl : l.length ≤ 9223372036854775807) (he : ∀ x ∈ l, x.length ≤ 9223372036854775807) (h0 : 0 ≤ left) (h1 : left ≤ 1048576) :
    ∃ t, Ev (fun k => laws_szByteSS.f k l left) t ∧ (t < 0 ∨ (t = left - l.length - lens l ∧ 0 ≤ t)) := by
  unfold laws_szByteSS.f
  rw [w64 (by omega) (by omega)]
  by_cases h : left - (l.length : Int) < 0
  · exact ⟨-1, by simp only [if_pos h]; exact Ev.now _, Or.inl (by omega)⟩
  · obtain ⟨t, ht, hc⟩ := szByteSS_l0 l (by omega) he l.length 0 (left - l.length) (by omega) (by omega) (by omega)
    exact ⟨t, by simp only [if_neg h]; exact ht, by rw [List.drop_zero] at hc; omega⟩
theorem szName (l : List (List Int)) (left : Int) (hl : l.length ≤ 9223372036854775807) (he : ∀ x ∈ l, x.length ≤ 9223372036854775807) (h0 : 0 ≤ left) (h1 : left ≤ 1048576) :
    ∃ t, Ev (fun k => laws_szName.f k l left) t ∧ (t < 0 ∨ (t = left - l.length - lens l ∧ 0 ≤ t)) := by
  obtain ⟨t, ht, hc⟩ := szByteSS l left hl he h0 h1
  unfold laws_szName.f
  by_cases h : t < 0
  · exact ⟨-1, Ev.bind ht (by simp only [if_pos h]; exact Ev.now _), Or.inl (by omega)⟩
  · exact ⟨t, Ev.bind ht (by simp only [if_neg h]; exact Ev.now _), hc⟩

theorem setL_prefix (l : List (List Int)) (i : Nat) (h : i < l.length) (m : Nat) (hm : l.length = i + m + 1) :
    (l.take i ++ List.replicate (m+1) []).set i l[i] = l.take (i+1) ++ List.replicate m [] := by
  rw [List.set_append_right _ _ (by simp; omega)]
  simp only [List.length_take, Nat.min_eq_left (Nat.le_of_lt h), Nat.sub_self, List.replicate_succ, List.set_cons_zero]
  rw [List.take_succ_eq_append_getElem h, List.append_assoc]
  simp
theorem toByteSS_l0 (l : List (List Int)) (hl : l.length ≤ 11728124029610) (he : ∀ x ∈ l, x.length ≤ 140737488351232) (m : Nat) : ∀ (i : Nat), l.length = i + m →
    Ev (fun k => laws_toByteSS.l0 k l (l.take i ++ List.replicate m []) i) l := by
  induction m with
  | zero =>
    intro i hi
    refine Ev.step (f := fun _ => some l) (fun k => ?_) (Ev.now _)
    simp only [laws_toByteSS.l0]
    rw [if_neg (by omega)]
    simp [List.take_of_length_le (show l.length ≤ i by omega)]
  | succ m ih =>
    intro i hi
    have hil : i < l.length := by omega
    refine Ev.step (f := fun k => (laws_toByteS.f k l[i]).bind fun t => laws_toByteSS.l0 k l ((l.take i ++ List.replicate (m + 1) []).set i t) ((i + 1 : Nat) : Int)) (fun k => ?_) ?_
    · simp only [laws_toByteSS.l0]
      rw [if_pos (by omega), if_pos (by omega), rdL_at l i hil, w64 (x := (i : Int) + 1) (by omega) (by omega)]
      simp only [if_pos (show (i : Int) < ((l.take i ++ List.replicate (m + 1) ([] : List Int)).length : Int) by simp; omega), show ((i : Int)).toNat = i by omega]
      rfl
    · refine Ev.bind (toByteS l[i] (he _ (List.getElem_mem hil))) ?_
      rw [setL_prefix l i hil m (by omega)]
      exact ih (i + 1) (by omega)
theorem toByteSS (l : List (List Int)) (hl : l.length ≤ 11728124029610) (he : ∀ x ∈ l, x.length ≤ 140737488351232) : Ev (fun k => laws_toByteSS.f k l) l := by
  unfold laws_toByteSS.f
  simp only [if_pos (show 0 ≤ (l.length : Int) by omega), if_pos (show ((l.length : Int)).toNat ≤ 11728124029610 by omega)]
  simpa using toByteSS_l0 l hl he l.length 0 (by omega)
theorem toName (l : List (List Int)) (hl : l.length ≤ 11728124029610) (he : ∀ x ∈ l, x.length ≤ 140737488351232) : Ev (fun k => laws_toName.f k l) l := by
  unfold laws_toName.f
  exact Ev.bind (toByteSS l hl he) (Ev.now _)

theorem eqByteSS_l0 (l : List (List Int)) (hl : l.length ≤ 11728124029610) (he : ∀ x ∈ l, x.length ≤ 140737488351232) (m : Nat) : ∀ (i : Nat), l.length = i + m →
    Ev (fun k => laws_eqByteSS.l0 k l l i) true := by
  induction m with
  | zero =>
    intro i hi
    refine Ev.step (f := fun _ => some true) (fun k => ?_) (Ev.now _)
    simp only [laws_eqByteSS.l0]
    rw [if_neg (by omega)]
  | succ m ih =>
    intro i hi
    have hil : i < l.length := by omega
    refine Ev.step (f := fun k => (laws_eqByteS.f k l[i] l[i]).bind fun t => if t = true then laws_eqByteSS.l0 k l l ((i + 1 : Nat) : Int) else some false) (fun k => ?_) ?_
    · simp only [laws_eqByteSS.l0]
      rw [if_pos (by omega), if_pos (by omega), rdL_at l i hil, w64 (x := (i : Int) + 1) (by omega) (by omega), if_pos (by omega)]
      rfl
    · refine Ev.bind (eqByteS l[i] (he _ (List.getElem_mem hil))) ?_
      simp only [if_true]
      exact ih (i + 1) (by omega)
theorem eqByteSS (l : List (List Int)) (hl : l.length ≤ 11728124029610) (he : ∀ x ∈ l, x.length ≤ 140737488351232) : Ev (fun k => laws_eqByteSS.f k l l) true := by
  unfold laws_eqByteSS.f
  simp only [if_pos]
  exact eqByteSS_l0 l hl he l.length 0 (by omega)
theorem eqName (l : List (List Int)) (hl : l.length ≤ 11728124029610) (he : ∀ x ∈ l, x.length ≤ 140737488351232) : Ev (fun k => laws_eqName.f k l l) true := by
  unfold laws_eqName.f
  refine Ev.bind (eqByteSS l hl he) ?_
  simp only [if_true]; exact Ev.now _
end Go.Proofs.Ytedbpnfkeabpnaa.Pure

/- Plain lemmas on the printed functions that say whether labels and names are right, and whether one name lies under another. -/
namespace Go.Proofs.Ytedbpnfkeabpnaa.Pure
open Go Go.RowKit Go.Proofs.Ytedbpnfkeabpnaa.Q Go.Proofs.YtedbpnfkeabpnaaW.PrintWords Go.Proofs.YtedbpnfkeabpnaaW.PrintLast Go.Proofs.YtedbpnfkeabpnaaW.PrintMore
set_option linter.unusedVariables false
set_option linter.unusedSimpArgs false
theorem specLabelOk_l0 (l : List Int) (hl : l.length ≤ 140737488351232) (m : Nat) : ∀ (i : Nat), l.length = i + m →
    Ev (fun k => spec_LabelOk.l0 k l i) ((l.drop i).all impl_LabelOk.byte) := by
  induction m with
  | zero =>
    intro i hi
    rw [List.drop_of_length_le (by omega)]
    refine Ev.step (f := fun _ => some true) (fun k => ?_) (Ev.now _)
    simp only [spec_LabelOk.l0]
    rw [if_neg (by omega)]
  | succ m ih =>
    intro i hi
    have hil : i < l.length := by omega
    have e : rd l (i : Int) = l[i] := by simp [rd, List.getD_eq_getElem?_getD, hil]
    rw [List.drop_eq_getElem_cons hil, List.all_cons]
    by_cases hb : impl_LabelOk.byte l[i] = true
    · rw [hb, Bool.true_and]
      refine Ev.step (fun k => ?_) (ih (i+1) (by omega))
      simp only [spec_LabelOk.l0]
      rw [if_pos (by omega), if_pos (by omega), e, w64 (by omega) (by omega)]
      unfold impl_LabelOk.byte at hb
      generalize l[i] = x at *
      by_cases h1 : x ≥ 97 <;> by_cases h2 : x ≤ 122 <;> by_cases h3 : x ≥ 48 <;> by_cases h4 : x ≤ 57 <;> by_cases h5 : x = 45 <;> first | omega | (simp [h1, h2, h3, h4, h5] at hb ⊢; try omega)
    · rw [Bool.not_eq_true] at hb
      rw [hb, Bool.false_and]
      refine Ev.step (f := fun _ => some false) (fun k => ?_) (Ev.now _)
      simp only [spec_LabelOk.l0]
      rw [if_pos (by omega), if_pos (by omega), e]
      unfold impl_LabelOk.byte at hb
      generalize l[i] = x at *
      by_cases h1 : x ≥ 97 <;> by_cases h2 : x ≤ 122 <;> by_cases h3 : x ≥ 48 <;> by_cases h4 : x ≤ 57 <;> by_cases h5 : x = 45 <;> first | omega | (simp [h1, h2, h3, h4, h5] at hb ⊢; try omega)
theorem specLabelOk (l : List Int) (hl : l.length ≤ 140737488351232) : Ev (fun k => spec_LabelOk.f k l) (impl_LabelOk.v l) := by
  unfold spec_LabelOk.f impl_LabelOk.v
  by_cases h1 : (l.length : Int) < 1
  · simp only [if_pos h1]
    rw [decide_eq_false (show ¬ 1 ≤ l.length by omega)]
    refine Ev.step (f := fun _ => some false) (fun k => ?_) (Ev.now _)
    simp [spec_LabelOk.j0]
  · simp only [if_neg h1]
    rw [decide_eq_true (show 1 ≤ l.length by omega)]
    by_cases h2 : (l.length : Int) > 15
    · rw [decide_eq_true h2, decide_eq_false (show ¬ l.length ≤ 15 by omega)]
      refine Ev.step (f := fun _ => some false) (fun k => ?_) (Ev.now _)
      simp [spec_LabelOk.j0]
    · rw [decide_eq_false h2, decide_eq_true (show l.length ≤ 15 by omega)]
      have := specLabelOk_l0 l hl l.length 0 (by omega)
      rw [List.drop_zero] at this
      refine Ev.step (fun k => ?_) this
      simp [spec_LabelOk.j0]
theorem specNameOk_l0 (l : List (List Int)) (hl : l.length ≤ 1048576) (he : ∀ x ∈ l, x.length ≤ 140737488351232) (m : Nat) : ∀ (i : Nat), l.length = i + m →
    Ev (fun k => spec_NameOk.l0 k i l) ((l.drop i).all impl_LabelOk.v) := by
  induction m with
  | zero =>
    intro i hi
    rw [List.drop_of_length_le (by omega)]
    refine Ev.step (f := fun _ => some true) (fun k => ?_) (Ev.now _)
    simp only [spec_NameOk.l0]
    rw [if_neg (by omega)]
  | succ m ih =>
    intro i hi
    have hil : i < l.length := by omega
    rw [List.drop_eq_getElem_cons hil, List.all_cons]
    refine Ev.step (f := fun k => (spec_LabelOk.f k l[i]).bind fun t => if t = true then spec_NameOk.l0 k ((i + 1 : Nat) : Int) l else some false) (fun k => ?_) ?_
    · simp only [spec_NameOk.l0]
      rw [if_pos (by omega), if_pos (by omega), rdL_at l i hil, w64 (x := (i : Int) + 1) (by omega) (by omega)]
      rfl
    · refine Ev.bind (specLabelOk l[i] (he _ (List.getElem_mem hil))) ?_
      cases hb : impl_LabelOk.v l[i] with
      | true => simp only [if_true, Bool.true_and]; exact ih (i + 1) (by omega)
      | false => simp only [Bool.false_eq_true, if_false, Bool.false_and]; exact Ev.now _
theorem specNameOk (l : List (List Int)) (hl : l.length ≤ 1048576) (he : ∀ x ∈ l, x.length ≤ 140737488351232) : Ev (fun k => spec_NameOk.f k l) (impl_NameOk.v l) := by
  unfold spec_NameOk.f impl_NameOk.v
  by_cases h : (l.length : Int) > 6
  · simp only [if_pos h]
    rw [decide_eq_false (show ¬ l.length ≤ 6 by omega)]
    exact Ev.now _
  · simp only [if_neg h]
    rw [decide_eq_true (show l.length ≤ 6 by omega), Bool.true_and]
    simpa using specNameOk_l0 l hl he l.length 0 (by omega)
end Go.Proofs.Ytedbpnfkeabpnaa.Pure

/- Plain lemmas on the printed functions that compare names, and say whether one lies under another. -/
namespace Go.Proofs.Ytedbpnfkeabpnaa.Pure
open Go Go.RowKit Go.Proofs.Ytedbpnfkeabpnaa.Q Go.Proofs.YtedbpnfkeabpnaaW.PrintWords Go.Proofs.YtedbpnfkeabpnaaW.PrintLast Go.Proofs.YtedbpnfkeabpnaaW.PrintMore
set_option linter.unusedVariables false
set_option linter.unusedSimpArgs false

theorem bytesLess_irrefl (l : List UInt8) : Op.bytesLess l l = false := by
  induction l with
  | nil => rfl
  | cons a l ih => simp [Op.bytesLess, ih]
def cb (a b : List Int) : Int := spec_l2bytes.v a b
def same (a b : List Int) : Bool := (strOfNums a).toList == (strOfNums b).toList
theorem cb_zero (a b : List Int) : cb a b = 0 ↔ same a b = true := by
  unfold cb spec_l2bytes.v same
  by_cases h : ((strOfNums a).toList == (strOfNums b).toList) = true
  · have e := eq_of_beq h
    rw [e, bytesLess_irrefl]; simp
  · have hf : ((strOfNums a).toList == (strOfNums b).toList) = false := by simpa using h
    rw [hf]
    by_cases h2 : Op.bytesLess (strOfNums a).toList (strOfNums b).toList = true
    · rw [if_pos h2]; simp
    · rw [if_neg h2]; simp
/-- Two lists of labels, compared from their heads on. -/
def cmpL : List (List Int) → List (List Int) → Int
  | [], [] => 0
  | [], _ :: _ => -1
  | _ :: _, [] => 1
  | x :: xs, y :: ys => if cb x y = 0 then cmpL xs ys else cb x y
def nameCmpV (a b : List (List Int)) : Int := cmpL a.reverse b.reverse
theorem rev_at (l : List (List Int)) (i : Nat) (h : i < l.length) : rd_L10 l ((l.length : Int) - ((i + 1 : Nat) : Int)) = l.reverse[i]'(by simpa using h) := by
  have e : ((l.length : Int) - ((i + 1 : Nat) : Int)) = ((l.length - 1 - i : Nat) : Int) := by omega
  rw [e, rdL_at l _ (by omega), List.getElem_reverse]
theorem cmpL_lens (a b : List (List Int)) : cmpL [] [] = 0 := rfl
theorem specCmp_l0 (a b : List (List Int)) (ha : a.length ≤ 1048576) (hb : b.length ≤ 1048576) (m : Nat) : ∀ (i : Nat), min a.length b.length = i + m →
    Ev (fun k => spec_l2cmp.l0 k ((i + 1 : Nat) : Int) a b) (cmpL (a.reverse.drop i) (b.reverse.drop i)) := by
  induction m with
  | zero =>
    intro i hi
    have hend : cmpL (a.reverse.drop i) (b.reverse.drop i) = if (a.length : Int) = (b.length : Int) then 0 else if (a.length : Int) < (b.length : Int) then -1 else 1 := by
      by_cases h1 : a.length = b.length
      · rw [List.drop_of_length_le (by simp; omega), List.drop_of_length_le (by simp; omega), if_pos (by omega)]; rfl
      · by_cases h2 : a.length < b.length
        · rw [List.drop_of_length_le (l := a.reverse) (by simp; omega), List.drop_eq_getElem_cons (l := b.reverse) (by simp; omega), if_neg (by omega), if_pos (by omega)]; rfl
        · rw [List.drop_of_length_le (l := b.reverse) (by simp; omega), List.drop_eq_getElem_cons (l := a.reverse) (by simp; omega), if_neg (by omega), if_neg (by omega)]; rfl
    rw [hend]
    refine Ev.step (f := fun k => spec_l2cmp.j1 k ((i + 1 : Nat) : Int) false a b) (fun k => ?_) ?_
    · simp only [spec_l2cmp.l0]
      by_cases h : ((i + 1 : Nat) : Int) ≤ (a.length : Int)
      · rw [if_pos h, decide_eq_false (by omega)]
      · rw [if_neg h]
    · refine Ev.step (f := fun _ => some (if (a.length : Int) = (b.length : Int) then 0 else if (a.length : Int) < (b.length : Int) then -1 else 1)) (fun k => ?_) (Ev.now _)
      simp only [spec_l2cmp.j1, Bool.false_eq_true, if_false]
      by_cases h1 : (a.length : Int) = (b.length : Int)
      · rw [if_pos h1, if_pos h1]
      · by_cases h2 : (a.length : Int) < (b.length : Int)
        · rw [if_neg h1, if_pos h2, if_neg h1, if_pos h2]
        · rw [if_neg h1, if_neg h2, if_neg h1, if_neg h2]
  | succ m ih =>
    intro i hi
    have h1 : i < a.length := by omega
    have h2 : i < b.length := by omega
    rw [List.drop_eq_getElem_cons (l := a.reverse) (by simpa using h1), List.drop_eq_getElem_cons (l := b.reverse) (by simpa using h2)]
    have ea := rev_at a i h1
    have eb := rev_at b i h2
    generalize hx : a.reverse[i]'(by simpa using h1) = x at ea ⊢
    generalize hy : b.reverse[i]'(by simpa using h2) = y at eb ⊢
    refine Ev.step (f := fun k => spec_l2cmp.j1 k ((i + 1 : Nat) : Int) true a b) (fun k => ?_) ?_
    · simp only [spec_l2cmp.l0]
      rw [if_pos (by omega), decide_eq_true (by omega)]
    · refine Ev.step (f := fun k => if cb x y = 0 then spec_l2cmp.l0 k ((i + 1 + 1 : Nat) : Int) a b else some (cb x y)) (fun k => ?_) ?_
      · simp only [spec_l2cmp.j1, if_true]
        rw [w64 (x := (a.length : Int) - ((i + 1 : Nat) : Int)) (by omega) (by omega), w64 (x := (b.length : Int) - ((i + 1 : Nat) : Int)) (by omega) (by omega), if_pos (by omega), if_pos (by omega), if_pos (by omega), if_pos (by omega), ea, eb, w64 (x := ((i + 1 : Nat) : Int) + 1) (by omega) (by omega)]
        rfl
      · show Ev _ (if cb x y = 0 then cmpL _ _ else cb x y)
        by_cases hc : cb x y = 0
        · simp only [if_pos hc]; exact ih (i + 1) (by omega)
        · simp only [if_neg hc]; exact Ev.now _
theorem specCmp (a b : List (List Int)) (ha : a.length ≤ 1048576) (hb : b.length ≤ 1048576) : Ev (fun k => spec_l2cmp.f k a b) (nameCmpV a b) := by
  have := specCmp_l0 a b ha hb (min a.length b.length) 0 (by omega)
  simpa [spec_l2cmp.f, nameCmpV] using this
theorem cmpL_zero (a b : List (List Int)) : cmpL a b = 0 ↔ a.length = b.length ∧ (a.zip b).all (fun z => same z.1 z.2) = true := by
  induction a generalizing b with
  | nil => cases b <;> simp [cmpL]
  | cons x a ih =>
    cases b with
    | nil => simp [cmpL]
    | cons y b =>
      simp only [cmpL]
      by_cases hc : cb x y = 0
      · have hs := (cb_zero x y).1 hc
        rw [if_pos hc, ih b]; simp [hs]
      · have hs : ¬ same x y = true := fun h => hc ((cb_zero x y).2 h)
        rw [if_neg hc]; simp [hc, hs]
theorem zip_reverse_all (a b : List (List Int)) (h : a.length = b.length) (p : List Int × List Int → Bool) : (a.reverse.zip b.reverse).all p = (a.zip b).all p := by
  induction a generalizing b with
  | nil => simp
  | cons x a ih =>
    cases b with
    | nil => simp at h
    | cons y b =>
      simp at h
      rw [List.reverse_cons, List.reverse_cons, List.zip_append (by simpa using h), List.all_append, ih b h]
      simp [Bool.and_comm]
theorem compareBytes_eq (a b : List UInt8) : Lib.compareBytes a b = if Op.bytesLess a b = true then -1 else if (a == b) = true then 0 else 1 := by
  induction a generalizing b with
  | nil => cases b <;> simp [Lib.compareBytes, Op.bytesLess]
  | cons x a ih =>
    cases b with
    | nil => simp [Lib.compareBytes, Op.bytesLess]
    | cons y b =>
      simp only [Lib.compareBytes, Op.bytesLess]
      by_cases h1 : x < y
      · simp [h1]
      · by_cases h2 : y < x
        · have h3 : x ≠ y := by intro e; subst e; exact h1 h2
          simp [h1, h2, h3]
        · have h3 : x = y := by
            have a1 := UInt8.not_lt.1 h1
            have a2 := UInt8.not_lt.1 h2
            exact UInt8.le_antisymm a2 a1
          subst h3
          simp only [h1, if_false, decide_false, Bool.false_or, BEq.rfl, Bool.true_and, ih b]
          simp
theorem compareV (a b : List Int) : bytes_Compare.f a b = some (cb a b) := by
  unfold bytes_Compare.f cb spec_l2bytes.v
  rw [compareBytes_eq]
  simp only [Go.ByteArray.toList_eq]
theorem cmpInt (a b : Int) : cmp_Compare_int.f a b = some (if a < b then -1 else if a > b then 1 else 0) := by
  unfold cmp_Compare_int.f cmp_isNaN_int.f
  by_cases h1 : a < b <;> by_cases h2 : a > b <;> simp [h1, h2]
theorem implCmp_l0 (a b : List (List Int)) (ha : a.length ≤ 1048576) (hb : b.length ≤ 1048576) (m : Nat) : ∀ (i : Nat), min a.length b.length = i + m →
    Ev (fun k => impl_Name_compare.l0 k ((i + 1 : Nat) : Int) a b) (cmpL (a.reverse.drop i) (b.reverse.drop i)) := by
  induction m with
  | zero =>
    intro i hi
    have hend : cmpL (a.reverse.drop i) (b.reverse.drop i) = if (a.length : Int) < (b.length : Int) then -1 else if (a.length : Int) > (b.length : Int) then 1 else 0 := by
      by_cases h1 : a.length = b.length
      · rw [List.drop_of_length_le (by simp; omega), List.drop_of_length_le (by simp; omega), if_neg (by omega), if_neg (by omega)]; rfl
      · by_cases h2 : a.length < b.length
        · rw [List.drop_of_length_le (l := a.reverse) (by simp; omega), List.drop_eq_getElem_cons (l := b.reverse) (by simp; omega), if_pos (by omega)]; rfl
        · rw [List.drop_of_length_le (l := b.reverse) (by simp; omega), List.drop_eq_getElem_cons (l := a.reverse) (by simp; omega), if_neg (by omega), if_pos (by omega)]; rfl
    rw [hend]
    refine Ev.step (f := fun _ => some (if (a.length : Int) < (b.length : Int) then -1 else if (a.length : Int) > (b.length : Int) then 1 else 0)) (fun k => ?_) (Ev.now _)
    simp only [impl_Name_compare.l0]
    rw [if_neg (by unfold mn; split <;> omega), cmpInt]
    rfl
  | succ m ih =>
    intro i hi
    have h1 : i < a.length := by omega
    have h2 : i < b.length := by omega
    rw [List.drop_eq_getElem_cons (l := a.reverse) (by simpa using h1), List.drop_eq_getElem_cons (l := b.reverse) (by simpa using h2)]
    have ea := rev_at a i h1
    have eb := rev_at b i h2
    generalize hx : a.reverse[i]'(by simpa using h1) = x at ea ⊢
    generalize hy : b.reverse[i]'(by simpa using h2) = y at eb ⊢
    refine Ev.step (f := fun k => if cb x y = 0 then impl_Name_compare.l0 k ((i + 1 + 1 : Nat) : Int) a b else some (cb x y)) (fun k => ?_) ?_
    · simp only [impl_Name_compare.l0]
      rw [if_pos (by unfold mn; split <;> omega), w64 (x := (a.length : Int) - ((i + 1 : Nat) : Int)) (by omega) (by omega), w64 (x := (b.length : Int) - ((i + 1 : Nat) : Int)) (by omega) (by omega), if_pos (by omega), if_pos (by omega), if_pos (by omega), if_pos (by omega), ea, eb, w64 (x := ((i + 1 : Nat) : Int) + 1) (by omega) (by omega), compareV]
      rfl
    · show Ev _ (if cb x y = 0 then cmpL _ _ else cb x y)
      by_cases hc : cb x y = 0
      · simp only [if_pos hc]; exact ih (i + 1) (by omega)
      · simp only [if_neg hc]; exact Ev.now _
theorem implCmp (a b : List (List Int)) (ha : a.length ≤ 1048576) (hb : b.length ≤ 1048576) : Ev (fun k => impl_Name_compare.f k a b) (nameCmpV a b) := by
  have := implCmp_l0 a b ha hb (min a.length b.length) 0 (by omega)
  simpa [impl_Name_compare.f, nameCmpV] using this
def nameCmpOkV (a b : List (List Int)) : Int := if impl_NameOk.v a = true then (if impl_NameOk.v b = true then nameCmpV a b else 0) else 0
theorem specNameCmp (a b : List (List Int)) (ha : a.length ≤ 1048576) (hb : b.length ≤ 1048576) (hae : ∀ x ∈ a, x.length ≤ 140737488351232) (hbe : ∀ x ∈ b, x.length ≤ 140737488351232) : Ev (fun k => spec_NameCmp.f k a b) (nameCmpOkV a b) := by
  unfold spec_NameCmp.f nameCmpOkV
  refine Ev.bind (specNameOk a ha hae) ?_
  by_cases h1 : impl_NameOk.v a = true
  · simp only [if_pos h1]
    refine Ev.bind (specNameOk b hb hbe) ?_
    by_cases h2 : impl_NameOk.v b = true
    · simp only [if_pos h2]; exact Ev.bind (specCmp a b ha hb) (Ev.now _)
    · simp only [if_neg h2]; exact Ev.now _
  · simp only [if_neg h1]; exact Ev.now _
theorem implNameCmp (a b : List (List Int)) (ha : a.length ≤ 1048576) (hb : b.length ≤ 1048576) : Ev (fun k => impl_NameCmp.f k a b) (nameCmpOkV a b) := by
  unfold impl_NameCmp.f nameCmpOkV impl_NameOk.f
  simp only [Option.bind_some]
  by_cases h1 : impl_NameOk.v a = true
  · simp only [if_pos h1]
    by_cases h2 : impl_NameOk.v b = true
    · simp only [if_pos h2]; exact Ev.bind (implCmp a b ha hb) (Ev.now _)
    · simp only [if_neg h2]; exact Ev.now _
  · simp only [if_neg h1]; exact Ev.now _
end Go.Proofs.Ytedbpnfkeabpnaa.Pure

/- The statement FnExactNameCmp: at every two names the reference and the program compare alike. No condition. -/
namespace Go.Proofs.Ytedbpnfkeabpnaa.Pure
open Go Go.RowKit Go.Proofs.Ytedbpnfkeabpnaa.Q Go.Proofs.YtedbpnfkeabpnaaW.PrintWords Go.Proofs.YtedbpnfkeabpnaaW.PrintLast
theorem FnExactNameCmp : laws_FnExactNameCmp.Pure := by
  intro x0 x1 h0 h1
  have hl : x0.f0.length ≤ 9223372036854775807 := h0.1
  have he : ∀ x ∈ x0.f0, x.length ≤ 9223372036854775807 := fun x hx => (h0.2 x hx).1
  have hl1 : x1.f0.length ≤ 9223372036854775807 := h1.1
  have he1 : ∀ x ∈ x1.f0, x.length ≤ 9223372036854775807 := fun x hx => (h1.2 x hx).1
  generalize x0.f0 = a at hl he
  generalize x1.f0 = b at hl1 he1
  apply Ev.rounds
  unfold laws_FnExactNameCmp.f
  obtain ⟨t, ht, hc⟩ := szName a 1048576 hl he (by omega) (by omega)
  refine Ev.bind ht ?_
  by_cases h : t < 0
  · simp only [if_pos h]; exact Ev.now _
  simp only [if_neg h]
  obtain ⟨u, hu, hcu⟩ := szName b t hl1 he1 (by omega) (by omega)
  refine Ev.bind hu ?_
  by_cases h' : u < 0
  · simp only [if_pos h']; exact Ev.now _
  simp only [if_neg h']
  have ha : a.length ≤ 1048576 := by omega
  have hae : ∀ x ∈ a, x.length ≤ 140737488351232 := fun x hx => by
    obtain ⟨i, hi, rfl⟩ := List.getElem_of_mem hx
    have := len_le_lens a i hi
    omega
  have hb : b.length ≤ 1048576 := by omega
  have hbe : ∀ x ∈ b, x.length ≤ 140737488351232 := fun x hx => by
    obtain ⟨i, hi, rfl⟩ := List.getElem_of_mem hx
    have := len_le_lens b i hi
    omega
  refine Ev.bind (toName a (by omega) hae) ?_
  refine Ev.bind (toName b (by omega) hbe) ?_
  refine Ev.bind (specNameCmp a b ha hb hae hbe) ?_
  refine Ev.bind (toName a (by omega) hae) ?_
  refine Ev.bind (toName b (by omega) hbe) ?_
  refine Ev.bind (implNameCmp a b ha hb) ?_
  simp only [if_true]
  refine Ev.bind (toName a (by omega) hae) ?_
  refine Ev.bind (eqName a (by omega) hae) ?_
  simp only [if_true]
  refine Ev.bind (toName b (by omega) hbe) ?_
  refine Ev.bind (eqName b (by omega) hbe) ?_
  simp only [if_true]; exact Ev.now _
end Go.Proofs.Ytedbpnfkeabpnaa.Pure

