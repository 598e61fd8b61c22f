/- Plain lemmas for the statement FnExactPrescan. -/
import Derived.Test.YtagedmajlppohaaGreatZFnExactPrescan0
import Derived.Test.YtagedmajlppohaaGreatZFnExactPrescan1
import Derived.Test.YtagedmajlppohaaGreatZFnExactPrescan2
import Derived.Test.YtagedmajlppohaaGreatZFnExactPrescan3
import Derived.Test.YtagedmajlppohaaGreatVFnExactPrescan
import Derived.Deep.Slices
import Derived.Lib.SmallJoins
import Derived.OpenShut
/- What an argument reads as, kind by kind: from the form's reading of a datum to the print's kinds (Kd). -/
namespace Go.Proofs.YtagedmajlppohaaGreat.Open
open Go Go.RowKit Go.Deep Go.ChangeShapes Go.WideShapes Go.ChangeAt Go.Proofs.YtagedmajlppohaaGreatW.PrintWords
set_option linter.unusedVariables false
variable {H : Type} {enc : TypeId × Value → H} {P : Program} {W : World} {sp : Nat → Bool} {held : Bool}

/-- Whatever cells are read as a datum of type t are those of a y of the kind d, of which ok holds. -/
def Opens (enc : TypeId × Value → H) (P : Program) (W : World) (sp : Nat → Bool) (held : Bool) {α : Type} (d : Kd α) (ok : α → Prop) (t : TypeId) : Prop :=
  ∀ fuel cs x, DataW.trod enc P W 0 sp held fuel t cs = some x → ∃ y : α, d.K W y cs ∧ ok y

theorem opens_int {t : TypeId} {k : IntKind} (ht : P.underlying t = some (.int k)) : Opens enc P W sp held (Kd.int k) (fun x => (Lit.int k x).wf = true) t := by
  intro fuel cs x h;obtain ⟨a, rfl, _, hw⟩ := DataW.trod_int ht h;exact ⟨a, rfl, hw⟩
theorem opens_bool {t : TypeId} (ht : P.underlying t = some .bool) : Opens enc P W sp held Kd.bool (fun _ => True) t := by
  intro fuel cs x h;obtain ⟨a, rfl, _⟩ := DataW.trod_bool ht h;exact ⟨a, rfl, trivial⟩

theorem list_of {α : Type} {n : Nat} {Q : Nat → α → Prop} (h : ∀ i, i < n → ∃ y, Q i y) : ∃ l : List α, l.length = n ∧ ∀ i y, l[i]? = some y → Q i y := by
  induction n with
  | zero => exact ⟨[], rfl, fun i y hy => by simp at hy⟩
  | succ n ih =>
    obtain ⟨l, hl, hq⟩ := ih (fun i hi => h i (by omega));obtain ⟨y, hy⟩ := h n (by omega);refine ⟨l ++ [y], by simp [hl], fun i z hz => ?_⟩;by_cases hi : i < n
    · rw [List.getElem?_append_left (by omega)] at hz; exact hq i z hz
    · by_cases e : i = n
      · subst e
        rw [List.getElem?_append_right (by omega), hl, Nat.sub_self] at hz;simp at hz; subst hz; exact hy
      · rw [List.getElem?_eq_none (by simp; omega)] at hz; cases hz

theorem opens_slice {α : Type} {d : Kd α} {ok : α → Prop} {t e : TypeId} (ht : P.underlying t = some (.slice e)) (hs : d.sz = P.cellsOf e) (h : Opens enc P W sp held d ok e) :
    Opens enc P W sp held (Kd.slice e d) (fun l => l.length ≤ maxLen ∧ ∀ x ∈ l, ok x) t := by
  intro fuel cs x hx;rcases open_slice ht hx with ⟨rfl, _⟩ | ⟨a, len, cap, m, n, D, Pl, rfl, _, hl, hm, hmm, _, hel⟩
  · exact ⟨[], ⟨none, 0, rfl, Nat.le_refl _, Kd.C_nil d W⟩, by simp, by simp⟩
  · have hlm : len ≤ m := by rw [hmm]; split <;> omega
    obtain ⟨l, hll, hq⟩ := list_of (n := len) (Q := fun i (y : α) => ∃ c, W.cells? 0 (a.add (i * P.cellsOf e)) (P.cellsOf e) = some c ∧ d.K W y c ∧ ok y) (fun i hi => by
      obtain ⟨c, h1, h2⟩ := hel i (by omega);obtain ⟨y, hy, hok⟩ := h _ _ _ h2
      exact ⟨y, c, h1, hy, hok⟩)
    refine ⟨l, ⟨some a, cap, by rw [hll], by omega, rfl, by rw [hll]; unfold maxLen at hm; omega, fun _ => ⟨a, rfl, fun j p hj => ?_⟩⟩, by omega, fun x hx => ?_⟩
    · obtain ⟨c, h1, h2, _⟩ := hq j p hj
      obtain ⟨_, hlen, hc⟩ := World.cells?_some h1;refine ⟨c, by rw [hlen, hs], h2, fun i u hu => ?_⟩;have hi : i < c.length := (List.getElem?_eq_some_iff.1 hu).1;have h3 := hc i (by omega);rw [hs, ← Go.Proofs.YtagedmajlppohaaGreatW.PrintWords.add_add, h3, hu]
    · obtain ⟨i, hi⟩ := List.mem_iff_getElem?.1 hx
      obtain ⟨_, _, _, hok⟩ := hq i x hi;exact hok

/-- The fields of a struct, from place o on, as one kind. -/
def OpensF (enc : TypeId × Value → H) (P : Program) (W : World) (sp : Nat → Bool) (held : Bool) {α : Type} (d : Kd α) (ok : α → Prop) (fs : List Field) (o n : Nat) : Prop :=
  ∀ (fuel : Nat) (cs : List Value), cs.length = o + n → (∀ f ∈ fs, ∃ x, DataW.trod enc P W 0 sp held fuel f.type ((cs.drop f.offset).take (P.cellsOf f.type)) = some x) → ∃ y : α, d.K W y (cs.drop o) ∧ ok y
theorem opensF_one {α : Type} {d : Kd α} {ok : α → Prop} {f : Field} {o n : Nat} (ho : f.offset = o) (hn : P.cellsOf f.type = n) (h : Opens enc P W sp held d ok f.type) : OpensF enc P W sp held d ok [f] o n := by
  intro fuel cs hl hf;obtain ⟨x, hx⟩ := hf f (by simp);rw [ho, hn, List.take_of_length_le (by simp; omega)] at hx;exact h _ _ _ hx
theorem opensF_cons {α β : Type} {d : Kd α} {d' : Kd β} {ok : α → Prop} {ok' : β → Prop} {f : Field} {fs : List Field} {o n m : Nat} (ho : f.offset = o) (hn : P.cellsOf f.type = n) (h : Opens enc P W sp held d ok f.type) (hr : OpensF enc P W sp held d' ok' fs (o + n) m) :
    OpensF enc P W sp held (Kd.pair d d') (fun y => ok y.1 ∧ ok' y.2) (f :: fs) o (n + m) := by
  intro fuel cs hl hf;obtain ⟨x, hx⟩ := hf f (by simp);rw [ho, hn] at hx;obtain ⟨y, hy, hoky⟩ := h _ _ _ hx;obtain ⟨z, hz, hokz⟩ := hr fuel cs (by omega) (fun g hg => hf g (by simp [hg]));refine ⟨(y, z), ⟨(cs.drop o).take n, cs.drop (o + n), ?_, hy, hz⟩, hoky, hokz⟩;rw [← List.drop_drop, List.take_append_drop]
theorem opens_struct {α β : Type} {d : Kd α} {ok : α → Prop} {t : TypeId} {fs : Array Field} {n : Nat} (f : β → α) (g : α → β) (hfg : ∀ y, f (g y) = y) (ht : P.underlying t = some (.struct fs)) (hn : P.cellsOf t = n) (h : OpensF enc P W sp held d ok fs.toList 0 n) :
    Opens enc P W sp held (Kd.iso d f) (fun y => ok (f y)) t := by
  intro fuel cs x hx;obtain ⟨xs, m, _, rfl, hl, hlen, hf⟩ := DataW.trod_struct ht hx
  obtain ⟨y, hy, hok⟩ := h m cs (by omega) (fun fl hfl => by
    obtain ⟨i, hi⟩ := List.mem_iff_getElem?.1 hfl;have hfi := hf i fl (by simpa using hi);have hil : i < xs.length := by rw [hlen]; have := (List.getElem?_eq_some_iff.1 hi).1; simpa using this
    exact ⟨xs[i], by rw [hfi, List.getElem?_eq_getElem hil]⟩)
  exact ⟨g y, by show d.K W (f (g y)) cs; rw [hfg]; simpa using hy, by show ok (f (g y)); rw [hfg]; exact hok⟩
/-- An argument of a struct's type. -/
theorem open_arg {r : Reach} {b0 : Nat} {α : Type} {d : Kd α} {ok : α → Prop} {t : TypeId} {fs : Array Field} {v : Value} {dt : DataW H} {p : List MemPlace} (ht : P.underlying t = some (.struct fs)) (hv : Value.okWide P W r b0 t v) (h : DataW.Trod enc P W 0 sp held t v dt p) (ho : Opens enc P W sp held d ok t) :
    ∃ (cs : List Value) (y : α), v = .agg cs.toArray ∧ d.K W y cs ∧ ok y := by
  obtain ⟨cs, rfl, hsz⟩ := okWide_struct ht hv;obtain ⟨fuel, hf⟩ := h;obtain ⟨y, hy, hok⟩ := ho _ _ _ hf;exact ⟨cs.toList, y, by simp, by simpa [Value.cells] using hy, hok⟩
end Go.Proofs.YtagedmajlppohaaGreat.Open

-- Written by a program of this session (wip/myprint.py): what each type of the laws' parameters reads as.
namespace Go.Proofs.YtagedmajlppohaaGreat.Q
open Go Go.RowKit Go.Proofs.YtagedmajlppohaaGreat.Open Go.Proofs.YtagedmajlppohaaGreatW.PrintWords
set_option linter.unusedVariables false
def qw7 (x : Int) : Prop := (Lit.int .u8 x).wf = true
theorem opensT5 {H : Type} {enc : TypeId × Value → H} {W : World} : Opens enc Tryz.prog W (fun _ => true) true (Kd.int .u8) qw7 5 := opens_int Tryz.underlying5
def qaV (l : List Int) : Prop := l.length ≤ maxLen ∧ ∀ x ∈ l, qw7 x
theorem opensT45 {H : Type} {enc : TypeId × Value → H} {W : World} : Opens enc Tryz.prog W (fun _ => true) true (Kd.slice 5 (Kd.int .u8)) qaV 45 := opens_slice Tryz.underlying45 (by kernel_rfl) opensT5
def qkc (l : List (List Int)) : Prop := l.length ≤ maxLen ∧ ∀ x ∈ l, qaV x
theorem opensT22 {H : Type} {enc : TypeId × Value → H} {W : World} : Opens enc Tryz.prog W (fun _ => true) true (Kd.slice 45 (Kd.slice 5 (Kd.int .u8))) qkc 22 := opens_slice Tryz.underlying22 (by kernel_rfl) opensT45
def YG (x : S24) : Prop := qkc x.f0
theorem opensT24 {H : Type} {enc : TypeId × Value → H} {W : World} : Opens enc Tryz.prog W (fun _ => true) true k24 YG 24 := by
  have h := opens_struct (d := (Kd.slice 45 (Kd.slice 5 (Kd.int .u8)))) (ok := qkc) (enc := enc) (P := Tryz.prog) (W := W) (sp := fun _ => true) (held := true) (fun x : S24 => x.f0) (fun y => (⟨y⟩ : S24)) (fun _ => rfl) Tryz.underlying24 (n := 1) (by kernel_rfl) (by
    refine opensF_one (d := (Kd.slice 45 (Kd.slice 5 (Kd.int .u8)))) (ok := qkc) (n := 1) ?ho ?hn ?h; (case ho => rfl); (case hn => kernel_rfl); (case h => exact opensT22))
  exact h
def ZR (x : Int) : Prop := (Lit.int .i64 x).wf = true
theorem opensT3 {H : Type} {enc : TypeId × Value → H} {W : World} : Opens enc Tryz.prog W (fun _ => true) true (Kd.int .i64) ZR 3 := opens_int Tryz.underlying3
def qaU (l : List Int) : Prop := l.length ≤ maxLen ∧ ∀ x ∈ l, ZR x
theorem opensT46 {H : Type} {enc : TypeId × Value → H} {W : World} : Opens enc Tryz.prog W (fun _ => true) true (Kd.slice 3 (Kd.int .i64)) qaU 46 := opens_slice Tryz.underlying46 (by kernel_rfl) opensT3
def qeN (x : S48) : Prop := YG x.f0 ∧ (ZR x.f1 ∧ (ZR x.f2 ∧ (ZR x.f3 ∧ (YG x.f4 ∧ (qaV x.f5 ∧ (qaU x.f6))))))
theorem opensT48 {H : Type} {enc : TypeId × Value → H} {W : World} : Opens enc Tryz.prog W (fun _ => true) true k48 qeN 48 := by
  have h := opens_struct (d := Kd.pair (k24) (Kd.pair ((Kd.int .i64)) (Kd.pair ((Kd.int .i64)) (Kd.pair ((Kd.int .i64)) (Kd.pair (k24) (Kd.pair ((Kd.slice 5 (Kd.int .u8))) ((Kd.slice 3 (Kd.int .i64))))))))) (ok := (fun y => YG y.1 ∧ (fun y => ZR y.1 ∧ (fun y => ZR y.1 ∧ (fun y => ZR y.1 ∧ (fun y => YG y.1 ∧ (fun y => qaV y.1 ∧ qaU y.2) y.2) y.2) y.2) y.2) y.2)) (enc := enc) (P := Tryz.prog) (W := W) (sp := fun _ => true) (held := true) (fun x : S48 => (x.f0, x.f1, x.f2, x.f3, x.f4, x.f5, x.f6)) (fun y => (⟨y.1, y.2.1, y.2.2.1, y.2.2.2.1, y.2.2.2.2.1, y.2.2.2.2.2.1, y.2.2.2.2.2.2⟩ : S48)) (fun _ => rfl) Tryz.underlying48 (n := 7) (by kernel_rfl) (by
    refine opensF_cons (d := k24) (ok := YG) (d' := Kd.pair ((Kd.int .i64)) (Kd.pair ((Kd.int .i64)) (Kd.pair ((Kd.int .i64)) (Kd.pair (k24) (Kd.pair ((Kd.slice 5 (Kd.int .u8))) ((Kd.slice 3 (Kd.int .i64)))))))) (ok' := (fun y => ZR y.1 ∧ (fun y => ZR y.1 ∧ (fun y => ZR y.1 ∧ (fun y => YG y.1 ∧ (fun y => qaV y.1 ∧ qaU y.2) y.2) y.2) y.2) y.2)) (n := 1) (m := 6) ?ho ?hn ?h ?_; (case ho => rfl); (case hn => kernel_rfl); (case h => exact opensT24);refine opensF_cons (d := (Kd.int .i64)) (ok := ZR) (d' := Kd.pair ((Kd.int .i64)) (Kd.pair ((Kd.int .i64)) (Kd.pair (k24) (Kd.pair ((Kd.slice 5 (Kd.int .u8))) ((Kd.slice 3 (Kd.int .i64))))))) (ok' := (fun y => ZR y.1 ∧ (fun y => ZR y.1 ∧ (fun y => YG y.1 ∧ (fun y => qaV y.1 ∧ qaU y.2) y.2) y.2) y.2)) (n := 1) (m := 5) ?ho ?hn ?h ?_; (case ho => rfl); (case hn => kernel_rfl); (case h => exact opensT3);refine opensF_cons (d := (Kd.int .i64)) (ok := ZR) (d' := Kd.pair ((Kd.int .i64)) (Kd.pair (k24) (Kd.pair ((Kd.slice 5 (Kd.int .u8))) ((Kd.slice 3 (Kd.int .i64)))))) (ok' := (fun y => ZR y.1 ∧ (fun y => YG y.1 ∧ (fun y => qaV y.1 ∧ qaU y.2) y.2) y.2)) (n := 1) (m := 4) ?ho ?hn ?h ?_; (case ho => rfl); (case hn => kernel_rfl); (case h => exact opensT3);refine opensF_cons (d := (Kd.int .i64)) (ok := ZR) (d' := Kd.pair (k24) (Kd.pair ((Kd.slice 5 (Kd.int .u8))) ((Kd.slice 3 (Kd.int .i64))))) (ok' := (fun y => YG y.1 ∧ (fun y => qaV y.1 ∧ qaU y.2) y.2)) (n := 1) (m := 3) ?ho ?hn ?h ?_; (case ho => rfl); (case hn => kernel_rfl); (case h => exact opensT3);refine opensF_cons (d := k24) (ok := YG) (d' := Kd.pair ((Kd.slice 5 (Kd.int .u8))) ((Kd.slice 3 (Kd.int .i64)))) (ok' := (fun y => qaV y.1 ∧ qaU y.2)) (n := 1) (m := 2) ?ho ?hn ?h ?_; (case ho => rfl); (case hn => kernel_rfl); (case h => exact opensT24);refine opensF_cons (d := (Kd.slice 5 (Kd.int .u8))) (ok := qaV) (d' := (Kd.slice 3 (Kd.int .i64))) (ok' := qaU) (n := 1) (m := 1) ?ho ?hn ?h ?_; (case ho => rfl); (case hn => kernel_rfl); (case h => exact opensT45)
    refine opensF_one (d := (Kd.slice 3 (Kd.int .i64))) (ok := qaU) (n := 1) ?ho ?hn ?h; (case ho => rfl); (case hn => kernel_rfl); (case h => exact opensT46))
  exact h
def qgr (l : List (S48)) : Prop := l.length ≤ maxLen ∧ ∀ x ∈ l, qeN x
theorem opensT25 {H : Type} {enc : TypeId × Value → H} {W : World} : Opens enc Tryz.prog W (fun _ => true) true (Kd.slice 48 k48) qgr 25 := opens_slice Tryz.underlying25 (by kernel_rfl) opensT48
def qqP (x : S27) : Prop := YG x.f0 ∧ (qgr x.f1)
theorem opensT27 {H : Type} {enc : TypeId × Value → H} {W : World} : Opens enc Tryz.prog W (fun _ => true) true k27 qqP 27 := by
  have h := opens_struct (d := Kd.pair (k24) ((Kd.slice 48 k48))) (ok := (fun y => YG y.1 ∧ qgr y.2)) (enc := enc) (P := Tryz.prog) (W := W) (sp := fun _ => true) (held := true) (fun x : S27 => (x.f0, x.f1)) (fun y => (⟨y.1, y.2⟩ : S27)) (fun _ => rfl) Tryz.underlying27 (n := 2) (by kernel_rfl) (by
    refine opensF_cons (d := k24) (ok := YG) (d' := (Kd.slice 48 k48)) (ok' := qgr) (n := 1) (m := 1) ?ho ?hn ?h ?_; (case ho => rfl); (case hn => kernel_rfl); (case h => exact opensT24)
    refine opensF_one (d := (Kd.slice 48 k48)) (ok := qgr) (n := 1) ?ho ?hn ?h; (case ho => rfl); (case hn => kernel_rfl); (case h => exact opensT25))
  exact h
def qg7 (_ : Bool) : Prop := True
theorem opensT4 {H : Type} {enc : TypeId × Value → H} {W : World} : Opens enc Tryz.prog W (fun _ => true) true Kd.bool qg7 4 := opens_bool Tryz.underlying4
def qqN (x : S50) : Prop := qeN x.f0 ∧ (ZR x.f1 ∧ (qg7 x.f2))
theorem opensT50 {H : Type} {enc : TypeId × Value → H} {W : World} : Opens enc Tryz.prog W (fun _ => true) true k50 qqN 50 := by
  have h := opens_struct (d := Kd.pair (k48) (Kd.pair ((Kd.int .i64)) (Kd.bool))) (ok := (fun y => qeN y.1 ∧ (fun y => ZR y.1 ∧ qg7 y.2) y.2)) (enc := enc) (P := Tryz.prog) (W := W) (sp := fun _ => true) (held := true) (fun x : S50 => (x.f0, x.f1, x.f2)) (fun y => (⟨y.1, y.2.1, y.2.2⟩ : S50)) (fun _ => rfl) Tryz.underlying50 (n := 9) (by kernel_rfl) (by
    refine opensF_cons (d := k48) (ok := qeN) (d' := Kd.pair ((Kd.int .i64)) (Kd.bool)) (ok' := (fun y => ZR y.1 ∧ qg7 y.2)) (n := 7) (m := 2) ?ho ?hn ?h ?_; (case ho => rfl); (case hn => kernel_rfl); (case h => exact opensT48);refine opensF_cons (d := (Kd.int .i64)) (ok := ZR) (d' := Kd.bool) (ok' := qg7) (n := 1) (m := 1) ?ho ?hn ?h ?_; (case ho => rfl); (case hn => kernel_rfl); (case h => exact opensT3)
    refine opensF_one (d := Kd.bool) (ok := qg7) (n := 1) ?ho ?hn ?h; (case ho => rfl); (case hn => kernel_rfl); (case h => exact opensT4))
  exact h
def qqO (l : List (S50)) : Prop := l.length ≤ maxLen ∧ ∀ x ∈ l, qqN x
theorem opensT28 {H : Type} {enc : TypeId × Value → H} {W : World} : Opens enc Tryz.prog W (fun _ => true) true (Kd.slice 50 k50) qqO 28 := opens_slice Tryz.underlying28 (by kernel_rfl) opensT50
end Go.Proofs.YtagedmajlppohaaGreat.Q

-- Written by a program of this session (wip/myprint.py): the pure statement of a law.
namespace Go.Proofs.YtagedmajlppohaaGreat.Q
open Go Go.RowKit
def Qf.Pure : Prop := ∀ (x0 : S27) (x1 : List (S50)), qqP x0 → qqO x1 → ∃ k, Qf.f k x0.f0.f0 x0.f1 x1 = some true
end Go.Proofs.YtagedmajlppohaaGreat.Q

/- Plain lemmas on the printed functions: a list of bytes read into a new one, two lists compared, a number read from bytes. -/
namespace Go.Proofs.YtagedmajlppohaaGreat.Pure
open Go Go.RowKit Go.Proofs.YtagedmajlppohaaGreat.Q Go.Proofs.YtagedmajlppohaaGreatW.PrintWords Go.Proofs.YtagedmajlppohaaGreatW.PrintLast Go.Proofs.YtagedmajlppohaaGreatW.PrintMore
set_option linter.unusedVariables false
set_option linter.unusedSimpArgs false

/-- Every element is a byte. -/
def Bytes (l : List Int) : Prop := ∀ x ∈ l, 0 ≤ x ∧ x ≤ 255
theorem i64_of_wf {x : Int} (h : (Lit.int .i64 x).wf = true) : -9223372036854775808 ≤ x ∧ x ≤ 9223372036854775807 := by
  simp [Lit.wf, IntKind.min, IntKind.max, IntKind.signed, IntKind.bits] at h
  omega
theorem w64 {x : Int} (h1 : -9223372036854775808 ≤ x) (h2 : x ≤ 9223372036854775807) : wrap64 x = x := by
  unfold wrap64; omega
theorem Ev.here {α : Type} {g : Nat → Option α} {r : α} (h : ∀ k, g k = some r) : Ev g r := ⟨0, fun k _ => h k⟩

theorem set_prefix (l : List Int) (i : Nat) (h : i < l.length) (m : Nat) (hm : l.length = i + m + 1) :
    (l.take i ++ List.replicate (m+1) 0).set i (l.getD i 0) = l.take (i+1) ++ List.replicate m 0 := by
  rw [List.set_append_right _ _ (by simp; omega)];simp only [List.length_take, Nat.min_eq_left (Nat.le_of_lt h), Nat.sub_self, List.replicate_succ, List.set_cons_zero];rw [List.take_succ_eq_append_getElem h, List.append_assoc];simp [List.getD_eq_getElem?_getD, h]

theorem toByteS_l0 (l : List Int) (hl : l.length ≤ 140737488351232) (m : Nat) : ∀ (i : Nat), l.length = i + m →
    Ev (fun k => jX.l0 k l (l.take i ++ List.replicate m 0) i) l := by
  induction m with
  | zero =>
    intro i hi;refine Ev.step (f := fun _ => some l) (fun k => ?_) (Ev.now _);simp only [jX.l0];rw [if_neg (by omega)];simp [List.take_of_length_le (show l.length ≤ i by omega)]
  | succ m ih =>
    intro i hi;refine Ev.step (fun k => ?_) (ih (i+1) (by omega));simp only [jX.l0];rw [if_pos (by omega), if_pos (by omega), if_pos (by simp; omega), w64 (by omega) (by omega)];rw [show rd l (i : Int) = l.getD i 0 by simp [rd], show ((i : Int)).toNat = i by omega, set_prefix l i (by omega) m (by omega)];rfl
theorem toByteS (l : List Int) (hl : l.length ≤ 140737488351232) : Ev (fun k => jX.f k l) l := by
  unfold jX.f;simp only [if_pos (show 0 ≤ (l.length : Int) by omega), if_pos (show ((l.length : Int)).toNat ≤ 281474976710656 by omega)];simpa using toByteS_l0 l hl l.length 0 (by omega)

theorem eqByteS_l0 (l : List Int) (hl : l.length ≤ 140737488351232) (m : Nat) : ∀ (i : Nat), l.length = i + m →
    Ev (fun k => js.l0 k l l i) true := by
  induction m with
  | zero =>
    intro i hi;refine Ev.step (f := fun _ => some true) (fun k => ?_) (Ev.now _);simp only [js.l0];rw [if_neg (by omega)]
  | succ m ih =>
    intro i hi;refine Ev.step (fun k => ?_) (ih (i+1) (by omega));simp only [js.l0];rw [if_pos (by omega), if_pos (by omega), if_pos (by omega), if_pos trivial, w64 (by omega) (by omega)];rfl
theorem eqByteS (l : List Int) (hl : l.length ≤ 140737488351232) : Ev (fun k => js.f k l l) true := by
  unfold js.f;simp only [if_pos];exact eqByteS_l0 l hl l.length 0 (by omega)

end Go.Proofs.YtagedmajlppohaaGreat.Pure

/- Plain lemmas on the printed functions that read, measure and compare lists of lists of bytes, and names. -/
namespace Go.Proofs.YtagedmajlppohaaGreat.Pure
open Go Go.RowKit Go.Proofs.YtagedmajlppohaaGreat.Q Go.Proofs.YtagedmajlppohaaGreatW.PrintWords Go.Proofs.YtagedmajlppohaaGreatW.PrintLast Go.Proofs.YtagedmajlppohaaGreatW.PrintMore
set_option linter.unusedVariables false
set_option linter.unusedSimpArgs false

theorem rdL_at (l : List (List Int)) (i : Nat) (h : i < l.length) : qN l (i : Int) = l[i] := by simp [qN, List.getD_eq_getElem?_getD, h]
def lens (l : List (List Int)) : Nat := (l.map List.length).sum
theorem lens_drop (l : List (List Int)) (i : Nat) (h : i < l.length) : lens (l.drop i) = l[i].length + lens (l.drop (i + 1)) := by
  rw [List.drop_eq_getElem_cons h]; simp only [lens, List.map_cons, List.sum_cons]
theorem len_le_lens (l : List (List Int)) (i : Nat) (h : i < l.length) : l[i].length ≤ lens l := by
  induction l generalizing i with
  | nil => simp at h
  | cons x l ih =>
    cases i with
    | zero => simp [lens]
    | succ i => have := ih i (by simpa using h); simp [lens] at this ⊢; omega
theorem szByteS (l : List Int) (left : Int) (hl : l.length ≤ 9223372036854775807) (h0 : 0 ≤ left) (h1 : left ≤ 1048576) : ∃ t, Qh.f l left = some t ∧ (t < 0 ∨ (t = left - l.length ∧ 0 ≤ t)) := by
  unfold Qh.f;rw [w64 (by omega) (by omega)];by_cases h : left - (l.length : Int) < 0
  · exact ⟨-1, by rw [if_pos h], Or.inl (by omega)⟩
  · exact ⟨left - l.length, by rw [if_neg h], Or.inr ⟨rfl, by omega⟩⟩
theorem szByteSS_l0 (l : List (List Int)) (hl : l.length ≤ 1048576) (he : ∀ x ∈ l, x.length ≤ 9223372036854775807) (m : Nat) : ∀ (i : Nat) (left : Int), l.length = i + m → 0 ≤ left → left ≤ 1048576 →
    ∃ t, Ev (fun k => jO.l0 k l left i) t ∧ (t < 0 ∨ (t = left - lens (l.drop i) ∧ 0 ≤ t)) := by
  induction m with
  | zero =>
    intro i left hi h0 h1;refine ⟨left, Ev.step (f := fun _ => some left) (fun k => ?_) (Ev.now _), Or.inr ⟨by rw [List.drop_of_length_le (by omega)]; simp [lens], h0⟩⟩;simp only [jO.l0];rw [if_neg (by omega)]
  | succ m ih =>
    intro i left hi h0 h1;have hil : i < l.length := by omega
    obtain ⟨t, ht, hc⟩ := szByteS l[i] left (he _ (List.getElem_mem hil)) h0 h1;by_cases hneg : t < 0
    · refine ⟨-1, Ev.step (f := fun _ => some (-1)) (fun k => ?_) (Ev.now _), Or.inl (by omega)⟩
      simp only [jO.l0];rw [if_pos (by omega), if_pos (by omega), rdL_at l i hil, ht];simp [hneg]
    · obtain ⟨u, hu, hcu⟩ := ih (i + 1) t (by omega) (by omega) (by omega)
      refine ⟨u, Ev.step (fun k => ?_) hu, ?_⟩
      · simp only [jO.l0]
        rw [if_pos (by omega), if_pos (by omega), rdL_at l i hil, ht, w64 (x := (i : Int) + 1) (by omega) (by omega)];simp [hneg]
      · rw [lens_drop l i hil]
        rcases hcu with h | h
        · exact Or.inl h
        · exact Or.inr (by omega)
theorem szByteSS (l : List (List Int)) (left : Int) (hl : l.length ≤ 9223372036854775807) (he : ∀ x ∈ l, x.length ≤ 9223372036854775807) (h0 : 0 ≤ left) (h1 : left ≤ 1048576) :
    ∃ t, Ev (fun k => jO.f k l left) t ∧ (t < 0 ∨ (t = left - l.length - lens l ∧ 0 ≤ t)) := by
  unfold jO.f;rw [w64 (by omega) (by omega)];by_cases h : left - (l.length : Int) < 0
  · exact ⟨-1, by simp only [if_pos h]; exact Ev.now _, Or.inl (by omega)⟩
  · obtain ⟨t, ht, hc⟩ := szByteSS_l0 l (by omega) he l.length 0 (left - l.length) (by omega) (by omega) (by omega)
    exact ⟨t, by simp only [if_neg h]; exact ht, by rw [List.drop_zero] at hc; omega⟩
theorem szName (l : List (List Int)) (left : Int) (hl : l.length ≤ 9223372036854775807) (he : ∀ x ∈ l, x.length ≤ 9223372036854775807) (h0 : 0 ≤ left) (h1 : left ≤ 1048576) :
    ∃ t, Ev (fun k => jN.f k l left) t ∧ (t < 0 ∨ (t = left - l.length - lens l ∧ 0 ≤ t)) := by
  obtain ⟨t, ht, hc⟩ := szByteSS l left hl he h0 h1;unfold jN.f;by_cases h : t < 0
  · exact ⟨-1, Ev.bind ht (by simp only [if_pos h]; exact Ev.now _), Or.inl (by omega)⟩
  · exact ⟨t, Ev.bind ht (by simp only [if_neg h]; exact Ev.now _), hc⟩
theorem setL_prefix (l : List (List Int)) (i : Nat) (h : i < l.length) (m : Nat) (hm : l.length = i + m + 1) :
    (l.take i ++ List.replicate (m+1) []).set i l[i] = l.take (i+1) ++ List.replicate m [] := by
  rw [List.set_append_right _ _ (by simp; omega)];simp only [List.length_take, Nat.min_eq_left (Nat.le_of_lt h), Nat.sub_self, List.replicate_succ, List.set_cons_zero];rw [List.take_succ_eq_append_getElem h, List.append_assoc];simp
theorem toByteSS_l0 (l : List (List Int)) (hl : l.length ≤ 11728124029610) (he : ∀ x ∈ l, x.length ≤ 140737488351232) (m : Nat) : ∀ (i : Nat), l.length = i + m →
    Ev (fun k => jY.l0 k l (l.take i ++ List.replicate m []) i) l := by
  induction m with
  | zero =>
    intro i hi;refine Ev.step (f := fun _ => some l) (fun k => ?_) (Ev.now _);simp only [jY.l0];rw [if_neg (by omega)];simp [List.take_of_length_le (show l.length ≤ i by omega)]
  | succ m ih =>
    intro i hi;have hil : i < l.length := by omega
    refine Ev.step (f := fun k => (jX.f k l[i]).bind fun t => jY.l0 k l ((l.take i ++ List.replicate (m + 1) []).set i t) ((i + 1 : Nat) : Int)) (fun k => ?_) ?_
    · simp only [jY.l0]
      rw [if_pos (by omega), if_pos (by omega), rdL_at l i hil, w64 (x := (i : Int) + 1) (by omega) (by omega)];simp only [if_pos (show (i : Int) < ((l.take i ++ List.replicate (m + 1) ([] : List Int)).length : Int) by simp; omega), show ((i : Int)).toNat = i by omega];rfl
    · refine Ev.bind (toByteS l[i] (he _ (List.getElem_mem hil))) ?_
      rw [setL_prefix l i hil m (by omega)];exact ih (i + 1) (by omega)
theorem toByteSS (l : List (List Int)) (hl : l.length ≤ 11728124029610) (he : ∀ x ∈ l, x.length ≤ 140737488351232) : Ev (fun k => jY.f k l) l := by
  unfold jY.f;simp only [if_pos (show 0 ≤ (l.length : Int) by omega), if_pos (show ((l.length : Int)).toNat ≤ 11728124029610 by omega)];simpa using toByteSS_l0 l hl he l.length 0 (by omega)
theorem toName (l : List (List Int)) (hl : l.length ≤ 11728124029610) (he : ∀ x ∈ l, x.length ≤ 140737488351232) : Ev (fun k => Qd.f k l) l := by
  unfold Qd.f;exact Ev.bind (toByteSS l hl he) (Ev.now _)
theorem eqByteSS_l0 (l : List (List Int)) (hl : l.length ≤ 11728124029610) (he : ∀ x ∈ l, x.length ≤ 140737488351232) (m : Nat) : ∀ (i : Nat), l.length = i + m →
    Ev (fun k => jP.l0 k l l i) true := by
  induction m with
  | zero =>
    intro i hi;refine Ev.step (f := fun _ => some true) (fun k => ?_) (Ev.now _);simp only [jP.l0];rw [if_neg (by omega)]
  | succ m ih =>
    intro i hi;have hil : i < l.length := by omega
    refine Ev.step (f := fun k => (js.f k l[i] l[i]).bind fun t => if t = true then jP.l0 k l l ((i + 1 : Nat) : Int) else some false) (fun k => ?_) ?_
    · simp only [jP.l0]
      rw [if_pos (by omega), if_pos (by omega), rdL_at l i hil, w64 (x := (i : Int) + 1) (by omega) (by omega), if_pos (by omega)];rfl
    · refine Ev.bind (eqByteS l[i] (he _ (List.getElem_mem hil))) ?_
      simp only [if_true];exact ih (i + 1) (by omega)
theorem eqByteSS (l : List (List Int)) (hl : l.length ≤ 11728124029610) (he : ∀ x ∈ l, x.length ≤ 140737488351232) : Ev (fun k => jP.f k l l) true := by
  unfold jP.f;simp only [if_pos];exact eqByteSS_l0 l hl he l.length 0 (by omega)
theorem eqName (l : List (List Int)) (hl : l.length ≤ 11728124029610) (he : ∀ x ∈ l, x.length ≤ 140737488351232) : Ev (fun k => jB.f k l l) true := by
  unfold jB.f;refine Ev.bind (eqByteSS l hl he) ?_;simp only [if_true]; exact Ev.now _
end Go.Proofs.YtagedmajlppohaaGreat.Pure

/- Plain lemmas on the printed functions that say whether labels and names are right, and whether one name lies under another. -/
namespace Go.Proofs.YtagedmajlppohaaGreat.Pure
open Go Go.RowKit Go.Proofs.YtagedmajlppohaaGreat.Q Go.Proofs.YtagedmajlppohaaGreatW.PrintWords Go.Proofs.YtagedmajlppohaaGreatW.PrintLast Go.Proofs.YtagedmajlppohaaGreatW.PrintMore
set_option linter.unusedVariables false
set_option linter.unusedSimpArgs false
theorem specLabelOk_l0 (l : List Int) (hl : l.length ≤ 140737488351232) (m : Nat) : ∀ (i : Nat), l.length = i + m →
    Ev (fun k => qY.l0 k l i) ((l.drop i).all jm.byte) := by
  induction m with
  | zero =>
    intro i hi;rw [List.drop_of_length_le (by omega)];refine Ev.step (f := fun _ => some true) (fun k => ?_) (Ev.now _);simp only [qY.l0];rw [if_neg (by omega)]
  | succ m ih =>
    intro i hi;have hil : i < l.length := by omega
    have e : rd l (i : Int) = l[i] := by simp [rd, List.getD_eq_getElem?_getD, hil]
    rw [List.drop_eq_getElem_cons hil, List.all_cons];by_cases hb : jm.byte l[i] = true
    · rw [hb, Bool.true_and]
      refine Ev.step (fun k => ?_) (ih (i+1) (by omega));simp only [qY.l0];rw [if_pos (by omega), if_pos (by omega), e, w64 (by omega) (by omega)];unfold jm.byte at hb;generalize l[i] = x at *;by_cases h1 : x ≥ 97 <;> by_cases h2 : x ≤ 122 <;> by_cases h3 : x ≥ 48 <;> by_cases h4 : x ≤ 57 <;> by_cases h5 : x = 45 <;> first | omega | (simp [h1, h2, h3, h4, h5] at hb ⊢; try omega)
    · rw [Bool.not_eq_true] at hb
      rw [hb, Bool.false_and];refine Ev.step (f := fun _ => some false) (fun k => ?_) (Ev.now _);simp only [qY.l0];rw [if_pos (by omega), if_pos (by omega), e];unfold jm.byte at hb;generalize l[i] = x at *;by_cases h1 : x ≥ 97 <;> by_cases h2 : x ≤ 122 <;> by_cases h3 : x ≥ 48 <;> by_cases h4 : x ≤ 57 <;> by_cases h5 : x = 45 <;> first | omega | (simp [h1, h2, h3, h4, h5] at hb ⊢; try omega)
theorem specLabelOk (l : List Int) (hl : l.length ≤ 140737488351232) : Ev (fun k => qY.f k l) (jm.v l) := by
  unfold qY.f jm.v;by_cases h1 : (l.length : Int) < 1
  · simp only [if_pos h1]
    rw [decide_eq_false (show ¬ 1 ≤ l.length by omega)];refine Ev.step (f := fun _ => some false) (fun k => ?_) (Ev.now _);simp [qY.j0]
  · simp only [if_neg h1]
    rw [decide_eq_true (show 1 ≤ l.length by omega)];by_cases h2 : (l.length : Int) > 15
    · rw [decide_eq_true h2, decide_eq_false (show ¬ l.length ≤ 15 by omega)]
      refine Ev.step (f := fun _ => some false) (fun k => ?_) (Ev.now _);simp [qY.j0]
    · rw [decide_eq_false h2, decide_eq_true (show l.length ≤ 15 by omega)]
      have := specLabelOk_l0 l hl l.length 0 (by omega);rw [List.drop_zero] at this;refine Ev.step (fun k => ?_) this;simp [qY.j0]
theorem specNameOk_l0 (l : List (List Int)) (hl : l.length ≤ 1048576) (he : ∀ x ∈ l, x.length ≤ 140737488351232) (m : Nat) : ∀ (i : Nat), l.length = i + m →
    Ev (fun k => qX.l0 k i l) ((l.drop i).all jm.v) := by
  induction m with
  | zero =>
    intro i hi;rw [List.drop_of_length_le (by omega)];refine Ev.step (f := fun _ => some true) (fun k => ?_) (Ev.now _);simp only [qX.l0];rw [if_neg (by omega)]
  | succ m ih =>
    intro i hi;have hil : i < l.length := by omega
    rw [List.drop_eq_getElem_cons hil, List.all_cons];refine Ev.step (f := fun k => (qY.f k l[i]).bind fun t => if t = true then qX.l0 k ((i + 1 : Nat) : Int) l else some false) (fun k => ?_) ?_
    · simp only [qX.l0]
      rw [if_pos (by omega), if_pos (by omega), rdL_at l i hil, w64 (x := (i : Int) + 1) (by omega) (by omega)];rfl
    · refine Ev.bind (specLabelOk l[i] (he _ (List.getElem_mem hil))) ?_
      cases hb : jm.v l[i] with
      | true => simp only [if_true, Bool.true_and]; exact ih (i + 1) (by omega)
      | false => simp only [Bool.false_eq_true, if_false, Bool.false_and]; exact Ev.now _
theorem specNameOk (l : List (List Int)) (hl : l.length ≤ 1048576) (he : ∀ x ∈ l, x.length ≤ 140737488351232) : Ev (fun k => qX.f k l) (qG.v l) := by
  unfold qX.f qG.v;by_cases h : (l.length : Int) > 6
  · simp only [if_pos h]
    rw [decide_eq_false (show ¬ l.length ≤ 6 by omega)];exact Ev.now _
  · simp only [if_neg h]
    rw [decide_eq_true (show l.length ≤ 6 by omega), Bool.true_and];simpa using specNameOk_l0 l hl he l.length 0 (by omega)
end Go.Proofs.YtagedmajlppohaaGreat.Pure

/- Plain lemmas on the printed functions that compare names, and say whether one lies under another. -/
namespace Go.Proofs.YtagedmajlppohaaGreat.Pure
open Go Go.RowKit Go.Proofs.YtagedmajlppohaaGreat.Q Go.Proofs.YtagedmajlppohaaGreatW.PrintWords Go.Proofs.YtagedmajlppohaaGreatW.PrintLast Go.Proofs.YtagedmajlppohaaGreatW.PrintMore
set_option linter.unusedVariables false
set_option linter.unusedSimpArgs false

theorem bytesLess_irrefl (l : List UInt8) : Op.bytesLess l l = false := by
  induction l with
  | nil => rfl
  | cons a l ih => simp [Op.bytesLess, ih]
def cb (a b : List Int) : Int := zp.v a b
def same (a b : List Int) : Bool := (strOfNums a).toList == (strOfNums b).toList
theorem cb_zero (a b : List Int) : cb a b = 0 ↔ same a b = true := by
  unfold cb zp.v same;by_cases h : ((strOfNums a).toList == (strOfNums b).toList) = true
  · have e := eq_of_beq h
    rw [e, bytesLess_irrefl]; simp
  · have hf : ((strOfNums a).toList == (strOfNums b).toList) = false := by simpa using h
    rw [hf];by_cases h2 : Op.bytesLess (strOfNums a).toList (strOfNums b).toList = true
    · rw [if_pos h2]; simp
    · rw [if_neg h2]; simp
/-- Two lists of labels, compared from their heads on. -/
def cmpL : List (List Int) → List (List Int) → Int
  | [], [] => 0
  | [], _ :: _ => -1
  | _ :: _, [] => 1
  | x :: xs, y :: ys => if cb x y = 0 then cmpL xs ys else cb x y
def nameCmpV (a b : List (List Int)) : Int := cmpL a.reverse b.reverse
theorem rev_at (l : List (List Int)) (i : Nat) (h : i < l.length) : qN l ((l.length : Int) - ((i + 1 : Nat) : Int)) = l.reverse[i]'(by simpa using h) := by
  have e : ((l.length : Int) - ((i + 1 : Nat) : Int)) = ((l.length - 1 - i : Nat) : Int) := by omega
  rw [e, rdL_at l _ (by omega), List.getElem_reverse]
theorem specCmp_l0 (a b : List (List Int)) (ha : a.length ≤ 1048576) (hb : b.length ≤ 1048576) (m : Nat) : ∀ (i : Nat), min a.length b.length = i + m →
    Ev (fun k => jf.l0 k ((i + 1 : Nat) : Int) a b) (cmpL (a.reverse.drop i) (b.reverse.drop i)) := by
  induction m with
  | zero =>
    intro i hi
    have hend : cmpL (a.reverse.drop i) (b.reverse.drop i) = if (a.length : Int) = (b.length : Int) then 0 else if (a.length : Int) < (b.length : Int) then -1 else 1 := by
      by_cases h1 : a.length = b.length
      · rw [List.drop_of_length_le (by simp; omega), List.drop_of_length_le (by simp; omega), if_pos (by omega)]; rfl
      · by_cases h2 : a.length < b.length
        · rw [List.drop_of_length_le (l := a.reverse) (by simp; omega), List.drop_eq_getElem_cons (l := b.reverse) (by simp; omega), if_neg (by omega), if_pos (by omega)]; rfl
        · rw [List.drop_of_length_le (l := b.reverse) (by simp; omega), List.drop_eq_getElem_cons (l := a.reverse) (by simp; omega), if_neg (by omega), if_neg (by omega)]; rfl
    rw [hend];refine Ev.step (f := fun k => jf.j1 k ((i + 1 : Nat) : Int) false a b) (fun k => ?_) ?_
    · simp only [jf.l0]
      by_cases h : ((i + 1 : Nat) : Int) ≤ (a.length : Int)
      · rw [if_pos h, decide_eq_false (by omega)]
      · rw [if_neg h]
    · refine Ev.step (f := fun _ => some (if (a.length : Int) = (b.length : Int) then 0 else if (a.length : Int) < (b.length : Int) then -1 else 1)) (fun k => ?_) (Ev.now _)
      simp only [jf.j1, Bool.false_eq_true, if_false];by_cases h1 : (a.length : Int) = (b.length : Int)
      · rw [if_pos h1, if_pos h1]
      · by_cases h2 : (a.length : Int) < (b.length : Int)
        · rw [if_neg h1, if_pos h2, if_neg h1, if_pos h2]
        · rw [if_neg h1, if_neg h2, if_neg h1, if_neg h2]
  | succ m ih =>
    intro i hi;have h1 : i < a.length := by omega
    have h2 : i < b.length := by omega
    rw [List.drop_eq_getElem_cons (l := a.reverse) (by simpa using h1), List.drop_eq_getElem_cons (l := b.reverse) (by simpa using h2)];have ea := rev_at a i h1;have eb := rev_at b i h2;generalize hx : a.reverse[i]'(by simpa using h1) = x at ea ⊢;generalize hy : b.reverse[i]'(by simpa using h2) = y at eb ⊢;refine Ev.step (f := fun k => jf.j1 k ((i + 1 : Nat) : Int) true a b) (fun k => ?_) ?_
    · simp only [jf.l0]
      rw [if_pos (by omega), decide_eq_true (by omega)]
    · refine Ev.step (f := fun k => if cb x y = 0 then jf.l0 k ((i + 1 + 1 : Nat) : Int) a b else some (cb x y)) (fun k => ?_) ?_
      · simp only [jf.j1, if_true]
        rw [w64 (x := (a.length : Int) - ((i + 1 : Nat) : Int)) (by omega) (by omega), w64 (x := (b.length : Int) - ((i + 1 : Nat) : Int)) (by omega) (by omega), if_pos (by omega), if_pos (by omega), if_pos (by omega), if_pos (by omega), ea, eb, w64 (x := ((i + 1 : Nat) : Int) + 1) (by omega) (by omega)];rfl
      · show Ev _ (if cb x y = 0 then cmpL _ _ else cb x y)
        by_cases hc : cb x y = 0
        · simp only [if_pos hc]; exact ih (i + 1) (by omega)
        · simp only [if_neg hc]; exact Ev.now _
theorem specCmp (a b : List (List Int)) (ha : a.length ≤ 1048576) (hb : b.length ≤ 1048576) : Ev (fun k => jf.f k a b) (nameCmpV a b) := by
  have := specCmp_l0 a b ha hb (min a.length b.length) 0 (by omega);simpa [jf.f, nameCmpV] using this
theorem cmpL_zero (a b : List (List Int)) : cmpL a b = 0 ↔ a.length = b.length ∧ (a.zip b).all (fun z => same z.1 z.2) = true := by
  induction a generalizing b with
  | nil => cases b <;> simp [cmpL]
  | cons x a ih =>
    cases b with
    | nil => simp [cmpL]
    | cons y b =>
      simp only [cmpL];by_cases hc : cb x y = 0
      · have hs := (cb_zero x y).1 hc
        rw [if_pos hc, ih b]; simp [hs]
      · have hs : ¬ same x y = true := fun h => hc ((cb_zero x y).2 h)
        rw [if_neg hc]; simp [hc, hs]
theorem zip_reverse_all (a b : List (List Int)) (h : a.length = b.length) (p : List Int × List Int → Bool) : (a.reverse.zip b.reverse).all p = (a.zip b).all p := by
  induction a generalizing b with
  | nil => simp
  | cons x a ih =>
    cases b with
    | nil => simp at h
    | cons y b =>
      simp at h
      rw [List.reverse_cons, List.reverse_cons, List.zip_append (by simpa using h), List.all_append, ih b h];simp [Bool.and_comm]
theorem nameCmpV_zero (a b : List (List Int)) : (nameCmpV a b == 0) = qV.v qF.eq a b := by
  unfold nameCmpV qV.v;by_cases h : a.length = b.length
  · rw [decide_eq_true h, Bool.true_and]
    have := cmpL_zero a.reverse b.reverse;rw [zip_reverse_all a b h] at this;cases hq : (a.zip b).all (fun z => qF.eq z.1 z.2) with
    | true => rw [beq_iff_eq, this]; exact ⟨by simpa using h, hq⟩
    | false =>
      rw [beq_eq_false_iff_ne];intro he;have h2 := (this.1 he).2;rw [show (a.zip b).all (fun z => same z.1 z.2) = (a.zip b).all (fun z => qF.eq z.1 z.2) from rfl, hq] at h2;cases h2
  · rw [decide_eq_false h, Bool.false_and, beq_eq_false_iff_ne]
    intro he;exact h (by simpa using ((cmpL_zero a.reverse b.reverse).1 he).1)
theorem specUnder2 (a b : List (List Int)) (ha : a.length ≤ 1048576) (hb : b.length ≤ 1048576) : Ev (fun k => jr.f k a b) (qF.v a b) := by
  unfold jr.f qF.v;simp only [w64 (x := (a.length : Int) - (b.length : Int)) (by omega) (by omega)];by_cases h : b.length ≤ a.length
  · simp only [if_pos (show (a.length : Int) - (b.length : Int) ≥ 0 by omega), if_pos (show 0 ≤ (a.length : Int) - (b.length : Int) by omega), if_pos (show (a.length : Int) - (b.length : Int) ≤ (a.length : Int) by omega), show ((a.length : Int) - (b.length : Int)).toNat = a.length - b.length by omega]
    rw [decide_eq_true h, Bool.true_and, ← nameCmpV_zero];exact Ev.bind (specCmp _ _ (by simp; omega) hb) (Ev.now _)
  · simp only [if_neg (show ¬ (a.length : Int) - (b.length : Int) ≥ 0 by omega)]
    rw [decide_eq_false h, Bool.false_and];exact Ev.now _
theorem compareBytes_eq (a b : List UInt8) : Lib.compareBytes a b = if Op.bytesLess a b = true then -1 else if (a == b) = true then 0 else 1 := by
  induction a generalizing b with
  | nil => cases b <;> simp [Lib.compareBytes, Op.bytesLess]
  | cons x a ih =>
    cases b with
    | nil => simp [Lib.compareBytes, Op.bytesLess]
    | cons y b =>
      simp only [Lib.compareBytes, Op.bytesLess];by_cases h1 : x < y
      · simp [h1]
      · by_cases h2 : y < x
        · have h3 : x ≠ y := by intro e; subst e; exact h1 h2
          simp [h1, h2, h3]
        · have h3 : x = y := by
            have a1 := UInt8.not_lt.1 h1;have a2 := UInt8.not_lt.1 h2;exact UInt8.le_antisymm a2 a1
          subst h3;simp only [h1, if_false, decide_false, Bool.false_or, BEq.rfl, Bool.true_and, ih b];simp
theorem compareV (a b : List Int) : jv.f a b = some (cb a b) := by
  unfold jv.f cb zp.v;rw [compareBytes_eq];simp only [Go.ByteArray.toList_eq]
theorem cmpInt (a b : Int) : yH.f a b = some (if a < b then -1 else if a > b then 1 else 0) := by
  unfold yH.f jR.f;by_cases h1 : a < b <;> by_cases h2 : a > b <;> simp [h1, h2]
theorem implCmp_l0 (a b : List (List Int)) (ha : a.length ≤ 1048576) (hb : b.length ≤ 1048576) (m : Nat) : ∀ (i : Nat), min a.length b.length = i + m →
    Ev (fun k => jj.l0 k ((i + 1 : Nat) : Int) a b) (cmpL (a.reverse.drop i) (b.reverse.drop i)) := by
  induction m with
  | zero =>
    intro i hi
    have hend : cmpL (a.reverse.drop i) (b.reverse.drop i) = if (a.length : Int) < (b.length : Int) then -1 else if (a.length : Int) > (b.length : Int) then 1 else 0 := by
      by_cases h1 : a.length = b.length
      · rw [List.drop_of_length_le (by simp; omega), List.drop_of_length_le (by simp; omega), if_neg (by omega), if_neg (by omega)]; rfl
      · by_cases h2 : a.length < b.length
        · rw [List.drop_of_length_le (l := a.reverse) (by simp; omega), List.drop_eq_getElem_cons (l := b.reverse) (by simp; omega), if_pos (by omega)]; rfl
        · rw [List.drop_of_length_le (l := b.reverse) (by simp; omega), List.drop_eq_getElem_cons (l := a.reverse) (by simp; omega), if_neg (by omega), if_pos (by omega)]; rfl
    rw [hend];refine Ev.step (f := fun _ => some (if (a.length : Int) < (b.length : Int) then -1 else if (a.length : Int) > (b.length : Int) then 1 else 0)) (fun k => ?_) (Ev.now _);simp only [jj.l0];rw [if_neg (by unfold mn; split <;> omega), cmpInt];rfl
  | succ m ih =>
    intro i hi;have h1 : i < a.length := by omega
    have h2 : i < b.length := by omega
    rw [List.drop_eq_getElem_cons (l := a.reverse) (by simpa using h1), List.drop_eq_getElem_cons (l := b.reverse) (by simpa using h2)];have ea := rev_at a i h1;have eb := rev_at b i h2;generalize hx : a.reverse[i]'(by simpa using h1) = x at ea ⊢;generalize hy : b.reverse[i]'(by simpa using h2) = y at eb ⊢;refine Ev.step (f := fun k => if cb x y = 0 then jj.l0 k ((i + 1 + 1 : Nat) : Int) a b else some (cb x y)) (fun k => ?_) ?_
    · simp only [jj.l0]
      rw [if_pos (by unfold mn; split <;> omega), w64 (x := (a.length : Int) - ((i + 1 : Nat) : Int)) (by omega) (by omega), w64 (x := (b.length : Int) - ((i + 1 : Nat) : Int)) (by omega) (by omega), if_pos (by omega), if_pos (by omega), if_pos (by omega), if_pos (by omega), ea, eb, w64 (x := ((i + 1 : Nat) : Int) + 1) (by omega) (by omega), compareV];rfl
    · show Ev _ (if cb x y = 0 then cmpL _ _ else cb x y)
      by_cases hc : cb x y = 0
      · simp only [if_pos hc]; exact ih (i + 1) (by omega)
      · simp only [if_neg hc]; exact Ev.now _
theorem implCmp (a b : List (List Int)) (ha : a.length ≤ 1048576) (hb : b.length ≤ 1048576) : Ev (fun k => jj.f k a b) (nameCmpV a b) := by
  have := implCmp_l0 a b ha hb (min a.length b.length) 0 (by omega);simpa [jj.f, nameCmpV] using this
end Go.Proofs.YtagedmajlppohaaGreat.Pure

/- Plain lemmas on the printed functions that read, measure and compare records, and say whether they are right. -/
namespace Go.Proofs.YtagedmajlppohaaGreat.Pure
open Go Go.RowKit Go.Proofs.YtagedmajlppohaaGreat.Q Go.Proofs.YtagedmajlppohaaGreatW.PrintWords Go.Proofs.YtagedmajlppohaaGreatW.PrintLast Go.Proofs.YtagedmajlppohaaGreatW.PrintMore
set_option linter.unusedVariables false
set_option linter.unusedSimpArgs false

/-- A name of any length that there can be, and one that fits. -/
def RawN (l : List (List Int)) : Prop := l.length ≤ 9223372036854775807 ∧ ∀ x ∈ l, x.length ≤ 9223372036854775807
def FitN (l : List (List Int)) : Prop := l.length ≤ 1048576 ∧ (∀ x ∈ l, x.length ≤ 1048576) ∧ lens l ≤ 1048576
theorem FitN.big {l : List (List Int)} (h : FitN l) : ∀ x ∈ l, x.length ≤ 140737488351232 := fun x hx => by have := h.2.1 x hx; omega
theorem lens_fit {l : List (List Int)} (h : l.length + lens l ≤ 1048576) : FitN l := ⟨by omega, fun x hx => by
  obtain ⟨i, hi, rfl⟩ := List.getElem_of_mem hx;have := len_le_lens l i hi
  omega, by omega⟩
theorem szName' (l : List (List Int)) (left : Int) (hl : RawN l) (h0 : 0 ≤ left) (h1 : left ≤ 1048576) :
    ∃ t, Ev (fun k => jN.f k l left) t ∧ (t < 0 ∨ (0 ≤ t ∧ t ≤ left ∧ FitN l)) := by
  obtain ⟨t, ht, hc⟩ := szName l left hl.1 hl.2 h0 h1;refine ⟨t, ht, hc.imp id fun h => ⟨h.2, by omega, lens_fit (by omega)⟩⟩
theorem toName' (l : List (List Int)) (h : FitN l) : Ev (fun k => Qd.f k l) l := toName l (by have := h.1; omega) h.big
theorem eqName' (l : List (List Int)) (h : FitN l) : Ev (fun k => jB.f k l l) true := eqName l (by have := h.1; omega) h.big

theorem szIntS (l : List Int) (left : Int) (hl : l.length ≤ 9223372036854775807) (h0 : 0 ≤ left) (h1 : left ≤ 1048576) : ∃ t, JZ.f l left = some t ∧ (t < 0 ∨ (t = left - l.length ∧ 0 ≤ t)) := by
  unfold JZ.f;rw [w64 (by omega) (by omega)];by_cases h : left - (l.length : Int) < 0
  · exact ⟨-1, by rw [if_pos h], Or.inl (by omega)⟩
  · exact ⟨left - l.length, by rw [if_neg h], Or.inr ⟨rfl, by omega⟩⟩
theorem toIntS_l0 (l : List Int) (hl : l.length ≤ 35184372088832) (m : Nat) : ∀ (i : Nat), l.length = i + m →
    Ev (fun k => yp.l0 k l (l.take i ++ List.replicate m 0) i) l := by
  induction m with
  | zero =>
    intro i hi;refine Ev.step (f := fun _ => some l) (fun k => ?_) (Ev.now _);simp only [yp.l0];rw [if_neg (by omega)];simp [List.take_of_length_le (show l.length ≤ i by omega)]
  | succ m ih =>
    intro i hi;refine Ev.step (fun k => ?_) (ih (i+1) (by omega));simp only [yp.l0];rw [if_pos (by omega), if_pos (by omega), if_pos (by simp; omega), w64 (by omega) (by omega)];rw [show rd l (i : Int) = l.getD i 0 by simp [rd], show ((i : Int)).toNat = i by omega, set_prefix l i (by omega) m (by omega)];rfl
theorem toIntS (l : List Int) (hl : l.length ≤ 35184372088832) : Ev (fun k => yp.f k l) l := by
  unfold yp.f;simp only [if_pos (show 0 ≤ (l.length : Int) by omega), if_pos (show ((l.length : Int)).toNat ≤ 35184372088832 by omega)];simpa using toIntS_l0 l hl l.length 0 (by omega)
theorem eqIntS_l0 (l : List Int) (hl : l.length ≤ 140737488351232) (m : Nat) : ∀ (i : Nat), l.length = i + m →
    Ev (fun k => zO.l0 k l l i) true := by
  induction m with
  | zero =>
    intro i hi;refine Ev.step (f := fun _ => some true) (fun k => ?_) (Ev.now _);simp only [zO.l0];rw [if_neg (by omega)]
  | succ m ih =>
    intro i hi;refine Ev.step (fun k => ?_) (ih (i+1) (by omega));simp only [zO.l0];rw [if_pos (by omega), if_pos (by omega), if_pos (by omega), if_pos trivial, w64 (by omega) (by omega)];rfl
theorem eqIntS (l : List Int) (hl : l.length ≤ 140737488351232) : Ev (fun k => zO.f k l l) true := by
  unfold zO.f;simp only [if_pos];exact eqIntS_l0 l hl l.length 0 (by omega)
theorem szRr (n : List (List Int)) (t ttl addr : Int) (dst : List (List Int)) (text nums : List Int) (left : Int) (hn : RawN n) (hto : RawN dst) (ht : text.length ≤ 9223372036854775807) (hnu : nums.length ≤ 9223372036854775807) (h0 : 0 ≤ left) (h1 : left ≤ 1048576) :
    ∃ u, Ev (fun k => QY.f k n t ttl addr dst text nums left) u ∧ (u < 0 ∨ (0 ≤ u ∧ u ≤ left ∧ FitN n ∧ FitN dst ∧ text.length ≤ 1048576 ∧ nums.length ≤ 1048576)) := by
  unfold QY.f;obtain ⟨a, ha, hca⟩ := szName' n left hn h0 h1;by_cases h : a < 0
  · exact ⟨-1, Ev.bind ha (by simp only [if_pos h]; exact Ev.now _), Or.inl (by omega)⟩
  obtain ⟨b, hb, hcb⟩ := szName' dst a hto (by omega) (by omega);by_cases h2 : b < 0
  · exact ⟨-1, Ev.bind ha (by simp only [if_neg h]; exact Ev.bind hb (by simp only [if_pos h2]; exact Ev.now _)), Or.inl (by omega)⟩
  obtain ⟨c, hc, hcc⟩ := szByteS text b ht (by omega) (by omega);by_cases h3 : c < 0
  · exact ⟨-1, Ev.bind ha (by simp only [if_neg h]; exact Ev.bind hb (by simp only [if_neg h2, hc, Option.bind_some, if_pos h3]; exact Ev.now _)), Or.inl (by omega)⟩
  obtain ⟨d, hd, hcd⟩ := szIntS nums c hnu (by omega) (by omega);by_cases h4 : d < 0
  · exact ⟨-1, Ev.bind ha (by simp only [if_neg h]; exact Ev.bind hb (by simp only [if_neg h2, hc, Option.bind_some, if_neg h3, hd, if_pos h4]; exact Ev.now _)), Or.inl (by omega)⟩
  refine ⟨d, Ev.bind ha (by simp only [if_neg h]; exact Ev.bind hb (by simp only [if_neg h2, hc, Option.bind_some, if_neg h3, hd, if_neg h4]; exact Ev.now _)), Or.inr ?_⟩;have f1 := hca.resolve_left h;have f2 := hcb.resolve_left h2;exact ⟨by omega, by omega, f1.2.2, f2.2.2, by omega, by omega⟩
theorem toRr (n : List (List Int)) (t ttl addr : Int) (dst : List (List Int)) (text nums : List Int) (hn : FitN n) (hto : FitN dst) (ht : text.length ≤ 1048576) (hnu : nums.length ≤ 1048576) :
    Ev (fun k => Ze.f k n t ttl addr dst text nums) (n, t, ttl, addr, dst, text, nums) := by
  unfold Ze.f;exact Ev.bind (toName' n hn) (Ev.bind (toName' dst hto) (Ev.bind (toByteS text (by omega)) (Ev.bind (toIntS nums (by omega)) (Ev.now _))))
theorem eqRr (n : List (List Int)) (t ttl addr : Int) (dst : List (List Int)) (text nums : List Int) (hn : FitN n) (hto : FitN dst) (ht : text.length ≤ 1048576) (hnu : nums.length ≤ 1048576) :
    Ev (fun k => QM.f k n t ttl addr dst text nums n t ttl addr dst text nums) true := by
  unfold QM.f;refine Ev.bind (eqName' n hn) ?_;simp only [if_true];refine Ev.bind (eqName' dst hto) ?_;simp only [if_true];refine Ev.bind (eqByteS text (by omega)) ?_;simp only [if_true];refine Ev.bind (eqIntS nums (by omega)) ?_;simp only [if_true];exact Ev.now _
def typeOkV (t : Int) : Bool := t == 1 || t == 2 || t == 5 || t == 6 || t == 12 || t == 16 || t == 49
theorem specTypeOk (t : Int) : Qc.f t = some (typeOkV t) := by
  unfold Qc.f typeOkV;by_cases h1 : t = 1
  · simp [h1]
  by_cases h2 : t = 2
  · simp [h2]
  by_cases h3 : t = 5
  · simp [h3]
  by_cases h4 : t = 6
  · simp [h4]
  by_cases h5 : t = 12
  · simp [h5]
  by_cases h6 : t = 16
  · simp [h6]
  by_cases h7 : t = 49
  · simp [h7]
  simp [h1, h2, h3, h4, h5, h6, h7]
theorem implTypeOk (t : Int) (ht : -9223372036854775808 ≤ t ∧ t ≤ 9223372036854775807) : Qy.f t = some (typeOkV t) := by
  unfold Qy.f jt.f typeOkV jt.v;rw [if_pos ht];simp only [Option.bind_some, Go.ByteArray.toList_eq];by_cases h1 : t = 1
  · subst h1; decide
  by_cases h2 : t = 2
  · subst h2; decide
  by_cases h3 : t = 5
  · subst h3; decide
  by_cases h4 : t = 6
  · subst h4; decide
  by_cases h5 : t = 12
  · subst h5; decide
  by_cases h6 : t = 16
  · subst h6; decide
  by_cases h7 : t = 49
  · subst h7; decide
  rw [if_neg h1, if_neg h2, if_neg h3, if_neg h4, if_neg h5, if_neg h6, if_neg h7];simp [h1, h2, h3, h4, h5, h6, h7]
def namedV (t : Int) : Bool := t == 2 || t == 5 || t == 6 || t == 12
def textedV (t : Int) : Bool := t == 16 || t == 49
theorem specNamed (t : Int) : QL.f t = some (namedV t) := by
  unfold QL.f namedV;by_cases h1 : t = 2
  · simp [h1]
  by_cases h2 : t = 5
  · simp [h2]
  by_cases h3 : t = 6
  · simp [h3]
  simp [h1, h2, h3]
theorem implNamed (t : Int) : JG.f t = some (namedV t) := specNamed t
theorem specTexted (t : Int) : Zu.f t = some (textedV t) := by
  unfold Zu.f textedV;by_cases h1 : t = 16
  · simp [h1]
  simp [h1]
theorem implTexted (t : Int) : Qi.f t = some (textedV t) := specTexted t
theorem implWithin (a b c : Int) : Qx.f a b c = some (decide (b ≤ a ∧ a ≤ c)) := by
  unfold Qx.f;by_cases h : b ≤ a <;> simp [h]
theorem implIsWord (a : Int) : JD.f a = some (decide (0 ≤ a ∧ a ≤ 4294967295)) := by
  unfold JD.f;rw [implWithin]; rfl
def numsV (t : Int) (nums : List Int) : Bool := if t = 6 then decide (nums.length = 2 ∧ (0 ≤ rd nums 0 ∧ rd nums 0 ≤ 4294967295) ∧ 0 ≤ rd nums 1 ∧ rd nums 1 ≤ 100000) else decide (nums.length = 0)
def addrV (t addr : Int) : Bool := if t = 1 then decide (0 ≤ addr ∧ addr ≤ 4294967295) else decide (addr = 0)
def toV (t : Int) (dst : List (List Int)) : Bool := if namedV t = true then qG.v dst else decide (dst.length = 0)
def textV (t : Int) (text : List Int) : Bool := if textedV t = true then decide (text.length ≤ 40) else decide (text.length = 0)
def rrOkV (n : List (List Int)) (t ttl addr : Int) (dst : List (List Int)) (text nums : List Int) : Bool :=
  qG.v n && (typeOkV t && (decide (0 ≤ ttl ∧ ttl ≤ 100000) && (addrV t addr && (toV t dst && (textV t text && numsV t nums)))))
theorem specData_j2 (n : List (List Int)) (t ttl addr : Int) (dst : List (List Int)) (text nums : List Int) : Ev (fun k => jc.j2 k n t ttl addr dst text nums) (numsV t nums) := by
  refine Ev.step (f := fun _ => some (numsV t nums)) (fun k => ?_) (Ev.now _);simp only [jc.j2];unfold numsV;by_cases h6 : t = 6
  · rw [if_pos h6, if_pos h6]
    by_cases h2 : nums.length = 2
    · rw [if_pos (by omega), if_pos (by omega)]
      by_cases a1 : rd nums 0 < 0
      · rw [if_pos a1, decide_eq_false (by omega)]
      rw [if_neg a1];by_cases a2 : rd nums 0 ≥ 4294967296
      · rw [if_pos a2, decide_eq_false (by omega)]
      rw [if_neg a2, if_pos (by omega)];by_cases a3 : rd nums 1 ≥ 0
      · rw [if_pos a3]; congr 1; apply decide_eq_decide.2; constructor <;> intro h <;> omega
      · rw [if_neg a3, decide_eq_false (by omega)]
    · rw [if_neg (by omega), decide_eq_false (by omega)]
  · rw [if_neg h6, if_neg h6]
    congr 1
    rw [Bool.eq_iff_iff, beq_iff_eq, decide_eq_true_iff]; omega
theorem specData_j1 (n : List (List Int)) (t ttl addr : Int) (dst : List (List Int)) (text nums : List Int) : Ev (fun k => jc.j1 k n t ttl addr dst text nums) (textV t text && numsV t nums) := by
  refine Ev.step (f := fun k => if textV t text = true then jc.j2 k n t ttl addr dst text nums else some false) (fun k => ?_) ?_
  · simp only [jc.j1]
    rw [specTexted, Option.bind_some];unfold textV;cases textedV t
    · simp only [Bool.false_eq_true, if_false, decide_eq_true_iff]
      by_cases h : text.length = 0
      · rw [if_neg (by omega), if_pos h]
      · rw [if_pos (by omega), if_neg h]
    · simp only [if_true, decide_eq_true_iff]
      by_cases h : text.length ≤ 40
      · rw [if_neg (by omega), if_pos h]
      · rw [if_pos (by omega), if_neg h]
  · cases textV t text
    · simp only [Bool.false_eq_true, if_false, Bool.false_and]; exact Ev.now _
    · simp only [if_true, Bool.true_and]; exact specData_j2 ..
theorem specData_j0 (n : List (List Int)) (t ttl addr : Int) (dst : List (List Int)) (text nums : List Int) (hto : FitN dst) : Ev (fun k => jc.j0 k n t ttl addr dst text nums) (toV t dst && (textV t text && numsV t nums)) := by
  refine Ev.step (f := fun k => if namedV t = true then ((qX.f k dst).bind fun qU => (if qU = true then (jc.j1 k n t ttl addr dst text nums) else (some false))) else (if (dst.length : Int) > 0 then (some false) else (jc.j1 k n t ttl addr dst text nums))) (fun k => ?_) ?_
  · simp only [jc.j0]
    rw [specNamed, Option.bind_some]
  · unfold toV
    cases namedV t
    · simp only [Bool.false_eq_true, if_false]
      by_cases h : dst.length = 0
      · simp only [if_neg (show ¬ (dst.length : Int) > 0 by omega)]
        rw [decide_eq_true h, Bool.true_and]; exact specData_j1 ..
      · simp only [if_pos (show (dst.length : Int) > 0 by omega)]
        rw [decide_eq_false h, Bool.false_and]; exact Ev.now _
    · simp only [if_true]
      refine Ev.bind (specNameOk dst hto.1 hto.big) ?_;cases qG.v dst
      · simp only [Bool.false_eq_true, if_false, Bool.false_and]; exact Ev.now _
      · simp only [if_true, Bool.true_and]; exact specData_j1 ..
theorem specData (n : List (List Int)) (t ttl addr : Int) (dst : List (List Int)) (text nums : List Int) (hto : FitN dst) : Ev (fun k => jc.f k n t ttl addr dst text nums) (addrV t addr && (toV t dst && (textV t text && numsV t nums))) := by
  unfold jc.f addrV;by_cases h1 : t = 1
  · simp only [if_pos h1]
    by_cases a1 : addr < 0
    · simp only [if_pos a1]; rw [decide_eq_false (by omega), Bool.false_and]; exact Ev.now _
    simp only [if_neg a1];by_cases a2 : addr ≥ 4294967296
    · simp only [if_pos a2]; rw [decide_eq_false (by omega), Bool.false_and]; exact Ev.now _
    simp only [if_neg a2]; rw [decide_eq_true (show 0 ≤ addr ∧ addr ≤ 4294967295 by omega), Bool.true_and]; exact specData_j0 _ _ _ _ _ _ _ hto
  · simp only [if_neg h1]
    by_cases a1 : addr = 0
    · simp only [if_pos a1]; rw [decide_eq_true a1, Bool.true_and]; exact specData_j0 _ _ _ _ _ _ _ hto
    · simp only [if_neg a1]; rw [decide_eq_false a1, Bool.false_and]; exact Ev.now _
theorem specRrOk (n : List (List Int)) (t ttl addr : Int) (dst : List (List Int)) (text nums : List Int) (hn : FitN n) (hto : FitN dst) : Ev (fun k => Qe.f k n t ttl addr dst text nums) (rrOkV n t ttl addr dst text nums) := by
  unfold Qe.f rrOkV;refine Ev.bind (specNameOk n hn.1 hn.big) ?_;cases qG.v n
  · simp only [Bool.false_eq_true, if_false, Bool.false_and]; exact Ev.now _
  simp only [if_true, Bool.true_and, specTypeOk, Option.bind_some];cases typeOkV t
  · simp only [Bool.false_eq_true, if_false, Bool.false_and]; exact Ev.now _
  simp only [if_true, Bool.true_and];by_cases a1 : ttl ≥ 0
  · simp only [if_pos a1]
    by_cases a2 : ttl ≤ 100000
    · simp only [if_pos a2]; rw [decide_eq_true (show 0 ≤ ttl ∧ ttl ≤ 100000 by omega), Bool.true_and]
      exact Ev.bind (specData _ _ _ _ _ _ _ hto) (Ev.now _)
    · simp only [if_neg a2]; rw [decide_eq_false (by omega), Bool.false_and]; exact Ev.now _
  · simp only [if_neg a1]; rw [decide_eq_false (by omega), Bool.false_and]; exact Ev.now _
theorem rrOk_j3 (x3 x4 x5 : Bool) (n : List (List Int)) (t ttl addr : Int) (dst : List (List Int)) (text nums : List Int) : Ev (fun k => qT.j3 k x3 x4 x5 n t ttl addr dst text nums) (x3 && (x4 && (x5 && textV t text))) := by
  refine Ev.step (f := fun _ => some (x3 && (x4 && (x5 && textV t text)))) (fun k => ?_) (Ev.now _);simp only [qT.j3];rw [implTexted, Option.bind_some];unfold textV;by_cases h : text.length = 0
  · rw [if_pos (by omega), decide_eq_true h, decide_eq_true (show text.length ≤ 40 by omega)]
    cases x3 <;> cases x4 <;> cases x5 <;> cases textedV t <;> rfl
  · rw [if_neg (by omega), decide_eq_false h, show decide ((text.length : Int) ≤ 40) = decide (text.length ≤ 40) from decide_eq_decide.2 (by omega)]
    cases x3 <;> cases x4 <;> cases x5 <;> cases textedV t <;> simp
theorem rrOk_j2 (x3 x4 : Bool) (n : List (List Int)) (t ttl addr : Int) (dst : List (List Int)) (text nums : List Int) : Ev (fun k => qT.j2 k x3 x4 n t ttl addr dst text nums) (x3 && (x4 && (toV t dst && textV t text))) := by
  refine Ev.step (f := fun k => qT.j3 k x3 x4 (toV t dst) n t ttl addr dst text nums) (fun k => ?_) (rrOk_j3 ..);simp only [qT.j2];rw [implNamed, Option.bind_some];unfold toV qG.f;by_cases h : dst.length = 0
  · have := List.eq_nil_of_length_eq_zero h
    subst this;cases namedV t <;> simp [qG.v]
  · rw [if_neg (by omega), decide_eq_false h]
    cases namedV t <;> simp
theorem rrOk_j1 (x3 : Bool) (n : List (List Int)) (t ttl addr : Int) (dst : List (List Int)) (text nums : List Int) : Ev (fun k => qT.j1 k x3 n t ttl addr dst text nums) (x3 && (addrV t addr && (toV t dst && textV t text))) := by
  refine Ev.step (f := fun k => qT.j2 k x3 (addrV t addr) n t ttl addr dst text nums) (fun k => ?_) (rrOk_j2 ..);simp only [qT.j1];rw [implIsWord, Option.bind_some];unfold addrV;by_cases h : addr = 0
  · subst h; simp
  · rw [if_neg h, decide_eq_false h]
    by_cases h1 : t = 1
    · rw [if_pos h1, if_pos h1]
    · rw [if_neg h1, if_neg h1]
theorem rrOk_j0 (x22 : Bool) (n : List (List Int)) (t ttl addr : Int) (dst : List (List Int)) (text nums : List Int) : Ev (fun k => qT.j0 k x22 n t ttl addr dst text nums) (!x22 && (numsV t nums && (addrV t addr && (toV t dst && textV t text)))) := by
  cases x22
  · refine Ev.step (f := fun k => qT.j1 k (numsV t nums) n t ttl addr dst text nums) (fun k => ?_) ?_
    · simp only [qT.j0, Bool.false_eq_true, if_false]
      simp only [implIsWord, implWithin, Option.bind_some];unfold numsV;by_cases h6 : t = 6
      · simp only [if_pos h6]
        by_cases h2 : nums.length = 2
        · rw [if_pos (by omega), if_pos (by omega)]
          by_cases a1 : 0 ≤ rd nums 0 ∧ rd nums 0 ≤ 4294967295
          · simp only [decide_eq_true_iff, if_pos a1]
            rw [if_pos (by omega)];congr 1; apply decide_eq_decide.2; constructor <;> intro h <;> omega
          · simp only [decide_eq_true_iff, if_neg a1]
            rw [decide_eq_false (by omega)]
        · rw [if_neg (by omega), decide_eq_false (by omega)]
      · simp only [if_neg h6]
        congr 1
        rw [Bool.eq_iff_iff, beq_iff_eq, decide_eq_true_iff]; omega
    · simpa using rrOk_j1 (numsV t nums) n t ttl addr dst text nums
  · refine Ev.step (f := fun _ => some false) (fun k => ?_) (Ev.now _)
    simp only [qT.j0, if_true]
theorem implRrOk (n : List (List Int)) (t ttl addr : Int) (dst : List (List Int)) (text nums : List Int) (ht : -9223372036854775808 ≤ t ∧ t ≤ 9223372036854775807) : Ev (fun k => qT.f k n t ttl addr dst text nums) (rrOkV n t ttl addr dst text nums) := by
  have e : rrOkV n t ttl addr dst text nums = (!(!(qG.v n && (typeOkV t && decide (0 ≤ ttl ∧ ttl ≤ 100000)))) && (numsV t nums && (addrV t addr && (toV t dst && textV t text)))) := by
    unfold rrOkV;cases qG.v n <;> cases typeOkV t <;> cases decide (0 ≤ ttl ∧ ttl ≤ 100000) <;> cases numsV t nums <;> cases addrV t addr <;> cases toV t dst <;> cases textV t text <;> rfl
  rw [e];unfold qT.f qG.f;simp only [Option.bind_some, implTypeOk t ht, implWithin];cases qG.v n
  · simp only [Bool.false_eq_true, if_false, Bool.false_and, Bool.not_false]; exact rrOk_j0 ..
  cases typeOkV t
  · simp only [Bool.false_eq_true, if_false, if_true, Bool.false_and, Bool.true_and, Bool.not_false]; exact rrOk_j0 ..
  simp only [if_true, Bool.true_and]; exact rrOk_j0 ..
end Go.Proofs.YtagedmajlppohaaGreat.Pure

/- Plain lemmas on the printed functions that write names and records as bytes, and compare records. -/
namespace Go.Proofs.YtagedmajlppohaaGreat.Pure
open Go Go.RowKit Go.Proofs.YtagedmajlppohaaGreat.Q Go.Proofs.YtagedmajlppohaaGreatW.PrintWords Go.Proofs.YtagedmajlppohaaGreatW.PrintLast Go.Proofs.YtagedmajlppohaaGreatW.PrintMore
set_option linter.unusedVariables false
set_option linter.unusedSimpArgs false

def fourV (a : Int) : List Int := [(a / 16777216) % 256, (a / 65536) % 256, (a / 256) % 256, a % 256]
theorem specPut32 (l : List Int) (a : Int) (hl : l.length ≤ 140737488355000) (ha : 0 ≤ a ∧ a ≤ 4294967295) : QG.f l a = some (l ++ fourV a) := by
  unfold QG.f;simp only [Option.bind_some, List.length_nil, List.nil_append];rw [if_pos (by omega), if_neg (by omega), if_neg (by omega), if_pos (by simp; omega)];rfl
theorem implFour (a : Int) : Zy.f a = some (fourV a) := by
  unfold Zy.f ZS.f fourV;simp only [Option.bind_some, List.length_cons, List.length_nil];rw [if_pos (by omega)];simp only [List.cons_append, List.nil_append];congr 2
  omega
def wireV (l : List (List Int)) : List Int := qL.w l ++ [0]
theorem w_len (l : List (List Int)) : (qL.w l).length = l.length + lens l := by
  induction l with
  | nil => simp [qL.w, lens]
  | cons x l ih => simp only [qL.w, List.length_cons, List.length_append, ih, lens, List.map_cons, List.sum_cons]; omega
theorem lens_le (l : List (List Int)) (m : Nat) (h : ∀ x ∈ l, x.length ≤ m) : lens l ≤ l.length * m := by
  induction l with
  | nil => simp [lens]
  | cons x l ih =>
    have h1 := h x (by simp);have h2 := ih (fun y hy => h y (by simp [hy]));simp only [lens, List.map_cons, List.sum_cons, List.length_cons, Nat.add_mul, Nat.one_mul] at h2 ⊢;omega
theorem nameOk_len {l : List (List Int)} (h : qG.v l = true) : l.length ≤ 6 ∧ ∀ x ∈ l, 1 ≤ x.length ∧ x.length ≤ 15 ∧ Bytes x := by
  unfold qG.v at h;rw [Bool.and_eq_true, decide_eq_true_iff, List.all_eq_true] at h;refine ⟨h.1, fun x hx => ?_⟩;have h2 := h.2 x hx;unfold jm.v at h2;simp only [Bool.and_eq_true, decide_eq_true_iff, List.all_eq_true] at h2;refine ⟨by omega, by omega, fun y hy => ?_⟩;have h3 := h2.2 y hy;unfold jm.byte at h3;simp at h3
  omega
theorem nameOk_w {l : List (List Int)} (h : qG.v l = true) : (qL.w l).length ≤ 96 := by
  obtain ⟨h1, h2⟩ := nameOk_len h;have := lens_le l 15 (fun x hx => (h2 x hx).2.1);rw [w_len]; omega
theorem specPut (b : List Int) (l : List (List Int)) (h : qG.v l = true) (hb : b.length ≤ 140737488355000) : qL.f b l = some (b ++ wireV l) := by
  have := nameOk_w h;unfold qL.f wireV;rw [if_pos (by omega), List.append_assoc]
theorem implWire_l0 (l : List (List Int)) (hl : l.length + lens l ≤ 1048576) (m : Nat) : ∀ (i : Nat), l.length = i + m →
    Ev (fun k => jJ.l0 k (qL.w (l.take i)) l (l.length : Int) i) (wireV l) := by
  induction m with
  | zero =>
    intro i hi;refine Ev.step (f := fun _ => some (wireV l)) (fun k => ?_) (Ev.now _);have hw := qL.w_take l i;rw [w_len l] at hw;simp only [jJ.l0];rw [if_neg (by omega), if_pos (by omega), List.take_of_length_le (by omega)];rfl
  | succ m ih =>
    intro i hi;have hil : i < l.length := by omega
    have hw := qL.w_take l i;have hw1 := qL.w_take l (i + 1);rw [w_len l] at hw hw1
    have e : qL.w (l.take (i + 1)) = qL.w (l.take i) ++ [(l[i].length : Int) % 256] ++ l[i] := by
      rw [List.take_succ_eq_append_getElem hil, qL.w_snoc]
    rw [e] at hw1;simp only [List.length_append, List.length_singleton] at hw1;refine Ev.step (fun k => ?_) (ih (i+1) (by omega));simp only [jJ.l0, Option.bind_some];rw [if_pos (by omega), if_pos (by omega), if_pos (by omega), if_pos (by omega), rdL_at l i hil, if_pos (by simp only [List.length_append, List.length_singleton]; omega), w64 (by omega) (by omega), e];rfl
theorem implWire (l : List (List Int)) (hl : l.length + lens l ≤ 1048576) : Ev (fun k => jJ.f k l) (wireV l) := by
  unfold jJ.f;simpa [qL.w] using implWire_l0 l hl l.length 0 (by omega)
theorem nameOk_sum {l : List (List Int)} (h : qG.v l = true) : l.length + lens l ≤ 96 := by
  have := nameOk_w h;rwa [w_len] at this
def dataV (t addr : Int) (dst : List (List Int)) (text nums : List Int) : List Int :=
  if t = 1 then fourV addr else if t = 6 then wireV dst ++ fourV (rd nums 0) ++ fourV (rd nums 1) else if namedV t = true then wireV dst else (text.length : Int) % 256 :: text
theorem rrOk_parts {n : List (List Int)} {t ttl addr : Int} {dst : List (List Int)} {text nums : List Int} (h : rrOkV n t ttl addr dst text nums = true) :
    qG.v n = true ∧ typeOkV t = true ∧ (0 ≤ ttl ∧ ttl ≤ 100000) ∧ addrV t addr = true ∧ toV t dst = true ∧ textV t text = true ∧ numsV t nums = true := by
  unfold rrOkV at h;simp only [Bool.and_eq_true, decide_eq_true_iff] at h;exact h
theorem specL3put {n : List (List Int)} {t ttl addr : Int} {dst : List (List Int)} {text nums : List Int} (h : rrOkV n t ttl addr dst text nums = true) : yJ.f n t ttl addr dst text nums = some (dataV t addr dst text nums) := by
  obtain ⟨_, _, _, ha, hd, ht, hn⟩ := rrOk_parts h;unfold yJ.f dataV;by_cases h1 : t = 1
  · rw [if_pos h1, if_pos h1]
    unfold addrV at ha;rw [if_pos h1, decide_eq_true_iff] at ha;rw [specPut32 [] addr (by simp) ha];rfl
  rw [if_neg h1, if_neg h1];by_cases h6 : t = 6
  · rw [if_pos h6, if_pos h6]
    unfold toV namedV at hd;rw [if_pos (by simp [h6])] at hd;unfold numsV at hn;rw [if_pos h6, decide_eq_true_iff] at hn;have hw := nameOk_w hd;rw [specPut [] dst hd (by simp), Option.bind_some, if_pos (by omega), List.nil_append, specPut32 _ _ (by simp only [wireV, List.length_append, List.length_singleton]; omega) hn.2.1, Option.bind_some, if_pos (by omega), specPut32 _ _ (by simp only [wireV, fourV, List.length_append, List.length_cons, List.length_nil]; omega) (by omega)];rfl
  rw [if_neg h6, if_neg h6, specNamed, Option.bind_some];by_cases hm : namedV t = true
  · rw [if_pos hm, if_pos hm]
    unfold toV at hd;rw [if_pos hm] at hd;rw [specPut [] dst hd (by simp)];rfl
  · rw [if_neg hm, if_neg hm]
    have hl : text.length ≤ 40 := by
      unfold textV at ht;split at ht <;> rw [decide_eq_true_iff] at ht <;> omega
    rw [Option.bind_some, if_pos (by simp; omega)];rfl
theorem implData_none (b : List Int) : Ev (fun k => jw.l0 k b [] 0 0) b := by
  refine Ev.step (f := fun _ => some b) (fun k => ?_) (Ev.now _);simp only [jw.l0];rw [if_neg (by omega)]
theorem implData_two (b nums : List Int) (h : nums.length = 2) (hb : b.length ≤ 140737488355000) : Ev (fun k => jw.l0 k b nums (nums.length : Int) 0) (b ++ fourV (rd nums 0) ++ fourV (rd nums 1)) := by
  rw [show ((nums.length : Nat) : Int) = 2 by omega];have h0 : w64 (x := 0 + 1) (by omega) (by omega) = w64 (x := 0 + 1) (by omega) (by omega) := rfl;refine Ev.step (f := fun k => jw.l0 k (b ++ fourV (rd nums 0)) nums 2 1) (fun k => ?_) ?_
  · simp only [jw.l0]
    rw [if_pos (by omega), if_pos (by omega), if_pos (by omega), implFour, Option.bind_some, if_pos (by simp only [fourV, List.length_cons, List.length_nil]; omega), w64 (by omega) (by omega)];rfl
  refine Ev.step (f := fun k => jw.l0 k (b ++ fourV (rd nums 0) ++ fourV (rd nums 1)) nums 2 2) (fun k => ?_) ?_
  · simp only [jw.l0]
    rw [if_pos (by omega), if_pos (by omega), if_pos (by omega), implFour, Option.bind_some, if_pos (by simp only [fourV, List.length_append, List.length_cons, List.length_nil]; omega), w64 (by omega) (by omega)];rfl
  refine Ev.step (f := fun _ => some (b ++ fourV (rd nums 0) ++ fourV (rd nums 1))) (fun k => ?_) (Ev.now _);simp only [jw.l0];rw [if_neg (by omega)]
theorem implData {n : List (List Int)} {t ttl addr : Int} {dst : List (List Int)} {text nums : List Int} (h : rrOkV n t ttl addr dst text nums = true) : Ev (fun k => jw.f k n t ttl addr dst text nums) (dataV t addr dst text nums) := by
  obtain ⟨_, _, _, ha, hd, ht, hn⟩ := rrOk_parts h;unfold jw.f dataV;by_cases h1 : t = 1
  · simp only [if_pos h1, implFour, Option.bind_some]
    exact Ev.now _
  simp only [if_neg h1, implNamed, Option.bind_some];by_cases hm : namedV t = true
  · simp only [if_pos hm]
    unfold toV at hd;rw [if_pos hm] at hd;have hs := nameOk_sum hd;have hw := nameOk_w hd;refine Ev.bind (implWire dst (by omega)) ?_;unfold numsV at hn;by_cases h6 : t = 6
    · simp only [if_pos h6]
      rw [if_pos h6, decide_eq_true_iff] at hn;exact implData_two _ nums hn.1 (by simp only [wireV, List.length_append, List.length_singleton]; omega)
    · simp only [if_neg h6]
      rw [if_neg h6, decide_eq_true_iff] at hn;have := List.eq_nil_of_length_eq_zero hn;subst this;exact implData_none _
  · have h6 : ¬ t = 6 := fun e => hm (by simp [namedV, e])
    simp only [if_neg hm, if_neg h6]
    have hl : text.length ≤ 40 := by
      unfold textV at ht;split at ht <;> rw [decide_eq_true_iff] at ht <;> omega
    simp only [if_pos (show ([(text.length : Int) % 256] : List Int).length + text.length < 140737488355328 by simp; omega)];exact Ev.now _
def numV (a b : Int) : Int := if a < b then -1 else if a > b then 1 else 0
def rrCmpV (n : List (List Int)) (t addr : Int) (dst : List (List Int)) (text nums : List Int) (n' : List (List Int)) (t' addr' : Int) (dst' : List (List Int)) (text' nums' : List Int) : Int :=
  if nameCmpV n n' = 0 then (if numV t t' = 0 then cb (dataV t addr dst text nums) (dataV t' addr' dst' text' nums') else numV t t') else nameCmpV n n'
theorem orInt (a b c : Int) : Ev (fun k => jZ.f k [a, b, c]) (if a = 0 then (if b = 0 then c else b) else a) := by
  unfold jZ.f;simp only [List.length_cons, List.length_nil];by_cases h1 : a = 0
  · rw [if_pos h1]
    refine Ev.step (f := fun k => jZ.l0 k 0 [a, b, c] 3 1) (fun k => ?_) ?_
    · simp only [jZ.l0]
      rw [if_pos (by omega), if_pos (by omega), if_pos (by simp), if_pos (by simpa [rd] using h1), w64 (by omega) (by omega)];rfl
    by_cases h2 : b = 0
    · rw [if_pos h2]
      refine Ev.step (f := fun k => jZ.l0 k 0 [a, b, c] 3 2) (fun k => ?_) ?_
      · simp only [jZ.l0]
        rw [if_pos (by omega), if_pos (by omega), if_pos (by simp), if_pos (by simpa [rd] using h2), w64 (by omega) (by omega)];rfl
      by_cases h3 : c = 0
      · refine Ev.step (f := fun k => jZ.l0 k 0 [a, b, c] 3 3) (fun k => ?_) ?_
        · simp only [jZ.l0]
          rw [if_pos (by omega), if_pos (by omega), if_pos (by simp), if_pos (by simpa [rd] using h3), w64 (by omega) (by omega)];rfl
        refine Ev.step (f := fun _ => some c) (fun k => ?_) (Ev.now _);simp only [jZ.l0];rw [if_neg (by omega), h3]
      · refine Ev.step (f := fun _ => some c) (fun k => ?_) (Ev.now _)
        simp only [jZ.l0];rw [if_pos (by omega), if_pos (by omega), if_pos (by simp), if_neg (by simpa [rd] using h3)];rfl
    · rw [if_neg h2]
      refine Ev.step (f := fun _ => some b) (fun k => ?_) (Ev.now _);simp only [jZ.l0];rw [if_pos (by omega), if_pos (by omega), if_pos (by simp), if_neg (by simpa [rd] using h2)];rfl
  · rw [if_neg h1]
    refine Ev.step (f := fun _ => some a) (fun k => ?_) (Ev.now _);simp only [jZ.l0];rw [if_pos (by omega), if_pos (by omega), if_pos (by simp), if_neg (by simpa [rd] using h1)];rfl
theorem specL3cmp {n : List (List Int)} {t ttl addr : Int} {dst : List (List Int)} {text nums : List Int} {n' : List (List Int)} {t' ttl' addr' : Int} {dst' : List (List Int)} {text' nums' : List Int} (h : rrOkV n t ttl addr dst text nums = true) (h' : rrOkV n' t' ttl' addr' dst' text' nums' = true) :
    Ev (fun k => yz.f k n t ttl addr dst text nums n' t' ttl' addr' dst' text' nums') (rrCmpV n t addr dst text nums n' t' addr' dst' text' nums') := by
  have l1 := (nameOk_len (rrOk_parts h).1).1;have l2 := (nameOk_len (rrOk_parts h').1).1
  have hj : ∀ x, Ev (fun k => yz.j0 k x n t ttl addr dst text nums n' t' ttl' addr' dst' text' nums') (if x = 0 then cb (dataV t addr dst text nums) (dataV t' addr' dst' text' nums') else x) := by
    intro x;refine Ev.step (f := fun _ => some (if x = 0 then cb (dataV t addr dst text nums) (dataV t' addr' dst' text' nums') else x)) (fun k => ?_) (Ev.now _);simp only [yz.j0];by_cases hx : x = 0
    · rw [if_pos hx, if_pos hx, specL3put h, Option.bind_some, specL3put h']
      rfl
    · rw [if_neg hx, if_neg hx]
  unfold yz.f rrCmpV;refine Ev.bind (specCmp n n' (by omega) (by omega)) ?_;by_cases h0 : nameCmpV n n' = 0
  · simp only [if_pos h0]
    have e : ZM.f t t' = some (numV t t') := by
      unfold ZM.f numV;split
      · rfl
      · split <;> rfl
    simp only [e, Option.bind_some];exact hj _
  · simp only [if_neg h0]
    have := hj (nameCmpV n n');rwa [if_neg h0] at this
theorem implRrCompare {n : List (List Int)} {t ttl addr : Int} {dst : List (List Int)} {text nums : List Int} {n' : List (List Int)} {t' ttl' addr' : Int} {dst' : List (List Int)} {text' nums' : List Int} (h : rrOkV n t ttl addr dst text nums = true) (h' : rrOkV n' t' ttl' addr' dst' text' nums' = true) :
    Ev (fun k => jH.f k n t ttl addr dst text nums n' t' ttl' addr' dst' text' nums') (rrCmpV n t addr dst text nums n' t' addr' dst' text' nums') := by
  have l1 := (nameOk_len (rrOk_parts h).1).1;have l2 := (nameOk_len (rrOk_parts h').1).1;unfold jH.f;refine Ev.bind (implCmp n n' (by omega) (by omega)) ?_;simp only [cmpInt, Option.bind_some];refine Ev.bind (implData h) (Ev.bind (implData h') ?_);simp only [compareV, Option.bind_some];exact Ev.bind (orInt _ _ _) (Ev.now _)
end Go.Proofs.YtagedmajlppohaaGreat.Pure

/- Plain lemmas on the printed functions: rows of records read, measured, copied, compared, all right. -/
namespace Go.Proofs.YtagedmajlppohaaGreat.Pure
open Go Go.RowKit Go.Proofs.YtagedmajlppohaaGreat.Q Go.Proofs.YtagedmajlppohaaGreatW.PrintWords Go.Proofs.YtagedmajlppohaaGreatW.PrintLast Go.Proofs.YtagedmajlppohaaGreatW.PrintMore
set_option linter.unusedVariables false
set_option linter.unusedSimpArgs false
abbrev RL := S48
abbrev RI := S56
def cvR (x : RL) : RI := ⟨⟨x.f0.f0⟩, x.f1, x.f2, x.f3, ⟨x.f4.f0⟩, x.f5, x.f6⟩
theorem rdRL (l : List RL) (i : Nat) (h : i < l.length) : qW l (i : Int) = l[i] := by simp [qW, List.getD_eq_getElem?_getD, h]
theorem rdRI (l : List RI) (i : Nat) (h : i < l.length) : qa l (i : Int) = l[i] := by simp [qa, List.getD_eq_getElem?_getD, h]
def RawR (x : RL) : Prop := RawN x.f0.f0 ∧ RawN x.f4.f0 ∧ x.f5.length ≤ 9223372036854775807 ∧ x.f6.length ≤ 9223372036854775807 ∧ -9223372036854775808 ≤ x.f1 ∧ x.f1 ≤ 9223372036854775807
def FitR (x : RI) : Prop := FitN x.f0.f0 ∧ FitN x.f4.f0 ∧ x.f5.length ≤ 1048576 ∧ x.f6.length ≤ 1048576
def I64R (x : RI) : Prop := -9223372036854775808 ≤ x.f1 ∧ x.f1 ≤ 9223372036854775807
theorem szRrS_l0 (l : List RL) (hl : l.length ≤ 1048576) (he : ∀ x ∈ l, RawR x) (m : Nat) : ∀ (i : Nat) (left : Int), l.length = i + m → 0 ≤ left → left ≤ 1048576 →
    ∃ u, Ev (fun k => zC.l0 k l left i) u ∧ (u < 0 ∨ (0 ≤ u ∧ u ≤ left ∧ ∀ x ∈ l.drop i, FitR (cvR x))) := by
  induction m with
  | zero =>
    intro i left hi h0 h1;refine ⟨left, Ev.step (f := fun _ => some left) (fun k => ?_) (Ev.now _), Or.inr ⟨h0, by omega, fun x hx => by rw [List.drop_of_length_le (by omega)] at hx; cases hx⟩⟩;simp only [zC.l0];rw [if_neg (by omega)]
  | succ m ih =>
    intro i left hi h0 h1;have hil : i < l.length := by omega
    obtain ⟨r0, r4, r5, r6, _⟩ := he _ (List.getElem_mem hil);obtain ⟨t, ht, hc⟩ := szRr l[i].f0.f0 l[i].f1 l[i].f2 l[i].f3 l[i].f4.f0 l[i].f5 l[i].f6 left r0 r4 r5 r6 h0 h1;by_cases hneg : t < 0
    · refine ⟨-1, Ev.step (f := fun k => (QY.f k l[i].f0.f0 l[i].f1 l[i].f2 l[i].f3 l[i].f4.f0 l[i].f5 l[i].f6 left).bind fun qJ => if qJ < 0 then some (-1) else zC.l0 k l qJ (wrap64 ((i : Int) + 1))) (fun k => ?_) (Ev.bind ht (by simp only [if_pos hneg]; exact Ev.now _)), Or.inl (by omega)⟩
      simp only [zC.l0];rw [if_pos (by omega), if_pos (by omega), rdRL l i hil]
    · obtain ⟨h2, h3, hf⟩ := hc.resolve_left hneg
      obtain ⟨u, hu, hcu⟩ := ih (i + 1) t (by omega) (by omega) (by omega);refine ⟨u, Ev.step (f := fun k => (QY.f k l[i].f0.f0 l[i].f1 l[i].f2 l[i].f3 l[i].f4.f0 l[i].f5 l[i].f6 left).bind fun qJ => if qJ < 0 then some (-1) else zC.l0 k l qJ (wrap64 ((i : Int) + 1))) (fun k => ?_) (Ev.bind ht ?_), ?_⟩
      · simp only [zC.l0]
        rw [if_pos (by omega), if_pos (by omega), rdRL l i hil]
      · simp only [if_neg hneg]
        rw [w64 (x := (i : Int) + 1) (by omega) (by omega)];exact hu
      · rcases hcu with h | ⟨h, h', hd⟩
        · exact Or.inl h
        · refine Or.inr ⟨h, by omega, fun x hx => ?_⟩
          rw [List.drop_eq_getElem_cons hil] at hx;rcases List.mem_cons.1 hx with rfl | hx
          · exact hf
          · exact hd x hx
theorem szRrS (l : List RL) (left : Int) (hl : l.length ≤ 9223372036854775807) (he : ∀ x ∈ l, RawR x) (h0 : 0 ≤ left) (h1 : left ≤ 1048576) :
    ∃ u, Ev (fun k => zC.f k l left) u ∧ (u < 0 ∨ (0 ≤ u ∧ u ≤ left ∧ l.length ≤ 1048576 ∧ ∀ x ∈ l, FitR (cvR x))) := by
  unfold zC.f;rw [w64 (by omega) (by omega)];by_cases h : left - (l.length : Int) < 0
  · exact ⟨-1, by simp only [if_pos h]; exact Ev.now _, Or.inl (by omega)⟩
  · obtain ⟨u, hu, hc⟩ := szRrS_l0 l (by omega) he l.length 0 (left - l.length) (by omega) (by omega) (by omega)
    refine ⟨u, by simp only [if_neg h]; exact hu, ?_⟩;rcases hc with h2 | ⟨h2, h3, h4⟩
    · exact Or.inl h2
    · exact Or.inr ⟨h2, by omega, by omega, by rw [List.drop_zero] at h4; exact h4⟩
theorem setR_prefix {α : Type} (z : α) (l : List α) (i : Nat) (h : i < l.length) (m : Nat) :
    (l.take i ++ List.replicate (m + 1) z).set i l[i] = l.take (i + 1) ++ List.replicate m z := by
  rw [List.set_append_right _ _ (by simp; omega)];simp only [List.length_take, Nat.min_eq_left (Nat.le_of_lt h), Nat.sub_self, List.replicate_succ, List.set_cons_zero];rw [List.take_succ_eq_append_getElem h, List.append_assoc];simp
theorem toRrS_l0 (l : List RL) (hl : l.length ≤ 1048576) (he : ∀ x ∈ l, FitR (cvR x)) (m : Nat) : ∀ (i : Nat), l.length = i + m →
    Ev (fun k => yc.l0 k l ((l.map cvR).take i ++ List.replicate m z56) i) (l.map cvR) := by
  induction m with
  | zero =>
    intro i hi;refine Ev.step (f := fun _ => some (l.map cvR)) (fun k => ?_) (Ev.now _);simp only [yc.l0];rw [if_neg (by omega), List.take_of_length_le (by simp; omega)];simp
  | succ m ih =>
    intro i hi;have hil : i < l.length := by omega
    have hil' : i < (l.map cvR).length := by simpa using hil
    obtain ⟨f0, f4, f5, f6⟩ := he _ (List.getElem_mem hil);have ht := toRr l[i].f0.f0 l[i].f1 l[i].f2 l[i].f3 l[i].f4.f0 l[i].f5 l[i].f6 f0 f4 f5 f6;have hs := setR_prefix z56 (l.map cvR) i hil' m;have hlen : ((l.map cvR).take i ++ List.replicate (m + 1) z56).length = l.length := by simp; omega
    generalize (l.map cvR).take i ++ List.replicate (m + 1) z56 = L at hs hlen;refine Ev.step (f := fun k => (Ze.f k l[i].f0.f0 l[i].f1 l[i].f2 l[i].f3 l[i].f4.f0 l[i].f5 l[i].f6).bind fun b => if (i : Int) < (L.length : Int) then yc.l0 k l (L.set ((i : Int)).toNat ⟨⟨b.1⟩, b.2.1, b.2.2.1, b.2.2.2.1, ⟨b.2.2.2.2.1⟩, b.2.2.2.2.2.1, b.2.2.2.2.2.2⟩) (wrap64 ((i : Int) + 1)) else none) (fun k => ?_) (Ev.bind ht ?_)
    · simp only [yc.l0]
      rw [if_pos (by omega), if_pos (by omega), rdRL l i hil]
    · simp only [if_pos (show (i : Int) < (L.length : Int) by omega), show ((i : Int)).toNat = i by omega, w64 (x := (i : Int) + 1) (by omega) (by omega)]
      have e : (⟨⟨l[i].f0.f0⟩, l[i].f1, l[i].f2, l[i].f3, ⟨l[i].f4.f0⟩, l[i].f5, l[i].f6⟩ : RI) = (l.map cvR)[i] := by simp [cvR]
      rw [e, hs];exact ih (i + 1) (by omega)
theorem toRrS (l : List RL) (hl : l.length ≤ 1048576) (he : ∀ x ∈ l, FitR (cvR x)) : Ev (fun k => yc.f k l) (l.map cvR) := by
  have h := toRrS_l0 l hl he l.length 0 (by omega);unfold yc.f;simp only [if_pos (show 0 ≤ (l.length : Int) by omega), show ((l.length : Int)).toNat = l.length by omega, if_pos (show l.length ≤ 2345624805922 by omega)];simpa using h
theorem eqRrS_l0 (l : List RI) (hl : l.length ≤ 1048576) (he : ∀ x ∈ l, FitR x) (m : Nat) : ∀ (i : Nat), l.length = i + m → Ev (fun k => jy.l0 k l l i) true := by
  induction m with
  | zero =>
    intro i hi;refine Ev.step (f := fun _ => some true) (fun k => ?_) (Ev.now _);simp only [jy.l0];rw [if_neg (by omega)]
  | succ m ih =>
    intro i hi;have hil : i < l.length := by omega
    obtain ⟨f0, f4, f5, f6⟩ := he _ (List.getElem_mem hil);have ht := eqRr l[i].f0.f0 l[i].f1 l[i].f2 l[i].f3 l[i].f4.f0 l[i].f5 l[i].f6 f0 f4 f5 f6;refine Ev.step (f := fun k => (QM.f k l[i].f0.f0 l[i].f1 l[i].f2 l[i].f3 l[i].f4.f0 l[i].f5 l[i].f6 l[i].f0.f0 l[i].f1 l[i].f2 l[i].f3 l[i].f4.f0 l[i].f5 l[i].f6).bind fun b => if b = true then jy.l0 k l l (wrap64 ((i : Int) + 1)) else some false) (fun k => ?_) (Ev.bind ht ?_)
    · simp only [jy.l0]
      rw [if_pos (by omega), if_pos (by omega), if_pos (by omega), rdRI l i hil]
    · simp only [if_true, w64 (x := (i : Int) + 1) (by omega) (by omega)]
      exact ih (i + 1) (by omega)
theorem eqRrS (l : List RI) (hl : l.length ≤ 1048576) (he : ∀ x ∈ l, FitR x) : Ev (fun k => jy.f k l l) true := by
  unfold jy.f;simp only [if_true];exact eqRrS_l0 l hl he l.length 0 (by omega)
def okR (x : RI) : Bool := rrOkV x.f0.f0 x.f1 x.f2 x.f3 x.f4.f0 x.f5 x.f6
theorem idx_all (q : Nat → RI → Option Bool) (v : RI → Bool) : ∀ (l : List RI) (j : Nat), (∀ x ∈ l, Ev (fun k => q k x) (v x)) → ∃ r : Int, Ev (fun k => QH.idx (fun x => (q k x).map (fun b => !b)) l j) r ∧ (!decide (0 ≤ r)) = l.all v
  | [], j, _ => ⟨-1, Ev.here (fun _ => rfl), by simp⟩
  | x :: l, j, h => by
    have hx := h x List.mem_cons_self;obtain ⟨r, hr, e⟩ := idx_all q v l (j + 1) (fun y hy => h y (List.mem_cons_of_mem _ hy));simp only [QH.idx, Option.bind_map];cases hv : v x with
    | true =>
      rw [hv] at hx;refine ⟨r, Ev.bind hx ?_, by rw [e]; simp [hv]⟩;simpa using hr
    | false =>
      rw [hv] at hx;refine ⟨j, Ev.bind hx ?_, by simp [hv]⟩;simpa using Ev.now _
theorem allOk (L : List RI) (ht : ∀ x ∈ L, I64R x) : Ev (fun k => Qg.f k L) (L.all okR) := by
  obtain ⟨r, hr, e⟩ := idx_all (fun k x => Qg.q k x) okR L 0 (fun x hx => implRrOk _ _ _ _ _ _ _ (ht x hx));unfold Qg.f;rw [← e];obtain ⟨n, hn⟩ := hr;exact ⟨n, fun k hk => by have h := hn k hk; have h : QH.idx (fun x => (Qg.q k x).map (fun b => !b)) L 0 = some r := h; show Option.map (fun r => !decide (0 ≤ r)) (QH.idx (fun x => (Qg.q k x).map (fun b => !b)) L 0) = _; rw [h]; rfl⟩
end Go.Proofs.YtagedmajlppohaaGreat.Pure

/- Plain lemmas on the printed functions that read, measure and compare what an update asks for, and say whether it is right. -/
namespace Go.Proofs.YtagedmajlppohaaGreat.Pure
open Go Go.RowKit Go.Proofs.YtagedmajlppohaaGreat.Q Go.Proofs.YtagedmajlppohaaGreatW.PrintWords Go.Proofs.YtagedmajlppohaaGreatW.PrintLast Go.Proofs.YtagedmajlppohaaGreatW.PrintMore
set_option linter.unusedVariables false
set_option linter.unusedSimpArgs false

def askedV (t : Int) : Bool := typeOkV t || t == 255
theorem specAsked (t : Int) : Qt.f t = some (askedV t) := by
  unfold Qt.f askedV;rw [specTypeOk];cases typeOkV t <;> simp
theorem implAsked (t : Int) (ht : -9223372036854775808 ≤ t ∧ t ≤ 9223372036854775807) : Qw.f t = some (askedV t) := by
  unfold Qw.f askedV;rw [implTypeOk t ht];cases typeOkV t <;> simp
def wantOkV (n : List (List Int)) (t ttl addr : Int) (dst : List (List Int)) (text nums : List Int) (cl : Int) (bare : Bool) : Bool :=
  if cl = 1 ∨ cl = 254 ∨ cl = 255 then
    (if bare = true then decide (cl ≠ 1) && (qG.v n && (askedV t && (decide (ttl = 0) && (decide (addr = 0) && (decide (dst.length = 0) && (decide (text.length = 0) && decide (nums.length = 0)))))))
    else decide (cl ≠ 255) && (rrOkV n t ttl addr dst text nums && (decide (cl ≠ 254) || decide (ttl = 0))))
  else false
theorem specWantOk_j0 (x : Bool) (n : List (List Int)) (t ttl addr : Int) (dst : List (List Int)) (text nums : List Int) (cl : Int) (bare : Bool) (hn : FitN n) (hto : FitN dst) : Ev (fun k => jM.j0 k x n t ttl addr dst text nums cl bare) (if x = true then false else if bare = true then decide (cl ≠ 1) && (qG.v n && (askedV t && (decide (ttl = 0) && (decide (addr = 0) && (decide (dst.length = 0) && (decide (text.length = 0) && decide (nums.length = 0)))))))
    else decide (cl ≠ 255) && (rrOkV n t ttl addr dst text nums && (decide (cl ≠ 254) || decide (ttl = 0)))) := by
  cases x
  · simp only [Bool.false_eq_true, if_false]
    cases bare
    · refine Ev.step (f := fun k => (Qe.f k n t ttl addr dst text nums).bind fun u => some (decide (cl ≠ 255) && (u && (decide (cl ≠ 254) || decide (ttl = 0))))) (fun k => ?_) ?_
      · simp only [jM.j0, Bool.false_eq_true, if_false]
        congr 1; funext u
        cases u
        · simp
        · by_cases h1 : cl = 254
          · subst h1; by_cases h2 : ttl = 0 <;> simp [h2]
          · by_cases h3 : cl = 255
            · subst h3; simp
            · simp [h1, h3]
      · simp only [Bool.false_eq_true, if_false]
        exact Ev.bind (specRrOk _ _ _ _ _ _ _ hn hto) (Ev.now _)
    · refine Ev.step (f := fun k => if cl = 1 then some false else (qX.f k n).bind fun u => some (u && (askedV t && (decide (ttl = 0) && (decide (addr = 0) && (decide (dst.length = 0) && (decide (text.length = 0) && decide (nums.length = 0)))))))) (fun k => ?_) ?_
      · simp only [jM.j0, Bool.false_eq_true, if_false, if_true]
        by_cases h : cl = 1
        · rw [if_pos h, if_pos h]
        rw [if_neg h, if_neg h];congr 1; funext u
        rw [specAsked];cases u
        · simp
        simp only [if_true, Option.bind_some, Bool.true_and];cases askedV t
        · simp
        by_cases b1 : ttl = 0
        · by_cases b2 : addr = 0
          · by_cases b3 : dst.length = 0
            · by_cases b4 : text.length = 0
              · rw [if_pos rfl, if_pos b1, if_pos b2, if_pos (by omega), if_pos (by omega)]
                simp only [b1, b2, b3, b4, decide_true, Bool.true_and];congr 1
                rw [Bool.eq_iff_iff, beq_iff_eq, decide_eq_true_iff]; omega
              · rw [if_pos rfl, if_pos b1, if_pos b2, if_pos (by omega), if_neg (by omega)]
                simp [b4]
            · rw [if_pos rfl, if_pos b1, if_pos b2, if_neg (by omega)]
              simp [b3]
          · rw [if_pos rfl, if_pos b1, if_neg b2]
            simp [b2]
        · rw [if_pos rfl, if_neg b1]
          simp [b1]
      · by_cases h : cl = 1
        · simp only [if_pos h, if_true]; rw [decide_eq_false (by omega), Bool.false_and]; exact Ev.now _
        · simp only [if_neg h, if_true]; rw [decide_eq_true h, Bool.true_and]
          exact Ev.bind (specNameOk n hn.1 hn.big) (Ev.now _)
  · refine Ev.step (f := fun _ => some false) (fun k => ?_) (Ev.now _)
    simp only [jM.j0, if_true]
theorem specWantOk (n : List (List Int)) (t ttl addr : Int) (dst : List (List Int)) (text nums : List Int) (cl : Int) (bare : Bool) (hn : FitN n) (hto : FitN dst) : Ev (fun k => jM.f k n t ttl addr dst text nums cl bare) (wantOkV n t ttl addr dst text nums cl bare) := by
  have e : ∀ x : Bool, x = decide (¬ (cl = 1 ∨ cl = 254 ∨ cl = 255)) → Ev (fun k => jM.j0 k x n t ttl addr dst text nums cl bare) (wantOkV n t ttl addr dst text nums cl bare) := by
    intro x hx;have := specWantOk_j0 x n t ttl addr dst text nums cl bare hn hto;unfold wantOkV;by_cases h : cl = 1 ∨ cl = 254 ∨ cl = 255
    · rw [if_pos h]; rw [decide_eq_false (fun h2 => h2 h)] at hx; subst hx; simpa only [Bool.false_eq_true, if_false] using this
    · rw [if_neg h]; rw [decide_eq_true h] at hx; subst hx; simpa only [if_true] using this
  unfold jM.f;by_cases h1 : cl = 1
  · simp only [if_pos h1]; exact e _ (by simp [h1])
  simp only [if_neg h1];by_cases h2 : cl = 254
  · simp only [if_pos h2]; exact e _ (by simp [h2])
  simp only [if_neg h2]; exact e _ (by simp [h1, h2]; rw [Bool.eq_iff_iff]; simp)
theorem implWantOk_j0 (x : Bool) (n : List (List Int)) (t ttl addr : Int) (dst : List (List Int)) (text nums : List Int) (cl : Int) (bare : Bool) (ht : -9223372036854775808 ≤ t ∧ t ≤ 9223372036854775807) (hcl : cl = 1 ∨ cl = 254 ∨ cl = 255 ∨ x = true) : Ev (fun k => zd.j0 k x n t ttl addr dst text nums cl bare n t ttl addr dst text nums) (if x = true then false else if bare = true then decide (cl ≠ 1) && (qG.v n && (askedV t && (decide (ttl = 0) && (decide (addr = 0) && (decide (dst.length = 0) && (decide (text.length = 0) && decide (nums.length = 0)))))))
    else decide (cl ≠ 255) && (rrOkV n t ttl addr dst text nums && (decide (cl ≠ 254) || decide (ttl = 0)))) := by
  cases x
  · simp only [Bool.false_eq_true, if_false]
    cases bare
    · refine Ev.step (f := fun k => if cl = 255 then some false else (qT.f k n t ttl addr dst text nums).bind fun u => some (u && (decide (cl ≠ 254) || decide (ttl = 0)))) (fun k => ?_) ?_
      · simp only [zd.j0, Bool.false_eq_true, if_false]
        by_cases h : cl = 255
        · rw [if_pos h, if_pos h]
        rw [if_neg h, if_neg h];congr 1; funext u
        cases u
        · simp
        · by_cases h1 : cl = 1
          · subst h1; simp
          · have h3 : cl = 254 := by simp at hcl; omega
            subst h3; simp;rw [Bool.eq_iff_iff]; simp
      · by_cases h : cl = 255
        · simp only [if_pos h, Bool.false_eq_true, if_false]; rw [decide_eq_false (by omega), Bool.false_and]; exact Ev.now _
        · simp only [if_neg h, Bool.false_eq_true, if_false]; rw [decide_eq_true h, Bool.true_and]
          exact Ev.bind (implRrOk _ _ _ _ _ _ _ ht) (Ev.now _)
    · refine Ev.step (f := fun k => if cl = 1 then some false else some (qG.v n && (askedV t && (decide (ttl = 0) && (decide (addr = 0) && (decide (dst.length = 0) && (decide (text.length = 0) && decide (nums.length = 0)))))))) (fun k => ?_) ?_
      · simp only [zd.j0, Bool.false_eq_true, if_false, if_true]
        by_cases h : cl = 1
        · rw [if_pos h, if_pos h]
        rw [if_neg h, if_neg h];unfold qG.f;rw [implAsked t ht, Option.bind_some];cases qG.v n
        · simp
        simp only [if_true, Option.bind_some, Bool.true_and];cases askedV t
        · simp
        by_cases b1 : ttl = 0
        · by_cases b2 : addr = 0
          · by_cases b3 : dst.length = 0
            · by_cases b4 : text.length = 0
              · rw [if_pos rfl, if_pos b1, if_pos b2, if_pos (by omega), if_pos (by omega)]
                simp only [b1, b2, b3, b4, decide_true, Bool.true_and];congr 1
                rw [Bool.eq_iff_iff, beq_iff_eq, decide_eq_true_iff]; omega
              · rw [if_pos rfl, if_pos b1, if_pos b2, if_pos (by omega), if_neg (by omega)]
                simp [b4]
            · rw [if_pos rfl, if_pos b1, if_pos b2, if_neg (by omega)]
              simp [b3]
          · rw [if_pos rfl, if_pos b1, if_neg b2]
            simp [b2]
        · rw [if_pos rfl, if_neg b1]
          simp [b1]
      · by_cases h : cl = 1
        · simp only [if_pos h, if_true]; rw [decide_eq_false (by omega), Bool.false_and]; exact Ev.now _
        · simp only [if_neg h, if_true]; rw [decide_eq_true h, Bool.true_and]
          exact Ev.now _
  · refine Ev.step (f := fun _ => some false) (fun k => ?_) (Ev.now _)
    simp only [zd.j0, if_true]
theorem implWantOk (n : List (List Int)) (t ttl addr : Int) (dst : List (List Int)) (text nums : List Int) (cl : Int) (bare : Bool) (ht : -9223372036854775808 ≤ t ∧ t ≤ 9223372036854775807) : Ev (fun k => zd.f k n t ttl addr dst text nums cl bare) (wantOkV n t ttl addr dst text nums cl bare) := by
  have e : ∀ x : Bool, x = decide (¬ (cl = 1 ∨ cl = 254 ∨ cl = 255)) → Ev (fun k => zd.j0 k x n t ttl addr dst text nums cl bare n t ttl addr dst text nums) (wantOkV n t ttl addr dst text nums cl bare) := by
    intro x hx
    have := implWantOk_j0 x n t ttl addr dst text nums cl bare ht (by
      by_cases h : cl = 1 ∨ cl = 254 ∨ cl = 255
      · omega
      · rw [decide_eq_true h] at hx; simp [hx])
    unfold wantOkV;by_cases h : cl = 1 ∨ cl = 254 ∨ cl = 255
    · rw [if_pos h]; rw [decide_eq_false (fun h2 => h2 h)] at hx; subst hx; simpa only [Bool.false_eq_true, if_false] using this
    · rw [if_neg h]; rw [decide_eq_true h] at hx; subst hx; simpa only [if_true] using this
  unfold zd.f;by_cases h1 : cl = 1
  · simp only [if_pos h1]; exact e _ (by simp [h1])
  simp only [if_neg h1];by_cases h2 : cl = 254
  · simp only [if_pos h2]; exact e _ (by simp [h2])
  simp only [if_neg h2]; exact e _ (by simp [h1, h2]; rw [Bool.eq_iff_iff]; simp)
theorem szWant (n : List (List Int)) (t ttl addr : Int) (dst : List (List Int)) (text nums : List Int) (cl : Int) (bare : Bool) (left : Int) (hn : RawN n) (hto : RawN dst) (ht : text.length ≤ 9223372036854775807) (hnu : nums.length ≤ 9223372036854775807) (h0 : 0 ≤ left) (h1 : left ≤ 1048576) :
    ∃ u, Ev (fun k => JC.f k n t ttl addr dst text nums cl bare left) u ∧ (u < 0 ∨ (0 ≤ u ∧ u ≤ left ∧ FitN n ∧ FitN dst ∧ text.length ≤ 1048576 ∧ nums.length ≤ 1048576)) := by
  unfold JC.f;obtain ⟨a, ha, hca⟩ := szRr n t ttl addr dst text nums left hn hto ht hnu h0 h1;by_cases h : a < 0
  · exact ⟨-1, Ev.bind ha (by simp only [if_pos h]; exact Ev.now _), Or.inl (by omega)⟩
  · exact ⟨a, Ev.bind ha (by simp only [if_neg h]; exact Ev.now _), hca⟩
theorem toWant (n : List (List Int)) (t ttl addr : Int) (dst : List (List Int)) (text nums : List Int) (cl : Int) (bare : Bool) (hn : FitN n) (hto : FitN dst) (ht : text.length ≤ 1048576) (hnu : nums.length ≤ 1048576) :
    Ev (fun k => Zx.f k n t ttl addr dst text nums cl bare) (n, t, ttl, addr, dst, text, nums, cl, bare) := by
  unfold Zx.f;exact Ev.bind (toRr n t ttl addr dst text nums hn hto ht hnu) (Ev.now _)
theorem eqWant (n : List (List Int)) (t ttl addr : Int) (dst : List (List Int)) (text nums : List Int) (cl : Int) (bare : Bool) (hn : FitN n) (hto : FitN dst) (ht : text.length ≤ 1048576) (hnu : nums.length ≤ 1048576) :
    Ev (fun k => Za.f k n t ttl addr dst text nums cl bare n t ttl addr dst text nums cl bare) true := by
  unfold Za.f;refine Ev.bind (eqRr n t ttl addr dst text nums hn hto ht hnu) ?_;simp only [if_true, bne_self_eq_false, Bool.false_eq_true, if_false];exact Ev.now _
end Go.Proofs.YtagedmajlppohaaGreat.Pure

/- Plain lemmas on the printed functions: rows of wants and of questions read, measured, copied, compared. -/
namespace Go.Proofs.YtagedmajlppohaaGreat.Pure
open Go Go.RowKit Go.Proofs.YtagedmajlppohaaGreat.Q Go.Proofs.YtagedmajlppohaaGreatW.PrintWords Go.Proofs.YtagedmajlppohaaGreatW.PrintLast Go.Proofs.YtagedmajlppohaaGreatW.PrintMore
set_option linter.unusedVariables false
set_option linter.unusedSimpArgs false
abbrev WL := S50
abbrev WI := S58
theorem rdWL (l : List WL) (i : Nat) (h : i < l.length) : qR l (i : Int) = l[i] := by simp [qR, List.getD_eq_getElem?_getD, h]
theorem rdWI (l : List WI) (i : Nat) (h : i < l.length) : qg l (i : Int) = l[i] := by simp [qg, List.getD_eq_getElem?_getD, h]
def cvW (x : WL) : WI := ⟨cvR x.f0, x.f1, x.f2⟩
def RawW (x : WL) : Prop := RawR x.f0
def FitW (x : WI) : Prop := FitR x.f0
def I64W (x : WI) : Prop := I64R x.f0
theorem szWantS_l0 (l : List WL) (hl : l.length ≤ 1048576) (he : ∀ x ∈ l, RawW x) (m : Nat) : ∀ (i : Nat) (left : Int), l.length = i + m → 0 ≤ left → left ≤ 1048576 →
    ∃ u, Ev (fun k => jL.l0 k l left i) u ∧ (u < 0 ∨ (0 ≤ u ∧ u ≤ left ∧ ∀ x ∈ l.drop i, FitW (cvW x))) := by
  induction m with
  | zero =>
    intro i left hi h0 h1;refine ⟨left, Ev.step (f := fun _ => some left) (fun k => ?_) (Ev.now _), Or.inr ⟨h0, by omega, fun x hx => by rw [List.drop_of_length_le (by omega)] at hx; cases hx⟩⟩;simp only [jL.l0];rw [if_neg (by omega)]
  | succ m ih =>
    intro i left hi h0 h1;have hil : i < l.length := by omega
    obtain ⟨r0, r4, r5, r6, _⟩ := he _ (List.getElem_mem hil);obtain ⟨t, ht, hc⟩ := szWant l[i].f0.f0.f0 l[i].f0.f1 l[i].f0.f2 l[i].f0.f3 l[i].f0.f4.f0 l[i].f0.f5 l[i].f0.f6 l[i].f1 l[i].f2 left r0 r4 r5 r6 h0 h1;by_cases hneg : t < 0
    · refine ⟨-1, Ev.step (f := fun k => (JC.f k l[i].f0.f0.f0 l[i].f0.f1 l[i].f0.f2 l[i].f0.f3 l[i].f0.f4.f0 l[i].f0.f5 l[i].f0.f6 l[i].f1 l[i].f2 left).bind fun qJ => if qJ < 0 then some (-1) else jL.l0 k l qJ (wrap64 ((i : Int) + 1))) (fun k => ?_) (Ev.bind ht (by simp only [if_pos hneg]; exact Ev.now _)), Or.inl (by omega)⟩
      simp only [jL.l0];rw [if_pos (by omega), if_pos (by omega), rdWL l i hil]
    · obtain ⟨h2, h3, hf⟩ := hc.resolve_left hneg
      obtain ⟨u, hu, hcu⟩ := ih (i + 1) t (by omega) (by omega) (by omega);refine ⟨u, Ev.step (f := fun k => (JC.f k l[i].f0.f0.f0 l[i].f0.f1 l[i].f0.f2 l[i].f0.f3 l[i].f0.f4.f0 l[i].f0.f5 l[i].f0.f6 l[i].f1 l[i].f2 left).bind fun qJ => if qJ < 0 then some (-1) else jL.l0 k l qJ (wrap64 ((i : Int) + 1))) (fun k => ?_) (Ev.bind ht ?_), ?_⟩
      · simp only [jL.l0]
        rw [if_pos (by omega), if_pos (by omega), rdWL l i hil]
      · simp only [if_neg hneg]
        rw [w64 (x := (i : Int) + 1) (by omega) (by omega)];exact hu
      · rcases hcu with h | ⟨h, h', hd⟩
        · exact Or.inl h
        · refine Or.inr ⟨h, by omega, fun x hx => ?_⟩
          rw [List.drop_eq_getElem_cons hil] at hx;rcases List.mem_cons.1 hx with rfl | hx
          · exact hf
          · exact hd x hx
theorem szWantS (l : List WL) (left : Int) (hl : l.length ≤ 9223372036854775807) (he : ∀ x ∈ l, RawW x) (h0 : 0 ≤ left) (h1 : left ≤ 1048576) :
    ∃ u, Ev (fun k => jL.f k l left) u ∧ (u < 0 ∨ (0 ≤ u ∧ u ≤ left ∧ l.length ≤ 1048576 ∧ ∀ x ∈ l, FitW (cvW x))) := by
  unfold jL.f;rw [w64 (by omega) (by omega)];by_cases h : left - (l.length : Int) < 0
  · exact ⟨-1, by simp only [if_pos h]; exact Ev.now _, Or.inl (by omega)⟩
  · obtain ⟨u, hu, hc⟩ := szWantS_l0 l (by omega) he l.length 0 (left - l.length) (by omega) (by omega) (by omega)
    refine ⟨u, by simp only [if_neg h]; exact hu, ?_⟩;rcases hc with h2 | ⟨h2, h3, h4⟩
    · exact Or.inl h2
    · exact Or.inr ⟨h2, by omega, by omega, by rw [List.drop_zero] at h4; exact h4⟩
theorem toWantS_l0 (l : List WL) (hl : l.length ≤ 1048576) (he : ∀ x ∈ l, FitW (cvW x)) (m : Nat) : ∀ (i : Nat), l.length = i + m →
    Ev (fun k => jh.l0 k l ((l.map cvW).take i ++ List.replicate m z58) i) (l.map cvW) := by
  induction m with
  | zero =>
    intro i hi;refine Ev.step (f := fun _ => some (l.map cvW)) (fun k => ?_) (Ev.now _);simp only [jh.l0];rw [if_neg (by omega), List.take_of_length_le (by simp; omega)];simp
  | succ m ih =>
    intro i hi;have hil : i < l.length := by omega
    have hil' : i < (l.map cvW).length := by simpa using hil
    obtain ⟨f0, f4, f5, f6⟩ := he _ (List.getElem_mem hil);have ht := toWant l[i].f0.f0.f0 l[i].f0.f1 l[i].f0.f2 l[i].f0.f3 l[i].f0.f4.f0 l[i].f0.f5 l[i].f0.f6 l[i].f1 l[i].f2 f0 f4 f5 f6;have hs := setR_prefix z58 (l.map cvW) i hil' m;have hlen : ((l.map cvW).take i ++ List.replicate (m + 1) z58).length = l.length := by simp; omega
    generalize (l.map cvW).take i ++ List.replicate (m + 1) z58 = L at hs hlen;refine Ev.step (f := fun k => (Zx.f k l[i].f0.f0.f0 l[i].f0.f1 l[i].f0.f2 l[i].f0.f3 l[i].f0.f4.f0 l[i].f0.f5 l[i].f0.f6 l[i].f1 l[i].f2).bind fun b => if (i : Int) < (L.length : Int) then jh.l0 k l (L.set ((i : Int)).toNat ⟨⟨⟨b.1⟩, b.2.1, b.2.2.1, b.2.2.2.1, ⟨b.2.2.2.2.1⟩, b.2.2.2.2.2.1, b.2.2.2.2.2.2.1⟩, b.2.2.2.2.2.2.2.1, b.2.2.2.2.2.2.2.2⟩) (wrap64 ((i : Int) + 1)) else none) (fun k => ?_) (Ev.bind ht ?_)
    · simp only [jh.l0]
      rw [if_pos (by omega), if_pos (by omega), rdWL l i hil]
    · simp only [if_pos (show (i : Int) < (L.length : Int) by omega), show ((i : Int)).toNat = i by omega, w64 (x := (i : Int) + 1) (by omega) (by omega)]
      have e : (⟨⟨⟨l[i].f0.f0.f0⟩, l[i].f0.f1, l[i].f0.f2, l[i].f0.f3, ⟨l[i].f0.f4.f0⟩, l[i].f0.f5, l[i].f0.f6⟩, l[i].f1, l[i].f2⟩ : WI) = (l.map cvW)[i] := by simp [cvW, cvR]
      rw [e, hs];exact ih (i + 1) (by omega)
theorem toWantS (l : List WL) (hl : l.length ≤ 1048576) (he : ∀ x ∈ l, FitW (cvW x)) : Ev (fun k => jh.f k l) (l.map cvW) := by
  have h := toWantS_l0 l hl he l.length 0 (by omega);unfold jh.f;simp only [if_pos (show 0 ≤ (l.length : Int) by omega), show ((l.length : Int)).toNat = l.length by omega, if_pos (show l.length ≤ 2069668946401 by omega)];simpa using h
theorem eqWantS_l0 (l : List WI) (hl : l.length ≤ 1048576) (he : ∀ x ∈ l, FitW x) (m : Nat) : ∀ (i : Nat), l.length = i + m → Ev (fun k => je.l0 k l l i) true := by
  induction m with
  | zero =>
    intro i hi;refine Ev.step (f := fun _ => some true) (fun k => ?_) (Ev.now _);simp only [je.l0];rw [if_neg (by omega)]
  | succ m ih =>
    intro i hi;have hil : i < l.length := by omega
    obtain ⟨f0, f4, f5, f6⟩ := he _ (List.getElem_mem hil);have ht := eqWant l[i].f0.f0.f0 l[i].f0.f1 l[i].f0.f2 l[i].f0.f3 l[i].f0.f4.f0 l[i].f0.f5 l[i].f0.f6 l[i].f1 l[i].f2 f0 f4 f5 f6;refine Ev.step (f := fun k => (Za.f k l[i].f0.f0.f0 l[i].f0.f1 l[i].f0.f2 l[i].f0.f3 l[i].f0.f4.f0 l[i].f0.f5 l[i].f0.f6 l[i].f1 l[i].f2 l[i].f0.f0.f0 l[i].f0.f1 l[i].f0.f2 l[i].f0.f3 l[i].f0.f4.f0 l[i].f0.f5 l[i].f0.f6 l[i].f1 l[i].f2).bind fun b => if b = true then je.l0 k l l (wrap64 ((i : Int) + 1)) else some false) (fun k => ?_) (Ev.bind ht ?_)
    · simp only [je.l0]
      rw [if_pos (by omega), if_pos (by omega), if_pos (by omega), rdWI l i hil]
    · simp only [if_true, w64 (x := (i : Int) + 1) (by omega) (by omega)]
      exact ih (i + 1) (by omega)
theorem eqWantS (l : List WI) (hl : l.length ≤ 1048576) (he : ∀ x ∈ l, FitW x) : Ev (fun k => je.f k l l) true := by
  unfold je.f;simp only [if_true];exact eqWantS_l0 l hl he l.length 0 (by omega)
def okW (x : WI) : Bool := wantOkV x.f0.f0.f0 x.f0.f1 x.f0.f2 x.f0.f3 x.f0.f4.f0 x.f0.f5 x.f0.f6 x.f1 x.f2
theorem idx_allW (q : Nat → WI → Option Bool) (v : WI → Bool) : ∀ (l : List WI) (j : Nat), (∀ x ∈ l, Ev (fun k => q k x) (v x)) → ∃ r : Int, Ev (fun k => yX.idx (fun x => (q k x).map (fun b => !b)) l j) r ∧ (!decide (0 ≤ r)) = l.all v
  | [], j, _ => ⟨-1, Ev.here (fun _ => rfl), by simp⟩
  | x :: l, j, h => by
    have hx := h x List.mem_cons_self;obtain ⟨r, hr, e⟩ := idx_allW q v l (j + 1) (fun y hy => h y (List.mem_cons_of_mem _ hy));simp only [yX.idx, Option.bind_map];cases hv : v x with
    | true =>
      rw [hv] at hx;refine ⟨r, Ev.bind hx ?_, by rw [e]; simp [hv]⟩;simpa using hr
    | false =>
      rw [hv] at hx;refine ⟨j, Ev.bind hx ?_, by simp [hv]⟩;simpa using Ev.now _
theorem allOkW (L : List WI) (ht : ∀ x ∈ L, I64W x) : Ev (fun k => yw.f k L) (L.all okW) := by
  obtain ⟨r, hr, e⟩ := idx_allW (fun k x => yw.q k x) okW L 0 (fun x hx => implWantOk _ _ _ _ _ _ _ _ _ (ht x hx));unfold yw.f;rw [← e];obtain ⟨n, hn⟩ := hr;exact ⟨n, fun k hk => by have h := hn k hk; have h : yX.idx (fun x => (yw.q k x).map (fun b => !b)) L 0 = some r := h; show Option.map (fun r => !decide (0 ≤ r)) (yX.idx (fun x => (yw.q k x).map (fun b => !b)) L 0) = _; rw [h]; rfl⟩
--@if qqQ.f
end Go.Proofs.YtagedmajlppohaaGreat.Pure

/- Plain lemmas on the printed functions: a message is right; its bytes. -/
namespace Go.Proofs.YtagedmajlppohaaGreat.Pure
open Go Go.RowKit Go.Proofs.YtagedmajlppohaaGreat.Q Go.Proofs.YtagedmajlppohaaGreatW.PrintWords Go.Proofs.YtagedmajlppohaaGreatW.PrintLast Go.Proofs.YtagedmajlppohaaGreatW.PrintMore
set_option linter.unusedVariables false
set_option linter.unusedSimpArgs false
/-! ### Bytes of records and wants -/
/-! ### Rows of them are right -/
def wantsV (L : List WI) : Bool := decide (L.length ≤ 12) && L.all okW
theorem specWants_l0 (L : List WI) (hl : L.length ≤ 12) (he : ∀ x ∈ L, FitW x) (m : Nat) : ∀ (i : Nat), L.length = i + m → Ev (fun k => zf.l0 k L i) ((L.drop i).all okW) := by
  induction m with
  | zero =>
    intro i hi;refine Ev.step (f := fun _ => some ((L.drop i).all okW)) (fun k => ?_) (Ev.now _);simp only [zf.l0];rw [if_neg (by omega), List.drop_of_length_le (by omega)];rfl
  | succ m ih =>
    intro i hi;have hil : i < L.length := by omega
    obtain ⟨f0, f4, f5, f6⟩ := (he _ (List.getElem_mem hil) : FitR _);have ht := specWantOk L[i].f0.f0.f0 L[i].f0.f1 L[i].f0.f2 L[i].f0.f3 L[i].f0.f4.f0 L[i].f0.f5 L[i].f0.f6 L[i].f1 L[i].f2 f0 f4;refine Ev.step (f := fun k => (jM.f k L[i].f0.f0.f0 L[i].f0.f1 L[i].f0.f2 L[i].f0.f3 L[i].f0.f4.f0 L[i].f0.f5 L[i].f0.f6 L[i].f1 L[i].f2).bind fun qJ => if qJ = true then zf.l0 k L (wrap64 ((i : Int) + 1)) else some false) (fun k => ?_) (Ev.bind ht ?_)
    · simp only [zf.l0]
      rw [if_pos (by omega), if_pos (by omega), rdWI L i hil]
    · rw [List.drop_eq_getElem_cons hil, List.all_cons]
      rw [show okW L[i] = wantOkV L[i].f0.f0.f0 L[i].f0.f1 L[i].f0.f2 L[i].f0.f3 L[i].f0.f4.f0 L[i].f0.f5 L[i].f0.f6 L[i].f1 L[i].f2 from rfl];cases wantOkV L[i].f0.f0.f0 L[i].f0.f1 L[i].f0.f2 L[i].f0.f3 L[i].f0.f4.f0 L[i].f0.f5 L[i].f0.f6 L[i].f1 L[i].f2 with
      | true =>
        simp only [if_true, w64 (x := (i : Int) + 1) (by omega) (by omega), Bool.true_and];exact ih (i + 1) (by omega)
      | false => simp only [Bool.false_eq_true, if_false, Bool.false_and]; exact Ev.now _
theorem specWants (L : List WI) (he : ∀ x ∈ L, FitW x) : Ev (fun k => zf.f k L) (wantsV L) := by
  unfold zf.f wantsV;by_cases h : (L.length : Int) > 12
  · rw [decide_eq_false (by omega)]; simp only [if_pos h]; exact Ev.now _
  · rw [decide_eq_true (by omega)]; simp only [if_neg h]; exact specWants_l0 L (by omega) he L.length 0 (by omega)
theorem implWants (L : List WI) (ht : ∀ x ∈ L, I64W x) : Ev (fun k => Ji.f k L) (wantsV L) := by
  unfold Ji.f wantsV;by_cases h : (L.length : Int) ≤ 12
  · rw [decide_eq_true (by omega)]; simp only [if_pos h]; exact Ev.bind (allOkW L ht) (Ev.now _)
  · rw [decide_eq_false (by omega)]; simp only [if_neg h]; exact Ev.now _
end Go.Proofs.YtagedmajlppohaaGreat.Pure

/- Plain lemmas on the printed functions: rows of records read, measured, copied, compared; a zone is right. (Names of all[Rr] and its index function as in the seat r3.) -/
namespace Go.Proofs.YtagedmajlppohaaGreat.Pure
open Go Go.RowKit Go.Proofs.YtagedmajlppohaaGreat.Q Go.Proofs.YtagedmajlppohaaGreatW.PrintWords Go.Proofs.YtagedmajlppohaaGreatW.PrintLast Go.Proofs.YtagedmajlppohaaGreatW.PrintMore
set_option linter.unusedVariables false
set_option linter.unusedSimpArgs false
theorem szZone (o : List (List Int)) (l : List RL) (left : Int) (ho : RawN o) (hl : l.length ≤ 9223372036854775807) (he : ∀ x ∈ l, RawR x) (h0 : 0 ≤ left) (h1 : left ≤ 1048576) :
    ∃ u, Ev (fun k => JB.f k o l left) u ∧ (u < 0 ∨ (0 ≤ u ∧ u ≤ left ∧ FitN o ∧ l.length ≤ 1048576 ∧ ∀ x ∈ l, FitR (cvR x))) := by
  unfold JB.f;obtain ⟨a, ha, hca⟩ := szName' o left ho h0 h1;by_cases h : a < 0
  · exact ⟨-1, Ev.bind ha (by simp only [if_pos h]; exact Ev.now _), Or.inl (by omega)⟩
  have f1 := hca.resolve_left h;obtain ⟨b, hb, hcb⟩ := szRrS l a hl he (by omega) (by omega);by_cases h2 : b < 0
  · exact ⟨-1, Ev.bind ha (by simp only [if_neg h]; exact Ev.bind hb (by simp only [if_pos h2]; exact Ev.now _)), Or.inl (by omega)⟩
  obtain ⟨h3, h4, h5, h6⟩ := hcb.resolve_left h2;exact ⟨b, Ev.bind ha (by simp only [if_neg h]; exact Ev.bind hb (by simp only [if_neg h2]; exact Ev.now _)), Or.inr ⟨h3, by omega, f1.2.2, h5, h6⟩⟩
theorem toZone (o : List (List Int)) (l : List RL) (ho : FitN o) (hl : l.length ≤ 1048576) (he : ∀ x ∈ l, FitR (cvR x)) : Ev (fun k => yD.f k o l) (o, l.map cvR) := by
  unfold yD.f;exact Ev.bind (toName' o ho) (Ev.bind (toRrS l hl he) (Ev.now _))
theorem eqZone (o : List (List Int)) (l : List RI) (ho : FitN o) (hl : l.length ≤ 1048576) (he : ∀ x ∈ l, FitR x) : Ev (fun k => Je.f k o l o l) true := by
  unfold Je.f;refine Ev.bind (eqName' o ho) ?_;simp only [if_true];refine Ev.bind (eqRrS l hl he) ?_;simp only [if_true];exact Ev.now _
/-! ### A zone is right -/
def cmpR (a b : RI) : Int := rrCmpV a.f0.f0 a.f1 a.f3 a.f4.f0 a.f5 a.f6 b.f0.f0 b.f1 b.f3 b.f4.f0 b.f5 b.f6
def sameN (a b : List (List Int)) : Bool := nameCmpV a b == 0
theorem sameN_refl (a : List (List Int)) : sameN a a = true := by
  unfold sameN;rw [beq_iff_eq, nameCmpV, cmpL_zero];refine ⟨rfl, ?_⟩;rw [List.all_eq_true];intro z hz
  have : z.1 = z.2 := by
    obtain ⟨j, hj, rfl⟩ := List.getElem_of_mem hz;simp
  rw [this]; simp [same]
/-- No other record than the one at i has its name. -/
def lone (L : List RI) (n : List (List Int)) (i : Nat) : Nat → Nat → Bool
  | 0, _ => true
  | m + 1, j => (j == i || !sameN (L.getD j z56).f0.f0 n) && lone L n i m (j + 1)
def good (o : List (List Int)) (L : List RI) (i : Nat) (x : RI) : Bool :=
  okR x && (qF.v x.f0.f0 o && ((i == 0 || decide (cmpR (L.getD (i - 1) z56) x < 0)) && ((x.f1 != 5 || lone L x.f0.f0 i L.length 0) && (x.f1 != 6 || sameN x.f0.f0 o))))
def run (o : List (List Int)) (L : List RI) : Nat → Nat → Int → Bool
  | 0, _, s => s == 1
  | m + 1, i, s => good o L i (L.getD i z56) && run o L m (i + 1) (if (L.getD i z56).f1 = 6 then s + 1 else s)
def zoneOkV (o : List (List Int)) (L : List RI) : Bool := qG.v o && (decide (L.length ≤ 60) && run o L L.length 0 0)
theorem getD_at (L : List RI) (i : Nat) (h : i < L.length) : L.getD i z56 = L[i] := by simp [List.getD_eq_getElem?_getD, h]
theorem alone_l0 (L : List RI) (hl : L.length ≤ 1048576) (he : ∀ x ∈ L, FitR x) (i : Nat) (hi : i < L.length) (m : Nat) : ∀ (j : Nat), L.length = j + m →
    Ev (fun k => qP.l0 k L i j) (lone L L[i].f0.f0 i m j) := by
  induction m with
  | zero =>
    intro j hj;refine Ev.step (f := fun _ => some true) (fun k => ?_) (Ev.now _);simp only [qP.l0];rw [if_neg (by omega)]
  | succ m ih =>
    intro j hj;have hjl : j < L.length := by omega
    have hj1 : ∀ b : Bool, Ev (fun k => qP.j1 k L i j b) (!b && lone L L[i].f0.f0 i m (j + 1)) := by
      intro b;cases b with
      | true =>
        refine Ev.step (f := fun _ => some false) (fun k => ?_) (Ev.now _);simp only [qP.j1, if_true]
      | false =>
        refine Ev.step (f := fun k => qP.l0 k L i ((j + 1 : Nat) : Int)) (fun k => ?_) (by simpa using ih (j + 1) (by omega));simp only [qP.j1];rw [if_neg (by decide), w64 (x := (j : Int) + 1) (by omega) (by omega)];rfl
    simp only [lone, getD_at L j hjl];by_cases hij : j = i
    · subst hij
      refine Ev.step (f := fun k => qP.j1 k L j j false) (fun k => ?_) ?_
      · rw [qP.l0, if_pos (by omega), if_pos rfl]
      · simpa using hj1 false
    · refine Ev.step (f := fun k => (jf.f k L[j].f0.f0 L[i].f0.f0).bind fun t => qP.j1 k L i j (t == 0)) (fun k => ?_) ?_
      · simp only [qP.l0]
        rw [if_pos (by omega), if_neg (by omega), if_pos (by omega), if_pos (by omega), if_pos (by omega), rdRI L j hjl, rdRI L i hi]
      · refine Ev.bind (specCmp _ _ (he _ (List.getElem_mem hjl)).1.1 (he _ (List.getElem_mem hi)).1.1) ?_
        have := hj1 (nameCmpV L[j].f0.f0 L[i].f0.f0 == 0);rw [show (j == i) = false from by simpa using hij, Bool.false_or];exact this
theorem alone (L : List RI) (hl : L.length ≤ 1048576) (he : ∀ x ∈ L, FitR x) (i : Nat) (hi : i < L.length) : Ev (fun k => qP.f k L i) (L[i].f1 != 5 || lone L L[i].f0.f0 i L.length 0) := by
  unfold qP.f;simp only [if_pos (show 0 ≤ (i : Int) by omega), if_pos (show (i : Int) < (L.length : Int) by omega), rdRI L i hi];by_cases h : L[i].f1 = 5
  · simp only [if_pos h]
    rw [show (L[i].f1 != 5) = false from by simpa using h, Bool.false_or];exact alone_l0 L hl he i hi L.length 0 (by omega)
  · simp only [if_neg h]
    rw [show (L[i].f1 != 5) = true from by simpa using h, Bool.true_or];exact Ev.now _
theorem specZone_j2 (o : List (List Int)) (L : List RI) (ho : FitN o) (i : Nat) (hi : i < L.length) (hb : i ≤ 60) (s : Int) (h0 : 0 ≤ s) (h1 : s ≤ i) (he : ∀ x ∈ L, FitR x) (b c : Bool)
    (ih : ∀ s : Int, 0 ≤ s → s ≤ (i + 1 : Nat) → Ev (fun k => qv.l0 k s ((i + 1 : Nat) : Int) o L) (if c = true then run o L (L.length - (i + 1)) (i + 1) s else false)) :
    Ev (fun k => qv.j2 k s i b o L L[i].f0.f0 L[i].f1 L[i].f2 L[i].f3 L[i].f4.f0 L[i].f5 L[i].f6) (!b && ((L[i].f1 != 6 || sameN L[i].f0.f0 o) && (if c = true then run o L (L.length - (i + 1)) (i + 1) (if L[i].f1 = 6 then s + 1 else s) else false))) := by
  cases b with
  | true =>
    refine Ev.step (f := fun _ => some false) (fun k => ?_) (Ev.now _);simp only [qv.j2, if_true]
  | false =>
    simp only [Bool.not_false, Bool.true_and];by_cases h6 : L[i].f1 = 6
    · rw [show (L[i].f1 != 6) = false from by simpa using h6, Bool.false_or]
      simp only [if_pos h6];refine Ev.step (f := fun k => (jf.f k L[i].f0.f0 o).bind fun t => if t = 0 then qv.l0 k (s + 1) ((i + 1 : Nat) : Int) o L else some false) (fun k => ?_) ?_
      · simp only [qv.j2]
        rw [if_neg (by decide), if_pos h6, w64 (x := (i : Int) + 1) (by omega) (by omega), w64 (x := s + 1) (by omega) (by omega)];rfl
      · refine Ev.bind (specCmp _ _ (he _ (List.getElem_mem hi)).1.1 ho.1) ?_
        by_cases h : nameCmpV L[i].f0.f0 o = 0
        · simp only [if_pos h]
          rw [show sameN L[i].f0.f0 o = true from by simpa [sameN] using h, Bool.true_and];exact ih (s + 1) (by omega) (by omega)
        · simp only [if_neg h]
          rw [show sameN L[i].f0.f0 o = false from by simpa [sameN] using h, Bool.false_and];exact Ev.now _
    · rw [show (L[i].f1 != 6) = true from by simpa using h6, Bool.true_or, Bool.true_and]
      simp only [if_neg h6];refine Ev.step (f := fun k => qv.l0 k s ((i + 1 : Nat) : Int) o L) (fun k => ?_) (ih s (by omega) (by omega));simp only [qv.j2];rw [if_neg (by decide), if_neg h6, w64 (x := (i : Int) + 1) (by omega) (by omega)];rfl
theorem run_at (o : List (List Int)) (L : List RI) (m i : Nat) (s : Int) (h : i < L.length) : run o L (m + 1) i s = (good o L i L[i] && run o L m (i + 1) (if L[i].f1 = 6 then s + 1 else s)) := by
  simp only [run, getD_at L i h]
theorem specZone_l0 (o : List (List Int)) (L : List RI) (ho : FitN o) (hL : L.length ≤ 60) (he : ∀ x ∈ L, FitR x) (m : Nat) : ∀ (i : Nat) (s : Int), L.length = i + m → (i = 0 ∨ okR (L.getD (i - 1) z56) = true) → 0 ≤ s → s ≤ i →
    Ev (fun k => qv.l0 k s i o L) (run o L m i s) := by
  induction m with
  | zero =>
    intro i s hi _ _ _;refine Ev.step (f := fun _ => some (s == 1)) (fun k => ?_) (Ev.now _);simp only [qv.l0];rw [if_neg (by omega)]
  | succ m ih =>
    intro i s hi hp h0 h1;have hil : i < L.length := by omega
    have hx := he _ (List.getElem_mem hil);rw [run_at o L m i s hil];have hm : L.length - (i + 1) = m := by omega
    have hj : ∀ b : Bool, (b = false → okR L[i] = true) → Ev (fun k => qv.j2 k s i b o L L[i].f0.f0 L[i].f1 L[i].f2 L[i].f3 L[i].f4.f0 L[i].f5 L[i].f6) (!b && ((L[i].f1 != 6 || sameN L[i].f0.f0 o) && run o L m (i + 1) (if L[i].f1 = 6 then s + 1 else s))) := by
      intro b hb;cases b with
      | true =>
        refine Ev.step (f := fun _ => some false) (fun k => ?_) (Ev.now _);simp only [qv.j2, if_true]
      | false =>
        have := specZone_j2 o L ho i hil (by omega) s h0 h1 he false true (fun s' h2 h3 => by
          rw [if_pos rfl, hm]
          exact ih (i + 1) s' (by omega) (Or.inr (by rw [Nat.add_sub_cancel, getD_at L i hil]; exact hb rfl)) h2 (by omega))
        simpa [hm] using this
    have hgood : good o L i L[i] = (okR L[i] && (qF.v L[i].f0.f0 o && ((i == 0 || decide (cmpR (L.getD (i - 1) z56) L[i] < 0)) && ((L[i].f1 != 5 || lone L L[i].f0.f0 i L.length 0) && (L[i].f1 != 6 || sameN L[i].f0.f0 o))))) := rfl;have hal := alone L (by omega) he i hil;rw [hgood]
    have hstep : ∀ k, qv.l0 (k + 1) s i o L = (Qe.f k L[i].f0.f0 L[i].f1 L[i].f2 L[i].f3 L[i].f4.f0 L[i].f5 L[i].f6).bind fun jq => (if jq = true then ((jr.f k L[i].f0.f0 o).bind fun Zt => (if Zt = true then (if (i : Int) > 0 then (if 0 ≤ (wrap64 ((i : Int) - 1)) then (if (wrap64 ((i : Int) - 1)) < (L.length : Int) then ((yz.f k (qa L (wrap64 ((i : Int) - 1))).f0.f0 (qa L (wrap64 ((i : Int) - 1))).f1 (qa L (wrap64 ((i : Int) - 1))).f2 (qa L (wrap64 ((i : Int) - 1))).f3 (qa L (wrap64 ((i : Int) - 1))).f4.f0 (qa L (wrap64 ((i : Int) - 1))).f5 (qa L (wrap64 ((i : Int) - 1))).f6 L[i].f0.f0 L[i].f1 L[i].f2 L[i].f3 L[i].f4.f0 L[i].f5 L[i].f6).bind fun jW => (if jW ≥ 0 then (qv.j2 k s i true o L L[i].f0.f0 L[i].f1 L[i].f2 L[i].f3 L[i].f4.f0 L[i].f5 L[i].f6) else ((qP.f k L i).bind fun zD => (qv.j2 k s i (!zD) o L L[i].f0.f0 L[i].f1 L[i].f2 L[i].f3 L[i].f4.f0 L[i].f5 L[i].f6)))) else none) else none) else ((qP.f k L i).bind fun jz => (qv.j2 k s i (!jz) o L L[i].f0.f0 L[i].f1 L[i].f2 L[i].f3 L[i].f4.f0 L[i].f5 L[i].f6))) else (qv.j2 k s i true o L L[i].f0.f0 L[i].f1 L[i].f2 L[i].f3 L[i].f4.f0 L[i].f5 L[i].f6))) else (qv.j2 k s i true o L L[i].f0.f0 L[i].f1 L[i].f2 L[i].f3 L[i].f4.f0 L[i].f5 L[i].f6)) := by
      intro k;rw [qv.l0];rw [if_pos (by omega), if_pos (by omega), rdRI L i hil]
    refine Ev.step hstep ?_;refine Ev.bind (specRrOk _ _ _ _ _ _ _ hx.1 hx.2.1) ?_;by_cases hok : okR L[i] = true
    · have hok' : rrOkV L[i].f0.f0 L[i].f1 L[i].f2 L[i].f3 L[i].f4.f0 L[i].f5 L[i].f6 = true := hok
      simp only [if_pos hok', hok, Bool.true_and];refine Ev.bind (specUnder2 _ _ hx.1.1 ho.1) ?_;by_cases hu : qF.v L[i].f0.f0 o = true
      · simp only [if_pos hu, hu, Bool.true_and]
        have hfin : Ev (fun k => (qP.f k L i).bind fun t => qv.j2 k s i (!t) o L L[i].f0.f0 L[i].f1 L[i].f2 L[i].f3 L[i].f4.f0 L[i].f5 L[i].f6) ((L[i].f1 != 5 || lone L L[i].f0.f0 i L.length 0) && ((L[i].f1 != 6 || sameN L[i].f0.f0 o) && run o L m (i + 1) (if L[i].f1 = 6 then s + 1 else s))) := by
          refine Ev.bind hal ?_;have := hj (!(L[i].f1 != 5 || lone L L[i].f0.f0 i L.length 0)) (fun _ => hok);rwa [Bool.not_not] at this
        by_cases hi0 : i = 0
        · subst hi0
          simp only [if_neg (show ¬ ((0 : Nat) : Int) > 0 by omega)];simpa [Bool.and_assoc] using hfin
        · have hpl : i - 1 < L.length := by omega
          have hpok : okR L[i - 1] = true := by rw [← getD_at L (i - 1) hpl]; exact hp.resolve_left hi0
          have hw : wrap64 ((i : Int) - 1) = ((i - 1 : Nat) : Int) := by rw [w64 (by omega) (by omega)]; omega
          simp only [hw, if_pos (show (i : Int) > 0 by omega), if_pos (show (0 : Int) ≤ ((i - 1 : Nat) : Int) by omega), if_pos (show ((i - 1 : Nat) : Int) < (L.length : Int) by omega), rdRI L (i - 1) hpl];refine Ev.bind (specL3cmp hpok hok) ?_;rw [getD_at L (i - 1) hpl, show (i == 0) = false from by simpa using hi0, Bool.false_or];by_cases hc : cmpR L[i - 1] L[i] < 0
          · rw [decide_eq_true hc, Bool.true_and]
            have hc' : ¬ rrCmpV L[i - 1].f0.f0 L[i - 1].f1 L[i - 1].f3 L[i - 1].f4.f0 L[i - 1].f5 L[i - 1].f6 L[i].f0.f0 L[i].f1 L[i].f3 L[i].f4.f0 L[i].f5 L[i].f6 ≥ 0 := by
              have : rrCmpV L[i - 1].f0.f0 L[i - 1].f1 L[i - 1].f3 L[i - 1].f4.f0 L[i - 1].f5 L[i - 1].f6 L[i].f0.f0 L[i].f1 L[i].f3 L[i].f4.f0 L[i].f5 L[i].f6 < 0 := hc;omega
            simp only [if_neg hc'];rw [Bool.and_assoc];exact hfin
          · rw [decide_eq_false hc, Bool.false_and, Bool.false_and]
            have hc' : rrCmpV L[i - 1].f0.f0 L[i - 1].f1 L[i - 1].f3 L[i - 1].f4.f0 L[i - 1].f5 L[i - 1].f6 L[i].f0.f0 L[i].f1 L[i].f3 L[i].f4.f0 L[i].f5 L[i].f6 ≥ 0 := by
              have : ¬ rrCmpV L[i - 1].f0.f0 L[i - 1].f1 L[i - 1].f3 L[i - 1].f4.f0 L[i - 1].f5 L[i - 1].f6 L[i].f0.f0 L[i].f1 L[i].f3 L[i].f4.f0 L[i].f5 L[i].f6 < 0 := hc;omega
            simp only [if_pos hc'];simpa using hj true (fun e => by cases e)
      · have hu' : qF.v L[i].f0.f0 o = false := by simpa using hu
        simp only [hu', Bool.false_eq_true, if_false, Bool.false_and];simpa using hj true (fun e => by cases e)
    · have hok' : rrOkV L[i].f0.f0 L[i].f1 L[i].f2 L[i].f3 L[i].f4.f0 L[i].f5 L[i].f6 = false := by
        have : ¬ rrOkV L[i].f0.f0 L[i].f1 L[i].f2 L[i].f3 L[i].f4.f0 L[i].f5 L[i].f6 = true := hok;simpa using this
      simp only [hok', Bool.false_eq_true, if_false];rw [show okR L[i] = false from hok', Bool.false_and, Bool.false_and];simpa using hj true (fun e => by cases e)
theorem specZoneOk (o : List (List Int)) (L : List RI) (ho : FitN o) (hL : L.length ≤ 1048576) (he : ∀ x ∈ L, FitR x) : Ev (fun k => qv.f k o L) (zoneOkV o L) := by
  unfold qv.f zoneOkV;refine Ev.bind (specNameOk o ho.1 ho.big) ?_
  have hj : ∀ b : Bool, b = false → L.length ≤ 60 → Ev (fun k => qv.j0 k b o L) (run o L L.length 0 0) := by
    intro b hb h60;subst hb;refine Ev.step (f := fun k => qv.l0 k 0 ((0 : Nat) : Int) o L) (fun k => ?_) (specZone_l0 o L ho h60 he L.length 0 0 (by omega) (Or.inl rfl) (by omega) (by omega));simp only [qv.j0, Bool.false_eq_true, if_false];rfl
  have ht : Ev (fun k => qv.j0 k true o L) false := by
    refine Ev.step (f := fun _ => some false) (fun k => ?_) (Ev.now _);simp only [qv.j0, if_true]
  by_cases h : qG.v o = true
  · simp only [if_pos h, h, Bool.true_and]
    by_cases h2 : L.length ≤ 60
    · rw [decide_eq_true h2, Bool.true_and, decide_eq_false (show ¬ (L.length : Int) > 60 by omega)]
      exact hj false rfl h2
    · rw [decide_eq_false h2, Bool.false_and, decide_eq_true (show (L.length : Int) > 60 by omega)]
      exact ht
  · have h' : qG.v o = false := by simpa using h
    simp only [h', Bool.false_eq_true, if_false, Bool.false_and];exact ht
/-! ### the program's -/
theorem implIs (a b : List (List Int)) (ha : a.length ≤ 1048576) (hb : b.length ≤ 1048576) : Ev (fun k => zS.f k a b) (sameN a b) := by
  unfold zS.f;exact Ev.bind (implCmp a b ha hb) (Ev.now _)
def named (n : List (List Int)) (x : RI) : Bool := sameN x.f0.f0 n
theorem setAny_l0 (L : List RI) (n : List (List Int)) (hL : L.length ≤ 60) (he : ∀ x ∈ L, FitR x) (hn : n.length ≤ 1048576) (m : Nat) : ∀ (i : Nat) (acc : List RI), L.length = i + m → acc.length ≤ i →
    Ev (fun k => jk.l0 k 255 acc L (L.length : Int) i n) (acc ++ (L.drop i).filter (named n)) := by
  induction m with
  | zero =>
    intro i acc hi ha;refine Ev.step (f := fun _ => some acc) (fun k => ?_) ?_
    · simp only [jk.l0]
      rw [if_neg (by omega)]
    · rw [List.drop_of_length_le (by omega)]; simpa using Ev.now _
  | succ m ih =>
    intro i acc hi ha;have hil : i < L.length := by omega
    refine Ev.step (f := fun k => (zS.f k L[i].f0.f0 n).bind fun t => if t = true then (if acc.length < 1172812402961 then jk.l0 k 255 (acc ++ [L[i]]) L (L.length : Int) ((i + 1 : Nat) : Int) n else none) else jk.l0 k 255 acc L (L.length : Int) ((i + 1 : Nat) : Int) n) (fun k => ?_) ?_
    · rw [jk.l0]
      rw [if_pos (by omega), if_pos (by omega), if_pos (by omega), rdRI L i hil, w64 (x := (i : Int) + 1) (by omega) (by omega)];simp only [if_true];rfl
    · refine Ev.bind (implIs _ _ (he _ (List.getElem_mem hil)).1.1 hn) ?_
      rw [List.drop_eq_getElem_cons hil, List.filter_cons];by_cases h : sameN L[i].f0.f0 n = true
      · simp only [if_pos h, if_pos (show acc.length < 1172812402961 by omega), if_pos (show named n L[i] = true from h)]
        have := ih (i + 1) (acc ++ [L[i]]) (by omega) (by simp; omega);simpa using this
      · simp only [if_neg h, if_neg (show ¬ named n L[i] = true from h)]
        exact ih (i + 1) acc (by omega) (by omega)
theorem setAny (o : List (List Int)) (L : List RI) (n : List (List Int)) (hL : L.length ≤ 60) (he : ∀ x ∈ L, FitR x) (hn : n.length ≤ 1048576) : Ev (fun k => jk.f k o L n 255) (L.filter (named n)) := by
  unfold jk.f;simpa using setAny_l0 L n hL he hn L.length 0 [] (by omega) (by simp)
/-- Of a name that stands at i there is one record alone, just if no other one has it. -/
theorem lone_len (L : List RI) (n : List (List Int)) (i : Nat) (m : Nat) : ∀ j, L.length = j + m → (j ≤ i → i < L.length → sameN (L.getD i z56).f0.f0 n = true) →
    (lone L n i m j = true ↔ ((L.drop j).filter (named n)).length = (if j ≤ i ∧ i < L.length then 1 else 0)) := by
  induction m with
  | zero =>
    intro j hj _;rw [List.drop_of_length_le (by omega)];simp only [lone, List.filter_nil, List.length_nil, true_iff];rw [if_neg (by omega)]
  | succ m ih =>
    intro j hj hs;have hjl : j < L.length := by omega
    have h2 := ih (j + 1) (by omega) (fun a b => hs (by omega) b);rw [List.drop_eq_getElem_cons hjl, List.filter_cons];simp only [lone, Bool.and_eq_true, getD_at L j hjl];by_cases hij : j = i
    · subst hij
      have hn : named n L[j] = true := by have := hs (by omega) hjl; rw [getD_at L j hjl] at this; exact this
      rw [if_pos hn, if_pos (by omega), List.length_cons, h2, if_neg (by omega)];simp
    · rw [show (j == i) = false from by simpa using hij, Bool.false_or]
      by_cases hn : sameN L[j].f0.f0 n = true
      · rw [if_pos (show named n L[j] = true from hn), List.length_cons, hn]
        simp only [Bool.not_true, Bool.false_eq_true, false_and, false_iff];intro hc;by_cases hc2 : j ≤ i ∧ i < L.length
        · rw [if_pos hc2] at hc
          have hmem : L[i]'hc2.2 ∈ (L.drop (j + 1)).filter (named n) := by
            rw [List.mem_filter];refine ⟨?_, by have := hs hc2.1 hc2.2; rw [getD_at L i hc2.2] at this; exact this⟩;rw [List.mem_drop_iff_getElem];exact ⟨i - (j + 1), by omega, by congr 1; omega⟩
          have : ((L.drop (j + 1)).filter (named n)).length = 0 := by omega
          rw [List.eq_nil_of_length_eq_zero this] at hmem;cases hmem
        · rw [if_neg hc2] at hc; omega
      · have hn' : sameN L[j].f0.f0 n = false := by simpa using hn
        rw [if_neg (show ¬ named n L[j] = true from hn), hn'];simp only [Bool.not_false, true_and];rw [h2];by_cases hc2 : j ≤ i ∧ i < L.length
        · rw [if_pos hc2, if_pos (by omega)]
        · rw [if_neg hc2, if_neg (by omega)]
theorem lone_iff (L : List RI) (i : Nat) (hi : i < L.length) : lone L L[i].f0.f0 i L.length 0 = !decide ((((L.filter (named L[i].f0.f0)).length : Nat) : Int) > 1) := by
  have h := lone_len L L[i].f0.f0 i L.length 0 (by omega) (fun _ _ => by rw [getD_at L i hi]; exact sameN_refl _);rw [List.drop_zero, if_pos (by omega)] at h;have hpos : 0 < (L.filter (named L[i].f0.f0)).length := List.length_pos_of_mem (List.mem_filter.2 ⟨List.getElem_mem hi, sameN_refl _⟩);by_cases hl : (L.filter (named L[i].f0.f0)).length = 1
  · rw [h.2 hl, hl]; rfl
  · have : lone L L[i].f0.f0 i L.length 0 = false := by
      cases hq : lone L L[i].f0.f0 i L.length 0
      · rfl
      · exact absurd (h.1 hq) hl
    rw [this, decide_eq_true (by omega)]; rfl
theorem underF (a b : List (List Int)) (ha : a.length ≤ 1048576) (hb : b.length ≤ 1048576) : qF.f a b = some (qF.v a b) := by
  unfold qF.f;rw [if_pos (by omega)]
theorem implZone_j2 (o : List (List Int)) (L : List RI) (ho : FitN o) (hL : L.length ≤ 60) (he : ∀ x ∈ L, FitR x) (i : Nat) (hi : i < L.length) (s : Int) (h0 : 0 ≤ s) (h1 : s ≤ i) (R : Int → Bool)
    (ih : ∀ s' : Int, 0 ≤ s' → s' ≤ (i + 1 : Nat) → Ev (fun k => qx.l0 k s' L (L.length : Int) ((i + 1 : Nat) : Int) o L) (R s')) (b : Bool) :
    Ev (fun k => qx.j2 k s L (L.length : Int) i b o L L[i].f0.f0 L[i].f1 L[i].f2 L[i].f3 L[i].f4.f0 L[i].f5 L[i].f6) (!b && ((L[i].f1 != 5 || lone L L[i].f0.f0 i L.length 0) && ((L[i].f1 != 6 || sameN L[i].f0.f0 o) && R (if L[i].f1 = 6 then s + 1 else s)))) := by
  have hn := (he _ (List.getElem_mem hi)).1.1;cases b with
  | true =>
    refine Ev.step (f := fun _ => some false) (fun k => ?_) (Ev.now _);rw [qx.j2, if_pos rfl]
  | false =>
    rw [Bool.not_false, Bool.true_and];by_cases h6 : L[i].f1 = 6
    · have h5 : ¬ L[i].f1 = 5 := by omega
      rw [show (L[i].f1 != 5) = true from by simpa using h5, Bool.true_or, Bool.true_and, show (L[i].f1 != 6) = false from by simpa using h6, Bool.false_or, if_pos h6];refine Ev.step (f := fun k => (zS.f k L[i].f0.f0 o).bind fun t => if t = true then qx.l0 k (s + 1) L (L.length : Int) ((i + 1 : Nat) : Int) o L else some false) (fun k => ?_) ?_
      · rw [qx.j2, if_neg (by decide), if_pos h6]
        simp only [if_neg h5, w64 (x := (i : Int) + 1) (by omega) (by omega), w64 (x := s + 1) (by omega) (by omega)];rfl
      · refine Ev.bind (implIs _ _ hn ho.1) ?_
        by_cases h : sameN L[i].f0.f0 o = true
        · simp only [if_pos h]
          rw [h, Bool.true_and];exact ih (s + 1) (by omega) (by omega)
        · have h' : sameN L[i].f0.f0 o = false := by simpa using h
          simp only [h', Bool.false_eq_true, if_false, Bool.false_and];exact Ev.now _
    · rw [show (L[i].f1 != 6) = true from by simpa using h6, Bool.true_or, Bool.true_and, if_neg h6]
      by_cases h5 : L[i].f1 = 5
      · rw [show (L[i].f1 != 5) = false from by simpa using h5, Bool.false_or, lone_iff L i hi]
        refine Ev.step (f := fun k => (jk.f k o L L[i].f0.f0 255).bind fun t => if (t.length : Int) > 1 then some false else qx.l0 k s L (L.length : Int) ((i + 1 : Nat) : Int) o L) (fun k => ?_) ?_
        · rw [qx.j2, if_neg (by decide), if_neg h6, if_pos h5]
          simp only [w64 (x := (i : Int) + 1) (by omega) (by omega)];rfl
        · refine Ev.bind (setAny o L _ hL he hn) ?_
          by_cases h : (((L.filter (named L[i].f0.f0)).length : Nat) : Int) > 1
          · simp only [if_pos h]
            rw [decide_eq_true h, Bool.not_true, Bool.false_and];exact Ev.now _
          · simp only [if_neg h]
            rw [decide_eq_false h, Bool.not_false, Bool.true_and];exact ih s (by omega) (by omega)
      · rw [show (L[i].f1 != 5) = true from by simpa using h5, Bool.true_or, Bool.true_and]
        refine Ev.step (f := fun k => qx.l0 k s L (L.length : Int) ((i + 1 : Nat) : Int) o L) (fun k => ?_) (ih s (by omega) (by omega));rw [qx.j2, if_neg (by decide), if_neg h6, if_neg h5, w64 (x := (i : Int) + 1) (by omega) (by omega)];rfl
theorem implZone_l0 (o : List (List Int)) (L : List RI) (ho : FitN o) (hL : L.length ≤ 60) (he : ∀ x ∈ L, FitR x) (hall : ∀ x ∈ L, okR x = true) (m : Nat) : ∀ (i : Nat) (s : Int), L.length = i + m → 0 ≤ s → s ≤ i →
    Ev (fun k => qx.l0 k s L (L.length : Int) i o L) (run o L m i s) := by
  induction m with
  | zero =>
    intro i s hi _ _;refine Ev.step (f := fun _ => some (s == 1)) (fun k => ?_) (Ev.now _);rw [qx.l0, if_neg (by omega)]
  | succ m ih =>
    intro i s hi h0 h1;have hil : i < L.length := by omega
    have hok : okR L[i] = true := hall _ (List.getElem_mem hil);have hj := implZone_j2 o L ho hL he i hil s h0 h1 (run o L m (i + 1)) (fun s' a b => ih (i + 1) s' (by omega) a b);rw [run_at o L m i s hil];have hgood : good o L i L[i] = (okR L[i] && (qF.v L[i].f0.f0 o && ((i == 0 || decide (cmpR (L.getD (i - 1) z56) L[i] < 0)) && ((L[i].f1 != 5 || lone L L[i].f0.f0 i L.length 0) && (L[i].f1 != 6 || sameN L[i].f0.f0 o))))) := rfl;rw [hgood, hok, Bool.true_and];by_cases hi0 : i = 0
    · subst hi0
      refine Ev.step (f := fun k => qx.j2 k s L (L.length : Int) ((0 : Nat) : Int) (!qF.v L[0].f0.f0 o) o L L[0].f0.f0 L[0].f1 L[0].f2 L[0].f3 L[0].f4.f0 L[0].f5 L[0].f6) (fun k => ?_) ?_
      · rw [qx.l0, if_pos (by omega), if_pos (by omega), if_pos (by omega), if_neg (by omega), rdRI L 0 hil, underF _ _ (he _ (List.getElem_mem hil)).1.1 ho.1, Option.bind_some]
      · have := hj (!qF.v L[0].f0.f0 o)
        simpa [Bool.and_assoc] using this
    · have hpl : i - 1 < L.length := by omega
      have hpok : okR L[i - 1] = true := hall _ (List.getElem_mem hpl);refine Ev.step (f := fun k => (jH.f k L[i - 1].f0.f0 L[i - 1].f1 L[i - 1].f2 L[i - 1].f3 L[i - 1].f4.f0 L[i - 1].f5 L[i - 1].f6 L[i].f0.f0 L[i].f1 L[i].f2 L[i].f3 L[i].f4.f0 L[i].f5 L[i].f6).bind fun t => if t ≥ 0 then qx.j2 k s L (L.length : Int) i true o L L[i].f0.f0 L[i].f1 L[i].f2 L[i].f3 L[i].f4.f0 L[i].f5 L[i].f6 else qx.j2 k s L (L.length : Int) i (!qF.v L[i].f0.f0 o) o L L[i].f0.f0 L[i].f1 L[i].f2 L[i].f3 L[i].f4.f0 L[i].f5 L[i].f6) (fun k => ?_) ?_
      · rw [qx.l0, if_pos (by omega), if_pos (by omega), if_pos (by omega), if_pos (by omega)]
        simp only [w64 (x := (i : Int) - 1) (by omega) (by omega)];rw [if_pos (by omega), if_pos (by omega)];simp only [show (i : Int) - 1 = ((i - 1 : Nat) : Int) by omega, rdRI L (i - 1) hpl, rdRI L i hil, underF L[i].f0.f0 o (he _ (List.getElem_mem hil)).1.1 ho.1, Option.bind_some]
      · refine Ev.bind (implRrCompare hpok hok) ?_
        rw [getD_at L (i - 1) hpl, show (i == 0) = false from by simpa using hi0, Bool.false_or];by_cases hc : cmpR L[i - 1] L[i] < 0
        · have hc' : ¬ rrCmpV L[i - 1].f0.f0 L[i - 1].f1 L[i - 1].f3 L[i - 1].f4.f0 L[i - 1].f5 L[i - 1].f6 L[i].f0.f0 L[i].f1 L[i].f3 L[i].f4.f0 L[i].f5 L[i].f6 ≥ 0 := by
            have : rrCmpV L[i - 1].f0.f0 L[i - 1].f1 L[i - 1].f3 L[i - 1].f4.f0 L[i - 1].f5 L[i - 1].f6 L[i].f0.f0 L[i].f1 L[i].f3 L[i].f4.f0 L[i].f5 L[i].f6 < 0 := hc;omega
          simp only [if_neg hc'];rw [decide_eq_true hc, Bool.true_and];have := hj (!qF.v L[i].f0.f0 o);simpa [Bool.and_assoc] using this
        · have hc' : rrCmpV L[i - 1].f0.f0 L[i - 1].f1 L[i - 1].f3 L[i - 1].f4.f0 L[i - 1].f5 L[i - 1].f6 L[i].f0.f0 L[i].f1 L[i].f3 L[i].f4.f0 L[i].f5 L[i].f6 ≥ 0 := by
            have : ¬ rrCmpV L[i - 1].f0.f0 L[i - 1].f1 L[i - 1].f3 L[i - 1].f4.f0 L[i - 1].f5 L[i - 1].f6 L[i].f0.f0 L[i].f1 L[i].f3 L[i].f4.f0 L[i].f5 L[i].f6 < 0 := hc;omega
          simp only [if_pos hc'];rw [decide_eq_false hc, Bool.false_and, Bool.and_false, Bool.false_and];simpa using hj true
theorem run_false (o : List (List Int)) (L : List RI) (m : Nat) : ∀ (i : Nat) (s : Int), L.length = i + m → (∃ x ∈ L.drop i, okR x = false) → run o L m i s = false := by
  induction m with
  | zero =>
    intro i s hi ⟨x, hx, _⟩;rw [List.drop_of_length_le (by omega)] at hx;cases hx
  | succ m ih =>
    intro i s hi ⟨x, hx, hf⟩;have hil : i < L.length := by omega
    rw [run_at o L m i s hil];rw [List.drop_eq_getElem_cons hil] at hx;rcases List.mem_cons.1 hx with rfl | hx
    · rw [show good o L i L[i] = false from by unfold good; rw [hf, Bool.false_and], Bool.false_and]
    · rw [ih (i + 1) _ (by omega) ⟨x, hx, hf⟩, Bool.and_false]
theorem implZoneOk (o : List (List Int)) (L : List RI) (ho : FitN o) (hL : L.length ≤ 1048576) (he : ∀ x ∈ L, FitR x) (ht : ∀ x ∈ L, I64R x) : Ev (fun k => qx.f k o L) (zoneOkV o L) := by
  unfold qx.f zoneOkV
  have hT : Ev (fun k => qx.j0 k true o L) false := by
    refine Ev.step (f := fun _ => some false) (fun k => ?_) (Ev.now _);rw [qx.j0, if_pos rfl]
  simp only [show qG.f o = some (qG.v o) from rfl, Option.bind_some];by_cases h : qG.v o = true
  · simp only [if_pos h, h, Bool.true_and]
    by_cases h2 : L.length ≤ 60
    · simp only [if_neg (show ¬ (L.length : Int) > 60 by omega)]
      rw [decide_eq_true h2, Bool.true_and];refine Ev.bind (allOk L ht) ?_;by_cases ha : L.all okR = true
      · rw [ha]
        refine Ev.step (f := fun k => qx.l0 k 0 L (L.length : Int) ((0 : Nat) : Int) o L) (fun k => ?_) (implZone_l0 o L ho h2 he (fun x hx => List.all_eq_true.1 ha x hx) L.length 0 0 (by omega) (by omega) (by omega));rw [qx.j0, if_neg (by decide)];rfl
      · have ha' : L.all okR = false := by simpa using ha
        rw [ha', run_false o L L.length 0 0 (by omega) (by
          rw [List.drop_zero];rw [List.all_eq_false] at ha';obtain ⟨x, hx, hf⟩ := ha'
          exact ⟨x, hx, by simpa using hf⟩)]
        exact hT
    · simp only [if_pos (show (L.length : Int) > 60 by omega)]
      rw [decide_eq_false h2, Bool.false_and];exact hT
  · have h' : qG.v o = false := by simpa using h
    simp only [h', Bool.false_eq_true, if_false, Bool.false_and];exact hT
end Go.Proofs.YtagedmajlppohaaGreat.Pure

/- The statement FnExactPrescan: at every zone and row of updates the reference and the program answer the same. No condition. -/
namespace Go.Proofs.YtagedmajlppohaaGreat.Pure
open Go Go.RowKit Go.Proofs.YtagedmajlppohaaGreat.Q Go.Proofs.YtagedmajlppohaaGreatW.PrintWords Go.Proofs.YtagedmajlppohaaGreatW.PrintLast
set_option linter.unusedVariables false
set_option linter.unusedSimpArgs false
def preV (o : List (List Int)) : List WI → Int
  | [] => 0
  | x :: L => if qF.v x.f0.f0.f0 o = true then (if x.f2 = true ∧ x.f1 = 254 then 1 else preV o L) else 10
theorem okW_class {x : WI} (h : okW x = true) (hb : x.f2 = true) : x.f1 = 254 ∨ x.f1 = 255 := by
  unfold okW wantOkV at h;by_cases hc : x.f1 = 1 ∨ x.f1 = 254 ∨ x.f1 = 255
  · rw [if_pos hc, if_pos hb] at h
    rcases hc with h1 | h1 | h1
    · rw [h1] at h
      simp at h
    · exact .inl h1
    · exact .inr h1
  · rw [if_neg hc] at h
    exact absurd h (by simp)
theorem specPre_l0 (o : List (List Int)) (R : List RI) (L : List WI) (hL : L.length ≤ 12) (he : ∀ x ∈ L, FitW x) (hk : ∀ x ∈ L, okW x = true) (ho : o.length ≤ 1048576) (m : Nat) : ∀ (i : Nat), L.length = i + m →
    Ev (fun k => jx.l0 k L i o R) (preV o (L.drop i)) := by
  induction m with
  | zero =>
    intro i hi;rw [List.drop_of_length_le (by omega)];refine Ev.step (f := fun _ => some 0) (fun k => ?_) (Ev.now _);simp only [jx.l0];rw [if_neg (by omega)]
  | succ m ih =>
    intro i hi;have hil : i < L.length := by omega
    have hx := okW_class (hk _ (List.getElem_mem hil));have hu := specUnder2 L[i].f0.f0.f0 o ((he _ (List.getElem_mem hil) : FitR _).1.1) ho;rw [List.drop_eq_getElem_cons hil];simp only [preV];refine Ev.step (f := fun k => (jr.f k L[i].f0.f0.f0 o).bind fun t => if t = true then (if L[i].f2 = true then (if L[i].f1 = 255 then jx.l0 k L ((i + 1 : Nat) : Int) o R else some 1) else jx.l0 k L ((i + 1 : Nat) : Int) o R) else some 10) (fun k => ?_) (Ev.bind hu ?_)
    · simp only [jx.l0]
      rw [if_pos (by omega), if_pos (by omega), rdWI L i hil, w64 (x := (i : Int) + 1) (by omega) (by omega)];rfl
    · by_cases h1 : qF.v L[i].f0.f0.f0 o = true
      · simp only [if_pos h1]
        by_cases h2 : L[i].f2 = true
        · simp only [if_pos h2]
          rcases hx h2 with h3 | h3
          · simp only [if_neg (show ¬ L[i].f1 = 255 by omega), if_pos (show L[i].f2 = true ∧ L[i].f1 = 254 from ⟨h2, h3⟩)]
            exact Ev.now _
          · simp only [if_pos h3, if_neg (show ¬ (L[i].f2 = true ∧ L[i].f1 = 254) from fun c => by have := c.2; omega)]
            exact ih (i + 1) (by omega)
        · simp only [if_neg h2, if_neg (show ¬ (L[i].f2 = true ∧ L[i].f1 = 254) from fun c => h2 c.1)]
          exact ih (i + 1) (by omega)
      · simp only [if_neg h1]
        exact Ev.now _
theorem implPre_l0 (o : List (List Int)) (R : List RI) (L : List WI) (hL : L.length ≤ 12) (he : ∀ x ∈ L, FitW x) (ho : o.length ≤ 1048576) (m : Nat) : ∀ (i : Nat), L.length = i + m →
    Ev (fun k => ji.l0 k L (L.length : Int) i o R) (preV o (L.drop i)) := by
  induction m with
  | zero =>
    intro i hi;rw [List.drop_of_length_le (by omega)];refine Ev.step (f := fun _ => some 0) (fun k => ?_) (Ev.now _);simp only [ji.l0];rw [if_neg (by omega)]
  | succ m ih =>
    intro i hi;have hil : i < L.length := by omega
    have hu := underF L[i].f0.f0.f0 o ((he _ (List.getElem_mem hil) : FitR _).1.1) ho;rw [List.drop_eq_getElem_cons hil];simp only [preV];refine Ev.step (f := fun k => if qF.v L[i].f0.f0.f0 o = true then (if L[i].f2 = true then (if L[i].f1 = 254 then some 1 else ji.l0 k L (L.length : Int) ((i + 1 : Nat) : Int) o R) else ji.l0 k L (L.length : Int) ((i + 1 : Nat) : Int) o R) else some 10) (fun k => ?_) ?_
    · simp only [ji.l0]
      rw [if_pos (by omega), if_pos (by omega), if_pos (by omega), rdWI L i hil, hu, Option.bind_some, w64 (x := (i : Int) + 1) (by omega) (by omega)];rfl
    · by_cases h1 : qF.v L[i].f0.f0.f0 o = true
      · simp only [if_pos h1]
        by_cases h2 : L[i].f2 = true
        · simp only [if_pos h2]
          by_cases h3 : L[i].f1 = 254
          · simp only [if_pos h3, if_pos (show L[i].f2 = true ∧ L[i].f1 = 254 from ⟨h2, h3⟩)]
            exact Ev.now _
          · simp only [if_neg h3, if_neg (show ¬ (L[i].f2 = true ∧ L[i].f1 = 254) from fun c => h3 c.2)]
            exact ih (i + 1) (by omega)
        · simp only [if_neg h2, if_neg (show ¬ (L[i].f2 = true ∧ L[i].f1 = 254) from fun c => h2 c.1)]
          exact ih (i + 1) (by omega)
      · simp only [if_neg h1]
        exact Ev.now _
def prescanV (o : List (List Int)) (R : List RI) (L : List WI) : Int := if zoneOkV o R = true then (if wantsV L = true then preV o L else 1) else 1
theorem wants_all {L : List WI} (h : wantsV L = true) : L.length ≤ 12 ∧ ∀ x ∈ L, okW x = true := by
  unfold wantsV at h;rw [Bool.and_eq_true, decide_eq_true_eq] at h;exact ⟨h.1, List.all_eq_true.1 h.2⟩
theorem specPrescan (o : List (List Int)) (R : List RI) (L : List WI) (ho : FitN o) (hR : R.length ≤ 1048576) (hr : ∀ x ∈ R, FitR x) (he : ∀ x ∈ L, FitW x) : Ev (fun k => JE.f k o R L) (prescanV o R L) := by
  unfold JE.f prescanV;refine Ev.bind (specZoneOk o R ho hR hr) ?_;by_cases h : zoneOkV o R = true
  · simp only [if_pos h]
    refine Ev.bind (specWants L he) ?_;by_cases h2 : wantsV L = true
    · simp only [if_pos h2]
      unfold jx.f;obtain ⟨h3, h4⟩ := wants_all h2;refine Ev.bind (a := preV o L) ?_ (Ev.now _);simpa using specPre_l0 o R L h3 he h4 ho.1 L.length 0 (by omega)
    · simp only [if_neg h2]; exact Ev.now _
  · simp only [if_neg h]; exact Ev.now _
theorem implPrescan (o : List (List Int)) (R : List RI) (L : List WI) (ho : FitN o) (hR : R.length ≤ 1048576) (hr : ∀ x ∈ R, FitR x) (ht : ∀ x ∈ R, I64R x) (he : ∀ x ∈ L, FitW x) (hw : ∀ x ∈ L, I64W x) : Ev (fun k => Jf.f k o R L) (prescanV o R L) := by
  unfold Jf.f prescanV;refine Ev.bind (implZoneOk o R ho hR hr ht) ?_;by_cases h : zoneOkV o R = true
  · simp only [if_pos h]
    refine Ev.bind (implWants L hw) ?_;by_cases h2 : wantsV L = true
    · simp only [if_pos h2]
      unfold ji.f;obtain ⟨h3, h4⟩ := wants_all h2;refine Ev.bind (a := preV o L) ?_ (Ev.now _);simpa using implPre_l0 o R L h3 he ho.1 L.length 0 (by omega)
    · simp only [if_neg h2]; exact Ev.now _
  · simp only [if_neg h]; exact Ev.now _
theorem rawR_ok' {x : RL} (h : qeN x) : RawR x := by
  obtain ⟨h1, h2, h3, h4, h5, h6, h7⟩ := h;exact ⟨⟨h1.1, fun y hy => (h1.2 y hy).1⟩, ⟨h5.1, fun y hy => (h5.2 y hy).1⟩, h6.1, h7.1, (i64_of_wf h2).1, (i64_of_wf h2).2⟩
theorem FnExactPrescan : Qf.Pure := by
  intro x0 W h0 hw0;obtain ⟨ho, hl⟩ := h0;have ho : RawN x0.f0.f0 := ⟨ho.1, fun x hx => (ho.2 x hx).1⟩;have hraw : ∀ x ∈ x0.f1, RawR x := fun x hx => rawR_ok' (hl.2 x hx)
  have hlen : x0.f1.length ≤ 9223372036854775807 := hl.1;have hwl : W.length ≤ 9223372036854775807 := hw0.1;have hwr : ∀ x ∈ W, RawW x := fun x hx => rawR_ok' (hw0.2 x hx).1
  generalize x0.f0.f0 = o at ho;generalize x0.f1 = l at hraw hlen;apply Ev.rounds;unfold Qf.f;obtain ⟨u, hu, hc⟩ := szZone o l 1048576 ho hlen hraw (by omega) (by omega);refine Ev.bind hu ?_;by_cases h : u < 0
  · simp only [if_pos h]; exact Ev.now _
  simp only [if_neg h];obtain ⟨hu0, hu1, fo, fl, fe⟩ := hc.resolve_left h;obtain ⟨v, hv, hd⟩ := szWantS W u hwl hwr (by omega) (by omega);refine Ev.bind hv ?_;by_cases h2 : v < 0
  · simp only [if_pos h2]; exact Ev.now _
  simp only [if_neg h2];obtain ⟨_, _, fwl, fwe⟩ := hd.resolve_left h2;have hto := toZone o l fo fl fe;have htw := toWantS W fwl fwe;have fe' : ∀ x ∈ l.map cvR, FitR x := fun x hx => by obtain ⟨y, hy, rfl⟩ := List.mem_map.1 hx; exact fe y hy
  have ft' : ∀ x ∈ l.map cvR, I64R x := fun x hx => by obtain ⟨y, hy, rfl⟩ := List.mem_map.1 hx; exact ⟨(hraw y hy).2.2.2.2.1, (hraw y hy).2.2.2.2.2⟩
  have fl' : (l.map cvR).length ≤ 1048576 := by simpa using fl
  have we' : ∀ x ∈ W.map cvW, FitW x := fun x hx => by obtain ⟨y, hy, rfl⟩ := List.mem_map.1 hx; exact fwe y hy
  have wt' : ∀ x ∈ W.map cvW, I64W x := fun x hx => by obtain ⟨y, hy, rfl⟩ := List.mem_map.1 hx; exact ⟨(hwr y hy).2.2.2.2.1, (hwr y hy).2.2.2.2.2⟩
  have wl' : (W.map cvW).length ≤ 1048576 := by simpa using fwl
  refine Ev.bind hto (Ev.bind htw (Ev.bind (specPrescan o _ _ fo fl' fe' we') (Ev.bind hto (Ev.bind htw (Ev.bind (implPrescan o _ _ fo fl' fe' ft' we' wt') ?_)))));simp only [if_true];refine Ev.bind hto (Ev.bind (eqZone o _ fo fl' fe') ?_);simp only [if_true];refine Ev.bind htw (Ev.bind (eqWantS _ wl' we') ?_);simp only [if_true];exact Ev.now _
end Go.Proofs.YtagedmajlppohaaGreat.Pure

