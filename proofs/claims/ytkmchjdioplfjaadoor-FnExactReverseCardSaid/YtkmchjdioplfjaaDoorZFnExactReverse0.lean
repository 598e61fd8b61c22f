/- Printed by a program of this session (wip/myprint.py), which drives the kit's printer: functions and what their calls do. -/
import Derived.Test.YtkmchjdioplfjaaDoorProg
import Derived.Below
import Derived.Deep.Draws
import Derived.Deep.AppendLies
import Derived.Maps.AppendAt
import Derived.OwnWalk
import Derived.Laws.BytesArg
import Derived.Laws.MakeOwn
import Derived.Laws.OwnMore
import Derived.Deep.OwnRows
import Derived.Tactics
import Derived.Lib.ConvBytes
import Derived.Laws.Slices
import Derived.WalkKit
import Derived.KernelRfl
import Derived.RowKit3
import Derived.Deep.LoopGhost
import Derived.Deep.QuietTactic
import Derived.BigQuiet
import Derived.WideLaws
import Derived.Deep.DeepCutAuto
import Derived.Deep.CutBlock
import Derived.Deep.RegionHeld3
import Derived.Laws.Rows
import Derived.Lib.AppendStr
import Derived.ArgAppend
import Derived.Laws.IdiomCopy
import Derived.OrdersHeld
import Derived.Laws.BitsLemmas
import Derived.RowKit
import Derived.WalkSpells
import Derived.WalkLawsBesides
import Derived.Shelf.Abstract
import Derived.Test.YtkmchjdioplfjaaDoorVFnExactReverse
import Derived.Shelf.Strconv.Itoa3
import Derived.Shelf.Strings.OnBuilder
import Derived.Shelf.Slices.ReverseS
import Derived.Lib.AppendIntMem
import Derived.IntWalk
import Derived.Laws.IdiomStrings
import Derived.Lib.ItoaLen
namespace Go.Proofs.YtkmchjdioplfjaaDoor.Q
open Go.RowKit Go Go.Proofs.YtkmchjdioplfjaaDoorW.PrintWords Go.Proofs.YtkmchjdioplfjaaDoorW.PrintLast Go.Proofs.YtkmchjdioplfjaaDoorW.PrintMore

set_option linter.unusedVariables false
set_option linter.unusedSimpArgs false

theorem info5 : (Tryd.prog.info? 5).map (fun i => (i.zero, i.size, i.bytes)) = some (some (.int .u8 0), 1, 1) := by kernel_rfl
theorem info9 : (Tryd.prog.info? 9).map (fun i => (i.zero, i.size, i.bytes)) = some (some (.string ⟨#[]⟩), 1, 16) := by kernel_rfl
theorem info22 : (Tryd.prog.info? 22).map (fun i => (i.zero, i.size, i.bytes)) = some (some (.slice none 0 0), 1, 24) := by kernel_rfl
-- the values' own types
/-! #### struct type 7 -/
/-! #### struct type 8 -/
/-! #### struct type 13 -/
/-! #### struct type 14 -/
def rd_L10 (xs : List (List Int)) (i : Int) : (List Int) := xs.getD i.toNat ([] : List Int)
theorem at_L10 {w : World} {A : Option Addr} {n : Nat} {xs : List (List Int)} (h : Kd.C (Kd.slice 5 (Kd.int .u8)) w A n xs) (i : Int) (h0 : 0 ≤ i) (h1 : i < n) : ∃ ad A0 c0, A = some ad ∧ w.cell? (ad.add i.toNat) = some (.slice A0 (rd_L10 xs i).length c0) ∧ (rd_L10 xs i).length ≤ c0 ∧ (Kd.int .u8).C w A0 (rd_L10 xs i).length (rd_L10 xs i) := by
  obtain ⟨ad, c, e, _, hK, hc0⟩ := Kd.C_get h ([] : List Int) i h0 h1
  have hc : ∀ j u, c[j]? = some u → w.cell? (ad.add (i.toNat * 1 + j)) = some u := hc0
  obtain ⟨A0, c0, rfl, l0, g0⟩ := hK
  exact ⟨ad, A0, c0, e, by have hq := hc 0 _ rfl; rwa [Nat.mul_one, Nat.add_zero] at hq, l0, g0⟩

/-! #### struct type 28 -/
/-! #### struct type 29 -/
/-! #### struct type 44 -/
/-! #### struct type 46 -/
/-! #### struct type 47 -/
/-! #### struct type 50 -/
/-! #### struct type 51 -/
/-! #### struct type 93 -/
/-! #### struct type 94 -/
/-! #### struct type 136 -/
/-! #### struct type 137 -/
/-! #### struct type 145 -/
/-! #### struct type 146 -/
/-- One world is another one with blocks made and draws taken. -/
def Gr (A W : World) : Prop := Below A.heap.size A W
instance Gr.refl_ (A : World) : Nonempty (Gr A A) := ⟨Below.refl _ _⟩
instance Gr.alloc_ (A W : World) (o : Obj) [h : Nonempty (Gr A W)] : Nonempty (Gr A (W.alloc o)) := h.elim fun h => ⟨below_alloc h o⟩
instance Gr.drew_ (A W : World) [h : Nonempty (Gr A W)] : Nonempty (Gr A W.drew) := h.elim fun h => ⟨below_drew h⟩
instance Gr.drewN_ (A W : World) (n : Nat) [h : Nonempty (Gr A W)] : Nonempty (Gr A (W.drewN n)) := h.elim fun h => ⟨pw_below_drewN h n⟩
section
variable {α : Type} {d : Kd α} {e base n : Nat} {ok : Nat → Prop} {w W W' : World} {v : Value} {xs : List α} {A : Option Addr}
theorem bw (h : Below w.heap.size w W) [g : Nonempty (Gr W W')] : Below w.heap.size w W' := g.elim fun g => below_step h g
theorem bk {g : Nat} {o : Obj} (h : W.heap[g]? = some o) [k : Nonempty (Gr W W')] : W'.heap[g]? = some o := k.elim fun k => blk_below h k
theorem cw (h : d.C w A n xs) (hb : Below w.heap.size w W) [g : Nonempty (Gr W W')] : d.C W' A n xs := Kd.C_below h (bw hb)
theorem rw_ (h : d.R e W base ok v xs) [g : Nonempty (Gr W W')] : d.R e W' base ok v xs := g.elim fun g => Kd.R_below h g
end
section
variable {W : World} {g t : Nat} {a b c d e f x y z : Value}
theorem cells1 (h : W.heap[g]? = some (.cells #[a] t (0, 0))) : W.cell? ⟨g, 0, none⟩ = some a ∧ W.frozen? ⟨g, 0, none⟩ = false := ⟨(blk_cell h 0).trans rfl, blk_frozen h 0⟩
end
section
variable {P : Program} {ops : Array Oper} {rest : List Oper} {o : Oper} {a : Act} {Q : Exit → Act → World → Prop}
/-- A struct's variable is made. -/
theorem boxed {w W0 W : World} {N : Tmp} (_hN : o.dst = some N) (hgd : o.guard = none) {cs : Array Value} {t : TypeId} (hB : Below w.heap.size w W0) [gr : Nonempty (Gr W0 W)]
    (hrun : (execOp a.eval o).run P W = .ok (.value (.pointer (some ⟨W.heap.size, 0, none⟩))) (W.alloc (.cells cs t (0, 0))))
    (h : ∀ g, ∀ w1, g = W.heap.size → Aside0 (Below w.heap.size w w1) → Aside0 (w1.heap[g]? = some (.cells cs t (0, 0))) → Aside0 (w.heap.size ≤ g) → Below W.heap.size W w1 → wpList P ops Q rest (a.put o.dst (.pointer (some ⟨g, 0, none⟩))) w1) : wpList P ops Q (o :: rest) a W := by
  have hB' : Below w.heap.size w W := bw hB
  exact box_event hgd _hN hrun (fun g hg w1 hbox hb => h g w1 hg ⟨below_step hB' hb⟩ ⟨hbox⟩ ⟨by rw [hg]; exact hB'.size⟩ hb)
end
section
variable {α : Type} {d : Kd α} {e base g k t : Nat} {ok : Nat → Prop} {W : World} {v : Value} {xs : List α} {cs : Array Value} {l : List Nat}
end
/-- Which operations of a region are done: n places, told by a number's bits. -/
def bA (n m : Nat) : Array Bool := ((List.range n).map fun i => m.testBit i).toArray
section
variable {α : Type} {d : Kd α} {e base g g' t : Nat} {ok : Nat → Prop} {W W1 : World} {v : Value} {xs : List α} {cs : Array Value} {fr : Nat × Nat}
theorem bfar1 {v0 : Value} (hn : g ≠ g') (h : W.heap[g]? = some (.cells cs t (0, 0))) [k : Nonempty (Gr W W1)] : (W1.setCell ⟨g', 0, none⟩ v0).heap[g]? = some (.cells cs t (0, 0)) := (blk_far (bk h) hn _)
theorem bput1 {v0 z0 : Value} (h : W.heap[g]? = some (.cells #[z0] t (0, 0))) [k : Nonempty (Gr W W1)] : (W1.setCell ⟨g, 0, none⟩ v0).heap[g]? = some (.cells #[v0] t (0, 0)) := (blk_put (cs' := #[v0]) (bk h) 0 v0 rfl)
end

section
variable {α β : Type} {A B r : Option α}
theorem bnd {o : Option β} {f : β → Option α} {r : α} (h : o.bind f = some r) : ∃ x, Aside0 (o = some x) ∧ f x = some r := (Option.bind_eq_some_iff.mp h).elim fun x h => ⟨x, ⟨h.1⟩, h.2⟩
theorem bnS {x : β} {f : β → Option α} (h : (some x).bind f = r) : f x = r := h
theorem ib {t : Bool} (h : (if t = true then A else B) = r) : (t = true ∧ A = r) ∨ (t = false ∧ B = r) := by cases t; exact .inr ⟨rfl, h⟩; exact .inl ⟨rfl, h⟩
section
variable {p : Prop} [Decidable p]
theorem iq (h : (if p then A else B) = r) : (p ∧ A = r) ∨ (¬ p ∧ B = r) := by
  by_cases c : p
  · exact .inl ⟨c, by rwa [if_pos c] at h⟩
  · exact .inr ⟨c, by rwa [if_neg c] at h⟩
theorem iqN {r : α} (h : (if p then A else none) = some r) : p ∧ A = some r := by
  obtain h | h := iq h
  · exact h
  · cases h.2
theorem ip (h : (if p then A else B) = r) : (decide p = true ∧ A = r) ∨ (decide p = false ∧ B = r) := (iq h).imp (fun h => ⟨decide_eq_true h.1, h.2⟩) (fun h => ⟨decide_eq_false h.1, h.2⟩)
theorem ipN {r : α} (h : (if p then A else none) = some r) : decide p = true ∧ A = some r := ⟨decide_eq_true (iqN h).1, (iqN h).2⟩
theorem ipE {r : α} (h : (if p then A else none) = some r) : p = True ∧ decide p = true ∧ A = some r := ⟨eq_true (iqN h).1, decide_eq_true (iqN h).1, (iqN h).2⟩
end
section
variable {a b : Int}
theorem ih (h : (if a ≥ b then A else B) = r) : (decide (b ≤ a) = true ∧ A = r) ∨ (decide (b ≤ a) = false ∧ B = r) := ip h
end
section
variable {τ : Type} [BEq τ] [LawfulBEq τ] {a b : τ} [Decidable (a = b)]
theorem ie (h : (if a = b then A else B) = r) : ((a == b) = true ∧ (a != b) = false ∧ A = r) ∨ ((a == b) = false ∧ (a != b) = true ∧ B = r) := (iq h).imp (fun h => ⟨beq_iff_eq.mpr h.1, bne_eq_false_iff_eq.mpr h.1, h.2⟩) (fun h => ⟨beq_eq_false_iff_ne.mpr h.1, bne_iff_ne.mpr h.1, h.2⟩)
end
end
theorem lnT {a b : Nat} (h : ((a : Int) == (b : Int)) = true) : (a == b) = true := by have := beq_iff_eq.mp h; exact beq_iff_eq.mpr (by omega)
theorem lnF {a b : Nat} (h : ((a : Int) == (b : Int)) = false) : (a == b) = false := by have := beq_eq_false_iff_ne.mp h; exact beq_eq_false_iff_ne.mpr (by omega)
section
variable {α : Type} {d : Kd α} {e base n g t : Nat} {ok : Nat → Prop} {w W W' W2 : World} {v : Value} {xs : List α} {A : Option Addr} {o : Obj}
theorem ak {p : Prop} (h : p) : Aside0 p := ⟨h⟩
theorem cv (h : Aside0 (d.C w A n xs)) (hb : Aside0 (Below w.heap.size w W)) [Nonempty (Gr W W')] : d.C W' A n xs := cw h.out hb.out
theorem cd (h : Aside0 (d.C w A n xs)) [g : Nonempty (Gr w W')] : d.C W' A n xs := g.elim fun g => Kd.C_below h.out g
theorem nw (h : d.N e W base ok v xs) [g : Nonempty (Gr W W')] : d.N e W' base ok v xs := g.elim fun g => Kd.N_below h g
theorem b1 (h : Aside0 (W.heap[g]? = some o)) [Nonempty (Gr W W')] (hb : Below W'.heap.size W' W2) : Aside0 (W2.heap[g]? = some o) := ⟨blk_below (bk h.out) hb⟩
theorem b2 (h : Aside0 (Below w.heap.size w W)) [Nonempty (Gr W W')] (hb : Below W'.heap.size W' W2) : Aside0 (Below w.heap.size w W2) := ⟨below_step (bw h.out) hb⟩
theorem b2s (h : Below w.heap.size w W) (hb : Below W.heap.size W W2) : Aside0 (Below w.heap.size w W2) := ⟨below_step h hb⟩
theorem b3s (hg : g = W.heap.size) (h : Below w.heap.size w W) : Aside0 (w.heap.size ≤ g) := ⟨by rw [hg]; exact below_size h⟩
theorem b4 {g1 : Nat} (hg : g = W'.heap.size) (h : Aside0 (W.heap[g1]? = some o)) [Nonempty (Gr W W')] : Aside0 (g1 ≠ g) := ⟨by rw [hg]; exact Nat.ne_of_lt (blk_lt (bk h.out))⟩
theorem b5 {g1 : Nat} (hg : g = W'.heap.size) (h : Aside0 (W.heap[g1]? = some o)) [Nonempty (Gr W W')] : Aside0 (g ≠ g1) := ⟨by rw [hg]; exact Nat.ne_of_gt (blk_lt (bk h.out))⟩
end
/-- What was is still as it was: through stores into blocks that were made since. -/
theorem bs {p : Prop} (h : p := by repeat (first | (with_reducible refine below_set ?_ (Aside0.out (by with_reducible assumption))) | exact bw HB.out)) : p := h
theorem o1 {p : Prop} (h : p := by first | rfl | (simp [errW_none, errW_some] <;> rfl) | (simp [*, errW_none, errW_some] <;> rfl)) : p := h
theorem o2 {p : Prop} (h : p := by first | rfl | (simp; done) | (simp [*]; done)) : p := h
theorem od {p : Prop} (h : p := by repeat (first | exact Drawn0.refl _ | apply Drawn0.step)) : p := h
theorem kq {p : Prop} (h : p := by (repeat' apply And.intro) <;> first | (with_reducible assumption) | exact (blk_cell (Aside0.out (by with_reducible assumption)) _).trans rfl | exact pw_cell_below HB.out (by with_reducible assumption)) : p := h
section
variable {P : Program} {ops : Array Oper} {rest : List Oper} {oi : Oper} {a : Act} {Q : Exit → Act → World → Prop}
/-- A call. -/
theorem glG {w : World} (N : Tmp) (hd : oi.dst = some N) {f : FuncId} {fn : Func} {zs : Array Operand} {ts : Array TypeId} (hop : oi.op = .call { callee := .value (.func f), args := zs, argTypes := ts }) (hf : P.funcs[f]? = some fn) {args : Array Value} {R : Ending → World → Prop} (hc : Calls P f args w R)
    (h : ∀ e w', R e w' → ∃ v, e = .returned v ∧ wpList P ops Q rest (a.put (some N) v) w') (hg : oi.guard = none := by rfl)
    (hname : (fn.name == "runtime.NumGoroutine") = false := by kernel_rfl) (hb : fn.body.isSome = true := by rfl)
    (hargs : zs.map a.eval = args := by (try simp only [List.map_toArray, List.map_cons, List.map_nil]); first | done | rfl | (simp only [List.length_drop, List.length_take]; rfl)) : wpList P ops Q (oi :: rest) a w :=
  goesL_ (some N) hd hg hf hname hb args hop hargs (hc.mono h)
theorem glD {w : World} (N : Tmp) (hd : oi.dst = some N) {f : FuncId} {fn : Func} {zs : Array Operand} {ts : Array TypeId} (hop : oi.op = .call { callee := .value (.func f), args := zs, argTypes := ts }) (hf : P.funcs[f]? = some fn) {args : Array Value} {v : Value} (hc : Calls P f args w fun e w' => e = .returned v ∧ Drawn0 w w')
    (h : ∀ nd, wpList P ops Q rest (a.put (some N) v) (w.drewN nd)) (hg : oi.guard = none := by rfl)
    (hname : (fn.name == "runtime.NumGoroutine") = false := by kernel_rfl) (hb : fn.body.isSome = true := by rfl)
    (hargs : zs.map a.eval = args := by (try simp only [List.map_toArray, List.map_cons, List.map_nil]); first | done | rfl | (simp only [List.length_drop, List.length_take]; rfl)) : wpList P ops Q (oi :: rest) a w :=
  goesL_ (some N) hd hg hf hname hb args hop hargs (hc.mono fun e w' h2 => ⟨v, h2.1, by obtain ⟨nd, rfl⟩ := h2.2; exact h nd⟩)
end
section
variable {P : Program} {ops : Array Oper} {oi : Oper} {Q : Exit → Act → World → Prop} {md : Region.Mode} {S : World → Prop} {ds : List Nat} {T : Bool × List (List Nat × List Nat)} {n m fuel : Nat} {a a' : Act} {w : World}
/-- Steps of a region: one that yields a value; one that is not wanted; a load; a call. -/
theorem pu (hT : Aside0 (rtab md ops = T)) (i : Nat) {N : Nat} {v : Value} (h : wpAnyLast P md ops Q S ds fuel (bA n (m + 2 ^ i)) a' w) (hi : ops[i]? = some oi := by rfl) (hN : oi.dst = some N := by rfl)
    (hc : anyT T (bA n m).toList (bA n (m + 2 ^ i)).toList i = true := by kernel_rfl) (hw : Region.wanted oi (yielded ops a.tmps) = true := by rfl)
    (hy : ∀ w, (execOp a.eval oi).run P w = .ok (.value v) w := by intro w'; go_simp; with_reducible rfl) (ha : a.put (some N) v = a' := by go_simp; rfl)
    (hQ : ∀ c a w, Q (.panic c) (a.put oi.dst v) w → Q (.panic c) a w := by exact fun _ _ _ h => h) : wpAnyLast P md ops Q S ds (fuel + 1) (bA n m) a w :=
  pure_ (i := i) _ hi hN (any_of hT.out hc) hQ (.inl ⟨hw, hy⟩) ha h
theorem ta {B : List Nat} (hT : Aside0 (rtab md ops = T)) (hB : Aside0 (waitsOk T.2 B = true)) (hS : S w) (i : Nat) {N : Nat} {v : Value} (h : wpAnyLast P md ops Q S ds fuel (bA n (m + 2 ^ i)) a' w) (hi : ops[i]? = some oi := by rfl) (hN : oi.dst = some N := by rfl)
    (hc : takeW T B ds (bA n m).toList (bA n (m + 2 ^ i)).toList i = true := by kernel_rfl) (hw : Region.wanted oi (yielded ops a.tmps) = true := by rfl)
    (hy : ∀ w, S w → (execOp a.eval oi).run P w = .ok (.value v) w := by intro w' hS; (repeat (obtain ⟨_, hS⟩ := hS)); go_simp; with_reducible rfl) (ha : a.put (some N) v = a' := by go_simp; rfl)
    (hQ : ∀ c a w, Q (.panic c) (a.put oi.dst v) w → Q (.panic c) a w := by exact fun _ _ _ h => h) : wpAnyLast P md ops Q S ds (fuel + 1) (bA n m) a w :=
  take_ (i := i) _ hi hN (take_ofW hT.out hB.out hc) hQ (.inl ⟨hw, hy⟩) hS ha h
theorem on (hT : Aside0 (rtab md ops = T)) (i : Nat) {N : Option Tmp}
    (h : ∀ K : Act → World → Prop, Shut (∀ a' w', S w' → (S w' → wpAnyLast P md ops Q S ds fuel (bA n (m + 2 ^ i)) a' w') → K a' w') → if Region.wanted oi (yielded ops a.tmps) = true then Oper.wp P oi a w K Q else K (a.put N undef) w)
    (hi : ops[i]? = some oi := by rfl) (hN : oi.dst = N := by rfl) (hc : (readyT T.2 (bA n m).toList == [i] && (bA n m).toList.set i true == (bA n (m + 2 ^ i)).toList) = true := by kernel_rfl) (hd : i ∉ ds := by decide) : wpAnyLast P md ops Q S ds (fuel + 1) (bA n m) a w :=
  one_ (i := i) _ hi hN (one_of hT.out hc) hd h
end
section
variable {P : Program} {ops : Array Oper} {rest : List Oper} {o : Oper} {a : Act} {Q : Exit → Act → World → Prop}
/-- A struct's variable is made. -/
theorem bxe {W : World} {N : Tmp} (hd : o.dst = some N) {cs : Array Value} {t : TypeId}
    (h : ∀ g, g = W.heap.size → ∀ w1, w1.heap[g]? = some (.cells cs t (0, 0)) → Below W.heap.size W w1 → wpList P ops Q rest (a.put o.dst (.pointer (some ⟨g, 0, none⟩))) w1) (hgd : o.guard = none := by rfl)
    (hrun : (execOp a.eval o).run P W = .ok (.value (.pointer (some ⟨W.heap.size, 0, none⟩))) (W.alloc (.cells cs t (0, 0))) := by first | (go_simp; done) | (go_simp; rfl)) : wpList P ops Q (o :: rest) a W := box_event hgd hd hrun h
theorem bxd {w W0 W : World} {N : Tmp} (hd : o.dst = some N) {cs : Array Value} {t : TypeId} (hB : Aside0 (Below w.heap.size w W0)) [gr : Nonempty (Gr W0 W)]
    (h : ∀ g, ∀ w1, g = W.heap.size → Aside0 (Below w.heap.size w w1) → Aside0 (w1.heap[g]? = some (.cells cs t (0, 0))) → Aside0 (w.heap.size ≤ g) → Below W.heap.size W w1 → wpList P ops Q rest (a.put o.dst (.pointer (some ⟨g, 0, none⟩))) w1) (hgd : o.guard = none := by rfl)
    (hrun : (execOp a.eval o).run P W = .ok (.value (.pointer (some ⟨W.heap.size, 0, none⟩))) (W.alloc (.cells cs t (0, 0))) := by first | (go_simp; done) | (go_simp; rfl)) : wpList P ops Q (o :: rest) a W := boxed hd hgd hB.out hrun h
end
theorem el0_int {k : IntKind} {xs : List Int} {w : World} {A : Option Addr} {n : Nat} (h : Aside0 (Kd.C (Kd.int k) w A n xs)) (i : Int) (h0 : decide (0 ≤ i) = true := by first | (with_reducible assumption) | assumption) (h1 : decide (i < n) = true := by first | (with_reducible assumption) | assumption) : ∃ ad, A = some ad ∧ w.cell? (ad.add i.toNat) = some (.int k (rd xs i)) ∧ (0 ≤ i) = True ∧ (i < n) = True := by
  obtain ⟨ad, e, x0⟩ := Kd.at_int h.out i (of_decide_eq_true h0) (of_decide_eq_true h1)
  exact ⟨ad, e, x0, eq_true (of_decide_eq_true h0), eq_true (of_decide_eq_true h1)⟩
theorem el0_L10 {xs : List (List Int)} {w : World} {A : Option Addr} {n : Nat} (h : Aside0 (Kd.C (Kd.slice 5 (Kd.int .u8)) w A n xs)) (i : Int) (h0 : decide (0 ≤ i) = true := by first | (with_reducible assumption) | assumption) (h1 : decide (i < n) = true := by first | (with_reducible assumption) | assumption) : ∃ ad A0 c0, A = some ad ∧ w.cell? (ad.add i.toNat) = some (.slice A0 (rd_L10 xs i).length c0) ∧ Aside0 ((rd_L10 xs i).length ≤ c0) ∧ Aside0 ((Kd.int .u8).C w A0 (rd_L10 xs i).length (rd_L10 xs i)) ∧ (0 ≤ i) = True ∧ (i < n) = True := by
  obtain ⟨ad, A0, c0, e, x0, y0, y1⟩ := at_L10 h.out i (of_decide_eq_true h0) (of_decide_eq_true h1)
  exact ⟨ad, A0, c0, e, x0, ⟨y0⟩, ⟨y1⟩, eq_true (of_decide_eq_true h0), eq_true (of_decide_eq_true h1)⟩

section
variable {P P' : Nat → Prop} {w w' w2 : World} {base : Nat}
end
section
variable {α : Type} {d : Kd α} {e base a b a' b' g : Nat} {ok P : Nat → Prop} {w w' : World} {v : Value} {xs : List α} {o : Obj}
end
/-- A flat row, where all but what S says is kept, and its own block is none of S. -/
theorem R_keptD {α : Type} {d : Kd α} {e base : Nat} {ok S : Nat → Prop} {W W2 : World} {v : Value} {xs : List α} (h : d.R e W base ok v xs) (hE : d.E = []) (hk : Kept W W2 S) (hq : ∀ k, some k = v.ownBlock → ok k → ¬ S k) : d.R e W2 base (fun k => ok k ∧ (¬ S k ∧ k < W.heap.size)) v xs :=
  Kd.R_mono (Kd.R_keptB (Kd.R_tight2 hE h) hk (fun k hk2 => hq k hk2.1 hk2.2)) (fun k hk2 => ⟨hk2.1.2, hk2.2⟩)
/-! ### laws_markByteSS: function 43 -/

/-- What is written over n bytes, numbers from k on. -/
def laws_markByteSS.mk (k : Int) (n : Nat) : List Int := (List.range n).map fun (j : Nat) => (k + (j : Int)) % 256
theorem laws_markByteSS.mk_len (k : Int) (n : Nat) : (laws_markByteSS.mk k n).length = n := by simp [laws_markByteSS.mk]
theorem laws_markByteSS.mk_set (k : Int) (l : List Int) (i : Nat) (h : i < l.length) : (laws_markByteSS.mk k i ++ l.drop i).set i ((k + i) % 256) = laws_markByteSS.mk k (i + 1) ++ l.drop (i + 1) := by
 rw [List.set_append_right _ _ (by rw [laws_markByteSS.mk_len]; omega), laws_markByteSS.mk_len, Nat.sub_self, List.drop_eq_getElem_cons h, List.set_cons_zero]
 unfold laws_markByteSS.mk
 rw [List.range_succ, List.map_append, List.append_assoc]
 rfl
def laws_markByteSS.all (k : Int) : List (List Int) → List (List Int)
 | [] => []
 | x :: l => laws_markByteSS.mk k x.length :: laws_markByteSS.all (k + x.length) l
def laws_markByteSS.sum (l : List (List Int)) : Nat := (l.map List.length).sum
theorem laws_markByteSS.all_len (l : List (List Int)) : ∀ k, (laws_markByteSS.all k l).length = l.length := by
 induction l with
 | nil => intro k; rfl
 | cons x l ih => intro k; simp [laws_markByteSS.all, ih]
theorem laws_markByteSS.all_snoc (l : List (List Int)) (x : List Int) : ∀ k, laws_markByteSS.all k (l ++ [x]) = laws_markByteSS.all k l ++ [laws_markByteSS.mk (k + (laws_markByteSS.sum l : Int)) x.length] := by
 induction l with
 | nil => intro k; simp [laws_markByteSS.all, laws_markByteSS.sum]
 | cons y l ih =>
  intro k
  simp only [List.cons_append, laws_markByteSS.all, ih, laws_markByteSS.sum, List.map_cons, List.sum_cons]
  rw [show k + (y.length : Int) + ((l.map List.length).sum : Nat) = k + ((y.length + (l.map List.length).sum : Nat) : Int) by omega]
theorem laws_markByteSS.sum_snoc (l : List (List Int)) (x : List Int) : laws_markByteSS.sum (l ++ [x]) = laws_markByteSS.sum l + x.length := by simp [laws_markByteSS.sum]
theorem laws_markByteSS.sum_take (l : List (List Int)) (k : Nat) : laws_markByteSS.sum (l.take k) ≤ laws_markByteSS.sum l := by
 have h := congrArg laws_markByteSS.sum (List.take_append_drop k l)
 have h2 : laws_markByteSS.sum (l.take k ++ l.drop k) = laws_markByteSS.sum (l.take k) + laws_markByteSS.sum (l.drop k) := by simp only [laws_markByteSS.sum, List.map_append, List.sum_append]
 omega
/-! ### laws_markName: function 16 -/

/-- The second form: a block that a string was laid into. -/
def Zs (e : Nat) (w : World) (base : Nat) (ok : Nat → Prop) (v : Value) (xs : List Int) : Prop :=
  ∃ g c cur, v = .slice (some ⟨g, 0, none⟩) xs.length c ∧ xs.length ≤ c ∧ ok g ∧ base ≤ g ∧ w.heap[g]? = some (.cells cur e (cur.size, cur.size + 1)) ∧ xs.length ≤ cur.size ∧ xs.length ≤ 9223372036854775807 ∧ ∀ i, i < xs.length → cur[i]? = some (.int .u8 (rd xs i))
def Zr (e : Nat) (w : World) (base : Nat) (ok : Nat → Prop) (v : Value) (xs : List Int) : Prop := Kd.R (Kd.int .u8) e w base ok v xs ∨ Zs e w base ok v xs
theorem rd_nat (xs : List Int) (j : Nat) : rd xs (j : Int) = xs.getD j 0 := by simp [rd]
section
variable {e base : Nat} {w w1 W W2 : World} {ok ok' S : Nat → Prop} {v u : Value} {xs : List Int}
theorem Z_mono (h : Zr e w base ok v xs) (hok : ∀ k, ok k → ok' k) : Zr e w base ok' v xs := by
  rcases h with h | ⟨g, c, cur, h1, h2, h3, h⟩
  · exact .inl (Kd.R_mono h hok)
  · exact .inr ⟨g, c, cur, h1, h2, hok _ h3, h⟩
theorem Z_lower {base' : Nat} (h : Zr e w base ok v xs) (hb : base' ≤ base) : Zr e w base' ok v xs := by
  rcases h with h | ⟨g, c, cur, h1, h2, h3, h4, h⟩
  · exact .inl (Kd.R_lower h hb)
  · exact .inr ⟨g, c, cur, h1, h2, h3, Nat.le_trans hb h4, h⟩
theorem Z_step (h : Zr e w base ok v xs) (hm : ∀ k, ok k → k < w.heap.size → w1.heap[k]? = w.heap[k]?) : Zr e w1 base ok v xs := by
  rcases h with h | ⟨g, c, cur, h1, h2, h3, h4, h5, h⟩
  · exact .inl (Kd.R_step h hm)
  · exact .inr ⟨g, c, cur, h1, h2, h3, h4, (hm g h3 (Array.getElem?_eq_some_iff.1 h5).1).trans h5, h⟩
theorem Z_ok (h : Zr e w base ok v xs) : ∀ k, v.ownBlock = some k → ok k := by
  rcases h with h | ⟨g, c, cur, rfl, h2, h3, h⟩
  · exact h.1
  · intro k hk; simp only [Value.ownBlock, Option.some.injEq] at hk; exact hk ▸ h3
theorem Z_lt (h : Zr e w base ok v xs) : ∀ k, v.ownBlock = some k → k < w.heap.size := by
  rcases h with h | ⟨g, c, cur, rfl, h2, h3, h4, h5, h⟩
  · exact Kd.R_lt h
  · intro k hk; simp only [Value.ownBlock, Option.some.injEq] at hk; exact hk ▸ (Array.getElem?_eq_some_iff.1 h5).1
theorem Z_base (h : Zr e w base ok v xs) : ∀ k, v.ownBlock = some k → base ≤ k := by
  rcases h with h | ⟨g, c, cur, rfl, h2, h3, h4, h⟩
  · exact Kd.R_base h
  · intro k hk; simp only [Value.ownBlock, Option.some.injEq] at hk; exact hk ▸ h4
theorem Z_all {p : Nat → Prop} (h : Zr e w base ok v xs) (hp : ∀ k, v.ownBlock = some k → p k) : Zr e w base p v xs := by
  rcases h with h | ⟨g, c, cur, rfl, h2, h3, h⟩
  · exact .inl (Kd.R_reok rfl h hp)
  · exact .inr ⟨g, c, cur, rfl, h2, hp g rfl, h⟩
theorem Z_slice (h : Zr e w base ok v xs) : ∃ A c, v = .slice A xs.length c := by
  rcases h with h | ⟨g, c, cur, h1, _⟩
  · exact Kd.R_slice h
  · exact ⟨_, _, h1⟩
theorem Z_reads' {A : Option Addr} {n c : Nat} (h : Zr e w base ok (.slice A n c) xs) : n = xs.length ∧ n ≤ c ∧ (Kd.int .u8).C w A xs.length xs := by
  rcases h with h | ⟨g, c', cur, h1, h2, h3, h4, h5, h6, h7, h8⟩
  · exact Kd.R_reads' h
  · injection h1 with e1 e2 e3
    subst e1
    subst e2
    subst e3
    refine ⟨rfl, h2, Kd.C_of_reads (enc := Value.int .u8) (d := (0 : Int)) (h1 := fun _ => rfl) ⟨rfl, h7, fun hn => ⟨_, rfl, fun j hj => ?_⟩⟩⟩
    have hx := h8 j hj
    have hc := cell_of_row w g j cur e (cur.size, cur.size + 1) h5
    rw [show (⟨g, 0, none⟩ : Addr).add j = ⟨g, j, none⟩ by unfold Addr.add; split <;> simp_all, hc, hx]
    simp [rd, List.getD_eq_getElem?_getD]
theorem Z_tight (hE : (Kd.int .u8).E = []) (h : Zr e w base ok v xs) : Zr e w base (fun k => some k = v.ownBlock) v xs := Z_all h (fun _ hk => hk.symm)
theorem Z_keptD (h : Zr e W base ok v xs) (hE : (Kd.int .u8).E = []) (hk : Kept W W2 S) (hq : ∀ k, some k = v.ownBlock → ok k → ¬ S k) : Zr e W2 base (fun k => ok k ∧ (¬ S k ∧ k < W.heap.size)) v xs := by
  rcases h with h | ⟨g, c, cur, rfl, h2, h3, h4, h5, h⟩
  · exact .inl (R_keptD h hE hk hq)
  · have hl := (Array.getElem?_eq_some_iff.1 h5).1
    have hs := hq g rfl h3
    exact .inr ⟨g, c, cur, rfl, h2, ⟨h3, hs, hl⟩, h4, blk_kept h5 hk hs, h⟩
theorem Z_form (h : Zr e w base ok v xs) (hp : 0 < xs.length) : ∃ g cap, v = .slice (some ⟨g, 0, none⟩) xs.length cap ∧ base ≤ g ∧ g < w.heap.size ∧ ∃ cells fr, w.heap[g]? = some (.cells cells e fr) := by
  rcases h with h | ⟨g, c, cur, rfl, h2, h3, h4, h5, h⟩
  · obtain ⟨g, cap, h1, h2, h3, cells, h4⟩ := Kd.R_form h hp
    exact ⟨g, cap, h1, h2, h3, cells, _, h4⟩
  · exact ⟨g, c, rfl, h4, (Array.getElem?_eq_some_iff.1 h5).1, cur, _, h5⟩
theorem Z_celln {g n cap : Nat} (d : Int) (h : Zr e W base ok (.slice (some ⟨g, 0, none⟩) n cap) xs) (i : Int) (h0 : 0 ≤ i) (hi : i < n) : W.cell? ⟨g, i.toNat, none⟩ = some (.int .u8 (rdOf d xs i)) ∧ W.frozen? ⟨g, i.toNat, none⟩ = false := by
  rcases h with h | ⟨g', c, cur, h1, h2, h3, h4, h5, h6, h7, h8⟩
  · exact Kd.R_celln d h i h0 hi
  · injection h1 with e1 e2 e3
    injection e1 with e1
    injection e1 with e1
    subst e1
    subst e2
    subst e3
    have hl : i.toNat < xs.length := by omega
    refine ⟨?_, ?_⟩
    · rw [cell_of_row W g i.toNat cur e (cur.size, cur.size + 1) h5, h8 _ hl, rd_nat]
      simp only [rdOf, List.getD_eq_getElem?_getD, List.getElem?_eq_getElem hl, Option.getD_some]
    · simp only [World.frozen?, h5]
      simp
      omega
theorem Z_putg {g n cap : Nat} (h : Zr e W base ok (.slice (some ⟨g, 0, none⟩) n cap) xs) (i x : Int) : Zr e (W.setCell ⟨g, i.toNat, none⟩ (.int .u8 x)) base ok (.slice (some ⟨g, 0, none⟩) n cap) (xs.set i.toNat x) ∧ W.grownBy (W.setCell ⟨g, i.toNat, none⟩ (.int .u8 x)) (some g) := by
  rcases h with h | ⟨g', c, cur, h1, h2, h3, h4, h5, h6, h7, h8⟩
  · obtain ⟨a, b⟩ := Kd.R_putg (enc := Value.int .u8) (h1 := fun _ => rfl) h i x
    exact ⟨.inl a, b⟩
  · injection h1 with e1 e2 e3
    injection e1 with e1
    injection e1 with e1
    subst e1
    subst e2
    subst e3
    have hs : (W.setCell ⟨g, i.toNat, none⟩ (.int .u8 x)).heap[g]? = some (.cells (cur.setIfInBounds i.toNat (.int .u8 x)) e (cur.size, cur.size + 1)) := by
      simp only [World.setCell]
      rw [Array.getElem?_modify]
      simp [h5]
    refine ⟨.inr ⟨g, cap, cur.setIfInBounds i.toNat (.int .u8 x), by rw [List.length_set], by rw [List.length_set]; exact h2, h3, h4, by rw [Array.size_setIfInBounds]; exact hs, by rw [List.length_set, Array.size_setIfInBounds]; exact h6, by rw [List.length_set]; exact h7, fun j hj => ?_⟩, ⟨rfl, rfl, rfl, by simp [World.setCell], fun k hk hne => Below.heap_setCell W ⟨g, i.toNat, none⟩ (.int .u8 x) k (fun e => hne (by rw [e]))⟩⟩
    rw [List.length_set] at hj
    rw [Array.getElem?_setIfInBounds]
    by_cases hij : i.toNat = j
    · subst hij
      have : i.toNat < cur.size := by omega
      rw [if_pos rfl, if_pos this]
      rw [rd_nat, List.getD_eq_getElem?_getD, List.getElem?_set_self hj]
      rfl
    · rw [if_neg hij, h8 j hj]
      rw [rd_nat, rd_nat, List.getD_eq_getElem?_getD, List.getD_eq_getElem?_getD, List.getElem?_set_ne hij]
end
section
variable {P : Program} {ops : Array Oper} {rest : List Oper} {o : Oper} {a : Act} {Q : Exit → Act → World → Prop}
end

abbrev Tri := Option Addr × Nat × Nat
def triV (p : Tri) : Value := .slice p.1 p.2.1 p.2.2
def KdT : Kd Tri := Kd.scalar triV (fun _ => rfl)
structure NZ (b U : Nat) (w : World) (v : Value) (xs : List (List Int)) (ps : List Tri) : Prop where
  row : KdT.R 22 w b (fun k => k < U) v ps
  len : ps.length = xs.length
  el : ∀ (j : Nat) (p : Tri) (x : List Int), ps[j]? = some p → xs[j]? = some x → Zr 5 w b (fun k => k < U) (triV p) x
  out : ∀ (j : Nat) (p : Tri), ps[j]? = some p → ∀ k, (triV p).ownBlock = some k → v.ownBlock ≠ some k
  apart : ∀ (i j : Nat) (p q : Tri), ps[i]? = some p → ps[j]? = some q → i ≠ j → ∀ k, (triV p).ownBlock = some k → (triV q).ownBlock ≠ some k
section
variable {b U : Nat} {w w' : World} {v : Value} {xs : List (List Int)} {ps : List Tri} {S : Nat → Prop}
theorem Z_kept {e base : Nat} {ok : Nat → Prop} {l : List Int} (h : Zr e w base ok v l) (hk : Kept w w' S) (hne : ∀ k, ok k → base ≤ k → ¬ S k) : Zr e w' base ok v l :=
  Z_mono (Z_keptD h rfl hk (fun k hk' ho => hne k ho (Z_base h k hk'.symm))) (fun _ h => h.1)
theorem NZ.kept (h : NZ b U w v xs ps) (hk : Kept w w' S) (hS : ∀ k, b ≤ k → k < U → ¬ S k) : NZ b U w' v xs ps :=
  ⟨Kd.R_mono (R_keptD h.row rfl hk (fun k hk' ho => hS k (Kd.R_base h.row k hk'.symm) ho)) (fun _ h => h.1), h.len, fun j p x hp hx => Z_kept (h.el j p x hp hx) hk (fun k ho hb => hS k hb ho), h.out, h.apart⟩
theorem NZ.below (h : NZ b U w v xs ps) (hb : Below w.heap.size w w') : NZ b U w' v xs ps := h.kept (Kept.of_below hb (fun _ => False)) (fun _ _ _ hk => hk.elim)
theorem NZ.mark (h : NZ b U w v xs ps) {i : Nat} {p : Tri} {x' : List Int} (hp : ps[i]? = some p) (hk : Kept w w' (fun k => some k = (triV p).ownBlock)) (hz : Zr 5 w' b (fun k => k < U) (triV p) x') : NZ b U w' v (xs.set i x') ps := by
  refine ⟨Kd.R_mono (R_keptD h.row rfl hk (fun k hk' ho he => h.out i p hp k he.symm hk'.symm)) (fun _ h => h.1), by rw [List.length_set]; exact h.len, fun j q x hq hx => ?_, h.out, h.apart⟩
  by_cases hij : i = j
  · subst hij
    rw [hp] at hq
    obtain rfl := Option.some.inj hq
    have hi : i < xs.length := by rw [← h.len]; exact (List.getElem?_eq_some_iff.1 hp).1
    rw [List.getElem?_set_self hi] at hx
    obtain rfl := Option.some.inj hx
    exact hz
  · rw [List.getElem?_set_ne hij] at hx
    exact Z_mono (Z_keptD (h.el j q x hq hx) rfl hk (fun k hk' ho he => h.apart i j p q hp hq hij k he.symm hk'.symm)) (fun _ h => h.1)
theorem NZ.reads (h : NZ b U w v xs ps) : ∃ A c, v = .slice A xs.length c ∧ xs.length ≤ c ∧ Kd.C (Kd.slice 5 (Kd.int .u8)) w A xs.length xs := by
  obtain ⟨A, c, e⟩ := Kd.R_slice h.row
  have hrow := h.row
  rw [e] at hrow
  have hrd := Kd.R_reads' hrow
  refine ⟨A, c, by rw [e, h.len], by rw [← h.len]; exact hrd.2.1, ?_⟩
  obtain ⟨h1, h2, h3⟩ := hrd.2.2
  refine ⟨rfl, by rw [← h.len]; exact h2, fun hn => ?_⟩
  obtain ⟨ad, e, hp⟩ := h3 (by have := h.len; omega)
  refine ⟨ad, e, fun j x hx => ?_⟩
  have hj : j < ps.length := by rw [h.len]; exact (List.getElem?_eq_some_iff.1 hx).1
  obtain ⟨cs, hcl, hM, hcell⟩ := hp j ps[j] (List.getElem?_eq_getElem hj)
  have hZ := h.el j ps[j] x (List.getElem?_eq_getElem hj) hx
  have hM' : cs = [triV ps[j]] := hM
  subst hM'
  have e2 := Z_reads' (A := ps[j].1) (n := ps[j].2.1) (c := ps[j].2.2) hZ
  refine ⟨_, rfl, ⟨ps[j].1, ps[j].2.2, ?_, by rw [← e2.1]; exact e2.2.1, e2.2.2⟩, hcell⟩
  simp only [triV, e2.1]
theorem NZ.nil (b U : Nat) (w : World) : NZ b U w (.slice none 0 0) [] [] :=
  ⟨Kd.R_nil _ _ _ _ _, rfl, fun _ _ _ h => by simp at h, fun _ _ h => by simp at h, fun _ _ _ _ h => by simp at h⟩
theorem NZ.at (h : NZ b U w v xs ps) (i : Nat) (hi : i < xs.length) : ∃ g c p, v = .slice (some ⟨g, 0, none⟩) xs.length c ∧ ps[i]? = some p ∧ w.cell? ⟨g, i, none⟩ = some (triV p) ∧ w.frozen? ⟨g, i, none⟩ = false ∧ p.2.1 = xs[i].length ∧ xs[i].length ≤ 9223372036854775807 := by
  have hl := h.len
  obtain ⟨g, cap, e, _⟩ := Kd.R_form h.row (by omega)
  have hrow := h.row
  rw [e] at hrow
  have hc := Kd.R_celln (enc := triV) (h1 := fun _ => rfl) (none, 0, 0) hrow (i : Int) (by omega) (by omega)
  have hp : ps[i]? = some ps[i] := List.getElem?_eq_getElem (by omega)
  have hr : rdOf (none, 0, 0) ps (i : Int) = ps[i] := by simp [rdOf, List.getD_eq_getElem?_getD, hp]
  rw [hr, show ((i : Int)).toNat = i by omega] at hc
  have hZ := h.el i ps[i] xs[i] hp (List.getElem?_eq_getElem hi)
  have e2 := Z_reads' (A := ps[i].1) (n := ps[i].2.1) (c := ps[i].2.2) hZ
  exact ⟨g, cap, ps[i], by rw [e, hl], hp, hc.1, hc.2, e2.1, e2.2.2.2.1⟩
end
set_option maxHeartbeats 8000000 in
set_option maxRecDepth 100000 in
/-- markByteS over such a label. -/
theorem bytesZ (P : Nat → Prop) (u : Value) (l : List Int) (k0 : Int) (w0 w : World) (hB : Below w0.heap.size w0 w) (h : Zr 5 w w0.heap.size P u l) (h0 : 0 ≤ k0) (h1 : k0 + l.length ≤ 4611686018427387904) :
    Calls Tryd.prog 11 #[u, .int .i64 k0] w fun e w' => e = .returned (.int .i64 (k0 + l.length)) ∧ Kept w w' P ∧ Below w0.heap.size w0 w' ∧ Zr 5 w' w0.heap.size P u (laws_markByteSS.mk k0 l.length) := by
  have HO := Aside0.mk h
  have HB := Aside0.mk hB
  clear h hB
  go_enter Tryd.func11, Tryd.ntmps11
  go_wp2
  go_loopg [1, 5] l.length (fun kq v1 v5 w' => ∃ i : Nat, i ≤ l.length ∧ l.length - i ≤ kq ∧ v1 = .int .i64 (k0 + i) ∧ v5 = .int .i64 i ∧ Aside0 (Zr 5 w' w0.heap.size P u (laws_markByteSS.mk k0 i ++ l.drop i)) ∧ Aside0 (Kept w w' P) ∧ Aside0 (Below w0.heap.size w0 w'))
  case atStart => exact ⟨0, Nat.zero_le _, by omega, by simp, rfl, ⟨by simpa [laws_markByteSS.mk] using HO.out⟩, ⟨Kept.refl _ _⟩, HB⟩
  case round =>
    clear HO HB
    obtain ⟨i, hi, hg, rfl, rfl, HO, HM, HB⟩ := hrel
    have hlen : (laws_markByteSS.mk k0 i ++ l.drop i).length = l.length := by rw [List.length_append, laws_markByteSS.mk_len, List.length_drop]; omega
    by_cases hlt : i < l.length
    · have hset := Aside0.mk (laws_markByteSS.mk_set k0 l i hlt)
      generalize laws_markByteSS.mk k0 i ++ l.drop i = xs at HO hlen hset
      obtain ⟨Ao6, co6, eo6⟩ := Z_slice HO.out
      subst eo6
      have p5 : 0 ≤ (i : Int) := by omega
      have q5 : (i : Int) < ((xs.length : Int) : Int) := by omega
      obtain ⟨go5, co5, eo5, gb5, gl5, cl5, fr5, HG5⟩ := Z_form HO.out (by omega)
      (first | cases eo5 | (injection eo5 with ea_ en_ ec_; (first | subst ea_ | (injection ea_ with ea_; subst ea_)); subst ec_; clear en_))
      have GB5 := Aside0.mk gb5
      clear gb5 gl5 HG5
      obtain ⟨hx5, hf5⟩ := Z_celln 0 HO.out (i : Int) p5 q5
      have hti : ((i : Int)).toNat = i := by omega
      have HP7 := Aside0.mk (Z_putg HO.out (i : Int) ((k0 + i) % 256))
      rw [hti] at hx5 hf5 HP7
      clear hti hlen
      have HPo := Aside0.mk (Z_ok HO.out go5 rfl)
      go_wp2_with (first | ((with_reducible refine gate_store (t := 5) (p := 16) rfl ?_); refine store_event (t := 5) (p := 16) (v := ?vo_w8) (w1 := (wr.setCell ⟨go5, i, none⟩ (.int .u8 ((k0 + i) % 256)))) ?hg ?ho ?hn ?hr ?_; (case ho => rfl); (case hg => rfl); (case hn => rfl); (case hr => first | (go_simp; done) | (go_simp; rfl)); intro w8 hw; replace HO : Aside0 (Zr 5 w8 w0.heap.size P (.slice (some ⟨go5, 0, none⟩) xs.length co6) (laws_markByteSS.mk k0 (i + 1) ++ l.drop (i + 1))) := ⟨by rw [hw, ← hset.out]; exact HP7.out.1⟩; replace HM : Aside0 (Kept w w8 P) := ⟨by rw [hw]; exact HM.out.setCell (.inl HPo.out) _⟩; replace HB : Aside0 (Below w0.heap.size w0 w8) := ⟨by rw [hw]; exact below_set HB.out GB5.out⟩; clear HP7 hw))
      go_roundg (l.length - (i + 1))
      case measure => omega
      case rel => exact ⟨i + 1, by omega, by omega, by go_num, by go_num, HO, HM, HB⟩
    · have : i = l.length := by omega
      subst this
      rw [List.drop_of_length_le (Nat.le_refl _), List.append_nil] at HO hlen
      obtain ⟨xs, hxs⟩ : ∃ xs, laws_markByteSS.mk k0 l.length = xs := ⟨_, rfl⟩
      rw [hxs] at HO hlen
      have HX := Aside0.mk hxs
      clear hxs
      obtain ⟨Ao9, co9, eo9⟩ := Z_slice HO.out
      subst eo9
      have hlz : ¬ (l.length : Int) < (xs.length : Int) := by omega
      clear hlen
      go_wp2
      go_ret
      exact ⟨rfl, HM.out, HB.out, by rw [HX.out]; exact HO.out⟩
set_option maxHeartbeats 8000000 in
set_option maxRecDepth 100000 in
theorem nz_marks (v : Value) (l0 : List (List Int)) (ps : List Tri) (a1 : Int) (U : Nat) (w0 w : World) (hB : Below w0.heap.size w0 w) (ho0 : NZ w0.heap.size U w v l0 ps) (h0 : 0 ≤ a1) (h1 : a1 + (laws_markByteSS.sum l0 : Int) ≤ 4611686018427387904) :
    Calls Tryd.prog 43 #[v, .int .i64 a1] w fun e w' => e = .returned (.int .i64 (a1 + (laws_markByteSS.sum l0 : Int))) ∧ Kept w w' (fun k => w0.heap.size ≤ k ∧ k < U) ∧ Below w0.heap.size w0 w' ∧ NZ w0.heap.size U w' v (laws_markByteSS.all a1 l0) ps := by
  have HO := Aside0.mk ho0
  have HB := Aside0.mk hB
  have hbig : l0.length ≤ 9223372036854775807 := by
    obtain ⟨A, c, _, _, hC⟩ := ho0.reads
    exact hC.2.1
  obtain ⟨A0, c0, rfl⟩ : ∃ A c, v = .slice A l0.length c := by
    obtain ⟨A, c, rfl, _⟩ := ho0.reads
    exact ⟨A, c, rfl⟩
  have H1 := Aside0.mk h1
  clear ho0 h1 hB
  go_enter Tryd.func43, Tryd.ntmps43
  go_wp2
  go_loopg [1, 5] l0.length (fun kq v1 v5 w' => ∃ i : Nat, i ≤ l0.length ∧ l0.length - i ≤ kq ∧ v1 = .int .i64 (a1 + (laws_markByteSS.sum (l0.take i) : Int)) ∧ v5 = .int .i64 i ∧ Aside0 (NZ w0.heap.size U w' (.slice A0 l0.length c0) (laws_markByteSS.all a1 (l0.take i) ++ l0.drop i) ps) ∧ Aside0 (Kept w w' (fun k => w0.heap.size ≤ k ∧ k < U)) ∧ Aside0 (Below w0.heap.size w0 w'))
  case atStart => exact ⟨0, Nat.zero_le _, by omega, by simp [laws_markByteSS.sum], rfl, ⟨by simpa [laws_markByteSS.all] using HO.out⟩, ⟨Kept.refl _ _⟩, HB⟩
  case round =>
    clear HO HB
    obtain ⟨i, hi, hg, rfl, rfl, HO, HM, HB⟩ := hrel
    have hal : (laws_markByteSS.all a1 (l0.take i)).length = i := by rw [laws_markByteSS.all_len, List.length_take]; omega
    by_cases hlt : i < l0.length
    · have hlen : (laws_markByteSS.all a1 (l0.take i) ++ l0.drop i).length = l0.length := by rw [List.length_append, hal, List.length_drop]; omega
      obtain ⟨g, c, p, hv, hp, hcell, hfz, hpl, hbg⟩ := HO.out.at i (by omega)
      rw [hlen] at hv
      injection hv with e1 e2 e3
      subst e1; subst e3
      have hxe : (laws_markByteSS.all a1 (l0.take i) ++ l0.drop i)[i]'(by omega) = l0[i] := by
        rw [List.getElem_append_right (by omega)]; simp [hal]
      have hZ := HO.out.el i p _ hp (List.getElem?_eq_getElem (by omega))
      rw [hxe] at hpl hZ
      have hset : (laws_markByteSS.all a1 (l0.take i) ++ l0.drop i).set i (laws_markByteSS.mk (a1 + (laws_markByteSS.sum (l0.take i) : Int)) l0[i].length) = laws_markByteSS.all a1 (l0.take (i + 1)) ++ l0.drop (i + 1) := by
        rw [List.take_succ_eq_append_getElem hlt, laws_markByteSS.all_snoc, List.set_append_right _ _ (by omega), hal, Nat.sub_self, List.drop_eq_getElem_cons hlt, List.set_cons_zero, List.append_assoc]
        rfl
      have hst := laws_markByteSS.sum_take l0 (i + 1)
      have hss : laws_markByteSS.sum (l0.take (i + 1)) = laws_markByteSS.sum (l0.take i) + l0[i].length := by rw [List.take_succ_eq_append_getElem hlt, laws_markByteSS.sum_snoc]
      have h1' := H1.out
      have hcall := bytesZ _ (triV p) l0[i] (a1 + (laws_markByteSS.sum (l0.take i) : Int)) w0 wr HB.out (Z_tight rfl hZ) (by omega) (by omega)
      have HBK := Aside0.mk (fun (w' : World) (hm : Kept wr w' (fun k => some k = (triV p).ownBlock)) (hr : Zr 5 w' w0.heap.size (fun k => some k = (triV p).ownBlock) (triV p) (laws_markByteSS.mk (a1 + (laws_markByteSS.sum (l0.take i) : Int)) l0[i].length)) => HO.out.mark hp hm (Z_all hr (fun k hk => Z_ok hZ k hk)))
      rw [hset] at HBK
      have HSS := Aside0.mk hss
      have HPP := Aside0.mk (fun k (hk : some k = (triV p).ownBlock) => (⟨Z_base hZ k hk.symm, Z_ok hZ k hk.symm⟩ : w0.heap.size ≤ k ∧ k < U))
      have hk2 : a1 + (laws_markByteSS.sum (l0.take i) : Int) + (l0[i].length : Int) = a1 + (laws_markByteSS.sum (l0.take (i + 1)) : Int) := by omega
      rw [hk2] at hcall
      have hcell' : wr.cell? ⟨g, i, none⟩ = some (.slice p.1 l0[i].length p.2.2) := by rw [hcell, ← hpl]; rfl
      have hpe : triV p = .slice p.1 l0[i].length p.2.2 := by rw [← hpl]; rfl
      rw [hpe] at hcall HBK HPP
      have HCALL := Aside0.mk hcall
      clear hcall hZ hset hxe hbg hlen hal HO hst hss h1' hk2 hp hcell hfz hpl hpe HB
      have hltz : (i : Int) < (l0.length : Int) := by omega
      have hi0 : 0 ≤ (i : Int) := by omega
      generalize l0[i] = x at hcell' HCALL HBK HSS HPP
      go_wp2_with (first | (go_at_call 11; refine HCALL.out.mono ?_; rintro e w2 ⟨rfl, hm, hb, hr⟩; have HO := Aside0.mk (HBK.out w2 hm hr); replace HM := Aside0.mk (Kept.then_ HM.out hm (fun k hk => .inl (HPP.out k hk))); have HB := Aside0.mk hb; clear hm hr hb HBK HCALL))
      go_roundg (l0.length - (i + 1))
      case measure => omega
      case rel => exact ⟨i + 1, by omega, by omega, rfl, by go_num, HO, HM, HB⟩
    · have : i = l0.length := by omega
      subst this
      rw [List.take_of_length_le (Nat.le_refl _), List.drop_of_length_le (Nat.le_refl _), List.append_nil] at HO
      rw [List.take_of_length_le (Nat.le_refl _)]
      clear hal
      have hlz : ¬ (l0.length : Int) < (l0.length : Int) := by omega
      go_wp2
      go_ret
      exact ⟨rfl, HM.out, HB.out, HO.out⟩
set_option maxHeartbeats 2000000 in
/-- markName over such a name. -/
theorem nz_markName (v : Value) (l0 : List (List Int)) (ps : List Tri) (a1 : Int) (U : Nat) (w0 w : World) (hB : Below w0.heap.size w0 w) (ho0 : NZ w0.heap.size U w v l0 ps) (h0 : 0 ≤ a1) (h1 : a1 + (laws_markByteSS.sum l0 : Int) ≤ 4611686018427387904) :
    Calls Tryd.prog 16 #[.agg #[v], .int .i64 a1] w fun e w' => e = .returned (.int .i64 (a1 + (laws_markByteSS.sum l0 : Int))) ∧ Kept w w' (fun k => w0.heap.size ≤ k ∧ k < U ∨ w.heap.size ≤ k) ∧ Below w0.heap.size w0 w' ∧ NZ w0.heap.size U w' v (laws_markByteSS.all a1 l0) ps := by
  have HO := Aside0.mk ho0
  have HB0 := Aside0.mk hB
  have HB := Aside0.mk (Below.refl w.heap.size w)
  obtain ⟨A0, c0, rfl⟩ : ∃ A c, v = .slice A l0.length c := by
    obtain ⟨A, c, rfl, _⟩ := ho0.reads
    exact ⟨A, c, rfl⟩
  have H1 := Aside0.mk h1
  clear ho0 h1 hB
  go_enter Tryd.func16, Tryd.ntmps16
  go_wp2_with (first | ((with_reducible refine gate_dst (N := 2) rfl ?_); refine boxed (N := 2) rfl rfl (cs := #[.slice A0 l0.length c0]) (t := 29) HB.out (by first | (go_simp; done) | (go_simp; rfl)) ?_; clear HB; intro gb w2 hg HB BK GE hb; clear hg hb; obtain ⟨hz0, hf0⟩ := cells1 BK.out) | (go_at_call 43; refine (nz_marks (.slice A0 l0.length c0) l0 ps a1 U w0 _ (below_step HB0.out (bw HB.out)) (NZ.below HO.out (bw HB.out)) h0 H1.out).mono ?_; rintro e w3 ⟨rfl, hm, hb, hs⟩))
  go_ret
  exact ⟨rfl, Kept.then_ (Kept.of_below HB.out _) (hm.mono (fun k hk => .inl hk)) (fun k hk => .inl hk), hb, hs⟩
theorem freeze_new (W : World) (C : Array Value) (e n : Nat) : (W.alloc (.cells C e)).freeze ⟨W.heap.size, n, none⟩ 1 = W.alloc (.cells C e (n, n + 1)) := by
  have hm : ∀ (a : Array Obj) (x : Obj) (f : Obj → Obj), (a.push x).modify a.size f = a.push (f x) := by
    intro a x f
    apply Array.ext
    · simp
    · intro i h1 h2
      simp only [Array.getElem_modify, Array.getElem_push]
      by_cases h : a.size = i
      · subst h
        simp
      · have hi : i < a.size := by simp at h1; omega
        simp [h, hi]
  unfold World.freeze
  rw [if_neg (by decide)]
  show ({ W.alloc (.cells C e) with heap := (W.heap.push (.cells C e)).modify W.heap.size _ } : World) = _
  rw [hm]
  rfl
theorem conv_lit22 (W : World) (C : Array Value) (n : Nat) (hn : C.size = n) : (convert 22 22 (.slice (some ⟨W.heap.size, 0, none⟩) n n)).run Tryd.prog (W.alloc (.cells C 5)) = .ok (.slice (some ⟨W.heap.size, 0, none⟩) n n) (W.alloc (.cells C 5 (n, n + 1))) := by
  have hsh : (W.alloc (.cells C 5)).shape? W.heap.size = some (5, n) := by
    have := heap_alloc_new W (.cells C 5)
    unfold World.shape?
    rw [this, ← hn]
  have hf := freeze_new W C 5 n
  simp [convert, run_underlying Tryd.underlying22, run_underlying Tryd.underlying5, markStringish, hsh, Result.andThen]
  exact hf
theorem NZ.step {b U : Nat} {w w' : World} {v : Value} {xs : List (List Int)} {ps : List Tri} (h : NZ b U w v xs ps) (hm : ∀ k, b ≤ k → k < U → k < w.heap.size → w'.heap[k]? = w.heap[k]?) : NZ b U w' v xs ps := by
  have hrow : KdT.R 22 w b (fun k => b ≤ k ∧ k < U) v ps := Kd.R_reok rfl h.row (fun k hk => ⟨Kd.R_base h.row k hk, h.row.1 k hk⟩)
  refine ⟨Kd.R_mono (Kd.R_step hrow (fun k hk hl => hm k hk.1 hk.2 hl)) (fun _ h => h.2), h.len, fun j p x hp hx => ?_, h.out, h.apart⟩
  have hz := h.el j p x hp hx
  exact Z_mono (Z_step (Z_all (p := fun k => b ≤ k ∧ k < U) hz (fun k hk => ⟨Z_base hz k hk, Z_ok hz k hk⟩)) (fun k hk hl => hm k hk.1 hk.2 hl)) (fun _ h => h.2)
/-- The two labels at an address name's end. -/
def inaL : List Int := [105, 110, 45, 97, 100, 100, 114]
def arpL : List Int := [97, 114, 112, 97]
def inaC : Array Value := #[.int .u8 105, .int .u8 110, .int .u8 45, .int .u8 97, .int .u8 100, .int .u8 100, .int .u8 114]
def arpC : Array Value := #[.int .u8 97, .int .u8 114, .int .u8 112, .int .u8 97]
def endW (W : World) : World := ((W.alloc (.cells inaC 5 (7, 8))).alloc (.cells arpC 5 (4, 5))).alloc (.cells #[.slice (some ⟨W.heap.size, 0, none⟩) 7 7, .slice (some ⟨W.heap.size + 1, 0, none⟩) 4 4] 22)
theorem end_NZ (W : World) : NZ W.heap.size (endW W).heap.size (endW W) (.slice (some ⟨W.heap.size + 2, 0, none⟩) 2 2) [inaL, arpL] [(some ⟨W.heap.size, 0, none⟩, 7, 7), (some ⟨W.heap.size + 1, 0, none⟩, 4, 4)] := by
  have s3 : (endW W).heap.size = W.heap.size + 3 := by simp [endW]
  have h1 : (endW W).heap[W.heap.size]? = some (.cells inaC 5 (7, 8)) := by unfold endW; exact blk_alloc (blk_alloc (heap_alloc_new W _) _) _
  have h2 : (endW W).heap[W.heap.size + 1]? = some (.cells arpC 5 (4, 5)) := by
    have h := heap_alloc_new (W.alloc (.cells inaC 5 (7, 8))) (.cells arpC 5 (4, 5))
    rw [show (W.alloc (.cells inaC 5 (7, 8))).heap.size = W.heap.size + 1 by simp] at h
    unfold endW; exact blk_alloc h _
  have z1 : Zs 5 (endW W) W.heap.size (fun k => k < W.heap.size + 3) (.slice (some ⟨W.heap.size, 0, none⟩) 7 7) inaL :=
    ⟨W.heap.size, 7, inaC, rfl, by decide, by omega, Nat.le_refl _, h1, by decide, by decide, fun i hi => by
      have hi : i < 7 := hi
      obtain rfl | rfl | rfl | rfl | rfl | rfl | rfl : i = 0 ∨ i = 1 ∨ i = 2 ∨ i = 3 ∨ i = 4 ∨ i = 5 ∨ i = 6 := by omega
      all_goals rfl⟩
  have z2 : Zs 5 (endW W) W.heap.size (fun k => k < W.heap.size + 3) (.slice (some ⟨W.heap.size + 1, 0, none⟩) 4 4) arpL :=
    ⟨W.heap.size + 1, 4, arpC, rfl, by decide, by omega, by omega, h2, by decide, by decide, fun i hi => by
      have hi : i < 4 := hi
      obtain rfl | rfl | rfl | rfl : i = 0 ∨ i = 1 ∨ i = 2 ∨ i = 3 := by omega
      all_goals rfl⟩
  have hrow : KdT.R 22 (endW W) W.heap.size (fun k => k < W.heap.size + 3) (.slice (some ⟨W.heap.size + 2, 0, none⟩) 2 2) [(some ⟨W.heap.size, 0, none⟩, 7, 7), (some ⟨W.heap.size + 1, 0, none⟩, 4, 4)] := by
    refine ⟨fun k hk => by have h : W.heap.size + 2 = k := Option.some.inj hk; omega, [.slice (some ⟨W.heap.size, 0, none⟩) 7 7, .slice (some ⟨W.heap.size + 1, 0, none⟩) 4 4], ?_, Kd.reps_scalar (enc := triV) _⟩
    have h := World.ownsRow_lit (base := W.heap.size) (e := 22) (size := 1) ((W.alloc (.cells inaC 5 (7, 8))).alloc (.cells arpC 5 (4, 5))) #[.slice (some ⟨W.heap.size, 0, none⟩) 7 7, .slice (some ⟨W.heap.size + 1, 0, none⟩) 4 4] 2 (by simp; omega) (by decide) (by simp)
    rw [show ((W.alloc (.cells inaC 5 (7, 8))).alloc (.cells arpC 5 (4, 5))).heap.size = W.heap.size + 2 by simp] at h
    exact h
  rw [s3]
  refine ⟨hrow, rfl, fun j p x hp hx => ?_, fun j p hp k hk he => ?_, fun i j p q hp hq hij k hk he => ?_⟩
  · match j, hp, hx with
    | 0, hp, hx => cases hp; cases hx; exact .inr z1
    | 1, hp, hx => cases hp; cases hx; exact .inr z2
    | j + 2, hp, hx => simp at hp
  · have he : W.heap.size + 2 = k := Option.some.inj he
    match j, hp with
    | 0, hp => cases hp; have : W.heap.size = k := Option.some.inj hk; omega
    | 1, hp => cases hp; have : W.heap.size + 1 = k := Option.some.inj hk; omega
    | j + 2, hp => simp at hp
  · match i, j, hp, hq with
    | 0, 0, hp, hq => exact hij rfl
    | 1, 1, hp, hq => exact hij rfl
    | 0, 1, hp, hq => cases hp; cases hq; have : W.heap.size = k := Option.some.inj hk; have : W.heap.size + 1 = k := Option.some.inj he; omega
    | 1, 0, hp, hq => cases hp; cases hq; have : W.heap.size + 1 = k := Option.some.inj hk; have : W.heap.size = k := Option.some.inj he; omega
    | i + 2, j, hp, hq => simp at hp
    | i, j + 2, hp, hq => simp at hq
theorem end_F (W : World) : Kd.F (Kd.slice 5 (Kd.int .u8)) (endW W) (fun k => W.heap.size ≤ k) (some ⟨W.heap.size + 2, 0, none⟩) 2 [inaL, arpL] := fun W' hW => by
  have h := (NZ.step (w' := W') (end_NZ W) (fun k h1 h2 h3 => hW k h1 h3)).reads
  obtain ⟨A, c, e, _, hC⟩ := h
  injection e with e1 e2 e3
  subst e1
  exact hC

/-! ### impl_within: function 47 -/
def impl_within.f (a0 : Int) (a1 : Int) (a2 : Int) : Option (Bool) := if a1 ≤ a0 then (some (decide (a0 ≤ a2))) else (some false)
set_option maxHeartbeats 8000000 in
set_option maxRecDepth 100000 in
theorem impl_within.calls (a0 : Int) (a1 : Int) (a2 : Int) (r : Bool) (w : World) (h : impl_within.f a0 a1 a2 = some r) :
  Calls Tryd.prog 47 #[.int .i64 a0, .int .i64 a1, .int .i64 a2] w fun e w' => e = .returned (.bool r) ∧ Drawn0 w w' := by
 have H : (if a1 ≤ a0 then (some (decide (a0 ≤ a2))) else (some false)) = some r := h
 clear h
 replace H := ip H
 obtain ⟨c4b0, H⟩ | ⟨c4b0, H⟩ := H
 ·obtain rfl := Option.some.inj H
  go_enter Tryd.func47, Tryd.ntmps47
  go_wp2
  go_ret
  exact ⟨o2, od⟩
 ·obtain rfl := Option.some.inj H
  go_enter Tryd.func47, Tryd.ntmps47
  go_wp2
  go_ret
  exact ⟨o2, od⟩

/-! ### impl_isWord: function 37 -/
def impl_isWord.f (a0 : Int) : Option (Bool) := (impl_within.f a0 0 4294967295).bind fun t101 => (some t101)
set_option maxHeartbeats 8000000 in
set_option maxRecDepth 100000 in
theorem impl_isWord.calls (a0 : Int) (r : Bool) (w : World) (h : impl_isWord.f a0 = some r) :
  Calls Tryd.prog 37 #[.int .i64 a0] w fun e w' => e = .returned (.bool r) ∧ Drawn0 w w' := by
 have H : ((impl_within.f a0 0 4294967295).bind fun t101 => (some t101)) = some r := h
 clear h
 replace H := bnd H
 obtain ⟨t101, A2, H⟩ := H
 obtain rfl := Option.some.inj H
 go_enter Tryd.func37, Tryd.ntmps37
 go_wp2_with (((with_reducible refine gate_callee (f := 47) rfl ?_);refine glD 4 rfl rfl Tryd.func47 (impl_within.calls a0 0 4294967295 t101 _ A2.out) (fun nd => ?_)))
 go_ret
 exact ⟨o2, od⟩

/-! ### impl_two: function 54 -/
def impl_two.f (a0 : Int) : Option (List Int) := some (([(a0 / 256) % 256, (a0) % 256] : List Int))
set_option maxHeartbeats 8000000 in
set_option maxRecDepth 100000 in
theorem impl_two.calls (a0 : Int) (r : List Int) (w : World) (h : impl_two.f a0 = some r) :
  Calls Tryd.prog 54 #[.int .i64 a0] w fun e w' => ∃ v0_ : Value, e = .returned (v0_) ∧ Kd.R (Kd.int .u8) 5 w' w.heap.size (fun _ => True) v0_ r ∧ Below w.heap.size w w' := by
 have HB := ak (Below.refl w.heap.size w)
 have H : (some (([(a0 / 256) % 256, (a0) % 256] : List Int))) = some r := h
 clear h
 obtain ⟨y101, hy101⟩ : ∃ y_ : List Int, y_ = (([(a0 / 256) % 256, (a0) % 256] : List Int)) := ⟨_, rfl⟩
 (try with_reducible replace H := bnS H)
 (try rw [← hy101] at H)
 have Ny101 := ak hy101
 clear hy101
 obtain rfl := Option.some.inj H
 go_enter Tryd.func54, Tryd.ntmps54
 go_wp2_with (((with_reducible refine gate_dst (N := 8) rfl ?_);refine Kd.R_lit (Kd.int .u8) _ 5 ?hg (N := 8) ?hd (xs := ([(a0 / 256) % 256, (a0) % 256] : List Int)) (inner := [.int .u8 ((a0 / 256) % 256), .int .u8 ((a0) % 256)]) (ok := fun _ => True) (okp := fun _ => True) ?hr ?hp (fun _ hk => hk) trivial (Below.refl _ _) (Nat.le_refl _) (by simp) ?_;(case hd => rfl);(case hg => rfl);(case hr => first | (go_simp; done) | (go_simp; rfl));(case hp => exact (Reps.one (show Kd.M (Kd.int .u8) _ _ _ ((a0 / 256) % 256) [.int .u8 ((a0 / 256) % 256)] from rfl) (Reps.one (show Kd.M (Kd.int .u8) _ _ _ ((a0) % 256) [.int .u8 ((a0) % 256)] from rfl) (Reps.none _ _))));intro v102 w2 ho3 hb hg_ hnew_;clear hg_ hnew_;(first | rw [← Ny101.out] at ho3 | (simp only [Int.reduceToNat] at ho3; rw [← Ny101.out] at ho3));have HO103 := ak (Kd.R_lower ho3 (below_size (bw HB.out)));replace HB := b2 HB hb;clear hb ho3))
 go_ret
 exact ⟨_, o1, rw_ HO103.out, bw HB.out⟩

/-! ### impl_four: function 56 -/
def impl_four.f (a0 : Int) : Option (List Int) := (impl_two.f (a0 / 65536)).bind fun t101 => ((impl_two.f a0).bind fun t104 => (if t101.length + t104.length < 140737488355328 then (some (t101 ++ t104)) else (none)))
set_option maxHeartbeats 8000000 in
set_option maxRecDepth 100000 in
theorem impl_four.calls (a0 : Int) (r : List Int) (w : World) (h : impl_four.f a0 = some r) :
  Calls Tryd.prog 56 #[.int .i64 a0] w fun e w' => ∃ v0_ : Value, e = .returned (v0_) ∧ Kd.R (Kd.int .u8) 5 w' w.heap.size (fun _ => True) v0_ r ∧ Below w.heap.size w w' := by
 have HB := ak (Below.refl w.heap.size w)
 have H : ((impl_two.f (a0 / 65536)).bind fun t101 => ((impl_two.f a0).bind fun t104 => (if t101.length + t104.length < 140737488355328 then (some (t101 ++ t104)) else (none)))) = some r := h
 clear h
 replace H := bnd H
 obtain ⟨t101, A2, H⟩ := H
 replace H := bnd H
 obtain ⟨t104, A3, H⟩ := H
 by_cases c4 : t101.length + t104.length < 140737488355328
 ·rw [if_pos c4] at H
  have LMc4 := ak c4
  clear c4
  obtain ⟨y107, hy107⟩ : ∃ y_ : List Int, y_ = (t101 ++ t104) := ⟨_, rfl⟩
  (try with_reducible replace H := bnS H)
  (try rw [← hy107] at H)
  have Ny107 := ak hy107
  clear hy107
  obtain rfl := Option.some.inj H
  go_enter Tryd.func56, Tryd.ntmps56
  go_wp2_with (first | ((with_reducible refine gate_callee (f := 54) rfl ?_);refine glG 5 rfl rfl Tryd.func54 (impl_two.calls (a0 / 65536) t101 _ A2.out) ?_;rintro e w5 ⟨v102, rfl, ho0, hb⟩;refine ⟨_, rfl, ?_⟩;have HO103 := ak (Kd.R_lower ho0 (below_size (bw HB.out)));replace HB := b2 HB hb;(try clear hb);(try clear ho0)) | ((with_reducible refine gate_callee (f := 54) rfl ?_);refine glG 7 rfl rfl Tryd.func54 (impl_two.calls a0 t104 _ A3.out) ?_;rintro e w6 ⟨v105, rfl, ho0, hb⟩;refine ⟨_, rfl, ?_⟩;have HO106 := ak (Kd.R_lower (Kd.R_new' ho0 (Kd.R_lt (rw_ HO103.out))) (below_size (bw HB.out)));replace HO103 := ak (Kd.R_elder' (rw_ HO103.out) (Kd.R_base ho0) hb);replace HB := b2 HB hb;(try clear hb);(try clear ho0);obtain ⟨Ao8, co8, eo8⟩ := Kd.R_slice HO106.out;subst eo8) | ((with_reducible refine gate_builtin (b := .append) (xs := #[.tmp 5, .tmp 7]) rfl ?_);at_builtin;refine Kd.R_append_rows (Kd.int .u8) (w0 := w) w.heap.size rfl (.tmp 5) (.tmp 7) 22 5 (.int .u8 0) 1 rfl Tryd.underlying22 info5 rfl (by decide) (by omega) v102 t101 t104 _ _ _ (fun k_ => some k_ ≠ (.slice Ao8 t104.length co8 : Value).ownBlock) (fun _ => False) rfl rfl ?aO ?aR (fun _ _ h => h) (fun _ h => h.elim) ?aF ?aB ?aS ?aL ?_;(case aR => repeat (first | exact (Kd.R_reads' HO106.out).2.2 | (with_reducible refine Kd.C_alloc ?_ _) | (with_reducible refine Kd.C_drewN ?_ _) | (with_reducible refine Kd.C_drew ?_)));(case aB => exact (bw HB.out));(case aF => exact (fun k_ hk => Kd.fresh' (Kd.R_lt (rw_ HO106.out)) k_ hk));(case aO => exact (rw_ (Kd.R_mono HO103.out (fun _ hk => hk.2))));(case aS => exact (below_size (bw HB.out)));(case aL => have := LMc4.out; omega);intro v108 w7 ho hb hg hat;rw [← Ny107.out] at ho;replace HO106 := ak (Kd.R_after (ok := (fun _ => True)) (rw_ HO106.out) hg hat);replace HB := ak (hb);have HO109 := ak (ho);clear HO103;clear ho hb hg hat))
  go_ret
  exact ⟨_, o1, by (with_reducible repeat (first | apply Kd.R_alloc | apply Kd.R_drewN | apply Kd.R_drew)); exact Kd.R_mono HO109.out (fun _ hk => trivial), bw HB.out⟩
 ·rw [if_neg c4] at H
  exact absurd H (by simp)

def laysM171_ren : Go.Shelf.Ren := ⟨fun | 171 => 74 | 243 => 101 | 246 => 116 | 283 => 128 | 284 => 129 | 285 => 130 | 286 => 131 | 129 => 143 | 317 => 142 | 318 => 144 | 319 => 145 | 320 => 146 | 337 => 150 | 338 => 151 | n => n, fun | 3 => 3 | 9 => 9 | 2 => 2 | 4 => 4 | 171 => 127 | 0 => 0 | 53 => 118 | 37 => 22 | 5 => 5 | 173 => 130 | 212 => 140 | 51 => 141 | 20 => 20 | 213 => 142 | 46 => 68 | 232 => 152 | 233 => 153 | n => n, fun | 17 => 3 | 18 => 6 | 19 => 7 | n => n⟩
theorem laysM171 : Go.Proofs.LaysM.n171 Tryd.prog laysM171_ren := {
  mixed := (by kernel_rfl),
  f129 := Tryd.func143.trans (congrArg some (by kernel_rfl)),
  f171 := Tryd.func74.trans (congrArg some (by kernel_rfl)),
  f243 := Tryd.func101.trans (congrArg some (by kernel_rfl)),
  f246 := Tryd.func116.trans (congrArg some (by kernel_rfl)),
  f283 := Tryd.func128.trans (congrArg some (by kernel_rfl)),
  f284 := Tryd.func129.trans (congrArg some (by kernel_rfl)),
  f285 := Tryd.func130.trans (congrArg some (by kernel_rfl)),
  f286 := Tryd.func131.trans (congrArg some (by kernel_rfl)),
  f317 := Tryd.func142.trans (congrArg some (by kernel_rfl)),
  f318 := Tryd.func144.trans (congrArg some (by kernel_rfl)),
  f319 := Tryd.func145.trans (congrArg some (by kernel_rfl)),
  f320 := Tryd.func146.trans (congrArg some (by kernel_rfl)),
  f337 := Tryd.func150.trans (congrArg some (by kernel_rfl)),
  f338 := Tryd.func151.trans (congrArg some (by kernel_rfl)),
  t0 := Tryd.underlying0,
  a0 := Tryd.isAgg0,
  z0 := Tryd.sizeOf0,
  v0 := Tryd.zeroValue0,
  t2 := Tryd.underlying2,
  a2 := Tryd.isAgg2,
  z2 := Tryd.sizeOf2,
  v2 := Tryd.zeroValue2,
  t3 := Tryd.underlying3,
  a3 := Tryd.isAgg3,
  z3 := Tryd.sizeOf3,
  v3 := Tryd.zeroValue3,
  t4 := Tryd.underlying4,
  a4 := Tryd.isAgg4,
  z4 := Tryd.sizeOf4,
  v4 := Tryd.zeroValue4,
  t5 := Tryd.underlying5,
  a5 := Tryd.isAgg5,
  z5 := Tryd.sizeOf5,
  v5 := Tryd.zeroValue5,
  t9 := Tryd.underlying9,
  a9 := Tryd.isAgg9,
  z9 := Tryd.sizeOf9,
  v9 := Tryd.zeroValue9,
  t20 := Tryd.underlying20,
  a20 := Tryd.isAgg20,
  z20 := Tryd.sizeOf20,
  v20 := Tryd.zeroValue20,
  t37 := Tryd.underlying22,
  a37 := Tryd.isAgg22,
  z37 := Tryd.sizeOf22,
  v37 := Tryd.zeroValue22,
  t46 := Tryd.underlying68,
  a46 := Tryd.isAgg68,
  z46 := Tryd.sizeOf68,
  v46 := Tryd.zeroValue68,
  t51 := Tryd.underlying141,
  a51 := Tryd.isAgg141,
  z51 := Tryd.sizeOf141,
  v51 := Tryd.zeroValue141,
  t53 := Tryd.underlying118,
  a53 := Tryd.isAgg118,
  z53 := Tryd.sizeOf118,
  v53 := Tryd.zeroValue118,
  t171 := Tryd.underlying127,
  a171 := Tryd.isAgg127,
  z171 := Tryd.sizeOf127,
  v171 := Tryd.zeroValue127,
  t173 := Tryd.underlying130,
  a173 := Tryd.isAgg130,
  z173 := Tryd.sizeOf130,
  v173 := Tryd.zeroValue130,
  t212 := Tryd.underlying140,
  a212 := Tryd.isAgg140,
  z212 := Tryd.sizeOf140,
  v212 := Tryd.zeroValue140,
  t213 := Tryd.underlying142,
  a213 := Tryd.isAgg142,
  z213 := Tryd.sizeOf142,
  t232 := Tryd.underlying152,
  a232 := Tryd.isAgg152,
  z232 := Tryd.sizeOf152,
  v232 := Tryd.zeroValue152,
  t233 := Tryd.underlying153,
  a233 := Tryd.isAgg153,
  z233 := Tryd.sizeOf153,
  v233 := Tryd.zeroValue153,
  g17 := (by kernel_rfl),
  g18 := (by kernel_rfl),
  g19 := (by kernel_rfl),
  i0 := (by kernel_rfl),
  i2 := (by kernel_rfl),
  i3 := (by kernel_rfl),
  i4 := (by kernel_rfl),
  i5 := (by kernel_rfl),
  i9 := (by kernel_rfl),
  i20 := (by kernel_rfl),
  i37 := (by kernel_rfl),
  i46 := (by kernel_rfl),
  i51 := (by kernel_rfl),
  i53 := (by kernel_rfl),
  i171 := (by kernel_rfl),
  i173 := (by kernel_rfl),
  i212 := (by kernel_rfl),
  i232 := (by kernel_rfl),
  i233 := (by kernel_rfl),
  m17 := (by kernel_rfl),
  m18 := (by kernel_rfl),
  m19 := (by kernel_rfl) }
/-- strconv.Itoa, at every int. -/
theorem itoa_any (n : Int) (h0 : -9223372036854775808 ≤ n) (h1 : n ≤ 9223372036854775807) (w : World) (htab : Lib.TabIs Tryd.prog w "internal/strconv.uint64pow10" .u64 Lib.pow10Tab) :
    Calls Tryd.prog 74 #[.int .i64 n] w fun e w' => e = .returned (.string ⟨(Lib.itoa n).toArray⟩) ∧ Below w.heap.size w w' := (Any.strconv_Itoa laysM171 n h0 h1 w htab).mono fun e w' h => ⟨h.1, by obtain ⟨k, os, rfl⟩ := h.2; exact Lib.below_grow _ w (Nat.le_refl _) k os⟩
/-- The table of powers reads as the library lays it. -/
def TabA (w : World) : Prop := Lib.TabIs Tryd.prog w "internal/strconv.uint64pow10" .u64 Lib.pow10Tab
theorem tab_below {w W : World} (h : TabA w) (hb : Below w.heap.size w W) : TabA W := Lib.tabBelow_of_tabIs h W hb
def digS (c : Int) : ByteArray := ⟨(Lib.itoa c).toArray⟩
def qd4 (x : Int) : List Int := [x / 16777216 % 256, x / 65536 % 256, x / 256 % 256, x % 256]
theorem four_eq (x : Int) (h0 : 0 ≤ x) (h1 : x < 4294967296) : impl_four.f x = some (qd4 x) := by
  unfold impl_four.f impl_two.f qd4
  simp only [Option.bind_some]
  rw [if_pos (by simp)]
  simp only [List.cons_append, List.nil_append, Option.some.injEq, List.cons.injEq, and_true]
  omega
theorem rd_atN (l : List Int) (n : Nat) (h : n < l.length) : rd l ((n : Nat) : Int) = l[n] := by simp [rd, List.getD_eq_getElem?_getD, h]
def decS (x : Int) : List ByteArray := (qd4 x).map digS
set_option maxHeartbeats 2000000 in
set_option maxRecDepth 100000 in
theorem decimals_any (a0 : Int) (h0 : 0 ≤ a0) (h1 : a0 < 4294967296) (w : World) (hT : TabA w) :
    Calls Tryd.prog 39 #[.int .i64 a0] w fun e w' => ∃ v0_ : Value, e = .returned v0_ ∧ Kd.R Kd.string 9 w' w.heap.size (fun _ => True) v0_ (decS a0) ∧ Below w.heap.size w w' := by
  have HT := ak hT
  have HB := ak (Below.refl w.heap.size w)
  clear hT
  go_enter Tryd.func39, Tryd.ntmps39
  go_wp2_with (((with_reducible refine gate_dst (N := 6) rfl ?_);refine Kd.R_lit Kd.string _ 9 ?hg (N := 6) ?hd (xs := ([] : List ByteArray)) (inner := []) (ok := fun _ => True) (okp := fun _ => True) ?hr ?hp (fun _ hk => hk) trivial (Below.refl _ _) (Nat.le_refl _) (by simp) ?_;(case hd => rfl);(case hg => rfl);(case hr => first | (go_simp; done) | (go_simp; rfl));(case hp => exact (Reps.none _ _));intro v6 w3 ho4 hb hg_ hnew_;clear hg_ hnew_;have HO := ak (Kd.R_lower ho4 (below_size HB.out));replace HB := ak (below_step HB.out hb);clear hb ho4))
  refine (impl_four.calls a0 (qd4 a0) _ (four_eq a0 h0 h1)).mono ?_
  rintro e w4 ⟨v8, rfl, ho, hb⟩
  replace HO := ak (Kd.R_below HO.out hb)
  have HS3 := ak HB.out.size
  replace HB := b2s HB.out hb
  obtain ⟨B, HBE⟩ : ∃ B, Aside0 (qd4 a0 = B) := ⟨_, ⟨rfl⟩⟩
  have HBL := ak (show B.length = 4 by rw [← HBE.out]; rfl)
  have HBB := ak (show ∀ x ∈ B, 0 ≤ x ∧ x ≤ 255 by rw [← HBE.out]; unfold qd4; intro x hx; simp only [List.mem_cons, List.not_mem_nil, or_false] at hx; rcases hx with rfl | rfl | rfl | rfl <;> omega)
  rw [HBE.out] at ho
  obtain ⟨A8, c8, eo⟩ := Kd.R_slice ho
  subst eo
  have HW := ak (Kd.R_lower ho HS3.out)
  clear ho hb
  go_wp2
  go_loopg [3, 5, 10] 5 (fun gq v3 v5 v10 W => ∃ i : Nat, i ≤ 4 ∧ 5 - i ≤ gq ∧ v10 = .int .i64 (i : Int) ∧ Aside0 (Kd.R Kd.string 9 W w.heap.size (fun _ => True) v3 ((B.take i).map digS)) ∧ Aside0 (Below w.heap.size w W) ∧ Aside0 (Kd.R (Kd.int .u8) 5 W w.heap.size (fun _ => True) (.slice A8 B.length c8) B))
  case atStart => exact ⟨0, by omega, by omega, rfl, HO, HB, HW⟩
  case round =>
    clear HO HB HW
    obtain ⟨i, hi, hg, rfl, HO, HB, HW⟩ := hrel
    have hbl := HBL.out
    by_cases hlt : i < 4
    · have hlz : (i : Int) < (B.length : Int) := by omega
      obtain ⟨ad, hA, hck⟩ := Kd.at_int (Kd.R_reads' HW.out).2.2 (i : Int) (by omega) (by omega)
      subst hA
      rw [show ((i : Int)).toNat = i from by omega] at hck
      have hx := HBB.out (rd B (i : Int)) (by rw [rd_atN B i (by omega)]; exact List.getElem_mem _)
      have HTK := ak (show (B.take i).map digS ++ [digS (rd B (i : Int))] = (B.take (i + 1)).map digS by rw [List.take_succ_eq_append_getElem (by omega), List.map_append, rd_atN B i (by omega)]; rfl)
      obtain ⟨x, HX⟩ : ∃ x, Aside0 (rd B (i : Int) = x) := ⟨_, ⟨rfl⟩⟩
      rw [HX.out] at hck hx HTK
      obtain ⟨hx0, hx1⟩ := hx
      have HLT := ak (show ((B.take i).map digS).length ≤ 4 by rw [List.length_map, List.length_take]; omega)
      obtain ⟨ds, HDS⟩ : ∃ d, Aside0 ((B.take i).map digS = d) := ⟨_, ⟨rfl⟩⟩
      rw [HDS.out] at HO HTK HLT
      obtain ⟨dg, HDG⟩ : ∃ d, Aside0 (digS x = d) := ⟨_, ⟨rfl⟩⟩
      rw [HDG.out] at HTK
      clear hbl
      go_wp2_with (fail)
      refine (itoa_any x (by omega) (by omega) _ (tab_below HT.out HB.out)).mono ?_
      rintro e w5 ⟨rfl, hb⟩
      rw [show (⟨(Lib.itoa x).toArray⟩ : ByteArray) = dg from HDG.out]
      replace HO := ak (Kd.R_below HO.out hb)
      replace HB := b2s HB.out hb
      replace HW := ak (Kd.R_below HW.out hb)
      clear hb hck
      go_wp2_with ((with_reducible refine gate_builtin (b := .append) (xs := #[.tmp 14, .tmp 18]) rfl ?_);at_builtin;refine Kd.R_append Kd.string (w0 := w) w.heap.size rfl (.tmp 14) (.tmp 18) 57 9 (.string ⟨#[]⟩) 16 rfl Tryd.underlying57 info9 rfl (by decide) (by omega) _ ds dg [.string dg] (fun _ => True) (fun _ => False) rfl rfl ?aP (fun _ hk => hk.elim) ?aF ?aO ?aB ?aS ?aL ?_;(case aP => exact rfl);(case aB => exact HB.out);(case aF => exact (fun _ _ => trivial));(case aO => exact HO.out);(case aS => exact HB.out.size);(case aL => have := HLT.out; omega);intro v19 w6 ho hb hg hat;replace HB := ak hb;replace HW := ak (Kd.R_mono (ok' := fun _ => True) (Kd.R_grown (Kd.R_apartR HW.out HO.out (by decide)) hg (fun k hk => hk.2)) (fun _ _ => trivial));replace HO := ak ho;clear ho hb hat hg)
      go_roundg (5 - (i + 1))
      case measure => omega
      case rel => exact ⟨i + 1, by omega, by omega, by go_num, ⟨by rw [← HTK.out]; exact HO.out⟩, HB, HW⟩
    · have hlz : ¬ (i : Int) < (B.length : Int) := by omega
      obtain rfl : i = 4 := by omega
      rw [List.take_of_length_le (by omega)] at HO
      clear hi hg hlt hbl
      go_wp2
      go_ret
      exact ⟨_, rfl, by unfold decS; rw [HBE.out]; exact HO.out, HB.out⟩

def strBytes (s : ByteArray) : List Int := s.data.toList.map fun b => (b.toNat : Int)
theorem strBytes_len (s : ByteArray) : (strBytes s).length = s.size := by
  unfold strBytes
  rw [List.length_map, Array.length_toList]
  rfl
theorem conv_s (s : ByteArray) (W : World) : (convert 9 22 (.string s)).run Tryd.prog W = .ok (.slice (some ⟨W.heap.size, 0, none⟩) (strBytes s).length (grownCap W s.size 0 5))
      (W.drew.alloc (.cells (bytesRow s (grownCap W s.size 0 5)) 5 ((bytesRow s (grownCap W s.size 0 5)).size, (bytesRow s (grownCap W s.size 0 5)).size + 1))) := by
  rw [strBytes_len]
  exact run_bytes_of_string W 9 22 5 s Tryd.underlying9 Tryd.underlying22 Tryd.underlying5
theorem Zs_str (W : World) (s : ByteArray) (n base : Nat) (hs : s.size ≤ 9223372036854775807) (hn : s.size ≤ n) (hb : base ≤ W.heap.size) :
    Zs 5 ((W.alloc (.cells (bytesRow s n) 5 ((bytesRow s n).size, (bytesRow s n).size + 1))).drew) base (fun _ => True) (.slice (some ⟨W.heap.size, 0, none⟩) (strBytes s).length n) (strBytes s) := by
  have hl : (bytesRow s n).size = n := by
    have : s.data.size ≤ n := hn
    have e : s.size = s.data.size := rfl
    unfold bytesRow
    rw [Array.size_append, Array.size_map, Array.size_replicate]
    omega
  refine ⟨W.heap.size, n, bytesRow s n, rfl, by rw [strBytes_len]; exact hn, trivial, hb, heap_alloc_new _ _, by rw [strBytes_len, hl]; exact hn, by rw [strBytes_len]; omega, fun j hj => ?_⟩
  have hj2 : j < s.data.size := by rw [strBytes_len] at hj; exact hj
  have hj3 : j < s.size := hj2
  simp [bytesRow, strBytes, Array.getElem?_append, rd, List.getD_eq_getElem?_getD]
  rw [if_pos hj3, Array.getElem?_eq_getElem hj2]
  rfl
/-! ### impl_Dotted: function 9 -/
theorem NZ.mono {b U U' : Nat} {w : World} {v : Value} {xs : List (List Int)} {ps : List Tri} (h : NZ b U w v xs ps) (hU : U ≤ U') : NZ b U' w v xs ps :=
  ⟨Kd.R_mono h.row (fun k hk => Nat.lt_of_lt_of_le hk hU), h.len, fun j p x hp hx => Z_mono (h.el j p x hp hx) (fun k hk => Nat.lt_of_lt_of_le hk hU), h.out, h.apart⟩
theorem NZ.lower {b b' U : Nat} {w : World} {v : Value} {xs : List (List Int)} {ps : List Tri} (h : NZ b U w v xs ps) (hb : b' ≤ b) : NZ b' U w v xs ps :=
  ⟨Kd.R_lower h.row hb, h.len, fun j p x hp hx => Z_lower (h.el j p x hp hx) hb, h.out, h.apart⟩
/-- One label more. -/
theorem NZ.snoc {b U : Nat} {W W1 : World} {v v1 : Value} {xs : List (List Int)} {ps : List Tri} {p : Tri} {x : List Int} (h : NZ b U W v xs ps) (hU : U ≤ W.heap.size) (hz : Zr 5 W b (fun k => U ≤ k) (triV p) x)
    (hg : W.grownBy W1 v.ownBlock) (ha : v1.ownBlock = v.ownBlock ∨ ∃ c, v1.ownBlock = some c ∧ W.heap.size ≤ c) (hR : KdT.R 22 W1 b (fun _ => True) v1 (ps ++ [p])) : NZ b W1.heap.size W1 v1 (xs ++ [x]) (ps ++ [p]) := by
  have hk : Kept W W1 (fun k => some k = v.ownBlock) := Kept.of_grown hg (Kept.refl _ _) (fun k hk => .inl hk.symm)
  have hvU : ∀ k, v.ownBlock = some k → k < U := fun k hk => h.row.1 k hk
  have hl := h.len
  have hold : ∀ j q, ps[j]? = some q → ∀ k, (triV q).ownBlock = some k → k < U := fun j q hq k hk => by
    have hj := (List.getElem?_eq_some_iff.1 hq).1
    exact Z_ok (h.el j q xs[j] hq (List.getElem?_eq_getElem (by omega))) k hk
  have hpU : ∀ k, (triV p).ownBlock = some k → U ≤ k := fun k hk => Z_ok hz k hk
  have hcase : ∀ (j : Nat) (q : Tri), (ps ++ [p])[j]? = some q → (ps[j]? = some q ∧ j < ps.length) ∨ (j = ps.length ∧ q = p) := fun j q hq => by
    rcases Nat.lt_or_ge j ps.length with hj | hj
    · rw [List.getElem?_append_left hj] at hq
      exact .inl ⟨hq, hj⟩
    · have e := (List.getElem?_eq_some_iff.1 hq).1
      rw [List.length_append, List.length_singleton] at e
      rw [List.getElem?_append_right hj, show j - ps.length = 0 by omega] at hq
      simp at hq
      exact .inr ⟨by omega, hq.symm⟩
  refine ⟨Kd.R_reok rfl hR (fun k hk => Kd.R_lt hR k hk), by simp [hl], fun j q y hq hy => ?_, fun j q hq k hk he => ?_, fun i j q r hq hr hij k hk he => ?_⟩
  · rcases hcase j q hq with ⟨hq, hj⟩ | ⟨rfl, rfl⟩
    · rw [List.getElem?_append_left (by omega)] at hy
      exact Z_mono (Z_keptD (h.el j q y hq hy) rfl hk (fun k hk' ho he => h.out j q hq k hk'.symm he.symm)) (fun k h => Nat.lt_of_lt_of_le h.1 (Nat.le_trans hU hk.1))
    · rw [List.getElem?_append_right (by omega), hl, Nat.sub_self] at hy
      simp at hy
      subst hy
      exact Z_mono (Z_keptD hz rfl hk (fun k hk' ho he => by have := hvU k he.symm; omega)) (fun k h => Nat.lt_of_lt_of_le h.2.2 hk.1)
  · rcases ha with ha | ⟨c, ha, hc⟩
    · rw [ha] at he
      rcases hcase j q hq with ⟨hq, hj⟩ | ⟨rfl, rfl⟩
      · exact h.out j q hq k hk he
      · have := hvU k he; have := hpU k hk; omega
    · rw [ha] at he
      obtain rfl := Option.some.inj he
      rcases hcase j q hq with ⟨hq, hj⟩ | ⟨rfl, rfl⟩
      · have := hold j q hq _ hk; omega
      · have := Z_lt hz _ hk; omega
  · rcases hcase i q hq with ⟨hq, hi⟩ | ⟨rfl, rfl⟩ <;> rcases hcase j r hr with ⟨hr, hj⟩ | ⟨rfl, rfl⟩
    · exact h.apart i j q r hq hr hij k hk he
    · have := hold i _ (by assumption) k hk; have := hpU k he; omega
    · have := hold j _ hr k he; have := hpU k hk; omega
    · exact hij rfl
theorem swapD (W : World) (o : Obj) : (W.alloc o).drew = (W.drew).alloc o := rfl
set_option maxHeartbeats 4000000 in
set_option maxRecDepth 100000 in
theorem nameOf_any (b0 : Nat) (okk : Nat → Prop) (v : Value) (ss : List ByteArray) (w : World) (ho : Kd.R Kd.string 9 w b0 okk v ss) (hn : ss.length ≤ 100) (hsz : ∀ s ∈ ss, s.size ≤ 100) :
    Calls Tryd.prog 76 #[v] w fun e w' => ∃ (v0 : Value), e = .returned (.agg #[v0]) ∧ (∃ ps : List Tri, NZ w.heap.size w'.heap.size w' v0 (ss.map strBytes) ps) ∧ Below w.heap.size w w' := by
  have HS := ak ho
  have HN := ak hn
  have HZ := ak hsz
  clear ho hn hsz
  obtain ⟨A, c, rfl⟩ := Kd.R_slice HS.out
  go_enter Tryd.func76, Tryd.ntmps76
  go_wp2
  obtain ⟨W2, hW2⟩ : ∃ W, W = (w.alloc (.cells #[.slice none 0 0] 29)).alloc (.cells #[.slice none 0 0] 29) := ⟨_, rfl⟩
  have BR := ak (show W2.heap[w.heap.size]? = some (.cells #[.slice none 0 0] 29 (0, 0)) by rw [hW2]; exact blk_alloc (heap_alloc_new w _) _)
  have BN := ak (show W2.heap[w.heap.size + 1]? = some (.cells #[.slice none 0 0] 29 (0, 0)) by
    rw [hW2]
    have := heap_alloc_new (w.alloc (.cells #[.slice none 0 0] 29)) (.cells #[.slice none 0 0] 29)
    simpa using this)
  have HB := ak (show Below w.heap.size w W2 by rw [hW2]; exact below_alloc (below_alloc (Below.refl _ _) _) _)
  have HSZ := ak (show W2.heap.size = w.heap.size + 2 by rw [hW2]; simp)
  rw [← hW2]
  clear hW2
  go_loopg [5, 9] (ss.length + 1) (fun gq v5 v9 W => ∃ (i : Nat) (v : Value) (ps : List Tri), i ≤ ss.length ∧ ss.length + 1 - i ≤ gq ∧ v9 = .int .i64 (i : Int) ∧ Aside0 (W.heap[w.heap.size]? = some (.cells #[.slice none 0 0] 29 (0, 0))) ∧ Aside0 (W.heap[w.heap.size + 1]? = some (.cells #[v] 29 (0, 0))) ∧ Aside0 (Below w.heap.size w W) ∧ Aside0 (NZ (w.heap.size + 2) W.heap.size W v ((ss.take i).map strBytes) ps))
  case atStart => exact ⟨0, _, [], by omega, by omega, rfl, BR, BN, HB, ⟨NZ.nil _ _ _⟩⟩
  case round =>
    clear BR BN HB HSZ
    obtain ⟨i, v, ps, hi, hg, rfl, BR, BN, HB, HZN⟩ := hrel
    by_cases hlt : i < ss.length
    · have hlz : (i : Int) < (ss.length : Int) := by omega
      have hN := HN.out
      have HSW := ak (Kd.R_below HS.out HB.out)
      obtain ⟨g, cap, e1, _⟩ := Kd.R_form HSW.out (by omega)
      injection e1 with e1 _ e3
      subst e1
      subst e3
      have hck := (Kd.R_celln (enc := Value.string) (h1 := fun _ => rfl) ByteArray.empty HSW.out (i : Int) (by omega) (by omega)).1
      rw [show ((i : Int)).toNat = i from by omega, show rdOf ByteArray.empty ss (i : Int) = ss[i] by simp [rdOf, List.getD_eq_getElem?_getD, hlt]] at hck
      have hsi := HZ.out ss[i] (List.getElem_mem _)
      have HTK := ak (show (ss.take i).map strBytes ++ [strBytes ss[i]] = (ss.take (i + 1)).map strBytes by rw [List.take_succ_eq_append_getElem hlt, List.map_append]; rfl)
      have HLT := ak (show ((ss.take i).map strBytes).length ≤ 100 by rw [List.length_map, List.length_take]; omega)
      obtain ⟨xs, hxs⟩ : ∃ x, (ss.take i).map strBytes = x := ⟨_, rfl⟩
      rw [hxs] at HZN HTK HLT
      clear hxs
      generalize ss[i] = str at hck hsi HTK
      obtain ⟨A1, c1, eo⟩ := Kd.R_slice HZN.out.row
      subst eo
      have hl := HZN.out.len
      rw [hl] at BN HZN
      have hn : wr.cell? ⟨w.heap.size + 1, 0, none⟩ = some (.slice A1 xs.length c1) := (blk_cell BN.out 0).trans rfl
      have hcv := conv_s str
      have HSI := ak hsi
      have HL := ak hl
      clear hN hsi hl
      have hcap := grownCap_ge wr str.size 0 5
      obtain ⟨cap, hcp⟩ : ∃ x, grownCap wr str.size 0 5 = x := ⟨_, rfl⟩
      have HW := ak (show Below wr.heap.size wr ((wr.alloc (.cells (bytesRow str cap) 5 ((bytesRow str cap).size, (bytesRow str cap).size + 1))).drew) from below_drew1 (below_alloc (Below.refl _ _) _))
      have HZP := ak (show Zr 5 ((wr.alloc (.cells (bytesRow str cap) 5 ((bytesRow str cap).size, (bytesRow str cap).size + 1))).drew) (w.heap.size + 2) (fun k => wr.heap.size ≤ k) (triV (some ⟨wr.heap.size, 0, none⟩, (strBytes str).length, cap)) (strBytes str) from
        Z_all (.inr (Zs_str wr str cap (w.heap.size + 2) (by have := HSI.out; omega) (by rw [← hcp]; exact hcap) (blk_lt BN.out))) (fun k hk => Nat.le_of_eq (Option.some.inj hk)))
      have HCP := ak hcp
      clear hcap hcp
      go_wp2_with ((with_reducible refine gate_builtin (b := .append) (xs := #[.tmp 14, .tmp 17]) rfl ?_);at_builtin;rw [HCP.out];rw [swapD];refine Kd.R_append KdT (w0 := (wr.alloc (.cells (bytesRow str cap) 5 ((bytesRow str cap).size, (bytesRow str cap).size + 1))).drew) (w.heap.size + 2) rfl (.tmp 14) (.tmp 17) 27 22 (.slice none 0 0) 24 rfl Tryd.underlying27 info22 rfl (by decide) (by omega) (.slice A1 xs.length c1) ps ((some ⟨wr.heap.size, 0, none⟩, (strBytes str).length, cap) : Tri) [triV ((some ⟨wr.heap.size, 0, none⟩, (strBytes str).length, cap) : Tri)] (fun _ => True) (fun _ => False) rfl (by first | rfl | (show Value.slice (some ⟨_, 0, none⟩) 1 1 = _; simp) | simp [Act.eval, Act.put, World.drew, World.alloc]) rfl (fun _ hk => hk.elim) (fun _ _ => trivial) (Kd.R_mono (NZ.below HZN.out HW.out).row (fun _ _ => trivial)) (Below.refl _ _) (Nat.le_trans (blk_lt BN.out) HW.out.size) (by have := HL.out; have := HLT.out; omega) ?_;intro v1 w5 hR hb hg ha;have hsn := NZ.snoc (NZ.below HZN.out HW.out) HW.out.size HZP.out hg ha hR;rw [HTK.out] at hsn;have hne : ∀ k, (Value.slice A1 xs.length c1).ownBlock = some k → w.heap.size + 2 ≤ k := fun k hk => Kd.R_base HZN.out.row k hk;have BN5 := blk_grown (blk_below BN.out HW.out) hg (fun e => by have := hne _ e.symm; omega);have BR5 := ak (blk_grown (blk_below BR.out HW.out) hg (fun e => by have := hne _ e.symm; omega));replace HB := ak ((b2s HB.out HW.out).out.trans (hb.mono (by omega)));obtain ⟨A2, c2, eo⟩ := Kd.R_slice hR;subst eo;have hl2 : (ps ++ [((some ⟨wr.heap.size, 0, none⟩, (strBytes str).length, cap) : Tri)]).length = ps.length + 1 := (by simp);rw [hl2] at hsn ⊢;have hf5 : w5.frozen? ⟨w.heap.size + 1, 0, none⟩ = false := blk_frozen BN5 0;have hn5 : w5.cell? ⟨w.heap.size + 1, 0, none⟩ = some (.slice A1 xs.length c1) := (blk_cell BN5 0).trans rfl;have BN6 := ak (blk_put BN5 0 (.slice A2 (ps.length + 1) c2) rfl);clear hl2;replace BR5 := ak (blk_far BR5.out (p := ⟨w.heap.size + 1, 0, none⟩) (by simp) (.slice A2 (ps.length + 1) c2));have HSN := ak hsn;clear hR hb hg ha hsn hne BN5 BN BR)
      have hN := HN.out
      go_roundg (ss.length + 1 - (i + 1))
      case measure => omega
      case rel => exact ⟨i + 1, _, _, by omega, by omega, (by have hw : wrap64 ((i : Int) + 1) = ((i + 1 : Nat) : Int) := (by unfold wrap64; omega); first | rw [hw] | (simp [hw]; done) | (simp only [hw]; rfl)), BR5, BN6, ⟨below_set HB.out (by simp)⟩, ⟨NZ.kept (S := fun k => k = w.heap.size + 1) (NZ.mono HSN.out (by simp [World.setCell])) (Kept.setCell (S := fun k => k = w.heap.size + 1) (Kept.refl _ _) (p := ⟨w.heap.size + 1, 0, none⟩) (.inl rfl) _) (fun k h1 h2 h3 => by omega)⟩⟩
    · have hlz : ¬ (i : Int) < (ss.length : Int) := by omega
      obtain rfl : i = ss.length := by omega
      rw [List.take_of_length_le (by omega)] at HZN
      obtain ⟨A1, c1, eo⟩ := Kd.R_slice HZN.out.row
      subst eo
      have hn : wr.cell? ⟨w.heap.size + 1, 0, none⟩ = some (.slice A1 ps.length c1) := (blk_cell BN.out 0).trans rfl
      have hc : wr.cell? ⟨w.heap.size, 0, none⟩ = some (.slice none 0 0) := (blk_cell BR.out 0).trans rfl
      have hf : wr.frozen? ⟨w.heap.size, 0, none⟩ = false := blk_frozen BR.out 0
      clear hi hg hlt
      go_wp2
      refine bodyPost_ret (v := .agg #[.slice A1 ps.length c1]) (by simp [results, Tryd.results76, go_sem, *]) rfl ?_
      refine ⟨_, rfl, ⟨ps, ?_⟩, below_set HB.out (Nat.le_refl _)⟩
      exact (NZ.kept (S := fun k => k = w.heap.size) (NZ.mono HZN.out (by simp [World.setCell])) (Kept.setCell (S := fun k => k = w.heap.size) (Kept.refl _ _) (p := ⟨w.heap.size, 0, none⟩) (.inl rfl) _) (fun k h1 h2 h3 => by omega)).lower (by omega)

/-! ### slices_Reverse_string_string: function 75 -/
def slices_Reverse_string_string.l0 : Nat → List ByteArray → Int → Int → Option (List ByteArray)
 | 0, _, _, _ => none
 | k + 1, x0, x2, x3 => if x2 < x3 then (if 0 ≤ x3 then (if x3 < (x0.length : Int) then (if 0 ≤ x2 then (if x2 < (x0.length : Int) then (slices_Reverse_string_string.l0 k ((x0.set (x2 : Int).toNat (rdOf ByteArray.empty x0 x3)).set (x3 : Int).toNat (rdOf ByteArray.empty x0 x2)) (wrap64 (x2 + 1)) (wrap64 (x3 - 1))) else (none)) else (none)) else (none)) else (none)) else (some x0)
def slices_Reverse_string_string.f (k : Nat) (l0 : List ByteArray) : Option (List ByteArray) := slices_Reverse_string_string.l0 k l0 0 (wrap64 ((l0.length : Int) - 1))
def slices_Reverse_string_string.T3 : Bool × List (List Nat × List Nat) := (true, [([], []), ([], []), ([], []), ([], []), ([], []), ([], []), ([4, 5], [4, 5]), ([6], [6]), ([], []), ([], []), ([8, 9], [8, 9]), ([10], [10]), ([0, 1, 0, 1, 4, 5, 6, 7, 11], [0, 1]), ([12, 7, 0, 1, 4, 5, 6, 7, 11], [7, 12]), ([2, 3, 0, 1, 2, 3, 4, 5, 6, 7, 8, 9, 10, 11, 12, 13], [2, 3]), ([14, 11, 13, 0, 1, 2, 3, 4, 5, 6, 7, 8, 9, 10, 11, 12, 13], [11, 14])])
def slices_Reverse_string_string.B3 : List Nat := [0, 0, 0, 0, 0, 0, 48, 112, 0, 0, 768, 1792, 4083, 8179, 16383, 32767]
theorem slices_Reverse_string_string.tab3 : rtab .any (opsOf Tryd.f75 3) = slices_Reverse_string_string.T3 := by kernel_rfl
theorem slices_Reverse_string_string.bits3 : waitsOk slices_Reverse_string_string.T3.2 slices_Reverse_string_string.B3 = true := by kernel_rfl
set_option maxHeartbeats 8000000 in
set_option maxRecDepth 100000 in
theorem slices_Reverse_string_string.calls (k : Nat) (P0_ : Nat → Prop) (u9000_ : Value) (l0 : List ByteArray) (r : List ByteArray) (w0 w : World) (hB : Below w0.heap.size w0 w) (ho0 : Kd.R Kd.string 9 w w0.heap.size P0_ u9000_ l0) (h : slices_Reverse_string_string.f k l0 = some r) :
  Calls Tryd.prog 75 #[u9000_] w fun e w' => e = .returned (.tuple #[]) ∧ Kd.R Kd.string 9 w' w0.heap.size (fun k_ => (P0_ k_ ∨ w.heap.size ≤ k_)) u9000_ r ∧ Below w0.heap.size w0 w' ∧ Kept w w' (fun k_ => P0_ k_) := by
 have HO0 := ak (show Kd.R Kd.string 9 w w0.heap.size (fun k_ => (P0_ k_ ∨ w.heap.size ≤ k_)) u9000_ l0 from Kd.R_mono ho0 (fun k_ hk => (.inl hk)))
 have HK := ak (Kept.refl w (fun k_ => P0_ k_))
 have HW0 := ak hB.size
 have HB := ak hB
 clear hB
 have H : (slices_Reverse_string_string.l0 k l0 0 (wrap64 ((l0.length : Int) - 1))) = some r := h
 clear h
 have H' := ak H
 clear H
 obtain ⟨Ao2, co2, eo2⟩ := Kd.R_slice HO0.out
 subst eo2
 go_enter Tryd.func75, Tryd.ntmps75
 go_wp2
 go_loopg [2, 3] k (fun kq v2 v3 w' => ∃ (x0_1 : List ByteArray) (x2_1 : Int) (x3_1 : Int), v2 = .int .i64 x2_1 ∧ v3 = .int .i64 x3_1 ∧ Aside0 (slices_Reverse_string_string.l0 kq x0_1 x2_1 x3_1 = some r) ∧ Aside0 (kq ≤ k) ∧ Aside0 (Kd.R Kd.string 9 w' w0.heap.size (fun k_ => (P0_ k_ ∨ w.heap.size ≤ k_)) (.slice Ao2 l0.length co2) x0_1) ∧ Aside0 (Kept w w' (fun k_ => P0_ k_)) ∧ Aside0 (Below w0.heap.size w0 w'))
 case atStart => exact ⟨(l0), (0), (wrap64 ((l0.length : Int) - 1)), o2, o2, H', ⟨Nat.le_refl _⟩, ⟨rw_ HO0.out⟩, ⟨by repeat (first | (with_reducible first | exact HK.out | apply Kept.alloc | apply Kept.drewN | apply Kept.drew) | exact HK.out)⟩, ⟨bw HB.out⟩⟩
 case round =>
  clear H'
  obtain ⟨x0_1, x2_1, x3_1, rfl, rfl, HA, HK1, HO_0, HK, HB⟩ := hrel
  have hl0_1 := (Kd.R_reads' HO_0.out).1
  rw [hl0_1] at HO_0
  (try simp only [hl0_1])
  cases gk with
  | zero => exact absurd HA.out (by simp [slices_Reverse_string_string.l0])
  | succ k1 =>
   have H := HA.out
   clear HA
   simp only [slices_Reverse_string_string.l0] at H
   replace H := ip H
   obtain ⟨c3b0, H⟩ | ⟨c3b0, H⟩ := H
   ·replace H := ipN H
    obtain ⟨c4b0, H⟩ := H
    replace H := ipN H
    obtain ⟨c5b0, H⟩ := H
    replace H := ipN H
    obtain ⟨c6b0, H⟩ := H
    replace H := ipN H
    obtain ⟨c7b0, H⟩ := H
    obtain ⟨y103, hy103⟩ : ∃ y_ : List ByteArray, y_ = (x0_1.set (x2_1 : Int).toNat (rdOf ByteArray.empty x0_1 x3_1)) := ⟨_, rfl⟩
    (try with_reducible replace H := bnS H)
    (try rw [← hy103] at H)
    have Ny103 := ak hy103
    clear hy103
    obtain ⟨y104, hy104⟩ : ∃ y_ : List ByteArray, y_ = (y103.set (x3_1 : Int).toNat (rdOf ByteArray.empty x0_1 x2_1)) := ⟨_, rfl⟩
    (try with_reducible replace H := bnS H)
    (try rw [← hy104] at H)
    have Ny104 := ak hy104
    clear hy104
    have H' := ak H
    clear H
    try go_wp2
    replace HO_0 := ak (Kd.R_drew HO_0.out)
    replace HK := ak (Kept.drew HK.out)
    replace HB := ak (below_drew1 HB.out)
    have p101 : 0 ≤ (x3_1 : Int) := of_decide_eq_true (by first | (with_reducible assumption) | assumption)
    have q101 : x3_1 < (x0_1.length : Int) := of_decide_eq_true (by first | (with_reducible assumption) | assumption)
    obtain ⟨ad101, e101, hx101_0⟩ := Kd.at_string (Kd.R_reads' HO_0.out).2.2 x3_1 p101 q101
    cases e101
    replace p101 := eq_true p101
    replace q101 := eq_true q101
    have p102 : 0 ≤ (x2_1 : Int) := of_decide_eq_true (by first | (with_reducible assumption) | assumption)
    have q102 : x2_1 < (x0_1.length : Int) := of_decide_eq_true (by first | (with_reducible assumption) | assumption)
    obtain ⟨ad102, e102, hx102_0⟩ := Kd.at_string (Kd.R_reads' HO_0.out).2.2 x2_1 p102 q102
    obtain rfl : ad101 = ad102 := (by injection e102)
    replace p102 := eq_true p102
    replace q102 := eq_true q102
    have p8 : 0 ≤ (x2_1 : Int) := of_decide_eq_true (by first | (with_reducible assumption) | assumption)
    have q8 : (x2_1 : Int) < ((x0_1.length : Int) : Int) := of_decide_eq_true (by first | (with_reducible assumption) | assumption)
    obtain ⟨go8, co8, eo8, gb8, gl8, cl8, HG8⟩ := Kd.R_form HO_0.out (by omega)
    (first | cases eo8 | (injection eo8 with ea_ en_ ec_; (first | subst ea_ | (injection ea_ with ea_; subst ea_)); subst ec_; clear en_))
    have GB8 := ak gb8
    have GG8 := ak HG8
    clear gb8 gl8 HG8
    have HMgo8 := ak (show (P0_ go8 ∨ w.heap.size ≤ go8) from (HO_0.out.1 _ rfl))
    (first | simp only [add_plain] at hx101_0 | skip)
    (first | simp only [add_plain] at hx102_0 | skip)
    obtain ⟨hx8_0, hf8_0⟩ := Kd.R_celln (⟨#[]⟩ : ByteArray) HO_0.out (x2_1 : Int) p8 q8
    replace p8 := eq_true p8
    replace q8 := eq_true q8
    have HP11 := Kd.R_putn HO_0.out (x2_1 : Int) (rdOf ByteArray.empty x0_1 x3_1)
    rw [← Ny103.out] at HP11
    have HQ11 := ak HP11
    clear HP11
    have p9 : 0 ≤ (x3_1 : Int) := of_decide_eq_true (by first | (with_reducible assumption) | assumption)
    have q9 : (x3_1 : Int) < ((x0_1.length : Int) : Int) := of_decide_eq_true (by first | (with_reducible assumption) | assumption)
    obtain ⟨hx9_0, hf9_0⟩ := Kd.R_celln (⟨#[]⟩ : ByteArray) HQ11.out (x3_1 : Int) p9 q9
    replace p9 := eq_true p9
    replace q9 := eq_true q9
    have HP12 := Kd.R_putn HQ11.out (x3_1 : Int) (rdOf ByteArray.empty x0_1 x2_1)
    rw [← Ny104.out] at HP12
    have HQ12 := ak HP12
    clear HP12
    refine start_ (n := 16) (S := fun w' => w'.cell? ⟨go8, (x3_1).toNat, none⟩ = some (.string (rdOf ByteArray.empty x0_1 x3_1)) ∧ w'.cell? ⟨go8, (x2_1).toNat, none⟩ = some (.string (rdOf ByteArray.empty x0_1 x2_1))) (ds := [13, 15]) (bA 16 0) (by kernel_rfl) rfl rfl kq (fun hHeld => ?_); refine with_tabW slices_Reverse_string_string.tab3 slices_Reverse_string_string.bits3 (fun HT_ HW_ => ?_)
    generalize wr.drew = w10 at HO_0 HK HB GG8 HQ11 HQ12 hf8_0 hf9_0 hx101_0 hx102_0 hx8_0 hx9_0 hHeld ⊢
    refine pu HT_ 0 ?_
    refine pu HT_ 1 ?_
    refine pu HT_ 2 ?_
    refine pu HT_ 3 ?_
    refine pu HT_ 4 ?_
    refine pu HT_ 5 ?_
    refine pu HT_ 6 ?_
    refine pu HT_ 8 ?_
    refine pu HT_ 9 ?_
    refine pu HT_ 10 ?_
    refine ta HT_ HW_ hHeld 7 ?_
    refine ta HT_ HW_ hHeld 11 ?_
    refine pu HT_ 12 ?_
    refine last_ (i := 13) (N := none) (bA 16 16383) rfl rfl (one_of HT_.out (by kernel_rfl)) (by decide) (fun K hK => ?_)
    refine skip_ (w1 := ?_) (by rfl) rfl ?_ ?_
    rotate_left
    ·go_simp
     rfl
    refine hK.out _ _ ?_
    clear hK K
    refine pu HT_ 14 ?_
    refine last_ (i := 15) (N := none) (bA 16 65535) rfl rfl (one_of HT_.out (by kernel_rfl)) (by decide) (fun K hK => ?_)
    refine skip_ (w1 := ?_) (by rfl) rfl ?_ ?_
    rotate_left
    ·go_simp
     rfl
    refine hK.out _ _ ?_
    clear hK K
    refine done_ (done_of HT_.out (by kernel_rfl)) ?_
    try go_wp2
    (try simp only [← hl0_1])
    go_roundg k1
    case measure => have := HK1.out; omega
    case rel => exact ⟨(y104), (wrap64 (x2_1 + 1)), (wrap64 (x3_1 - 1)), o2, o2, H', ⟨by have := HK1.out; omega⟩, ⟨by (try simp only [hl0_1]); (with_reducible repeat (first | apply Kd.R_alloc | apply Kd.R_drewN | apply Kd.R_drew)); exact HQ12.out⟩, ⟨by repeat (first | (with_reducible first | exact HK.out | apply Kept.alloc | apply Kept.drewN | apply Kept.drew | refine Kept.setCell ?_ HMgo8.out _ | refine Kept.setCell ?_ HMgo8.out _) | exact HK.out)⟩, ⟨by repeat (first | (with_reducible first | exact HB.out | apply below_alloc | apply pw_below_drewN | apply below_drew1 | refine below_set ?_ GB8.out | refine below_set ?_ GB8.out) | exact HB.out)⟩⟩
   ·obtain rfl := Option.some.inj H
    go_wp2
    first | go_end0 | ((try simp only [Exit.inBlock, Exit.then]); refine bodyPost_ret (results_none rfl _ _ _) rfl ?_)
    exact ⟨o1, (by first | exact (rw_ HO_0.out) | (simp only [hl0_1]; exact (rw_ HO_0.out))), bw HB.out, by repeat (first | (with_reducible first | exact HK.out | apply Kept.alloc | apply Kept.drewN | apply Kept.drew) | exact HK.out)⟩

theorem rev4 (a b c d : ByteArray) : slices_Reverse_string_string.f 3 [a, b, c, d] = some [d, c, b, a] := by
  simp [slices_Reverse_string_string.f, slices_Reverse_string_string.l0, rdOf, wrap64]
def arpaS : List ByteArray := [⟨#[105, 110, 45, 97, 100, 100, 114]⟩, ⟨#[97, 114, 112, 97]⟩]
def revS (x : Int) : List ByteArray := (decS x).reverse ++ arpaS
def revV (x : Int) : List (List Int) := (revS x).map strBytes
theorem decS_rev (x : Int) : slices_Reverse_string_string.f 3 (decS x) = some (decS x).reverse := rev4 _ _ _ _
theorem digS_size (c : Int) (h0 : 0 ≤ c) (h1 : c ≤ 255) : (digS c).size ≤ 100 := by
  have e : (digS c).size = (Lib.itoa c).length := by
    show (Lib.itoa c).toArray.size = _
    simp
  rw [e]
  exact Nat.le_trans (Lib.itoa_length_le c (by omega) (by omega)) (by omega)
theorem revS_size (x : Int) : ∀ s ∈ revS x, s.size ≤ 100 := by
  intro s hs
  unfold revS at hs
  rcases List.mem_append.1 hs with h | h
  · rw [List.mem_reverse] at h
    unfold decS qd4 at h
    simp only [List.map_cons, List.map_nil, List.mem_cons, List.not_mem_nil, or_false] at h
    rcases h with rfl | rfl | rfl | rfl <;> exact digS_size _ (by omega) (by omega)
  · simp only [arpaS, List.mem_cons, List.not_mem_nil, or_false] at h
    rcases h with rfl | rfl <;> decide
theorem strs_rep (W : World) (base : Nat) (okp : Nat → Prop) : Reps (Kd.string.M W base okp) Kd.string.sz arpaS [.string ⟨#[105, 110, 45, 97, 100, 100, 114]⟩, .string ⟨#[97, 114, 112, 97]⟩] := Kd.reps_scalar (enc := Value.string) arpaS
set_option maxHeartbeats 4000000 in
set_option maxRecDepth 100000 in
theorem reverse_any (a0 : Int) (h0 : 0 ≤ a0) (h1 : a0 < 4294967296) (w : World) (hT : TabA w) :
    Calls Tryd.prog 41 #[.int .i64 a0] w fun e w' => ∃ (v0 : Value), e = .returned (.agg #[v0]) ∧ (∃ ps : List Tri, NZ w.heap.size w'.heap.size w' v0 (revV a0) ps) ∧ Below w.heap.size w w' := by
  have HT := ak hT
  clear hT
  go_enter Tryd.func41, Tryd.ntmps41
  go_wp2_with (fail)
  obtain ⟨W1, hW1⟩ : ∃ W, W = w.alloc (.cells #[.slice none 0 0] 29) := ⟨_, rfl⟩
  have BR := ak (show W1.heap[w.heap.size]? = some (.cells #[.slice none 0 0] 29 (0, 0)) by rw [hW1]; exact heap_alloc_new w _)
  have HB1 := ak (show Below w.heap.size w W1 by rw [hW1]; exact below_alloc (Below.refl _ _) _)
  rw [← hW1]
  clear hW1
  have HW1 := ak (show w.heap.size < W1.heap.size from blk_lt BR.out)
  refine (decimals_any a0 h0 h1 W1 (tab_below HT.out HB1.out)).mono ?_
  rintro e w2 ⟨v7, rfl, ho, hb⟩
  have HB := ak hb
  have HRV := ak (decS_rev a0)
  have HSS := ak (revS_size a0)
  have HDL := ak (show (decS a0).length = 4 from rfl)
  have HDR := ak (show (decS a0).reverse.length = 4 by rw [List.length_reverse]; rfl)
  have HVE := ak (show (((decS a0).reverse ++ arpaS).map strBytes = revV a0) from rfl)
  unfold revS at HSS
  obtain ⟨ds, HDS⟩ : ∃ d, Aside0 (decS a0 = d) := ⟨_, ⟨rfl⟩⟩
  rw [HDS.out] at ho HRV HDL HDR HVE HSS
  have HO := ak ho
  obtain ⟨A7, c7, eo⟩ := Kd.R_slice HO.out
  subst eo
  clear ho hb
  go_wp2_with (fail)
  refine (slices_Reverse_string_string.calls 3 (fun _ => True) (.slice A7 ds.length c7) ds ds.reverse W1 w2 HB.out HO.out HRV.out).mono ?_
  rintro e w3 ⟨rfl, ho, hb, _⟩
  replace HO := ak (Kd.R_mono (ok' := fun _ => True) ho (fun _ _ => trivial))
  replace HB := ak hb
  obtain ⟨rs, HRS⟩ : ∃ d, Aside0 (ds.reverse = d) := ⟨_, ⟨rfl⟩⟩
  rw [HRS.out] at HO HRV HDR HVE HSS
  have hlen : ds.length = rs.length := by rw [← HRS.out, List.length_reverse]
  rw [hlen] at HO ⊢
  clear ho hb hlen
  have HAS := ak (show arpaS.length = 2 from rfl)
  go_wp2_with (first
    | ((with_reducible refine gate_dst (N := 9) rfl ?_);refine Kd.R_lit Kd.string (w0 := W1) W1.heap.size 9 ?hg (N := 9) ?hd (xs := arpaS) (inner := [.string ⟨#[105, 110, 45, 97, 100, 100, 114]⟩, .string ⟨#[97, 114, 112, 97]⟩]) (ok := fun _ => True) (okp := fun _ => True) ?hr ?hp (fun _ hk => hk) trivial HB.out HB.out.size (by decide) ?_;(case hd => rfl);(case hg => rfl);(case hr => first | (go_simp; done) | (go_simp; rfl));(case hp => exact strs_rep _ _ _);intro v6 w4 ho4 hb hg_ hnew_;have HL := ak ho4;replace HO := ak (Kd.R_below HO.out (Below.grown (Below.refl _ _) hg_ (Nat.le_refl _) (fun k hk => by cases hk)));replace HB := ak hb;obtain ⟨A9, c9, eo⟩ := Kd.R_slice HL.out;subst eo;clear hb ho4 hg_ hnew_)
    | ((with_reducible refine gate_builtin (b := .append) (xs := #[.tmp 8, .tmp 9]) rfl ?_);at_builtin;refine Kd.R_append_rows Kd.string (w0 := W1) W1.heap.size rfl (.tmp 8) (.tmp 9) 57 9 (.string ⟨#[]⟩) 16 rfl Tryd.underlying57 info9 rfl (by decide) (by omega) _ rs arpaS _ _ _ (fun _ => True) (fun _ => False) rfl rfl ?aO ?aR (fun _ _ h => h) (fun _ h => h.elim) ?aF ?aB ?aS ?aL ?_;(case aR => exact (Kd.R_reads' HL.out).2.2);(case aB => exact HB.out);(case aF => exact (fun _ _ => trivial));(case aO => exact HO.out);(case aS => exact HB.out.size);(case aL => have := HDR.out; have := HAS.out; omega);intro v10 w5 ho hb hg hat;replace HB := ak hb;replace HO := ak ho;clear ho hb hg hat HL)
    | fail)
  refine (nameOf_any W1.heap.size (fun _ => True) v10 (rs ++ arpaS) w5 HO.out (by rw [List.length_append, HDR.out, HAS.out]; omega) HSS.out).mono ?_
  rintro e w6 ⟨v11, rfl, ⟨ps, hz⟩, hb⟩
  rw [HVE.out] at hz
  have BR6 := ak (blk_below (blk_below BR.out HB.out) hb)
  have HZ := ak hz
  have HS5 := ak HB.out.size
  replace HB := ak (HB1.out.trans ((HB.out.trans (hb.mono HB.out.size)).mono (by have := HW1.out; omega)))
  obtain ⟨A11, c11, eo, _⟩ := hz.reads
  subst eo
  have hc : w6.cell? ⟨w.heap.size, 0, none⟩ = some (.slice none 0 0) := (blk_cell BR6.out 0).trans rfl
  have hf : w6.frozen? ⟨w.heap.size, 0, none⟩ = false := blk_frozen BR6.out 0
  clear hz hb HO HAS
  go_wp2
  refine bodyPost_ret (v := .agg #[.slice A11 (revV a0).length c11]) (by simp [results, Tryd.results41, go_sem, *]) rfl ?_
  refine ⟨_, rfl, ⟨ps, ?_⟩, below_set HB.out (Nat.le_refl _)⟩
  exact (NZ.kept (S := fun k => k = w.heap.size) (NZ.mono HZ.out (by simp [World.setCell])) (Kept.setCell (S := fun k => k = w.heap.size) (Kept.refl _ _) (p := ⟨w.heap.size, 0, none⟩) (.inl rfl) _) (fun k h1 h2 h3 => by have := HW1.out; have := HS5.out; omega)).lower (by have := HW1.out; have := HS5.out; omega)
/-! ### impl_Reverse: function 14 -/
def impl_Reverse.f (a0 : Int) : Option (List (List Int) × Bool) := some (if 0 ≤ a0 ∧ a0 < 4294967296 then (revV a0, true) else ([], false))
set_option maxHeartbeats 4000000 in
set_option maxRecDepth 100000 in
theorem impl_Reverse.calls (a0 : Int) (r1 : List (List Int)) (r2 : Bool) (w : World) (h : impl_Reverse.f a0 = some (r1, r2)) (hT : TabA w) :
    Calls Tryd.prog 14 #[.int .i64 a0] w fun e w' => ∃ v0 : Value, e = .returned (.tuple #[.agg #[v0], .bool r2]) ∧ (∃ ps : List Tri, NZ w.heap.size w'.heap.size w' v0 r1 ps) ∧ Below w.heap.size w w' := by
  have HT := ak hT
  have H := ak (Option.some.inj h)
  clear hT h
  by_cases hw : 0 ≤ a0 ∧ a0 < 4294967296
  · have he := H.out
    rw [if_pos hw] at he
    obtain ⟨rfl, rfl⟩ := Prod.mk.inj he
    have HIS := ak (show impl_isWord.f a0 = some true by unfold impl_isWord.f impl_within.f; rw [if_pos hw.1, decide_eq_true (show a0 ≤ 4294967295 by omega)]; rfl)
    have HWD := ak hw
    clear he hw H
    go_enter Tryd.func14, Tryd.ntmps14
    go_wp2_with (fail)
    obtain ⟨W1, hW1⟩ : ∃ W, W = w.alloc (.cells #[.slice none 0 0] 29) := ⟨_, rfl⟩
    have BR := ak (show W1.heap[w.heap.size]? = some (.cells #[.slice none 0 0] 29 (0, 0)) by rw [hW1]; exact heap_alloc_new w _)
    have HB1 := ak (show Below w.heap.size w W1 by rw [hW1]; exact below_alloc (Below.refl _ _) _)
    rw [← hW1]
    clear hW1
    refine (impl_isWord.calls a0 true _ HIS.out).mono ?_
    rintro e w1 ⟨rfl, ⟨nd, rfl⟩⟩
    replace BR := ak (blk_drewN BR.out nd)
    replace HB1 := ak (pw_below_drewN HB1.out nd)
    generalize W1.drewN nd = W2 at BR HB1 ⊢
    have HW1 := ak (show w.heap.size < W2.heap.size from blk_lt BR.out)
    go_wp2_with (fail)
    refine (reverse_any a0 HWD.out.1 HWD.out.2 W2 (tab_below HT.out HB1.out)).mono ?_
    rintro e w6 ⟨v11, rfl, ⟨ps, hz⟩, hb⟩
    have BR6 := ak (blk_below BR.out hb)
    have HZ := ak hz
    have HB := b2s HB1.out hb
    have HS5 := ak hb.size
    obtain ⟨rv, HRV⟩ : ∃ d, Aside0 (revV a0 = d) := ⟨_, ⟨rfl⟩⟩
    rw [HRV.out] at HZ hz
    obtain ⟨A11, c11, eo, _⟩ := hz.reads
    subst eo
    have hc : w6.cell? ⟨w.heap.size, 0, none⟩ = some (.slice none 0 0) := (blk_cell BR6.out 0).trans rfl
    have hf : w6.frozen? ⟨w.heap.size, 0, none⟩ = false := blk_frozen BR6.out 0
    clear hz hb
    go_wp2
    refine bodyPost_ret (v := .tuple #[.agg #[.slice A11 rv.length c11], .bool true]) (by simp [results, Tryd.results14, go_sem, *]) rfl ?_
    refine ⟨_, rfl, ⟨ps, ?_⟩, below_set HB.out (Nat.le_refl _)⟩
    rw [HRV.out]
    exact (NZ.kept (S := fun k => k = w.heap.size) (NZ.mono HZ.out (by simp [World.setCell])) (Kept.setCell (S := fun k => k = w.heap.size) (Kept.refl _ _) (p := ⟨w.heap.size, 0, none⟩) (.inl rfl) _) (fun k h1 h2 h3 => by have := HW1.out; omega)).lower (by have := HW1.out; omega)
  · have he := H.out
    rw [if_neg hw] at he
    obtain ⟨rfl, rfl⟩ := Prod.mk.inj he
    have HIS := ak (show impl_isWord.f a0 = some false by
      unfold impl_isWord.f impl_within.f
      by_cases h0 : 0 ≤ a0
      · rw [if_pos h0, decide_eq_false (show ¬ a0 ≤ 4294967295 by omega)]; rfl
      · rw [if_neg h0]; rfl)
    clear he hw H
    go_enter Tryd.func14, Tryd.ntmps14
    go_wp2_with (fail)
    obtain ⟨W1, hW1⟩ : ∃ W, W = w.alloc (.cells #[.slice none 0 0] 29) := ⟨_, rfl⟩
    have BR := ak (show W1.heap[w.heap.size]? = some (.cells #[.slice none 0 0] 29 (0, 0)) by rw [hW1]; exact heap_alloc_new w _)
    have HB1 := ak (show Below w.heap.size w W1 by rw [hW1]; exact below_alloc (Below.refl _ _) _)
    rw [← hW1]
    clear hW1
    refine (impl_isWord.calls a0 false _ HIS.out).mono ?_
    rintro e w1 ⟨rfl, ⟨nd, rfl⟩⟩
    replace BR := ak (blk_drewN BR.out nd)
    replace HB1 := ak (pw_below_drewN HB1.out nd)
    generalize W1.drewN nd = W2 at BR HB1 ⊢
    have hc : W2.cell? ⟨w.heap.size, 0, none⟩ = some (.slice none 0 0) := (blk_cell BR.out 0).trans rfl
    have hf : W2.frozen? ⟨w.heap.size, 0, none⟩ = false := blk_frozen BR.out 0
    go_wp2
    refine bodyPost_ret (v := .tuple #[.agg #[.slice none 0 0], .bool false]) (by simp [results, Tryd.results14, go_sem, *]) rfl ?_
    exact ⟨_, rfl, ⟨[], NZ.nil _ _ _⟩, below_set HB1.out (Nat.le_refl _)⟩

/-! ### spec_l1digits: function 70 -/
def spec_l1digits.f : Nat → Int → Option (List Int)
 | 0, _ => none
 | k + 1, a0 => if a0 < 10 then (some (([(wrap64 (48 + a0)) % 256] : List Int))) else ((spec_l1digits.f k (wrap64 (Int.tdiv a0 10))).bind fun t104 => (if t104.length < 140737488355328 then (some (t104 ++ [(wrap64 (48 + (Int.tmod a0 10))) % 256])) else (none)))
theorem spec_l1digits.mono_l : ∀ k, (∀ y0, LeO (spec_l1digits.f k y0) (spec_l1digits.f (k + 1) y0))
 | 0 => fun _ r h => by simp [spec_l1digits.f] at h
 | k + 1 => by
  have ih0 := spec_l1digits.mono_l k
  ·intro y0
   unfold spec_l1digits.f
   repeat' first
   | (with_reducible exact ih0 _)
   | (with_reducible exact LeO.refl _)
   | (with_reducible exact LeO.none _)
   | (with_reducible refine LeO.ite ?_ ?_)
   | (with_reducible refine LeO.bind ?_ (fun _ => ?_))
   | exact ih0 _
   | exact LeO.none _
   | refine LeO.ite ?_ ?_
   | refine LeO.bind ?_ (fun _ => ?_)
theorem spec_l1digits.mono : ∀ a0 k, LeO (spec_l1digits.f k a0) (spec_l1digits.f (k + 1) a0) := by
 intro a0 k
 have ih0 := spec_l1digits.mono_l k
 exact ih0 a0
set_option maxHeartbeats 8000000 in
set_option maxRecDepth 100000 in
theorem spec_l1digits.calls (k : Nat) : ∀ (a0 : Int) (r : List Int) (w : World) (h : spec_l1digits.f k a0 = some r),
  Calls Tryd.prog 70 #[.int .i64 a0] w fun e w' => ∃ v0_ : Value, e = .returned (v0_) ∧ Kd.R (Kd.int .u8) 5 w' w.heap.size (fun _ => True) v0_ r ∧ Below w.heap.size w w' := by
 induction k using Nat.strongRecOn with
 | _ k ih =>
 intro a0 r w h
 cases k with
 | zero => exact absurd h (by simp [spec_l1digits.f])
 | succ k =>
 simp only [spec_l1digits.f] at h
 have HB := ak (Below.refl w.heap.size w)
 have H : (if a0 < 10 then (some (([(wrap64 (48 + a0)) % 256] : List Int))) else ((spec_l1digits.f k (wrap64 (Int.tdiv a0 10))).bind fun t104 => (if t104.length < 140737488355328 then (some (t104 ++ [(wrap64 (48 + (Int.tmod a0 10))) % 256])) else (none)))) = some r := h
 clear h
 replace H := ip H
 obtain ⟨c2b0, H⟩ | ⟨c2b0, H⟩ := H
 ·obtain ⟨y101, hy101⟩ : ∃ y_ : List Int, y_ = (([(wrap64 (48 + a0)) % 256] : List Int)) := ⟨_, rfl⟩
  (try with_reducible replace H := bnS H)
  (try rw [← hy101] at H)
  have Ny101 := ak hy101
  clear hy101
  obtain rfl := Option.some.inj H
  go_enter Tryd.func70, Tryd.ntmps70
  go_wp2_with (((with_reducible refine gate_dst (N := 8) rfl ?_);refine Kd.R_lit (Kd.int .u8) _ 5 ?hg (N := 8) ?hd (xs := ([(wrap64 (48 + a0)) % 256] : List Int)) (inner := [.int .u8 ((wrap64 (48 + a0)) % 256)]) (ok := fun _ => True) (okp := fun _ => True) ?hr ?hp (fun _ hk => hk) trivial (Below.refl _ _) (Nat.le_refl _) (by simp) ?_;(case hd => rfl);(case hg => rfl);(case hr => first | (go_simp; done) | (go_simp; rfl));(case hp => exact (Reps.one (show Kd.M (Kd.int .u8) _ _ _ ((wrap64 (48 + a0)) % 256) [.int .u8 ((wrap64 (48 + a0)) % 256)] from rfl) (Reps.none _ _)));intro v102 w3 ho4 hb hg_ hnew_;clear hg_ hnew_;(first | rw [← Ny101.out] at ho4 | (simp only [Int.reduceToNat] at ho4; rw [← Ny101.out] at ho4));have HO103 := ak (Kd.R_lower ho4 (below_size (bw HB.out)));replace HB := b2 HB hb;clear hb ho4))
  go_ret
  exact ⟨_, o1, rw_ HO103.out, bw HB.out⟩
 ·replace H := bnd H
  obtain ⟨t104, A5, H⟩ := H
  by_cases c6 : t104.length < 140737488355328
  ·rw [if_pos c6] at H
   have LMc6 := ak c6
   clear c6
   obtain ⟨y107, hy107⟩ : ∃ y_ : List Int, y_ = (t104 ++ [(wrap64 (48 + (Int.tmod a0 10))) % 256]) := ⟨_, rfl⟩
   (try with_reducible replace H := bnS H)
   (try rw [← hy107] at H)
   have Ny107 := ak hy107
   clear hy107
   obtain rfl := Option.some.inj H
   go_enter Tryd.func70, Tryd.ntmps70
   go_wp2_with (first | ((with_reducible refine gate_callee (f := 70) rfl ?_);refine goesL_ (some 11) rfl rfl Tryd.func70 (by kernel_rfl) rfl #[.int .i64 (wrap64 (Int.tdiv a0 10))] rfl (by (try simp only [List.map_toArray, List.map_cons, List.map_nil]); first | done | rfl | (simp only [List.length_drop, List.length_take]; rfl)) ?_;(with_reducible refine (ih k (by omega) (wrap64 (Int.tdiv a0 10)) t104 _ A5.out).mono ?_);rintro e w7 ⟨v105, rfl, ho0, hb⟩;refine ⟨_, rfl, ?_⟩;have HO106 := ak (Kd.R_lower ho0 (below_size (bw HB.out)));replace HB := b2 HB hb;(try clear hb);(try clear ho0)) | ((with_reducible refine gate_builtin (b := .append) (xs := #[.tmp 11, .tmp 16]) rfl ?_);at_builtin;refine Kd.R_append (Kd.int .u8) (w0 := w) w.heap.size rfl (.tmp 11) (.tmp 16) 22 5 (.int .u8 0) 1 rfl Tryd.underlying22 info5 rfl (by decide) (by omega) v105 t104 ((wrap64 (48 + (Int.tmod a0 10))) % 256) [.int .u8 ((wrap64 (48 + (Int.tmod a0 10))) % 256)] (fun _ => True) (fun _ => False) rfl rfl ?aP (fun _ hk => hk.elim) ?aF ?aO ?aB ?aS ?aL ?_;(case aP => exact rfl);(case aB => exact (bw HB.out));(case aF => exact (fun _ _ => trivial));(case aO => exact (rw_ HO106.out));(case aS => exact (below_size (bw HB.out)));(case aL => have := LMc6.out; omega);intro v108 w8 ho hb hg hat;rw [← Ny107.out] at ho;replace HB := ak (hb);have HO109 := ak (ho);clear HO106;clear ho hb hg hat))
   go_ret
   exact ⟨_, o1, rw_ HO109.out, bw HB.out⟩
  ·rw [if_neg c6] at H
   exact absurd H (by simp)

/-! ### spec_l2reverse: function 40 -/
def spec_l2reverse.l0 : Nat → Int → Int → List (List Int) → Option ((List (List Int)))
 | 0, _, _, _ => none
 | k + 1, x0, x4, x103000 => if x4 < 4 then (if 0 ≤ (wrap64 (8 * x4)) then ((spec_l1digits.f k (Go.bits .and .i64 (shr .i64 x0 (wrap64 (8 * x4))) 255)).bind fun t103 => (if x103000.length < 5864062014805 then (spec_l2reverse.l0 k x0 (wrap64 (x4 + 1)) (x103000 ++ [t103])) else (none))) else (none)) else ((some (([(([105, 110, 45, 97, 100, 100, 114] : List Int)), (([97, 114, 112, 97] : List Int))] : List (List Int)) : List (List Int))).bind fun y115 => (if x103000.length + y115.length < 5864062014805 then (some (x103000 ++ y115)) else (none)))
def spec_l2reverse.f (k : Nat) (a0 : Int) : Option ((List (List Int))) := spec_l2reverse.l0 k a0 0 ([] : List (List Int))
def spec_l2reverse.T5 : Bool × List (List Nat × List Nat) := (true, [([], []), ([0], [0]), ([], []), ([], []), ([3], [3]), ([2, 4], [2, 4]), ([5], [5]), ([6], [6]), ([7], [7]), ([1, 8, 7], [1, 8]), ([0, 1, 2, 3, 4, 5, 6, 7, 8, 9], []), ([10, 9, 9, 0, 1, 2, 3, 4, 5, 6, 7, 8, 9], [9, 10])])
def spec_l2reverse.B5 : List Nat := [0, 1, 0, 0, 8, 28, 60, 124, 252, 511, 1023, 2047]
theorem spec_l2reverse.tab5 : rtab .any (opsOf Tryd.f40 5) = spec_l2reverse.T5 := by kernel_rfl
theorem spec_l2reverse.bits5 : waitsOk spec_l2reverse.T5.2 spec_l2reverse.B5 = true := by kernel_rfl
set_option maxHeartbeats 8000000 in
set_option maxRecDepth 100000 in
theorem spec_l2reverse.calls (k : Nat) (a0 : Int) (r : List (List Int)) (w : World) (h : spec_l2reverse.f k a0 = some r) :
  Calls Tryd.prog 40 #[.int .i64 a0] w fun e w' => ∃ v0_ : Value, e = .returned (.agg #[v0_]) ∧ Kd.N (Kd.slice 5 (Kd.int .u8)) 22 w' w.heap.size (fun k_ => (w.heap.size ≤ k_)) v0_ r ∧ Below w.heap.size w w' := by
 have hu29 := Tryd.underlying29
 have HB := ak (Below.refl w.heap.size w)
 have H : (spec_l2reverse.l0 k a0 0 ([] : List (List Int))) = some r := h
 clear h
 have H' := ak H
 clear H
 go_enter Tryd.func40, Tryd.ntmps40
 go_wp2_with (first | ((with_reducible refine gate_dst (N := 2) rfl ?_);refine bxd (N := 2) rfl HB ?_;clear HB;intro gb101 w2 hg HB BK101 GE101 hb;have GW101 := GE101;clear hb hg) | ((with_reducible refine gate_dst (N := 3) rfl ?_);refine bxe (N := 3) rfl ?_;intro gb102 hg w3 hbox hb;have BK102 := ak (hbox);have GW102 := b3s hg bs;have GE102 := GW102;replace HB := b2s bs hb;have NB101_102 := b4 hg BK101;have NB102_101 := b5 hg BK101;replace BK101 := b1 BK101 hb;clear hb hbox hg))
 go_loopg [4] k (fun kq v4 w' => ∃ (x4_1 : Int) (x103000_1 : List (List Int)) (u103000 : Value), v4 = .int .i64 x4_1 ∧ Aside0 (spec_l2reverse.l0 kq a0 x4_1 x103000_1 = some r) ∧ Aside0 (kq ≤ k) ∧ Aside0 (Kd.N (Kd.slice 5 (Kd.int .u8)) 22 w' w.heap.size (fun k_ => (w.heap.size ≤ k_) ∧ k_ ≠ gb101 ∧ k_ ≠ gb102) u103000 x103000_1) ∧ Aside0 (w'.heap[gb101]? = some (.cells #[(.slice none 0 0)] 29 (0, 0))) ∧ Aside0 (w'.heap[gb102]? = some (.cells #[u103000] 29 (0, 0))) ∧ Aside0 (Below w.heap.size w w'))
 case atStart => exact ⟨(0), (([] : List (List Int))), (.slice none 0 0), o2, H', ⟨Nat.le_refl _⟩, ⟨by first | exact Kd.S_nil _ _ _ _ _ | exact Kd.N_nil _ _ _ _ _ | exact Kd.V_nil _ _ _ _ _ | exact Kd.Q_nil _ _ _ _ _ | exact Kd.R_nil _ _ _ _ _⟩, ⟨bk BK101.out⟩, ⟨bk BK102.out⟩, ⟨bs⟩⟩
 case round =>
  clear H'
  obtain ⟨x4_1, x103000_1, u103000, rfl, HA, HK1, HO_103000, BK101, BK102, HB⟩ := hrel
  cases gk with
  | zero => exact absurd HA.out (by simp [spec_l2reverse.l0])
  | succ k1 =>
   have H := HA.out
   clear HA
   simp only [spec_l2reverse.l0] at H
   replace H := ip H
   obtain ⟨c4b0, H⟩ | ⟨c4b0, H⟩ := H
   ·obtain ⟨ji5, hji5⟩ : ∃ j_ : Int, (wrap64 (8 * x4_1)) = j_ := ⟨_, rfl⟩
    (first | rw [hji5] at H | simp only [hji5] at H)
    have hji5w : (IntKind.i64.wrap (8 * x4_1)) = ji5 := (i64_w _).trans hji5
    replace H := ipE H
    obtain ⟨c6b0, c6b1, H⟩ := H
    obtain ⟨ji7, hji7⟩ : ∃ j_ : Int, (shr .i64 a0 (ji5)) = j_ := ⟨_, rfl⟩
    (first | rw [hji7] at H | simp only [hji7] at H)
    have hji7_ : (a0 / 2 ^ min (ji5).toNat 64) = ji7 := hji7
    have hji7z : (ji5) ≤ 64 → (a0 / 2 ^ (ji5).toNat) = ji7 := shr_small hji7
    replace H := bnd H
    obtain ⟨t103, A8, H⟩ := H
    by_cases c9 : x103000_1.length < 5864062014805
    ·rw [if_pos c9] at H
     have LMc9 := ak c9
     clear c9
     obtain ⟨y106, hy106⟩ : ∃ y_ : List (List Int), y_ = (x103000_1 ++ [t103]) := ⟨_, rfl⟩
     (try with_reducible replace H := bnS H)
     (try rw [← hy106] at H)
     have Ny106 := ak hy106
     clear hy106
     have H' := ak H
     clear H
     try go_wp2
     replace HO_103000 := ak (Kd.N_drew HO_103000.out)
     replace BK101 := ak (blk_drew BK101.out)
     replace BK102 := ak (blk_drew BK102.out)
     replace HB := ak (below_drew1 HB.out)
     refine start_ (n := 12) (S := fun w' => w'.cell? ⟨gb102, 0, none⟩ = some (u103000)) (ds := [11]) (bA 12 0) (by kernel_rfl) rfl rfl ((blk_cell BK102.out 0).trans rfl) (fun hHeld => ?_); refine with_tabW spec_l2reverse.tab5 spec_l2reverse.bits5 (fun HT_ HW_ => ?_)
     generalize wr.drew = w10 at HO_103000 BK101 BK102 HB hHeld ⊢
     refine pu HT_ 0 ?_
     refine pu HT_ 2 ?_
     refine pu HT_ 3 ?_
     refine pu HT_ 4 ?_
     refine pu HT_ 5 ?_
     refine pu HT_ 6 ?_
     refine take_ (i := 1) (N := some 10) (v := ?_) (a' := ?_) (bA 12 127) rfl rfl (take_ofW HT_.out HW_.out (by kernel_rfl)) (fun _ _ _ h => h) (Or.inl ⟨by rfl, ?_⟩) hHeld ?_ ?_
     rotate_left; intro w' s0; go_simp; with_reducible rfl; rotate_left; go_simp; rfl
     refine on HT_ 7 (fun K hK => ?_)
     refine goes_ Tryd.func70 (by kernel_rfl) rfl #[.int .i64 (Go.bits .and .i64 (ji7) 255)] (by rfl) rfl rfl (by (try simp only [List.map_toArray, List.map_cons, List.map_nil]); first | done | (simp only [hji7]; rfl) | rfl | (simp only [List.length_drop, List.length_take]; rfl)) ?_
     with_reducible refine (spec_l1digits.calls k1 (Go.bits .and .i64 (ji7) 255) t103 _ A8.out).mono ?_
     rintro e w11 ⟨v104, rfl, ho0, hb⟩
     refine ⟨_, rfl, ?_⟩
     replace HO_103000 := ak (Kd.N_elder' (nw HO_103000.out) (Kd.R_base ho0) hb)
     have HO105 := ak (Kd.R_lower (Kd.R_newM (M := fun k_ => (w.heap.size ≤ k_)) ho0 (below_size bs) (fun k_ h_ => h_)) (below_size bs))
     replace BK101 := b1 BK101 hb
     replace BK102 := b1 BK102 hb
     replace HB := b2s bs hb
     (try clear hb)
     (try clear ho0)
     obtain ⟨Ao13, co13, eo13⟩ := Kd.R_slice HO105.out
     (first | subst eo13 | (injection eo13 with f1_ f2_ f3_; have f4_ := f1_.symm; have f5_ := f3_.symm; clear f1_ f2_ f3_; subst f4_; subst f5_))
     refine hK.out _ _ ((blk_cell BK102.out 0).trans rfl) (fun hHeld => ?_)
     clear hK K
     refine norm_ (a' := ?_) ?_ ?_; rotate_left; go_simp; rfl
     refine on HT_ 8 (fun K hK => ?_)
     refine value_ (w1 := ?_) (v := ?_) (by rfl) rfl ?_ ?_
     rotate_left 2
     ·go_simp
      constructor
      ·rfl
      ·rfl
     refine hK.out _ _ ((blk_cell (blk_alloc BK102.out _) 0).trans rfl) (fun hHeld => ?_)
     clear hK K
     refine norm_ (a' := ?_) ?_ ?_; rotate_left; go_simp; rfl
     refine on HT_ 9 (fun K hK => ?_)
     refine Kd.N_append_step (Kd.slice 5 (Kd.int .u8)) (w0 := w) w.heap.size (by rfl) (.tmp 10) (.tmp 17) 27 22 (.slice none 0 0) 24 rfl Tryd.underlying27 info22 rfl (by decide) (by omega) u103000 x103000_1 t103 [.slice Ao13 t103.length co13] (fun k_ => (w.heap.size ≤ k_) ∧ k_ ≠ gb101 ∧ k_ ≠ gb102) (fun k_ => ((fun k_ => (w.heap.size ≤ k_) ∧ k_ ≠ gb101 ∧ k_ ≠ gb102)) k_ ∧ some k_ ≠ (u103000 : Value).ownBlock) rfl rfl ?aP (fun _ hk => hk) ?aF ?aO ?aB ?aS ?aL ?_
     (case aP => exact (Kd.FK_slice_mk (Kd.R_reads' (Kd.R_mono (ok' := (fun k_ => ((fun k_ => (w.heap.size ≤ k_) ∧ k_ ≠ gb101 ∧ k_ ≠ gb102)) k_ ∧ some k_ ≠ (u103000 : Value).ownBlock)) (Kd.R_types (Kd.R_types (Kd.R_apart' (HO105.out) (Kd.N_typed HO_103000.out) (by decide)) BK101.out (by decide)) BK102.out (by decide)) (fun k_ hk => ⟨⟨hk.1.1.1.1, ⟨hk.1.2, hk.2⟩⟩, hk.1.1.2⟩))).2.1 (Kd.R_F (Kd.R_mono (ok' := (fun k_ => ((fun k_ => (w.heap.size ≤ k_) ∧ k_ ≠ gb101 ∧ k_ ≠ gb102)) k_ ∧ some k_ ≠ (u103000 : Value).ownBlock)) (Kd.R_types (Kd.R_types (Kd.R_apart' (HO105.out) (Kd.N_typed HO_103000.out) (by decide)) BK101.out (by decide)) BK102.out (by decide)) (fun k_ hk => ⟨⟨hk.1.1.1.1, ⟨hk.1.2, hk.2⟩⟩, hk.1.1.2⟩)))))
     (case aB => exact bs)
     (case aF => exact (fun k_ hk => ⟨(Nat.le_trans (below_size bs) hk), Kd.freshB (g := gb101) (o := .cells #[.slice none 0 0] 29 (0, 0)) (bk BK101.out) k_ hk, Kd.freshB (g := gb102) (o := .cells #[u103000] 29 (0, 0)) (bk BK102.out) k_ hk⟩))
     (case aO => exact (nw (Kd.N_mono HO_103000.out (fun _ hk => ⟨hk.1.1, ⟨hk.1.2.1, hk.1.2.2⟩⟩))))
     (case aS => exact (below_size bs))
     (case aL => have := LMc9.out; omega)
     intro v107 w12 ho hb hg hat
     rw [← Ny106.out] at ho
     replace BK101 := ak (blk_grown (bk BK101.out) hg (Kd.N_ne HO_103000.out BK101.out (by decide)))
     replace BK102 := ak (blk_grown (bk BK102.out) hg (Kd.N_ne HO_103000.out BK102.out (by decide)))
     replace HB := ak (hb)
     have HO108 := ak (ho)
     clear HO_103000 HO105 ho hb hg hat
     obtain ⟨Ao14, co14, eo14⟩ := Kd.N_slice HO108.out
     (first | subst eo14 | (injection eo14 with f1_ f2_ f3_; have f4_ := f1_.symm; have f5_ := f3_.symm; clear f1_ f2_ f3_; subst f4_; subst f5_))
     refine hK.out _ _ ((blk_cell BK102.out 0).trans rfl) (fun hHeld => ?_)
     clear hK K
     refine norm_ (a' := ?_) ?_ ?_; rotate_left; go_simp; rfl
     refine pu HT_ 10 ?_
     refine last_ (i := 11) (N := none) (bA 12 4095) rfl rfl (one_of HT_.out (by kernel_rfl)) (by decide) (fun K hK => ?_)
     have hs15 : w12.cell? ⟨gb102, 0, none⟩ = some (u103000) := (blk_cell BK102.out 0).trans rfl
     have hfs15 := blk_frozen BK102.out 0
     have hns15_0 := NB101_102.out
     have hms15_0 := NB102_101.out
     refine skip_ (w1 := ?_) (by rfl) rfl ?_ ?_
     rotate_left
     ·go_simp
      rfl
     refine hK.out _ _ ?_
     clear hK K
     refine done_ (done_of HT_.out (by kernel_rfl)) ?_
     try go_wp2
     go_roundg k1
     case measure => have := HK1.out; omega
     case rel => exact ⟨(wrap64 (x4_1 + 1)), (y106), (.slice Ao14 y106.length co14), o2, H', ⟨by have := HK1.out; omega⟩, ⟨by (with_reducible repeat (first | apply Kd.N_alloc | apply Kd.N_drewN | apply Kd.N_drew)); exact Kd.N_mono (Kd.N_far (p := ⟨gb102, 0, none⟩) (Kd.N_mono HO108.out (fun k_ hk => (⟨hk, hk.2.2⟩ : _ ∧ k_ ≠ gb102))) (fun _ hk => hk.2) (.slice Ao14 y106.length co14)) (fun _ hk => ⟨hk.1.1, ⟨hk.1.2.1, hk.1.2.2⟩⟩)⟩, ⟨bfar1 NB101_102.out BK101.out⟩, ⟨bput1 BK102.out⟩, ⟨bs⟩⟩
    ·rw [if_neg c9] at H
     exact absurd H (by simp)
   ·obtain ⟨y109, hy109⟩ : ∃ y_ : List Int, y_ = (([105, 110, 45, 97, 100, 100, 114] : List Int)) := ⟨_, rfl⟩
    (try with_reducible replace H := bnS H)
    (try rw [← hy109] at H)
    have Ny109 := ak hy109
    clear hy109
    obtain ⟨y112, hy112⟩ : ∃ y_ : List Int, y_ = (([97, 114, 112, 97] : List Int)) := ⟨_, rfl⟩
    (try with_reducible replace H := bnS H)
    (try rw [← hy112] at H)
    have Ny112 := ak hy112
    clear hy112
    obtain ⟨y115, hy115⟩ : ∃ y_ : List (List Int), y_ = (([y109, y112] : List (List Int))) := ⟨_, rfl⟩
    (try with_reducible replace H := bnS H)
    (try rw [← hy115] at H)
    have Ny115 := ak hy115
    clear hy115
    by_cases c16 : x103000_1.length + y115.length < 5864062014805
    ·rw [if_pos c16] at H
     have LMc16 := ak c16
     clear c16
     obtain ⟨y118, hy118⟩ : ∃ y_ : List (List Int), y_ = (x103000_1 ++ y115) := ⟨_, rfl⟩
     (try with_reducible replace H := bnS H)
     (try rw [← hy118] at H)
     have Ny118 := ak hy118
     clear hy118
     obtain rfl := Option.some.inj H
     have hnb17 := NB102_101.out
     have hnc17 := NB101_102.out
     obtain ⟨hcz18_0, hfz18_0⟩ := cells1 BK102.out
     have hy : y115 = [inaL, arpL] := by rw [Ny115.out, Ny109.out, Ny112.out]; rfl
     have HY := ak hy
     clear hy
     have hcv1 := conv_lit22 wr #[.int .u8 105, .int .u8 110, .int .u8 45, .int .u8 97, .int .u8 100, .int .u8 100, .int .u8 114] 7 rfl
     have hcv2 := conv_lit22 (wr.alloc (.cells #[.int .u8 105, .int .u8 110, .int .u8 45, .int .u8 97, .int .u8 100, .int .u8 100, .int .u8 114] 5 (7, 8))) #[.int .u8 97, .int .u8 114, .int .u8 112, .int .u8 97] 4 rfl
     rw [show (wr.alloc (.cells #[.int .u8 105, .int .u8 110, .int .u8 45, .int .u8 97, .int .u8 100, .int .u8 100, .int .u8 114] 5 (7, 8))).heap.size = wr.heap.size + 1 by simp] at hcv2
     have HBE := ak (show Below wr.heap.size wr (endW wr) from below_alloc (below_alloc (below_alloc (Below.refl _ _) _) _) _)
     have HEF := ak (Kd.F_mono (ok' := fun k_ => ((fun k_ => (w.heap.size ≤ k_) ∧ k_ ≠ gb101 ∧ k_ ≠ gb102)) k_ ∧ some k_ ≠ (u103000 : Value).ownBlock) (end_F wr) (fun k_ hk => ⟨⟨Nat.le_trans HB.out.size hk, Kd.freshB (g := gb101) (o := .cells #[.slice none 0 0] 29 (0, 0)) BK101.out k_ hk, Kd.freshB (g := gb102) (o := .cells #[u103000] 29 (0, 0)) BK102.out k_ hk⟩, Kd.fresh' (Kd.N_lt HO_103000.out) k_ hk⟩))
     rw [← HY.out] at HEF
     have hyl : y115.length = 2 := by rw [HY.out]; rfl
     have HYL := ak hyl
     clear hyl
     go_wp2_with (first | ((with_reducible refine gate_builtin (b := .append) (xs := #[.tmp 21, .tmp 26]) rfl ?_);at_builtin;change wpList _ _ _ _ _ (endW wr);refine Kd.N_append_rows (Kd.slice 5 (Kd.int .u8)) (w0 := w) w.heap.size rfl (.tmp 21) (.tmp 26) 27 22 (.slice none 0 0) 24 rfl Tryd.underlying27 info22 rfl (by decide) (by omega) u103000 x103000_1 y115 _ _ _ (fun k_ => (w.heap.size ≤ k_) ∧ k_ ≠ gb101 ∧ k_ ≠ gb102) (fun k_ => ((fun k_ => (w.heap.size ≤ k_) ∧ k_ ≠ gb101 ∧ k_ ≠ gb102)) k_ ∧ some k_ ≠ (u103000 : Value).ownBlock) rfl rfl ?aO ?aR (fun _ hk => hk) ?aF ?aB ?aS ?aL ?_;(case aR => exact HEF.out);(case aB => exact below_step HB.out HBE.out);(case aF => exact (fun k_ hk => have hk := Nat.le_trans HBE.out.size hk; ⟨Nat.le_trans HB.out.size hk, Kd.freshB (g := gb101) (o := .cells #[.slice none 0 0] 29 (0, 0)) BK101.out k_ hk, Kd.freshB (g := gb102) (o := .cells #[u103000] 29 (0, 0)) BK102.out k_ hk⟩));(case aO => exact (Kd.N_below HO_103000.out HBE.out));(case aS => exact (below_step HB.out HBE.out).size);(case aL => have := LMc16.out; have := HYL.out; omega);intro v119 w27 ho hb hg hat;rw [← Ny118.out] at ho;replace BK101 := ak (blk_grown (blk_below BK101.out HBE.out) hg (Kd.N_ne HO_103000.out BK101.out (by decide)));replace BK102 := ak (blk_grown (blk_below BK102.out HBE.out) hg (Kd.N_ne HO_103000.out BK102.out (by decide)));replace HB := ak (hb);have HO120 := ak (ho);clear HO_103000 HBE HEF hcv1 hcv2;clear ho hb hg hat;obtain ⟨Ao29, co29, eo29⟩ := Kd.N_slice HO120.out;subst eo29;obtain ⟨hcz30_0, hfz30_0⟩ := cells1 BK102.out;obtain ⟨hcz31_0, hfz31_0⟩ := cells1 BK101.out))
     refine bodyPost_ret (results_cell_row rfl _ _ gb101 29 #[.slice Ao29 y118.length co29] (0, 0) _ rfl (by (with_reducible repeat (first | refine blk_drewN ?_ _ | refine blk_drew ?_ | refine blk_alloc ?_ _)); refine blk_put (cs := #[.slice none 0 0]) ?_ 0 _ rfl; (with_reducible repeat (first | refine blk_drewN ?_ _ | refine blk_drew ?_ | refine blk_alloc ?_ _)); refine blk_far ?_ NB101_102.out _; (with_reducible repeat (first | refine blk_drewN ?_ _ | refine blk_drew ?_ | refine blk_alloc ?_ _)); exact BK101.out) Tryd.underlying29 rfl (by kernel_rfl)) rfl ?_
     exact ⟨_, o1, by (with_reducible repeat (first | apply Kd.N_alloc | apply Kd.N_drewN | apply Kd.N_drew)); exact Kd.N_mono (Kd.N_far (p := ⟨gb101, 0, none⟩) (Kd.N_far (p := ⟨gb102, 0, none⟩) (Kd.N_mono (Kd.N_mono HO120.out (fun k_ hk => (⟨hk, hk.2.2⟩ : _ ∧ k_ ≠ gb102))) (fun k_ hk => (⟨hk, hk.1.2.1⟩ : _ ∧ k_ ≠ gb101))) (fun _ hk => hk.1.2) (.slice Ao29 y118.length co29)) (fun _ hk => hk.2) (.slice Ao29 y118.length co29)) (fun _ hk => hk.1.1.1), bs⟩
    ·rw [if_neg c16] at H
     exact absurd H (by simp)

/-! ### spec_Reverse: function 13 -/
def spec_Reverse.f (k : Nat) (a0 : Int) : Option ((List (List Int)) × Bool) := if a0 < 0 then (some (([] : List (List Int)), false)) else (if a0 ≥ 4294967296 then (some (([] : List (List Int)), false)) else ((spec_l2reverse.f k a0).bind fun t102 => (some (t102, true))))
set_option maxHeartbeats 8000000 in
set_option maxRecDepth 100000 in
theorem spec_Reverse.calls (k : Nat) (a0 : Int) (r1 : List (List Int)) (r2 : Bool) (w : World) (h : spec_Reverse.f k a0 = some (r1, r2)) :
  Calls Tryd.prog 13 #[.int .i64 a0] w fun e w' => ∃ v0_ : Value, e = .returned (.tuple #[.agg #[v0_], .bool r2]) ∧ Kd.N (Kd.slice 5 (Kd.int .u8)) 22 w' w.heap.size (fun k_ => (w.heap.size ≤ k_)) v0_ r1 ∧ Below w.heap.size w w' := by
 have hu29 := Tryd.underlying29
 have HB := ak (Below.refl w.heap.size w)
 have H : (if a0 < 0 then (some (([] : List (List Int)), false)) else (if a0 ≥ 4294967296 then (some (([] : List (List Int)), false)) else ((spec_l2reverse.f k a0).bind fun t102 => (some (t102, true))))) = some (r1, r2) := h
 clear h
 replace H := ip H
 obtain ⟨c2b0, H⟩ | ⟨c2b0, H⟩ := H
 ·simp only [Option.some.injEq, Prod.mk.injEq] at H
  obtain ⟨rfl, rfl⟩ := H
  go_enter Tryd.func13, Tryd.ntmps13
  go_wp2_with (((with_reducible refine gate_dst (N := 2) rfl ?_);refine bxd (N := 2) rfl HB ?_;clear HB;intro gb101 w3 hg HB BK101 GE101 hb;have GW101 := GE101;clear hb hg;obtain ⟨hcz4_0, hfz4_0⟩ := cells1 BK101.out))
  refine bodyPost_ret (results_ct rfl _ _ gb101 29 #[.slice none 0 0] (0, 0) _ rfl (bput1 BK101.out) Tryd.underlying29 rfl (by kernel_rfl)) rfl ?_
  exact ⟨_, o1, by first | exact Kd.S_nil _ _ _ _ _ | exact Kd.N_nil _ _ _ _ _ | exact Kd.V_nil _ _ _ _ _ | exact Kd.Q_nil _ _ _ _ _ | exact Kd.R_nil _ _ _ _ _, bs⟩
 ·replace H := ih H
  obtain ⟨c5b0, H⟩ | ⟨c5b0, H⟩ := H
  ·simp only [Option.some.injEq, Prod.mk.injEq] at H
   obtain ⟨rfl, rfl⟩ := H
   go_enter Tryd.func13, Tryd.ntmps13
   go_wp2_with (((with_reducible refine gate_dst (N := 2) rfl ?_);refine bxd (N := 2) rfl HB ?_;clear HB;intro gb101 w6 hg HB BK101 GE101 hb;have GW101 := GE101;clear hb hg;obtain ⟨hcz7_0, hfz7_0⟩ := cells1 BK101.out))
   refine bodyPost_ret (results_ct rfl _ _ gb101 29 #[.slice none 0 0] (0, 0) _ rfl (bput1 BK101.out) Tryd.underlying29 rfl (by kernel_rfl)) rfl ?_
   exact ⟨_, o1, by first | exact Kd.S_nil _ _ _ _ _ | exact Kd.N_nil _ _ _ _ _ | exact Kd.V_nil _ _ _ _ _ | exact Kd.Q_nil _ _ _ _ _ | exact Kd.R_nil _ _ _ _ _, bs⟩
  ·replace H := bnd H
   obtain ⟨t102, A8, H⟩ := H
   simp only [Option.some.injEq, Prod.mk.injEq] at H
   obtain ⟨rfl, rfl⟩ := H
   go_enter Tryd.func13, Tryd.ntmps13
   go_wp2_with (first | ((with_reducible refine gate_dst (N := 2) rfl ?_);refine bxd (N := 2) rfl HB ?_;clear HB;intro gb101 w9 hg HB BK101 GE101 hb;have GW101 := GE101;clear hb hg) | ((with_reducible refine gate_callee (f := 40) rfl ?_);refine glG 12 rfl rfl Tryd.func40 (spec_l2reverse.calls k a0 t102 _ A8.out) ?_;rintro e w10 ⟨v103, rfl, ho0, hb⟩;refine ⟨_, rfl, ?_⟩;have HO104 := ak (Kd.N_lower (Kd.N_mono (ok' := fun k_ => (w.heap.size ≤ k_) ∧ k_ ≠ gb101) ho0 (fun k_ hk_ => ⟨(Nat.le_trans (below_size bs) hk_), (Kd.freshB (g := gb101) (o := .cells #[.slice none 0 0] 29 (0, 0)) (bk BK101.out) k_ hk_)⟩)) (below_size bs));replace BK101 := b1 BK101 hb;replace HB := b2s bs hb;(try clear hb);(try clear ho0);obtain ⟨Ao11, co11, eo11⟩ := Kd.N_slice HO104.out;subst eo11;obtain ⟨hcz12_0, hfz12_0⟩ := cells1 BK101.out))
   refine bodyPost_ret (results_ct rfl _ _ gb101 29 #[.slice Ao11 t102.length co11] (0, 0) _ rfl (bput1 BK101.out) Tryd.underlying29 rfl (by kernel_rfl)) rfl ?_
   exact ⟨_, o1, by (with_reducible repeat (first | apply Kd.N_alloc | apply Kd.N_drewN | apply Kd.N_drew)); exact Kd.N_mono (Kd.N_far (p := ⟨gb101, 0, none⟩) (Kd.N_mono HO104.out (fun k_ hk => (⟨hk, hk.2⟩ : _ ∧ k_ ≠ gb101))) (fun _ hk => hk.2) (.slice Ao11 t102.length co11)) (fun _ hk => hk.1.1), bs⟩

/-! ### laws_eqByteS: function 10 -/
def laws_eqByteS.l0 : Nat → List Int → List Int → Int → Option (Bool)
 | 0, _, _, _ => none
 | k + 1, x0, x1, x5 => if x5 < (x0.length : Int) then (if 0 ≤ x5 then (if x5 < (x1.length : Int) then (if (rd x0 x5) = (rd x1 x5) then (laws_eqByteS.l0 k x0 x1 (wrap64 (x5 + 1))) else (some false)) else (none)) else (none)) else (some true)
def laws_eqByteS.f (k : Nat) (l0 : List Int) (l1 : List Int) : Option (Bool) := if (l0.length : Int) = (l1.length : Int) then (laws_eqByteS.l0 k l0 l1 0) else (some false)
set_option maxHeartbeats 8000000 in
set_option maxRecDepth 100000 in
theorem laws_eqByteS.calls (k : Nat) (A0 : Option Addr) (c0 : Nat) (l0 : List Int) (A1 : Option Addr) (c1 : Nat) (l1 : List Int) (r : Bool) (w : World) (hr0 : Kd.C (Kd.int .u8) w A0 l0.length l0) (hc0 : l0.length ≤ c0) (hr1 : Kd.C (Kd.int .u8) w A1 l1.length l1) (hc1 : l1.length ≤ c1) (h : laws_eqByteS.f k l0 l1 = some r) :
  Calls Tryd.prog 10 #[.slice A0 l0.length c0, .slice A1 l1.length c1] w fun e w' => e = .returned (.bool r) ∧ Drawn0 w w' := by
 have HR0 := ak hr0
 have HC0 := ak hc0
 clear hr0 hc0
 have HR1 := ak hr1
 have HC1 := ak hc1
 clear hr1 hc1
 have H : (if (l0.length : Int) = (l1.length : Int) then (laws_eqByteS.l0 k l0 l1 0) else (some false)) = some r := h
 clear h
 replace H := ie H
 obtain ⟨c3b0, c3b1, H⟩ | ⟨c3b0, c3b1, H⟩ := H
 ·have c3b2 : (l0.length == l1.length) = true := lnT c3b0
  have H' := ak H
  clear H
  go_enter Tryd.func10, Tryd.ntmps10
  go_wp2
  repeat (go_quiet (fail); try go_wp2)
  go_loopg [5] k (fun kq v5 w' => ∃ (x5_1 : Int), v5 = .int .i64 x5_1 ∧ Aside0 (laws_eqByteS.l0 kq l0 l1 x5_1 = some r) ∧ Aside0 (kq ≤ k) ∧ Drawn0 w w')
  case atStart => exact ⟨(0), o2, H', ⟨Nat.le_refl _⟩, od⟩
  case round =>
   clear H'
   (try clear c1)
   (try clear c3b0)
   (try clear c3b1)
   (try clear c3b2)
   obtain ⟨x5_1, rfl, HA, HK1, ⟨m1, rfl⟩⟩ := hrel
   cases gk with
   | zero => exact absurd HA.out (by simp [laws_eqByteS.l0])
   | succ k1 =>
    have H := HA.out
    clear HA
    simp only [laws_eqByteS.l0] at H
    replace H := ip H
    obtain ⟨c4b0, H⟩ | ⟨c4b0, H⟩ := H
    ·replace H := ipN H
     obtain ⟨c5b0, H⟩ := H
     replace H := ipN H
     obtain ⟨c6b0, H⟩ := H
     replace H := ie H
     obtain ⟨c7b0, c7b1, H⟩ | ⟨c7b0, c7b1, H⟩ := H
     ·have H' := ak H
      clear H
      obtain ⟨ad101, rfl, hx101_0, p101, q101⟩ := el0_int HR0 x5_1
      obtain ⟨ad102, rfl, hx102_0, p102, q102⟩ := el0_int HR1 x5_1
      go_wp2
      repeat (go_quiet (fail); try go_wp2)
      go_roundg k1
      case measure => have := HK1.out; omega
      case rel => exact ⟨(wrap64 (x5_1 + 1)), o2, H', ⟨by have := HK1.out; omega⟩, od⟩
     ·obtain rfl := Option.some.inj H
      obtain ⟨ad101, rfl, hx101_0, p101, q101⟩ := el0_int HR0 x5_1
      obtain ⟨ad102, rfl, hx102_0, p102, q102⟩ := el0_int HR1 x5_1
      go_wp2
      repeat (go_quiet (fail); try go_wp2)
      go_ret
      exact ⟨o2, od⟩
    ·obtain rfl := Option.some.inj H
     go_wp2
     repeat (go_quiet (fail); try go_wp2)
     go_ret
     exact ⟨o2, od⟩
 ·have c3b2 : (l0.length == l1.length) = false := lnF c3b0
  obtain rfl := Option.some.inj H
  go_enter Tryd.func10, Tryd.ntmps10
  go_wp2
  repeat (go_quiet (fail); try go_wp2)
  go_ret
  exact ⟨o2, od⟩

/-! ### laws_eqByteSS: function 42 -/
def laws_eqByteSS.l0 : Nat → List (List Int) → List (List Int) → Int → Option (Bool)
 | 0, _, _, _ => none
 | k + 1, x0, x1, x5 => if x5 < (x0.length : Int) then (if 0 ≤ x5 then (if x5 < (x1.length : Int) then ((laws_eqByteS.f k (rd_L10 x0 x5) (rd_L10 x1 x5)).bind fun t103 => (if t103 = true then (laws_eqByteSS.l0 k x0 x1 (wrap64 (x5 + 1))) else (some false))) else (none)) else (none)) else (some true)
def laws_eqByteSS.f (k : Nat) (l0 : List (List Int)) (l1 : List (List Int)) : Option (Bool) := if (l0.length : Int) = (l1.length : Int) then (laws_eqByteSS.l0 k l0 l1 0) else (some false)
set_option maxHeartbeats 8000000 in
set_option maxRecDepth 100000 in
theorem laws_eqByteSS.calls (k : Nat) (A0 : Option Addr) (c0 : Nat) (l0 : List (List Int)) (A1 : Option Addr) (c1 : Nat) (l1 : List (List Int)) (r : Bool) (w : World) (hr0 : Kd.C (Kd.slice 5 (Kd.int .u8)) w A0 l0.length l0) (hc0 : l0.length ≤ c0) (hr1 : Kd.C (Kd.slice 5 (Kd.int .u8)) w A1 l1.length l1) (hc1 : l1.length ≤ c1) (h : laws_eqByteSS.f k l0 l1 = some r) :
  Calls Tryd.prog 42 #[.slice A0 l0.length c0, .slice A1 l1.length c1] w fun e w' => e = .returned (.bool r) ∧ Drawn0 w w' := by
 have HR0 := ak hr0
 have HC0 := ak hc0
 clear hr0 hc0
 have HR1 := ak hr1
 have HC1 := ak hc1
 clear hr1 hc1
 have H : (if (l0.length : Int) = (l1.length : Int) then (laws_eqByteSS.l0 k l0 l1 0) else (some false)) = some r := h
 clear h
 replace H := ie H
 obtain ⟨c3b0, c3b1, H⟩ | ⟨c3b0, c3b1, H⟩ := H
 ·have c3b2 : (l0.length == l1.length) = true := lnT c3b0
  have H' := ak H
  clear H
  go_enter Tryd.func42, Tryd.ntmps42
  go_wp2
  repeat (go_quiet (fail); try go_wp2)
  go_loopg [5] k (fun kq v5 w' => ∃ (x5_1 : Int), v5 = .int .i64 x5_1 ∧ Aside0 (laws_eqByteSS.l0 kq l0 l1 x5_1 = some r) ∧ Aside0 (kq ≤ k) ∧ Drawn0 w w')
  case atStart => exact ⟨(0), o2, H', ⟨Nat.le_refl _⟩, od⟩
  case round =>
   clear H'
   (try clear c1)
   (try clear c3b0)
   (try clear c3b1)
   (try clear c3b2)
   obtain ⟨x5_1, rfl, HA, HK1, ⟨m1, rfl⟩⟩ := hrel
   cases gk with
   | zero => exact absurd HA.out (by simp [laws_eqByteSS.l0])
   | succ k1 =>
    have H := HA.out
    clear HA
    simp only [laws_eqByteSS.l0] at H
    replace H := ip H
    obtain ⟨c4b0, H⟩ | ⟨c4b0, H⟩ := H
    ·replace H := ipN H
     obtain ⟨c5b0, H⟩ := H
     replace H := ipN H
     obtain ⟨c6b0, H⟩ := H
     replace H := bnd H
     obtain ⟨t103, A7, H⟩ := H
     replace H := ib H
     obtain ⟨rfl, H⟩ | ⟨rfl, H⟩ := H
     ·have H' := ak H
      clear H
      obtain ⟨ad101, A101_0, c101_0, rfl, hx101_0, HC101_0, HR101_0, p101, q101⟩ := el0_L10 HR0 x5_1
      obtain ⟨ad102, A102_0, c102_0, rfl, hx102_0, HC102_0, HR102_0, p102, q102⟩ := el0_L10 HR1 x5_1
      go_wp2_with ((go_at_call 10;(with_reducible refine (laws_eqByteS.calls k1 _ _ (rd_L10 l0 x5_1) _ _ (rd_L10 l1 x5_1) true _ (cd HR101_0) HC101_0.out (cd HR102_0) HC102_0.out A7.out).mono ?_);rintro e w' ⟨rfl, ⟨nd, rfl⟩⟩;(try first | exact ⟨rfl, _, World.drewN_drewN _ _ _⟩ | exact ⟨rfl, _, Eq.trans (World.drewN_drewN _ _ _) (congrArg (World.drewN _) (Nat.add_assoc _ _ _))⟩)))
      repeat (go_quiet ((go_at_call 10;(with_reducible refine (laws_eqByteS.calls k1 _ _ (rd_L10 l0 x5_1) _ _ (rd_L10 l1 x5_1) true _ (cd HR101_0) HC101_0.out (cd HR102_0) HC102_0.out A7.out).mono ?_);rintro e w' ⟨rfl, ⟨nd, rfl⟩⟩;(try first | exact ⟨rfl, _, World.drewN_drewN _ _ _⟩ | exact ⟨rfl, _, Eq.trans (World.drewN_drewN _ _ _) (congrArg (World.drewN _) (Nat.add_assoc _ _ _))⟩))); try go_wp2_with ((go_at_call 10;(with_reducible refine (laws_eqByteS.calls k1 _ _ (rd_L10 l0 x5_1) _ _ (rd_L10 l1 x5_1) true _ (cd HR101_0) HC101_0.out (cd HR102_0) HC102_0.out A7.out).mono ?_);rintro e w' ⟨rfl, ⟨nd, rfl⟩⟩;(try first | exact ⟨rfl, _, World.drewN_drewN _ _ _⟩ | exact ⟨rfl, _, Eq.trans (World.drewN_drewN _ _ _) (congrArg (World.drewN _) (Nat.add_assoc _ _ _))⟩))))
      go_roundg k1
      case measure => have := HK1.out; omega
      case rel => exact ⟨(wrap64 (x5_1 + 1)), o2, H', ⟨by have := HK1.out; omega⟩, od⟩
     ·obtain rfl := Option.some.inj H
      obtain ⟨ad101, A101_0, c101_0, rfl, hx101_0, HC101_0, HR101_0, p101, q101⟩ := el0_L10 HR0 x5_1
      obtain ⟨ad102, A102_0, c102_0, rfl, hx102_0, HC102_0, HR102_0, p102, q102⟩ := el0_L10 HR1 x5_1
      go_wp2_with ((go_at_call 10;(with_reducible refine (laws_eqByteS.calls k1 _ _ (rd_L10 l0 x5_1) _ _ (rd_L10 l1 x5_1) false _ (cd HR101_0) HC101_0.out (cd HR102_0) HC102_0.out A7.out).mono ?_);rintro e w' ⟨rfl, ⟨nd, rfl⟩⟩;(try first | exact ⟨rfl, _, World.drewN_drewN _ _ _⟩ | exact ⟨rfl, _, Eq.trans (World.drewN_drewN _ _ _) (congrArg (World.drewN _) (Nat.add_assoc _ _ _))⟩)))
      repeat (go_quiet ((go_at_call 10;(with_reducible refine (laws_eqByteS.calls k1 _ _ (rd_L10 l0 x5_1) _ _ (rd_L10 l1 x5_1) false _ (cd HR101_0) HC101_0.out (cd HR102_0) HC102_0.out A7.out).mono ?_);rintro e w' ⟨rfl, ⟨nd, rfl⟩⟩;(try first | exact ⟨rfl, _, World.drewN_drewN _ _ _⟩ | exact ⟨rfl, _, Eq.trans (World.drewN_drewN _ _ _) (congrArg (World.drewN _) (Nat.add_assoc _ _ _))⟩))); try go_wp2_with ((go_at_call 10;(with_reducible refine (laws_eqByteS.calls k1 _ _ (rd_L10 l0 x5_1) _ _ (rd_L10 l1 x5_1) false _ (cd HR101_0) HC101_0.out (cd HR102_0) HC102_0.out A7.out).mono ?_);rintro e w' ⟨rfl, ⟨nd, rfl⟩⟩;(try first | exact ⟨rfl, _, World.drewN_drewN _ _ _⟩ | exact ⟨rfl, _, Eq.trans (World.drewN_drewN _ _ _) (congrArg (World.drewN _) (Nat.add_assoc _ _ _))⟩))))
      go_ret
      exact ⟨o2, od⟩
    ·obtain rfl := Option.some.inj H
     go_wp2
     repeat (go_quiet (fail); try go_wp2)
     go_ret
     exact ⟨o2, od⟩
 ·have c3b2 : (l0.length == l1.length) = false := lnF c3b0
  obtain rfl := Option.some.inj H
  go_enter Tryd.func42, Tryd.ntmps42
  go_wp2
  repeat (go_quiet (fail); try go_wp2)
  go_ret
  exact ⟨o2, od⟩

/-! ### laws_eqName: function 15 -/
def laws_eqName.f (k : Nat) (l0_0 : List (List Int)) (l1_0 : List (List Int)) : Option (Bool) := (laws_eqByteSS.f k l0_0 l1_0).bind fun t103 => (if t103 = true then (some true) else (some false))
set_option maxHeartbeats 8000000 in
set_option maxRecDepth 100000 in
theorem laws_eqName.calls (k : Nat) (A0_0 : Option Addr) (c0_0 : Nat) (l0_0 : List (List Int)) (A1_0 : Option Addr) (c1_0 : Nat) (l1_0 : List (List Int)) (r : Bool) (w : World) (hr0_0 : Kd.C (Kd.slice 5 (Kd.int .u8)) w A0_0 l0_0.length l0_0) (hc0_0 : l0_0.length ≤ c0_0) (hr1_0 : Kd.C (Kd.slice 5 (Kd.int .u8)) w A1_0 l1_0.length l1_0) (hc1_0 : l1_0.length ≤ c1_0) (h : laws_eqName.f k l0_0 l1_0 = some r) :
  Calls Tryd.prog 15 #[.agg #[.slice A0_0 l0_0.length c0_0], .agg #[.slice A1_0 l1_0.length c1_0]] w fun e w' => e = .returned (.bool r) ∧ Below w.heap.size w w' := by
 have hu29 := Tryd.underlying29
 have HR0_0 := ak hr0_0
 have HC0_0 := ak hc0_0
 clear hr0_0 hc0_0
 have HR1_0 := ak hr1_0
 have HC1_0 := ak hc1_0
 clear hr1_0 hc1_0
 have HB := ak (Below.refl w.heap.size w)
 have H : ((laws_eqByteSS.f k l0_0 l1_0).bind fun t103 => (if t103 = true then (some true) else (some false))) = some r := h
 clear h
 replace H := bnd H
 obtain ⟨t103, A3, H⟩ := H
 replace H := ib H
 obtain ⟨rfl, H⟩ | ⟨rfl, H⟩ := H
 ·obtain rfl := Option.some.inj H
  go_enter Tryd.func15, Tryd.ntmps15
  go_wp2_with (first | ((with_reducible refine gate_dst (N := 2) rfl ?_);refine bxd (N := 2) rfl HB ?_;clear HB;intro gb101 w5 hg HB BK101 GE101 hb;have GW101 := GE101;clear hb hg) | ((with_reducible refine gate_dst (N := 3) rfl ?_);refine bxe (N := 3) rfl ?_;intro gb102 hg w6 hbox hb;have BK102 := ak (hbox);have GW102 := b3s hg bs;have GE102 := GW102;replace HB := b2s bs hb;have NB101_102 := b4 hg BK101;have NB102_101 := b5 hg BK101;replace BK101 := b1 BK101 hb;clear hb hbox hg;have hnb7 := NB101_102.out;have hnc7 := NB102_101.out;obtain ⟨hcz8_0, hfz8_0⟩ := cells1 BK101.out;obtain ⟨hcz9_0, hfz9_0⟩ := cells1 BK102.out) | ((with_reducible refine gate_callee (f := 42) rfl ?_);refine glD 9 rfl rfl Tryd.func42 (laws_eqByteSS.calls k _ _ l0_0 _ _ l1_0 true _ (cv HR0_0 HB) HC0_0.out (cv HR1_0 HB) HC1_0.out A3.out) (fun nd => ?_)))
  go_ret
  exact ⟨o1, bs⟩
 ·obtain rfl := Option.some.inj H
  go_enter Tryd.func15, Tryd.ntmps15
  go_wp2_with (first | ((with_reducible refine gate_dst (N := 2) rfl ?_);refine bxd (N := 2) rfl HB ?_;clear HB;intro gb101 w10 hg HB BK101 GE101 hb;have GW101 := GE101;clear hb hg) | ((with_reducible refine gate_dst (N := 3) rfl ?_);refine bxe (N := 3) rfl ?_;intro gb102 hg w11 hbox hb;have BK102 := ak (hbox);have GW102 := b3s hg bs;have GE102 := GW102;replace HB := b2s bs hb;have NB101_102 := b4 hg BK101;have NB102_101 := b5 hg BK101;replace BK101 := b1 BK101 hb;clear hb hbox hg;have hnb12 := NB101_102.out;have hnc12 := NB102_101.out;obtain ⟨hcz13_0, hfz13_0⟩ := cells1 BK101.out;obtain ⟨hcz14_0, hfz14_0⟩ := cells1 BK102.out) | ((with_reducible refine gate_callee (f := 42) rfl ?_);refine glD 9 rfl rfl Tryd.func42 (laws_eqByteSS.calls k _ _ l0_0 _ _ l1_0 false _ (cv HR0_0 HB) HC0_0.out (cv HR1_0 HB) HC1_0.out A3.out) (fun nd => ?_)))
  go_ret
  exact ⟨o1, bs⟩

/-! ### laws_heldByteS: function 12 -/
def laws_heldByteS.l0 : Nat → List Int → Int → Int → Option (Int)
 | 0, _, _, _ => none
 | k + 1, x0, x1, x5 => if x5 < (x0.length : Int) then (if 0 ≤ x5 then (if (rd x0 x5) = ((x1) % 256) then (laws_heldByteS.l0 k x0 (wrap64 (x1 + 1)) (wrap64 (x5 + 1))) else (some (-1))) else (none)) else (some x1)
def laws_heldByteS.f (k : Nat) (l0 : List Int) (a1 : Int) : Option (Int) := laws_heldByteS.l0 k l0 a1 0
set_option maxHeartbeats 8000000 in
set_option maxRecDepth 100000 in
theorem laws_heldByteS.calls (k : Nat) (A0 : Option Addr) (c0 : Nat) (l0 : List Int) (a1 : Int) (r : Int) (w : World) (hr0 : Kd.C (Kd.int .u8) w A0 l0.length l0) (hc0 : l0.length ≤ c0) (h : laws_heldByteS.f k l0 a1 = some r) :
  Calls Tryd.prog 12 #[.slice A0 l0.length c0, .int .i64 a1] w fun e w' => e = .returned (.int .i64 r) ∧ Drawn0 w w' := by
 have HR0 := ak hr0
 have HC0 := ak hc0
 clear hr0 hc0
 have H : (laws_heldByteS.l0 k l0 a1 0) = some r := h
 clear h
 have H' := ak H
 clear H
 go_enter Tryd.func12, Tryd.ntmps12
 go_wp2
 go_loopg [1, 5] k (fun kq v1 v5 w' => ∃ (x1_1 : Int) (x5_1 : Int), v1 = .int .i64 x1_1 ∧ v5 = .int .i64 x5_1 ∧ Aside0 (laws_heldByteS.l0 kq l0 x1_1 x5_1 = some r) ∧ Aside0 (kq ≤ k) ∧ Drawn0 w w')
 case atStart => exact ⟨(a1), (0), o2, o2, H', ⟨Nat.le_refl _⟩, od⟩
 case round =>
  clear H'
  obtain ⟨x1_1, x5_1, rfl, rfl, HA, HK1, ⟨m1, rfl⟩⟩ := hrel
  cases gk with
  | zero => exact absurd HA.out (by simp [laws_heldByteS.l0])
  | succ k1 =>
   have H := HA.out
   clear HA
   simp only [laws_heldByteS.l0] at H
   replace H := ip H
   obtain ⟨c3b0, H⟩ | ⟨c3b0, H⟩ := H
   ·replace H := ipN H
    obtain ⟨c4b0, H⟩ := H
    replace H := ie H
    obtain ⟨c5b0, c5b1, H⟩ | ⟨c5b0, c5b1, H⟩ := H
    ·have H' := ak H
     clear H
     obtain ⟨ad101, rfl, hx101_0, p101, q101⟩ := el0_int HR0 x5_1
     go_wp2
     go_roundg k1
     case measure => have := HK1.out; omega
     case rel => exact ⟨(wrap64 (x1_1 + 1)), (wrap64 (x5_1 + 1)), o2, o2, H', ⟨by have := HK1.out; omega⟩, od⟩
    ·obtain rfl := Option.some.inj H
     obtain ⟨ad101, rfl, hx101_0, p101, q101⟩ := el0_int HR0 x5_1
     go_wp2
     go_ret
     exact ⟨o2, od⟩
   ·obtain rfl := Option.some.inj H
    go_wp2
    go_ret
    exact ⟨o2, od⟩

/-! ### laws_heldByteSS: function 44 -/
def laws_heldByteSS.l0 : Nat → List (List Int) → Int → Int → Option (Int)
 | 0, _, _, _ => none
 | k + 1, x0, x1, x5 => if x5 < (x0.length : Int) then (if 0 ≤ x5 then ((laws_heldByteS.f k (rd_L10 x0 x5) x1).bind fun t102 => (if t102 < 0 then (some (-1)) else (laws_heldByteSS.l0 k x0 t102 (wrap64 (x5 + 1))))) else (none)) else (some x1)
def laws_heldByteSS.f (k : Nat) (l0 : List (List Int)) (a1 : Int) : Option (Int) := laws_heldByteSS.l0 k l0 a1 0
set_option maxHeartbeats 8000000 in
set_option maxRecDepth 100000 in
theorem laws_heldByteSS.calls (k : Nat) (A0 : Option Addr) (c0 : Nat) (l0 : List (List Int)) (a1 : Int) (r : Int) (w : World) (hr0 : Kd.C (Kd.slice 5 (Kd.int .u8)) w A0 l0.length l0) (hc0 : l0.length ≤ c0) (h : laws_heldByteSS.f k l0 a1 = some r) :
  Calls Tryd.prog 44 #[.slice A0 l0.length c0, .int .i64 a1] w fun e w' => e = .returned (.int .i64 r) ∧ Drawn0 w w' := by
 have HR0 := ak hr0
 have HC0 := ak hc0
 clear hr0 hc0
 have H : (laws_heldByteSS.l0 k l0 a1 0) = some r := h
 clear h
 have H' := ak H
 clear H
 go_enter Tryd.func44, Tryd.ntmps44
 go_wp2
 go_loopg [1, 5] k (fun kq v1 v5 w' => ∃ (x1_1 : Int) (x5_1 : Int), v1 = .int .i64 x1_1 ∧ v5 = .int .i64 x5_1 ∧ Aside0 (laws_heldByteSS.l0 kq l0 x1_1 x5_1 = some r) ∧ Aside0 (kq ≤ k) ∧ Drawn0 w w')
 case atStart => exact ⟨(a1), (0), o2, o2, H', ⟨Nat.le_refl _⟩, od⟩
 case round =>
  clear H'
  obtain ⟨x1_1, x5_1, rfl, rfl, HA, HK1, ⟨m1, rfl⟩⟩ := hrel
  cases gk with
  | zero => exact absurd HA.out (by simp [laws_heldByteSS.l0])
  | succ k1 =>
   have H := HA.out
   clear HA
   simp only [laws_heldByteSS.l0] at H
   replace H := ip H
   obtain ⟨c3b0, H⟩ | ⟨c3b0, H⟩ := H
   ·replace H := ipN H
    obtain ⟨c4b0, H⟩ := H
    replace H := bnd H
    obtain ⟨t102, A5, H⟩ := H
    replace H := ip H
    obtain ⟨c6b0, H⟩ | ⟨c6b0, H⟩ := H
    ·obtain rfl := Option.some.inj H
     obtain ⟨ad101, A101_0, c101_0, rfl, hx101_0, HC101_0, HR101_0, p101, q101⟩ := el0_L10 HR0 x5_1
     go_wp2_with (((with_reducible refine gate_callee (f := 12) rfl ?_);refine glD 17 rfl rfl Tryd.func12 (laws_heldByteS.calls k1 _ _ (rd_L10 l0 x5_1) x1_1 t102 _ (cd HR101_0) HC101_0.out A5.out) (fun nd => ?_)))
     go_ret
     exact ⟨o2, od⟩
    ·have H' := ak H
     clear H
     obtain ⟨ad101, A101_0, c101_0, rfl, hx101_0, HC101_0, HR101_0, p101, q101⟩ := el0_L10 HR0 x5_1
     go_wp2_with (((with_reducible refine gate_callee (f := 12) rfl ?_);refine glD 17 rfl rfl Tryd.func12 (laws_heldByteS.calls k1 _ _ (rd_L10 l0 x5_1) x1_1 t102 _ (cd HR101_0) HC101_0.out A5.out) (fun nd => ?_)))
     go_roundg k1
     case measure => have := HK1.out; omega
     case rel => exact ⟨(t102), (wrap64 (x5_1 + 1)), o2, o2, H', ⟨by have := HK1.out; omega⟩, od⟩
   ·obtain rfl := Option.some.inj H
    go_wp2
    go_ret
    exact ⟨o2, od⟩

/-! ### laws_heldName: function 17 -/
def laws_heldName.f (k : Nat) (l0_0 : List (List Int)) (a1 : Int) : Option (Int) := (laws_heldByteSS.f k l0_0 a1).bind fun t102 => (if t102 < 0 then (some (-1)) else (some t102))
set_option maxHeartbeats 8000000 in
set_option maxRecDepth 100000 in
theorem laws_heldName.calls (k : Nat) (A0_0 : Option Addr) (c0_0 : Nat) (l0_0 : List (List Int)) (a1 : Int) (r : Int) (w : World) (hr0_0 : Kd.C (Kd.slice 5 (Kd.int .u8)) w A0_0 l0_0.length l0_0) (hc0_0 : l0_0.length ≤ c0_0) (h : laws_heldName.f k l0_0 a1 = some r) :
  Calls Tryd.prog 17 #[.agg #[.slice A0_0 l0_0.length c0_0], .int .i64 a1] w fun e w' => e = .returned (.int .i64 r) ∧ Below w.heap.size w w' := by
 have hu29 := Tryd.underlying29
 have HR0_0 := ak hr0_0
 have HC0_0 := ak hc0_0
 clear hr0_0 hc0_0
 have HB := ak (Below.refl w.heap.size w)
 have H : ((laws_heldByteSS.f k l0_0 a1).bind fun t102 => (if t102 < 0 then (some (-1)) else (some t102))) = some r := h
 clear h
 replace H := bnd H
 obtain ⟨t102, A3, H⟩ := H
 replace H := ip H
 obtain ⟨c4b0, H⟩ | ⟨c4b0, H⟩ := H
 ·obtain rfl := Option.some.inj H
  go_enter Tryd.func17, Tryd.ntmps17
  go_wp2_with (first | ((with_reducible refine gate_dst (N := 2) rfl ?_);refine bxd (N := 2) rfl HB ?_;clear HB;intro gb101 w5 hg HB BK101 GE101 hb;have GW101 := GE101;clear hb hg;obtain ⟨hcz6_0, hfz6_0⟩ := cells1 BK101.out) | ((with_reducible refine gate_callee (f := 44) rfl ?_);refine glD 8 rfl rfl Tryd.func44 (laws_heldByteSS.calls k _ _ l0_0 a1 t102 _ (cv HR0_0 HB) HC0_0.out A3.out) (fun nd => ?_)))
  go_ret
  exact ⟨o1, bs⟩
 ·obtain rfl := Option.some.inj H
  go_enter Tryd.func17, Tryd.ntmps17
  go_wp2_with (first | ((with_reducible refine gate_dst (N := 2) rfl ?_);refine bxd (N := 2) rfl HB ?_;clear HB;intro gb101 w7 hg HB BK101 GE101 hb;have GW101 := GE101;clear hb hg;obtain ⟨hcz8_0, hfz8_0⟩ := cells1 BK101.out) | ((with_reducible refine gate_callee (f := 44) rfl ?_);refine glD 8 rfl rfl Tryd.func44 (laws_heldByteSS.calls k _ _ l0_0 a1 t102 _ (cv HR0_0 HB) HC0_0.out A3.out) (fun nd => ?_)))
  go_ret
  exact ⟨o1, bs⟩

/-- The marks 1, 2, .. over a name. -/
def mkN (r : List (List Int)) : List (List Int) := laws_markByteSS.all 1 r
theorem mkN_len (r : List (List Int)) : (mkN r).length = r.length := laws_markByteSS.all_len r 1
set_option maxHeartbeats 8000000 in
set_option maxRecDepth 100000 in
theorem reverse_law (k : Nat) (a0 : Int) (r : List (List Int)) (b : Bool) (w : World) (hT : TabA w) (hs : spec_Reverse.f k a0 = some (r, b)) (hi : impl_Reverse.f a0 = some (r, b)) (he : laws_eqName.f k r r = some true)
    (hl : laws_markByteSS.sum r ≤ 1000) (hh : laws_heldName.f k (mkN r) 1 = some (1 + (laws_markByteSS.sum r : Int))) :
    Calls Tryd.prog 4 #[.int .i64 a0] w fun e w' => e = .returned (.bool true) ∧ Below w.heap.size w w' := by
  have HT := ak hT
  have HS := ak hs
  have HI := ak hi
  have HE := ak he
  have HL := ak hl
  have HH := ak hh
  clear hT hs hi he hl hh
  go_enter Tryd.func4, Tryd.ntmps4
  go_wp2_with (fail)
  refine (spec_Reverse.calls k a0 r b w HS.out).mono ?_
  rintro e w1 ⟨v0, rfl, ho, hb⟩
  have HB := ak hb
  obtain ⟨A0, c0, rfl, hc, hC⟩ := Kd.N_reads ho
  have HC0 := ak hc
  have HC := ak hC
  clear ho hb hc hC
  go_wp2_with (fail)
  obtain ⟨W2, hW2⟩ : ∃ W, W = w1.alloc (.cells #[.slice A0 r.length c0] 29) := ⟨_, rfl⟩
  obtain ⟨b3, hb3⟩ : ∃ b, b = w1.heap.size := ⟨_, rfl⟩
  have B3 := ak (show W2.heap[b3]? = some (.cells #[.slice A0 r.length c0] 29 (0, 0)) by rw [hW2, hb3]; exact heap_alloc_new w1 _)
  have HB2 := ak (show Below w.heap.size w W2 by rw [hW2]; exact below_alloc HB.out _)
  have HC2 := ak (show Kd.C (Kd.slice 5 (Kd.int .u8)) W2 A0 r.length r by rw [hW2]; exact Kd.C_alloc HC.out _)
  rw [← hW2, ← hb3]
  clear hW2 hb3 HB HC
  refine (impl_Reverse.calls a0 r b W2 HI.out (tab_below HT.out HB2.out)).mono ?_
  rintro e w3 ⟨v1, rfl, ⟨ps, hz⟩, hb⟩
  obtain ⟨A1, c1, rfl, _⟩ := hz.reads
  have HB23 := ak hb
  have HB3 := b2s HB2.out hb
  have hc3 : ∀ o, (w3.alloc o).cell? ⟨b3, 0, none⟩ = some (.slice A0 r.length c0) := fun o => (blk_cell (blk_alloc (blk_below B3.out hb) o) 0).trans rfl
  obtain ⟨W4, hW4⟩ : ∃ W, W = w3.alloc (.cells #[.slice A1 r.length c1] 29) := ⟨_, rfl⟩
  obtain ⟨b5, hb5⟩ : ∃ b, b = w3.heap.size := ⟨_, rfl⟩
  have B5 := ak (show W4.heap[b5]? = some (.cells #[.slice A1 r.length c1] 29 (0, 0)) by rw [hW4, hb5]; exact heap_alloc_new w3 _)
  have HB34 := ak (show Below w3.heap.size w3 W4 by rw [hW4]; exact below_alloc (Below.refl _ _) _)
  have B34 := ak (blk_below (blk_below B3.out hb) HB34.out)
  have HZ := ak (show NZ W2.heap.size b5 W4 (.slice A1 r.length c1) r ps by rw [hb5]; exact NZ.below hz HB34.out)
  have HC4 := ak (Kd.C_below (Kd.C_below HC2.out hb) HB34.out)
  have N3 := ak (blk_lt B3.out)
  have N5 := ak (show W2.heap.size ≤ b5 by rw [hb5]; exact hb.size)
  have HB4 := b2s HB3.out HB34.out
  have HB24 := ak (below_step hb HB34.out)
  have HC1 := ak (show r.length ≤ c1 from by obtain ⟨A, c, e, h, _⟩ := HZ.out.reads; injection e with _ _ e; rw [e]; exact h)
  have HCZ := ak (show Kd.C (Kd.slice 5 (Kd.int .u8)) W4 A1 r.length r from by obtain ⟨A, c, e, _, h⟩ := HZ.out.reads; injection e with e _ _; rw [e]; exact h)
  clear hz hb HB23 HB3 HB34
  go_wp2_with (fail)
  rw [← hW4, ← hb5]
  clear hW4 hb5 hc3
  refine (laws_eqName.calls k A1 c1 r A0 c0 r true W4 HCZ.out HC1.out HC4.out HC0.out HE.out).mono ?_
  rintro e w5 ⟨rfl, hb⟩
  replace HB4 := b2s HB4.out hb
  replace HB24 := b2s HB24.out hb
  replace B34 := ak (blk_below B34.out hb)
  replace B5 := ak (blk_below B5.out hb)
  replace HZ := ak (NZ.below HZ.out hb)
  have h5 : w5.cell? ⟨b5, 0, none⟩ = some (.slice A1 r.length c1) := (blk_cell B5.out 0).trans rfl
  have hbb : (b != b) = false := by cases b <;> rfl
  clear hb HCZ
  go_wp2_with (fail)
  refine (nz_markName (.slice A1 r.length c1) r ps 1 b5 W2 w5 HB24.out HZ.out (by omega) (by have := HL.out; omega)).mono ?_
  rintro e w6 ⟨rfl, hk, hb, hz⟩
  have B36 := ak ((hb.block b3 N3.out).trans B3.out)
  have B56 := ak (blk_kept B5.out hk (fun h => by
    have := blk_lt B5.out
    rcases h with h | h
    · exact Nat.lt_irrefl _ h.2
    · omega))
  have HC6 := ak (Kd.C_below HC2.out hb)
  have HB6 := ak (below_step HB2.out hb)
  have HZ6 := ak (show NZ W2.heap.size b5 w6 (.slice A1 r.length c1) (mkN r) ps from hz)
  obtain ⟨m, hm⟩ : ∃ m : Int, (laws_markByteSS.sum r : Int) = m := ⟨_, rfl⟩
  have hm0 : 0 ≤ m := by omega
  rw [hm] at HH ⊢
  clear hm hk hb hz B34 B5 HZ HB24 HB4 HC4 h5 hbb
  have h6 : w6.cell? ⟨b5, 0, none⟩ = some (.slice A1 r.length c1) := (blk_cell B56.out 0).trans rfl
  have hcall := laws_heldName.calls k A1 c1 (mkN r) 1 (1 + m) w6 (by obtain ⟨A, c, e, _, h⟩ := HZ6.out.reads; injection e with e _ _; rw [e]; exact h) (by rw [mkN_len]; exact HC1.out) HH.out
  rw [mkN_len] at hcall
  have HCALL := ak hcall
  clear hcall
  go_wp2_with (fail)
  refine HCALL.out.mono ?_
  rintro e w7 ⟨rfl, hb⟩
  replace B36 := ak (blk_below B36.out hb)
  replace B56 := ak (blk_below B56.out hb)
  replace HC6 := ak (Kd.C_below HC6.out hb)
  replace HZ6 := ak (NZ.below HZ6.out hb)
  replace HB6 := b2s HB6.out hb
  have hng : ¬ (1 + m < 0) := by omega
  clear hb HCALL h6
  go_wp2_with (fail)
  refine (impl_Reverse.calls a0 r b w7 HI.out (tab_below HT.out HB6.out)).mono ?_
  rintro e w8 ⟨v2, rfl, ⟨ps2, hz⟩, hb⟩
  obtain ⟨A2, c2, rfl, h2, hC2⟩ := hz.reads
  replace B36 := ak (blk_below B36.out hb)
  replace B56 := ak (blk_below B56.out hb)
  replace HC6 := ak (Kd.C_below HC6.out hb)
  replace HZ6 := ak (NZ.below HZ6.out hb)
  replace HB6 := b2s HB6.out hb
  have HCH := ak hC2
  have HCL := ak h2
  have hc3 : ∀ o, (w8.alloc o).cell? ⟨b3, 0, none⟩ = some (.slice A0 r.length c0) := fun o => (blk_cell (blk_alloc B36.out o) 0).trans rfl
  clear hz hb hC2 h2
  obtain ⟨W9, hW9⟩ : ∃ W, W = w8.alloc (.cells #[.slice A2 r.length c2] 29) := ⟨_, rfl⟩
  have HB89 := ak (show Below w8.heap.size w8 W9 by rw [hW9]; exact below_alloc (Below.refl _ _) _)
  go_wp2_with (fail)
  rw [← hW9]
  clear hW9 hc3
  replace B56 := ak (blk_below B56.out HB89.out)
  replace HC6 := ak (Kd.C_below HC6.out HB89.out)
  replace HCH := ak (Kd.C_below HCH.out HB89.out)
  replace HZ6 := ak (NZ.below HZ6.out HB89.out)
  replace HB6 := b2s HB6.out HB89.out
  refine (laws_eqName.calls k A2 c2 r A0 c0 r true W9 HCH.out HCL.out HC6.out HC0.out HE.out).mono ?_
  rintro e w10 ⟨rfl, hb⟩
  replace B56 := ak (blk_below B56.out hb)
  replace HZ6 := ak (NZ.below HZ6.out hb)
  replace HB6 := b2s HB6.out hb
  have h10 : w10.cell? ⟨b5, 0, none⟩ = some (.slice A1 r.length c1) := (blk_cell B56.out 0).trans rfl
  have hbb : (b != b) = false := by cases b <;> rfl
  have hcall := laws_heldName.calls k A1 c1 (mkN r) 1 (1 + m) w10 (by obtain ⟨A, c, e, _, h⟩ := HZ6.out.reads; injection e with e _ _; rw [e]; exact h) (by rw [mkN_len]; exact HC1.out) HH.out
  rw [mkN_len] at hcall
  have HCALL := ak hcall
  clear hb hcall HC6 HCH HB89
  go_wp2_with (fail)
  refine HCALL.out.mono ?_
  rintro e w11 ⟨rfl, hb⟩
  replace HB6 := b2s HB6.out hb
  clear hb HCALL h10
  go_wp2
  go_ret
  exact ⟨rfl, HB6.out⟩

/-! ### laws_markByteS: function 11 -/

/-! ### spec_l1dotted: function 36 -/
/-! ### spec_Dotted: function 8 -/
/-! ### laws_FnExactDotted: function 3 -/
end Go.Proofs.YtkmchjdioplfjaaDoor.Q
