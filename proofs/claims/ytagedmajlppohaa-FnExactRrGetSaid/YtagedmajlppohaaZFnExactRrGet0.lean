/- Printed by a program of this session (wip/myprint.py), which drives the kit's printer: functions and what their calls do. -/
import Derived.Test.YtagedmajlppohaaProg
import Derived.Below
import Derived.Deep.Draws
import Derived.Deep.AppendLies
import Derived.Maps.AppendAt
import Derived.OwnWalk
import Derived.Laws.BytesArg
import Derived.Laws.MakeOwn
import Derived.Laws.OwnMore
import Derived.Deep.OwnRows
import Derived.Tactics
import Derived.Lib.ConvBytes
import Derived.Laws.Slices
import Derived.WalkKit
import Derived.KernelRfl
import Derived.RowKit3
import Derived.Deep.LoopGhost
import Derived.Deep.QuietTactic
import Derived.BigQuiet
import Derived.WideLaws
import Derived.Deep.DeepCutAuto
import Derived.Deep.CutBlock
import Derived.Deep.RegionHeld3
import Derived.Laws.Rows
import Derived.Lib.AppendStr
import Derived.ArgAppend
import Derived.Laws.IdiomCopy
import Derived.OrdersHeld
import Derived.Laws.BitsLemmas
import Derived.RowKit
import Derived.WalkSpells
import Derived.WalkLawsBesides
import Derived.Shelf.Abstract
import Derived.Test.YtagedmajlppohaaVFnExactRrGet
import Derived.Deep.RegionLaw
import Derived.Maps.Own
import Derived.Maps.Views
namespace Go.Proofs.Ytagedmajlppohaa.Q
open Go.RowKit Go Go.Proofs.YtagedmajlppohaaW.PrintWords Go.Proofs.YtagedmajlppohaaW.PrintLast Go.Proofs.YtagedmajlppohaaW.PrintMore

set_option linter.unusedVariables false
set_option linter.unusedSimpArgs false

theorem qlX : (Try.prog.info? 3).map (fun i => (i.zero, i.size, i.bytes)) = some (some (.int .i64 0), 1, 8) := by kernel_rfl
theorem Jd : (Try.prog.info? 5).map (fun i => (i.zero, i.size, i.bytes)) = some (some (.int .u8 0), 1, 1) := by kernel_rfl
theorem qdq : (Try.prog.info? 25).map (fun i => (i.zero, i.size, i.bytes)) = some (some (.slice none 0 0), 1, 24) := by kernel_rfl
-- the values' own types
/-! #### struct type 7 -/
/-! #### struct type 8 -/
/-! #### struct type 13 -/
/-! #### struct type 14 -/
def ja (xs : List (List Int)) (i : Int) : (List Int) := xs.getD i.toNat ([] : List Int)
theorem XJ {w : World} {A : Option Addr} {n : Nat} {xs : List (List Int)} (h : Kd.C (Kd.slice 5 (Kd.int .u8)) w A n xs) (i : Int) (h0 : 0 ≤ i) (h1 : i < n) : ∃ ad A0 c0, A = some ad ∧ w.cell? (ad.add i.toNat) = some (.slice A0 (ja xs i).length c0) ∧ (ja xs i).length ≤ c0 ∧ (Kd.int .u8).C w A0 (ja xs i).length (ja xs i) := by
  obtain ⟨ad, c, e, _, hK, hc0⟩ := Kd.C_get h ([] : List Int) i h0 h1;have hc : ∀ j u, c[j]? = some u → w.cell? (ad.add (i.toNat * 1 + j)) = some u := hc0;obtain ⟨A0, c0, rfl, l0, g0⟩ := hK;exact ⟨ad, A0, c0, e, by have hq := hc 0 _ rfl; rwa [Nat.mul_one, Nat.add_zero] at hq, l0, g0⟩

/-! #### struct type 23 -/
/-! #### struct type 24 -/
/-! #### struct type 27 -/
/-! #### struct type 28 -/
/-! #### struct type 31 -/
/-! #### struct type 32 -/
/-! #### struct type 33 -/
/-! #### struct type 53 -/
/-! #### struct type 54 -/
/-! #### struct type 58 -/
/-! #### struct type 59 -/
/-! #### struct type 190 -/
/-! #### struct type 73 -/
/-! #### struct type 74 -/
/-! #### struct type 141 -/
/-! #### struct type 78 -/
/-! #### struct type 79 -/
/-! #### struct type 195 -/
/-! #### struct type 198 -/
/-! #### struct type 85 -/
/-! #### struct type 86 -/
/-! #### struct type 200 -/
/-! #### struct type 205 -/
/-! #### struct type 91 -/
/-! #### struct type 92 -/
/-! #### struct type 122 -/
/-! #### struct type 123 -/
/-! #### struct type 140 -/
/-! #### struct type 179 -/
/-! #### struct type 180 -/
/-! #### struct type 189 -/
/-! #### struct type 194 -/
/-! #### struct type 197 -/
/-! #### struct type 199 -/
/-! #### struct type 204 -/
/-- One world is another one with blocks made and draws taken. -/
def Gr (A W : World) : Prop := Below A.heap.size A W
instance Gr.refl_ (A : World) : Nonempty (Gr A A) := ⟨Below.refl _ _⟩
instance Gr.alloc_ (A W : World) (o : Obj) [h : Nonempty (Gr A W)] : Nonempty (Gr A (W.alloc o)) := h.elim fun h => ⟨below_alloc h o⟩
instance Gr.drew_ (A W : World) [h : Nonempty (Gr A W)] : Nonempty (Gr A W.drew) := h.elim fun h => ⟨below_drew h⟩
instance Gr.drewN_ (A W : World) (n : Nat) [h : Nonempty (Gr A W)] : Nonempty (Gr A (W.drewN n)) := h.elim fun h => ⟨pw_below_drewN h n⟩
section
variable {α : Type} {d : Kd α} {e base n : Nat} {ok : Nat → Prop} {w W W' : World} {v : Value} {xs : List α} {A : Option Addr}
theorem bw (h : Below w.heap.size w W) [g : Nonempty (Gr W W')] : Below w.heap.size w W' := g.elim fun g => below_step h g
theorem bk {g : Nat} {o : Obj} (h : W.heap[g]? = some o) [k : Nonempty (Gr W W')] : W'.heap[g]? = some o := k.elim fun k => blk_below h k
theorem cw (h : d.C w A n xs) (hb : Below w.heap.size w W) [g : Nonempty (Gr W W')] : d.C W' A n xs := Kd.C_below h (bw hb)
theorem rw_ (h : d.R e W base ok v xs) [g : Nonempty (Gr W W')] : d.R e W' base ok v xs := g.elim fun g => Kd.R_below h g
theorem sw (h : d.S e W base ok v xs) [g : Nonempty (Gr W W')] : d.S e W' base ok v xs := g.elim fun g => Kd.S_below h g
end
section
variable {W : World} {g t : Nat} {a b c d e f x y z : Value}
theorem cells1 (h : W.heap[g]? = some (.cells #[a] t (0, 0))) : W.cell? ⟨g, 0, none⟩ = some a ∧ W.frozen? ⟨g, 0, none⟩ = false := ⟨(blk_cell h 0).trans rfl, blk_frozen h 0⟩
theorem cells7 (h : W.heap[g]? = some (.cells #[a, b, c, d, e, f, x] t (0, 0))) : W.cell? ⟨g, 0, none⟩ = some a ∧ W.cell? ⟨g, 1, none⟩ = some b ∧ W.cell? ⟨g, 2, none⟩ = some c ∧ W.cell? ⟨g, 3, none⟩ = some d ∧ W.cell? ⟨g, 4, none⟩ = some e ∧ W.cell? ⟨g, 5, none⟩ = some f ∧ W.cell? ⟨g, 6, none⟩ = some x ∧ W.frozen? ⟨g, 0, none⟩ = false ∧ W.frozen? ⟨g, 1, none⟩ = false ∧ W.frozen? ⟨g, 2, none⟩ = false ∧ W.frozen? ⟨g, 3, none⟩ = false ∧ W.frozen? ⟨g, 4, none⟩ = false ∧ W.frozen? ⟨g, 5, none⟩ = false ∧ W.frozen? ⟨g, 6, none⟩ = false :=
  ⟨(blk_cell h 0).trans rfl, (blk_cell h 1).trans rfl, (blk_cell h 2).trans rfl, (blk_cell h 3).trans rfl, (blk_cell h 4).trans rfl, (blk_cell h 5).trans rfl, (blk_cell h 6).trans rfl, blk_frozen h 0, blk_frozen h 1, blk_frozen h 2, blk_frozen h 3, blk_frozen h 4, blk_frozen h 5, blk_frozen h 6⟩
end
section
variable {P : Program} {ops : Array Oper} {rest : List Oper} {o : Oper} {a : Act} {Q : Exit → Act → World → Prop}
/-- A struct's variable is made. -/
theorem boxed {w W0 W : World} {N : Tmp} (_hN : o.dst = some N) (hgd : o.guard = none) {cs : Array Value} {t : TypeId} (hB : Below w.heap.size w W0) [gr : Nonempty (Gr W0 W)]
    (hrun : (execOp a.eval o).run P W = .ok (.value (.pointer (some ⟨W.heap.size, 0, none⟩))) (W.alloc (.cells cs t (0, 0))))
    (h : ∀ g, ∀ w1, g = W.heap.size → Aside0 (Below w.heap.size w w1) → Aside0 (w1.heap[g]? = some (.cells cs t (0, 0))) → Aside0 (w.heap.size ≤ g) → Below W.heap.size W w1 → wpList P ops Q rest (a.put o.dst (.pointer (some ⟨g, 0, none⟩))) w1) : wpList P ops Q (o :: rest) a W := by
  have hB' : Below w.heap.size w W := bw hB;exact box_event hgd _hN hrun (fun g hg w1 hbox hb => h g w1 hg ⟨below_step hB' hb⟩ ⟨hbox⟩ ⟨by rw [hg]; exact hB'.size⟩ hb)
end
section
variable {α : Type} {d : Kd α} {e base g k t : Nat} {ok : Nat → Prop} {W : World} {v : Value} {xs : List α} {cs : Array Value} {l : List Nat}
end
/-- Which operations of a region are done: n places, told by a number's bits. -/
def bA (n m : Nat) : Array Bool := ((List.range n).map fun i => m.testBit i).toArray
section
variable {α : Type} {d : Kd α} {e base g g' t : Nat} {ok : Nat → Prop} {W W1 : World} {v : Value} {xs : List α} {cs : Array Value} {fr : Nat × Nat}
theorem qdg {v0 : Value} (hn : g ≠ g') (h : W.heap[g]? = some (.cells cs t (0, 0))) [k : Nonempty (Gr W W1)] : (W1.setCell ⟨g', 0, none⟩ v0).heap[g]? = some (.cells cs t (0, 0)) := (blk_far (bk h) hn _)
theorem zx {v0 z0 : Value} (h : W.heap[g]? = some (.cells #[z0] t (0, 0))) [k : Nonempty (Gr W W1)] : (W1.setCell ⟨g, 0, none⟩ v0).heap[g]? = some (.cells #[v0] t (0, 0)) := (blk_put (cs' := #[v0]) (bk h) 0 v0 rfl)
theorem Jx {v0 v1 v2 v3 v4 z0 z1 z2 z3 z4 : Value} (h : W.heap[g]? = some (.cells #[z0, z1, z2, z3, z4] t (0, 0))) [k : Nonempty (Gr W W1)] : (((((W1.setCell ⟨g, 0, none⟩ v0).setCell ⟨g, 1, none⟩ v1).setCell ⟨g, 2, none⟩ v2).setCell ⟨g, 3, none⟩ v3).setCell ⟨g, 4, none⟩ v4).heap[g]? = some (.cells #[v0, v1, v2, v3, v4] t (0, 0)) := (blk_put (cs' := #[v0, v1, v2, v3, v4]) (blk_put (cs' := #[v0, v1, v2, v3, z4]) (blk_put (cs' := #[v0, v1, v2, z3, z4]) (blk_put (cs' := #[v0, v1, z2, z3, z4]) (blk_put (cs' := #[v0, z1, z2, z3, z4]) (bk h) 0 v0 rfl) 1 v1 rfl) 2 v2 rfl) 3 v3 rfl) 4 v4 rfl)
theorem yo {v0 v1 v2 v3 v4 v5 v6 : Value} (hn : g ≠ g') (h : W.heap[g]? = some (.cells cs t (0, 0))) [k : Nonempty (Gr W W1)] : (((((((W1.setCell ⟨g', 0, none⟩ v0).setCell ⟨g', 1, none⟩ v1).setCell ⟨g', 2, none⟩ v2).setCell ⟨g', 3, none⟩ v3).setCell ⟨g', 4, none⟩ v4).setCell ⟨g', 5, none⟩ v5).setCell ⟨g', 6, none⟩ v6).heap[g]? = some (.cells cs t (0, 0)) := (blk_far (blk_far (blk_far (blk_far (blk_far (blk_far (blk_far (bk h) hn _) hn _) hn _) hn _) hn _) hn _) hn _)
theorem qM {v0 v1 v2 v3 v4 v5 v6 z0 z1 z2 z3 z4 z5 z6 : Value} (h : W.heap[g]? = some (.cells #[z0, z1, z2, z3, z4, z5, z6] t (0, 0))) [k : Nonempty (Gr W W1)] : (((((((W1.setCell ⟨g, 0, none⟩ v0).setCell ⟨g, 1, none⟩ v1).setCell ⟨g, 2, none⟩ v2).setCell ⟨g, 3, none⟩ v3).setCell ⟨g, 4, none⟩ v4).setCell ⟨g, 5, none⟩ v5).setCell ⟨g, 6, none⟩ v6).heap[g]? = some (.cells #[v0, v1, v2, v3, v4, v5, v6] t (0, 0)) := (blk_put (cs' := #[v0, v1, v2, v3, v4, v5, v6]) (blk_put (cs' := #[v0, v1, v2, v3, v4, v5, z6]) (blk_put (cs' := #[v0, v1, v2, v3, v4, z5, z6]) (blk_put (cs' := #[v0, v1, v2, v3, z4, z5, z6]) (blk_put (cs' := #[v0, v1, v2, z3, z4, z5, z6]) (blk_put (cs' := #[v0, v1, z2, z3, z4, z5, z6]) (blk_put (cs' := #[v0, z1, z2, z3, z4, z5, z6]) (bk h) 0 v0 rfl) 1 v1 rfl) 2 v2 rfl) 3 v3 rfl) 4 v4 rfl) 5 v5 rfl) 6 v6 rfl)
end

section
variable {α β : Type} {A B r : Option α}
theorem bnd {o : Option β} {f : β → Option α} {r : α} (h : o.bind f = some r) : ∃ x, Aside0 (o = some x) ∧ f x = some r := (Option.bind_eq_some_iff.mp h).elim fun x h => ⟨x, ⟨h.1⟩, h.2⟩
theorem bnS {x : β} {f : β → Option α} (h : (some x).bind f = r) : f x = r := h
theorem ib {t : Bool} (h : (if t = true then A else B) = r) : (t = true ∧ A = r) ∨ (t = false ∧ B = r) := by cases t; exact .inr ⟨rfl, h⟩; exact .inl ⟨rfl, h⟩
section
variable {p : Prop} [Decidable p]
theorem iq (h : (if p then A else B) = r) : (p ∧ A = r) ∨ (¬ p ∧ B = r) := by
  by_cases c : p
  · exact .inl ⟨c, by rwa [if_pos c] at h⟩
  · exact .inr ⟨c, by rwa [if_neg c] at h⟩
theorem iqN {r : α} (h : (if p then A else none) = some r) : p ∧ A = some r := by
  obtain h | h := iq h
  · exact h
  · cases h.2
theorem ip (h : (if p then A else B) = r) : (decide p = true ∧ A = r) ∨ (decide p = false ∧ B = r) := (iq h).imp (fun h => ⟨decide_eq_true h.1, h.2⟩) (fun h => ⟨decide_eq_false h.1, h.2⟩)
theorem ipN {r : α} (h : (if p then A else none) = some r) : decide p = true ∧ A = some r := ⟨decide_eq_true (iqN h).1, (iqN h).2⟩
theorem ipE {r : α} (h : (if p then A else none) = some r) : p = True ∧ decide p = true ∧ A = some r := ⟨eq_true (iqN h).1, decide_eq_true (iqN h).1, (iqN h).2⟩
end
section
variable {a b : Int}
theorem ig (h : (if a > b then A else B) = r) : (decide (b < a) = true ∧ A = r) ∨ (decide (b < a) = false ∧ B = r) := ip h
theorem ih (h : (if a ≥ b then A else B) = r) : (decide (b ≤ a) = true ∧ A = r) ∨ (decide (b ≤ a) = false ∧ B = r) := ip h
end
section
variable {τ : Type} [BEq τ] [LawfulBEq τ] {a b : τ} [Decidable (a = b)]
theorem ie (h : (if a = b then A else B) = r) : ((a == b) = true ∧ (a != b) = false ∧ A = r) ∨ ((a == b) = false ∧ (a != b) = true ∧ B = r) := (iq h).imp (fun h => ⟨beq_iff_eq.mpr h.1, bne_eq_false_iff_eq.mpr h.1, h.2⟩) (fun h => ⟨beq_eq_false_iff_ne.mpr h.1, bne_iff_ne.mpr h.1, h.2⟩)
end
end
theorem lnT {a b : Nat} (h : ((a : Int) == (b : Int)) = true) : (a == b) = true := by have := beq_iff_eq.mp h; exact beq_iff_eq.mpr (by omega)
theorem lnF {a b : Nat} (h : ((a : Int) == (b : Int)) = false) : (a == b) = false := by have := beq_eq_false_iff_ne.mp h; exact beq_eq_false_iff_ne.mpr (by omega)
section
variable {α : Type} {d : Kd α} {e base n g t : Nat} {ok : Nat → Prop} {w W W' W2 : World} {v : Value} {xs : List α} {A : Option Addr} {o : Obj}
theorem ak {p : Prop} (h : p) : Aside0 p := ⟨h⟩
theorem cv (h : Aside0 (d.C w A n xs)) (hb : Aside0 (Below w.heap.size w W)) [Nonempty (Gr W W')] : d.C W' A n xs := cw h.out hb.out
theorem cd (h : Aside0 (d.C w A n xs)) [g : Nonempty (Gr w W')] : d.C W' A n xs := g.elim fun g => Kd.C_below h.out g
theorem b1 (h : Aside0 (W.heap[g]? = some o)) [Nonempty (Gr W W')] (hb : Below W'.heap.size W' W2) : Aside0 (W2.heap[g]? = some o) := ⟨blk_below (bk h.out) hb⟩
theorem b2 (h : Aside0 (Below w.heap.size w W)) [Nonempty (Gr W W')] (hb : Below W'.heap.size W' W2) : Aside0 (Below w.heap.size w W2) := ⟨below_step (bw h.out) hb⟩
theorem b2s (h : Below w.heap.size w W) (hb : Below W.heap.size W W2) : Aside0 (Below w.heap.size w W2) := ⟨below_step h hb⟩
theorem b3s (hg : g = W.heap.size) (h : Below w.heap.size w W) : Aside0 (w.heap.size ≤ g) := ⟨by rw [hg]; exact below_size h⟩
theorem b4 {g1 : Nat} (hg : g = W'.heap.size) (h : Aside0 (W.heap[g1]? = some o)) [Nonempty (Gr W W')] : Aside0 (g1 ≠ g) := ⟨by rw [hg]; exact Nat.ne_of_lt (blk_lt (bk h.out))⟩
theorem b5 {g1 : Nat} (hg : g = W'.heap.size) (h : Aside0 (W.heap[g1]? = some o)) [Nonempty (Gr W W')] : Aside0 (g ≠ g1) := ⟨by rw [hg]; exact Nat.ne_of_gt (blk_lt (bk h.out))⟩
end
/-- What was is still as it was: through stores into blocks that were made since. -/
theorem bs {p : Prop} (h : p := by repeat (first | (with_reducible refine below_set ?_ (Aside0.out (by with_reducible assumption))) | exact bw HB.out)) : p := h
theorem o1 {p : Prop} (h : p := by first | rfl | (simp [errW_none, errW_some] <;> rfl) | (simp [*, errW_none, errW_some] <;> rfl)) : p := h
theorem o2 {p : Prop} (h : p := by first | rfl | (simp; done) | (simp [*]; done)) : p := h
theorem od {p : Prop} (h : p := by repeat (first | exact Drawn0.refl _ | apply Drawn0.step)) : p := h
theorem kq {p : Prop} (h : p := by (repeat' apply And.intro) <;> first | (with_reducible assumption) | exact (blk_cell (Aside0.out (by with_reducible assumption)) _).trans rfl | exact pw_cell_below HB.out (by with_reducible assumption)) : p := h
theorem o3 {p : Prop} (h : p := by first | omega | exact Nat.le_refl _) : p := h
section
variable {P : Program} {ops : Array Oper} {rest : List Oper} {oi : Oper} {a : Act} {Q : Exit → Act → World → Prop}
/-- A call. -/
theorem glG {w : World} (N : Tmp) (hd : oi.dst = some N) {f : FuncId} {fn : Func} {zs : Array Operand} {ts : Array TypeId} (hop : oi.op = .call { callee := .value (.func f), args := zs, argTypes := ts }) (hf : P.funcs[f]? = some fn) {args : Array Value} {R : Ending → World → Prop} (hc : Calls P f args w R)
    (h : ∀ e w', R e w' → ∃ v, e = .returned v ∧ wpList P ops Q rest (a.put (some N) v) w') (hg : oi.guard = none := by rfl)
    (hname : (fn.name == "runtime.NumGoroutine") = false := by kernel_rfl) (hb : fn.body.isSome = true := by rfl)
    (hargs : zs.map a.eval = args := by (try simp only [List.map_toArray, List.map_cons, List.map_nil]); first | done | rfl | (simp only [List.length_drop, List.length_take]; rfl)) : wpList P ops Q (oi :: rest) a w :=
  goesL_ (some N) hd hg hf hname hb args hop hargs (hc.mono h)
theorem glD {w : World} (N : Tmp) (hd : oi.dst = some N) {f : FuncId} {fn : Func} {zs : Array Operand} {ts : Array TypeId} (hop : oi.op = .call { callee := .value (.func f), args := zs, argTypes := ts }) (hf : P.funcs[f]? = some fn) {args : Array Value} {v : Value} (hc : Calls P f args w fun e w' => e = .returned v ∧ Drawn0 w w')
    (h : ∀ nd, wpList P ops Q rest (a.put (some N) v) (w.drewN nd)) (hg : oi.guard = none := by rfl)
    (hname : (fn.name == "runtime.NumGoroutine") = false := by kernel_rfl) (hb : fn.body.isSome = true := by rfl)
    (hargs : zs.map a.eval = args := by (try simp only [List.map_toArray, List.map_cons, List.map_nil]); first | done | rfl | (simp only [List.length_drop, List.length_take]; rfl)) : wpList P ops Q (oi :: rest) a w :=
  goesL_ (some N) hd hg hf hname hb args hop hargs (hc.mono fun e w' h2 => ⟨v, h2.1, by obtain ⟨nd, rfl⟩ := h2.2; exact h nd⟩)
theorem glB {w : World} (N : Tmp) (hd : oi.dst = some N) {f : FuncId} {fn : Func} {zs : Array Operand} {ts : Array TypeId} (hop : oi.op = .call { callee := .value (.func f), args := zs, argTypes := ts }) (hf : P.funcs[f]? = some fn) {args : Array Value} {v : Value} (hc : Calls P f args w fun e w' => e = .returned v ∧ Below w.heap.size w w')
    (h : ∀ w', Below w.heap.size w w' → wpList P ops Q rest (a.put (some N) v) w') (hg : oi.guard = none := by rfl)
    (hname : (fn.name == "runtime.NumGoroutine") = false := by kernel_rfl) (hb : fn.body.isSome = true := by rfl)
    (hargs : zs.map a.eval = args := by (try simp only [List.map_toArray, List.map_cons, List.map_nil]); first | done | rfl | (simp only [List.length_drop, List.length_take]; rfl)) : wpList P ops Q (oi :: rest) a w :=
  goesL_ (some N) hd hg hf hname hb args hop hargs (hc.mono fun e w' h2 => ⟨v, h2.1, h w' h2.2⟩)
end
section
variable {P : Program} {ops : Array Oper} {oi : Oper} {Q : Exit → Act → World → Prop} {md : Region.Mode} {S : World → Prop} {ds : List Nat} {T : Bool × List (List Nat × List Nat)} {n m fuel : Nat} {a a' : Act} {w : World}
/-- Steps of a region: one that yields a value; one that is not wanted; a load; a call. -/
theorem pu (hT : Aside0 (rtab md ops = T)) (i : Nat) {N : Nat} {v : Value} (h : wpAnyLast P md ops Q S ds fuel (bA n (m + 2 ^ i)) a' w) (hi : ops[i]? = some oi := by rfl) (hN : oi.dst = some N := by rfl)
    (hc : anyT T (bA n m).toList (bA n (m + 2 ^ i)).toList i = true := by kernel_rfl) (hw : Region.wanted oi (yielded ops a.tmps) = true := by rfl)
    (hy : ∀ w, (execOp a.eval oi).run P w = .ok (.value v) w := by intro w'; go_simp; with_reducible rfl) (ha : a.put (some N) v = a' := by go_simp; rfl)
    (hQ : ∀ c a w, Q (.panic c) (a.put oi.dst v) w → Q (.panic c) a w := by exact fun _ _ _ h => h) : wpAnyLast P md ops Q S ds (fuel + 1) (bA n m) a w :=
  pure_ (i := i) _ hi hN (any_of hT.out hc) hQ (.inl ⟨hw, hy⟩) ha h
theorem sk (hT : Aside0 (rtab md ops = T)) (i : Nat) {N : Nat} (h : wpAnyLast P md ops Q S ds fuel (bA n (m + 2 ^ i)) a' w) (hi : ops[i]? = some oi := by rfl) (hN : oi.dst = some N := by rfl)
    (hc : anyT T (bA n m).toList (bA n (m + 2 ^ i)).toList i = true := by kernel_rfl) (hw : Region.wanted oi (yielded ops a.tmps) = false := by rfl) (ha : a.put (some N) undef = a' := by go_simp; rfl)
    (hQ : ∀ c a w, Q (.panic c) (a.put oi.dst undef) w → Q (.panic c) a w := by exact fun _ _ _ h => h) : wpAnyLast P md ops Q S ds (fuel + 1) (bA n m) a w :=
  pure_ (i := i) _ hi hN (any_of hT.out hc) hQ (.inr ⟨hw, rfl⟩) ha h
theorem ta {B : List Nat} (hT : Aside0 (rtab md ops = T)) (hB : Aside0 (waitsOk T.2 B = true)) (hS : S w) (i : Nat) {N : Nat} {v : Value} (h : wpAnyLast P md ops Q S ds fuel (bA n (m + 2 ^ i)) a' w) (hi : ops[i]? = some oi := by rfl) (hN : oi.dst = some N := by rfl)
    (hc : takeW T B ds (bA n m).toList (bA n (m + 2 ^ i)).toList i = true := by kernel_rfl) (hw : Region.wanted oi (yielded ops a.tmps) = true := by rfl)
    (hy : ∀ w, S w → (execOp a.eval oi).run P w = .ok (.value v) w := by intro w' hS; (repeat (obtain ⟨_, hS⟩ := hS)); go_simp; with_reducible rfl) (ha : a.put (some N) v = a' := by go_simp; rfl)
    (hQ : ∀ c a w, Q (.panic c) (a.put oi.dst v) w → Q (.panic c) a w := by exact fun _ _ _ h => h) : wpAnyLast P md ops Q S ds (fuel + 1) (bA n m) a w :=
  take_ (i := i) _ hi hN (take_ofW hT.out hB.out hc) hQ (.inl ⟨hw, hy⟩) hS ha h
theorem on (hT : Aside0 (rtab md ops = T)) (i : Nat) {N : Option Tmp}
    (h : ∀ K : Act → World → Prop, Shut (∀ a' w', S w' → (S w' → wpAnyLast P md ops Q S ds fuel (bA n (m + 2 ^ i)) a' w') → K a' w') → if Region.wanted oi (yielded ops a.tmps) = true then Oper.wp P oi a w K Q else K (a.put N undef) w)
    (hi : ops[i]? = some oi := by rfl) (hN : oi.dst = N := by rfl) (hc : (readyT T.2 (bA n m).toList == [i] && (bA n m).toList.set i true == (bA n (m + 2 ^ i)).toList) = true := by kernel_rfl) (hd : i ∉ ds := by decide) : wpAnyLast P md ops Q S ds (fuel + 1) (bA n m) a w :=
  one_ (i := i) _ hi hN (one_of hT.out hc) hd h
theorem gsG {K : Act → World → Prop} {f : FuncId} {fn : Func} (hf : P.funcs[f]? = some fn) {zs : Array Operand} {ts : Array TypeId} {args : Array Value} {N : Option Tmp} {R : Ending → World → Prop} (hc : Calls P f args w R)
    (h : ∀ e w', R e w' → ∃ v, e = .returned v ∧ K (a.put N v) w') (hop : oi.op = .call { callee := .value (.func f), args := zs, argTypes := ts } := by rfl) (hN : oi.dst = N := by rfl) (hw : Region.wanted oi (yielded ops a.tmps) = true := by rfl)
    (hname : (fn.name == "runtime.NumGoroutine") = false := by kernel_rfl) (hb : fn.body.isSome = true := by rfl)
    (hargs : zs.map a.eval = args := by (try simp only [List.map_toArray, List.map_cons, List.map_nil]); first | done | rfl | (simp only [List.length_drop, List.length_take]; rfl)) : if Region.wanted oi (yielded ops a.tmps) = true then Oper.wp P oi a w K Q else K (a.put N undef) w :=
  goes_ hf hname hb args hw hN hop hargs (hc.mono h)
theorem kp {p : Prop} (h : p := by (have h_ := hHeld); (repeat (obtain ⟨_, h_⟩ := h_)); ((repeat' apply And.intro) <;> exact pw_cell_below hb (by with_reducible assumption))) : p := h
end
section
variable {P : Program} {ops : Array Oper} {rest : List Oper} {o : Oper} {a : Act} {Q : Exit → Act → World → Prop}
/-- A struct's variable is made. -/
theorem bxe {W : World} {N : Tmp} (hd : o.dst = some N) {cs : Array Value} {t : TypeId}
    (h : ∀ g, g = W.heap.size → ∀ w1, w1.heap[g]? = some (.cells cs t (0, 0)) → Below W.heap.size W w1 → wpList P ops Q rest (a.put o.dst (.pointer (some ⟨g, 0, none⟩))) w1) (hgd : o.guard = none := by rfl)
    (hrun : (execOp a.eval o).run P W = .ok (.value (.pointer (some ⟨W.heap.size, 0, none⟩))) (W.alloc (.cells cs t (0, 0))) := by first | (go_simp; done) | (go_simp; rfl)) : wpList P ops Q (o :: rest) a W := box_event hgd hd hrun h
theorem bxd {w W0 W : World} {N : Tmp} (hd : o.dst = some N) {cs : Array Value} {t : TypeId} (hB : Aside0 (Below w.heap.size w W0)) [gr : Nonempty (Gr W0 W)]
    (h : ∀ g, ∀ w1, g = W.heap.size → Aside0 (Below w.heap.size w w1) → Aside0 (w1.heap[g]? = some (.cells cs t (0, 0))) → Aside0 (w.heap.size ≤ g) → Below W.heap.size W w1 → wpList P ops Q rest (a.put o.dst (.pointer (some ⟨g, 0, none⟩))) w1) (hgd : o.guard = none := by rfl)
    (hrun : (execOp a.eval o).run P W = .ok (.value (.pointer (some ⟨W.heap.size, 0, none⟩))) (W.alloc (.cells cs t (0, 0))) := by first | (go_simp; done) | (go_simp; rfl)) : wpList P ops Q (o :: rest) a W := boxed hd hgd hB.out hrun h
end
theorem el_int {k : IntKind} {xs : List Int} {w W : World} {A : Option Addr} {n : Nat} (h : Aside0 (Kd.C (Kd.int k) w A n xs)) (hb : Aside0 (Below w.heap.size w W)) (i : Int) (h0 : decide (0 ≤ i) = true := by first | (with_reducible assumption) | assumption) (h1 : decide (i < n) = true := by first | (with_reducible assumption) | assumption) : ∃ ad, A = some ad ∧ W.cell? (ad.add i.toNat) = some (.int k (rd xs i)) ∧ (0 ≤ i) = True ∧ (i < n) = True := by
  obtain ⟨ad, e, x0⟩ := Kd.at_int h.out i (of_decide_eq_true h0) (of_decide_eq_true h1);exact ⟨ad, e, pw_cell_below hb.out x0, eq_true (of_decide_eq_true h0), eq_true (of_decide_eq_true h1)⟩
theorem el0_int {k : IntKind} {xs : List Int} {w : World} {A : Option Addr} {n : Nat} (h : Aside0 (Kd.C (Kd.int k) w A n xs)) (i : Int) (h0 : decide (0 ≤ i) = true := by first | (with_reducible assumption) | assumption) (h1 : decide (i < n) = true := by first | (with_reducible assumption) | assumption) : ∃ ad, A = some ad ∧ w.cell? (ad.add i.toNat) = some (.int k (rd xs i)) ∧ (0 ≤ i) = True ∧ (i < n) = True := by
  obtain ⟨ad, e, x0⟩ := Kd.at_int h.out i (of_decide_eq_true h0) (of_decide_eq_true h1);exact ⟨ad, e, x0, eq_true (of_decide_eq_true h0), eq_true (of_decide_eq_true h1)⟩
theorem el20_int {k : IntKind} {xs : List Int} {w : World} {ad : Addr} {n : Nat} (h : Aside0 (Kd.C (Kd.int k) w (some ad) n xs)) (i : Int) (h0 : decide (0 ≤ i) = true := by first | (with_reducible assumption) | assumption) (h1 : decide (i < n) = true := by first | (with_reducible assumption) | assumption) : w.cell? (ad.add i.toNat) = some (.int k (rd xs i)) ∧ (0 ≤ i) = True ∧ (i < n) = True := by
  obtain ⟨ad', e, x0⟩ := Kd.at_int h.out i (of_decide_eq_true h0) (of_decide_eq_true h1);obtain rfl := Option.some.inj e;exact ⟨x0, eq_true (of_decide_eq_true h0), eq_true (of_decide_eq_true h1)⟩
theorem el_L10 {xs : List (List Int)} {w W : World} {A : Option Addr} {n : Nat} (h : Aside0 (Kd.C (Kd.slice 5 (Kd.int .u8)) w A n xs)) (hb : Aside0 (Below w.heap.size w W)) (i : Int) (h0 : decide (0 ≤ i) = true := by first | (with_reducible assumption) | assumption) (h1 : decide (i < n) = true := by first | (with_reducible assumption) | assumption) : ∃ ad A0 c0, A = some ad ∧ W.cell? (ad.add i.toNat) = some (.slice A0 (ja xs i).length c0) ∧ Aside0 ((ja xs i).length ≤ c0) ∧ Aside0 ((Kd.int .u8).C w A0 (ja xs i).length (ja xs i)) ∧ (0 ≤ i) = True ∧ (i < n) = True := by
  obtain ⟨ad, A0, c0, e, x0, y0, y1⟩ := XJ h.out i (of_decide_eq_true h0) (of_decide_eq_true h1);exact ⟨ad, A0, c0, e, pw_cell_below hb.out x0, ⟨y0⟩, ⟨y1⟩, eq_true (of_decide_eq_true h0), eq_true (of_decide_eq_true h1)⟩
theorem el0_L10 {xs : List (List Int)} {w : World} {A : Option Addr} {n : Nat} (h : Aside0 (Kd.C (Kd.slice 5 (Kd.int .u8)) w A n xs)) (i : Int) (h0 : decide (0 ≤ i) = true := by first | (with_reducible assumption) | assumption) (h1 : decide (i < n) = true := by first | (with_reducible assumption) | assumption) : ∃ ad A0 c0, A = some ad ∧ w.cell? (ad.add i.toNat) = some (.slice A0 (ja xs i).length c0) ∧ Aside0 ((ja xs i).length ≤ c0) ∧ Aside0 ((Kd.int .u8).C w A0 (ja xs i).length (ja xs i)) ∧ (0 ≤ i) = True ∧ (i < n) = True := by
  obtain ⟨ad, A0, c0, e, x0, y0, y1⟩ := XJ h.out i (of_decide_eq_true h0) (of_decide_eq_true h1);exact ⟨ad, A0, c0, e, x0, ⟨y0⟩, ⟨y1⟩, eq_true (of_decide_eq_true h0), eq_true (of_decide_eq_true h1)⟩

/-! ### qw: function 84 -/
mutual
def qw.j0 : Nat → List Int → Int → Int → Bool → Option (Int × Int)
 | 0, _, _, _, _ => none
 | k + 1, x0, x1, x2, x20 => if x20 = true then (some (0, (-1))) else (if 0 ≤ x1 then (if x1 ≤ (wrap64 (x1 + x2)) then (if (wrap64 (x1 + x2)) ≤ (x0.length : Int) then ((some ((x0.take ((wrap64 (x1 + x2)) : Int).toNat).drop (x1 : Int).toNat : List Int)).bind fun jl => (qw.l0 k x1 x2 0 jl (jl.length : Int) 0)) else (none)) else (none)) else (none))
def qw.l0 : Nat → Int → Int → Int → List Int → Int → Int → Option (Int × Int)
 | 0, _, _, _, _, _, _ => none
 | k + 1, x1, x2, x8, x26, x27, x28 => if x28 < x27 then (if 0 ≤ x28 then (if x28 < (x26.length : Int) then (qw.l0 k x1 x2 (Go.bits .or .i64 (wrap64 (x8 * 256)) (wrap64 (rd x26 x28))) x26 x27 (wrap64 (x28 + 1))) else (none)) else (none)) else (some (x8, wrap64 (x1 + x2)))
end
def qw.f (k : Nat) (l0 : List Int) (a1 : Int) (a2 : Int) : Option (Int × Int) := if a1 < 0 then (qw.j0 k l0 a1 a2 true) else (qw.j0 k l0 a1 a2 (decide (a2 > (wrap64 ((l0.length : Int) - a1)))))
set_option maxHeartbeats 8000000 in
set_option maxRecDepth 100000 in
theorem qw.calls (k : Nat) (A0 : Option Addr) (c0 : Nat) (l0 : List Int) (a1 : Int) (a2 : Int) (r1 : Int) (r2 : Int) (w : World) (hr0 : Kd.C (Kd.int .u8) w A0 l0.length l0) (hc0 : l0.length ≤ c0) (h : qw.f k l0 a1 a2 = some (r1, r2)) :
  Calls Try.prog 84 #[.slice A0 l0.length c0, .int .i64 a1, .int .i64 a2] w fun e w' => e = .returned (.tuple #[.int .i64 r1, .int .i64 r2]) ∧ Drawn0 w w' := by
 have HR0 := ak hr0;have HC0 := ak hc0;clear hr0 hc0;have H : (if a1 < 0 then (qw.j0 k l0 a1 a2 true) else (qw.j0 k l0 a1 a2 (decide (a2 > (wrap64 ((l0.length : Int) - a1)))))) = some (r1, r2) := h;clear h;have HC4 := ak H;clear H;go_enter Try.func84, Try.ntmps84;go_upto_region 1 with (fail)
 go_cut [20] (fun v20 wc => ∃ (kq : Nat) (qcU : Bool), v20 = .bool qcU ∧ Aside0 (qw.j0 kq l0 a1 a2 qcU = some (r1, r2)) ∧ Aside0 (kq ≤ k) ∧ Drawn0 w wc)
 case first =>
  have H := HC4.out;clear HC4;replace H := ip H;obtain ⟨c5b0, H⟩ | ⟨c5b0, H⟩ := H
  ·(first | rw [c5b0] | (simp only [i64_w, i32_w]; rw [c5b0]) | skip)
   have H' := ak H;clear H;go_wp2;go_meet
   case rel => exact ⟨_, (true), o2, H', ⟨o3⟩, od⟩
  ·(first | rw [c5b0] | (simp only [i64_w, i32_w]; rw [c5b0]) | skip)
   have H' := ak H;clear H;go_wp2;go_meet
   case rel => exact ⟨_, (decide (a2 > (wrap64 ((l0.length : Int) - a1)))), o2, H', ⟨o3⟩, od⟩
 case rest =>
  clear HC4;obtain ⟨kq, qcU, rfl, HA, HJ3, ⟨mc3, rfl⟩⟩ := hcut;cases kq with
  | zero => exact absurd HA.out (by simp [qw.j0])
  | succ kj3 =>
   have H := HA.out;clear HA;simp only [qw.j0] at H;replace H := ib H;obtain ⟨rfl, H⟩ | ⟨rfl, H⟩ := H
   ·simp only [Option.some.injEq, Prod.mk.injEq] at H;obtain ⟨rfl, rfl⟩ := H;go_wp2;go_ret2;exact ⟨o2, od⟩
   ·replace H := ipE H;obtain ⟨c7b0, c7b1, H⟩ := H;by_cases c8 : a1 ≤ (wrap64 (a1 + a2))
    ·rw [if_pos c8] at H;have c8b0 := eq_true c8;have c8b1 : decide (a1 ≤ (wrap64 (a1 + a2))) = true := decide_eq_true c8;by_cases c9 : (wrap64 (a1 + a2)) ≤ (l0.length : Int)
     ·rw [if_pos c9] at H;have c9b0 := eq_true c9;have c9b1 : decide ((wrap64 (a1 + a2)) ≤ (l0.length : Int)) = true := decide_eq_true c9;obtain ⟨jl, zw⟩ : ∃ y_ : List Int, y_ = ((l0.take ((wrap64 (a1 + a2)) : Int).toNat).drop (a1 : Int).toNat) := ⟨_, rfl⟩;(try with_reducible replace H := bnS H)
      (try rw [← zw] at H)
      have ya := ak zw;clear zw;have H' := ak H;clear H;have q10 : ((wrap64 (a1 + a2)) : Int) ≤ ((l0.length : Int) : Int) := of_decide_eq_true (by first | (with_reducible assumption) | assumption);obtain ⟨qIT, qed, _, qd3, _⟩ := info_parts Jd;have hroom10 : l0.length ≤ c0 := HC0.out;have qlh : Kd.C (Kd.int .u8) _ A0 l0.length l0 := HR0.out;have qmD : (a1 : Int) ≤ ((wrap64 (a1 + a2)) : Int) := of_decide_eq_true (by first | (with_reducible assumption) | assumption);have qkO : (0 : Int) ≤ (a1 : Int) := of_decide_eq_true (by first | (with_reducible assumption) | assumption);have qle := cut_mid (P := Try.prog) 25 5 .i64 .i64 Try.underlying25 qed 1 qd3 A0 l0.length c0 a1 (wrap64 (a1 + a2)) qkO qmD q10 hroom10;have Xi := Kd.C_mid (lo := (a1 : Int).toNat) (hi := ((wrap64 (a1 + a2)) : Int).toNat) (c := c0) qlh (by omega) (by omega) hroom10;obtain ⟨A10, qdc⟩ : ∃ A1, A1 = (if c0 = (a1 : Int).toNat then A0 else (A0 : Option Addr).map (·.add ((a1 : Int).toNat * 1))) := ⟨_, rfl⟩;obtain ⟨c10, qdu⟩ : ∃ c1, c1 = c0 - (a1 : Int).toNat := ⟨_, rfl⟩;have qc7 : jl.length = ((wrap64 (a1 + a2)) : Int).toNat - (a1 : Int).toNat := (by rw [ya.out, List.length_drop, List.length_take] <;> omega);rw [show ((l0).take ((wrap64 (a1 + a2)) : Int).toNat).drop (a1 : Int).toNat = jl from ya.out.symm] at Xi;replace Xi : Kd.C (Kd.int .u8) _ A10 jl.length jl := (by rw [qdc]; exact Xi);rw [← qc7, ← qdc, ← qdu] at qle;have qdj := ak Xi;have qeq := ak (show jl.length ≤ c10 from by rw [qc7, qdu]; exact Nat.sub_le_sub_right (Nat.le_trans (by omega) hroom10) _);clear Xi qlh hroom10 qed qd3 qdu;have qJN := ak qc7;have qJQ := ak qdc;clear qc7 qdc;replace q10 := eq_true q10;go_wp2;go_loopg [8, 28] kj3 (fun kq v8 v28 w' => ∃ (yr : Int) (Jq : Int), v8 = .int .i64 yr ∧ v28 = .int .i64 Jq ∧ Aside0 (qw.l0 kq a1 a2 yr jl (jl.length : Int) Jq = some (r1, r2)) ∧ Aside0 (kq ≤ kj3) ∧ Drawn0 w w')
      case atStart => exact ⟨(0), (0), o2, o2, H', ⟨Nat.le_refl _⟩, od⟩
      case round =>
       clear H';(try clear c1)
       (try clear c7b0)
       (try clear c7b1)
       (try clear c8)
       (try clear c8b0)
       (try clear c8b1)
       (try clear c9)
       (try clear c9b0)
       (try clear c9b1)
       (try clear c10)
       (try clear q10)
       (try clear qkO)
       (try clear q10)
       obtain ⟨yr, Jq, rfl, rfl, HA, HK2, ⟨m2, rfl⟩⟩ := hrel;cases gk with
       | zero => exact absurd HA.out (by simp [qw.l0])
       | succ k2 =>
        have H := HA.out;clear HA;simp only [qw.l0] at H;replace H := ip H;obtain ⟨c11b0, H⟩ | ⟨c11b0, H⟩ := H
        ·replace H := ipN H;obtain ⟨c12b0, H⟩ := H;replace H := ipN H;obtain ⟨c13b0, H⟩ := H;have H' := ak H;clear H;obtain ⟨Jj, rfl, jc, ze, zd⟩ := el0_int qdj Jq;go_wp2;go_roundg k2;case measure => have := HJ3.out; have := HK2.out; omega
         case rel => exact ⟨(Go.bits .or .i64 (wrap64 (yr * 256)) (wrap64 (rd jl Jq))), (wrap64 (Jq + 1)), o2, o2, H', ⟨by have := HJ3.out; have := HK2.out; omega⟩, od⟩
        ·simp only [Option.some.injEq, Prod.mk.injEq] at H;obtain ⟨rfl, rfl⟩ := H;go_wp2;go_ret2;exact ⟨o2, od⟩
     ·rw [if_neg c9] at H;exact absurd H (by simp)
    ·rw [if_neg c8] at H;exact absurd H (by simp)

/-! ### zQ: function 233 -/

set_option maxHeartbeats 2000000 in
theorem zQ.calls (g : Nat) (lb : Array Value) (eg : ∀ args w, (callFunc g args).run Try.prog w = .ok (.enter g args) w) (p : List Int → Bool) (A0 : Option Addr) (c0 : Nat) (l0 : List (List Int)) (w : World) (hr0 : Kd.C (Kd.slice 5 (Kd.int .u8)) w A0 l0.length l0)
  (hp : ∀ (W : World) (A : Option Addr) (c : Nat) (x : List Int), Below w.heap.size w W → Kd.C (Kd.int .u8) W A x.length x → x.length ≤ c → Calls Try.prog g (#[.slice A x.length c] ++ lb) W fun e w' => e = .returned (.bool (p x)) ∧ Below w.heap.size w w') :
  Calls Try.prog 233 #[.slice A0 l0.length c0, .func (.func g) #[] lb] w fun e w' => (∃ r : Int, e = .returned (.int .i64 r) ∧ decide (0 ≤ r) = l0.any p) ∧ Below w.heap.size w w' := by
 have HR0 := ak hr0;have hbig : l0.length ≤ 9223372036854775807 := hr0.2.1;have HP := ak hp;clear hr0 hp;go_enter Try.func233, Try.ntmps233;go_wp2;go_loopg [5, 8] l0.length (fun gg _ s8 wr => ∃ kk : Nat, kk ≤ l0.length ∧ l0.length - kk ≤ gg ∧ s8 = .int .i64 kk ∧ Aside0 (Below w.heap.size w wr) ∧ Aside0 ((l0.take kk).any p = false))
 case atStart => exact ⟨0, Nat.zero_le _, by omega, rfl, ⟨Below.refl _ w⟩, ⟨by simp⟩⟩
 case round =>
  obtain ⟨kk, hkk, hg, rfl, BW, AF⟩ := hrel;by_cases hlt : kk < l0.length
  ·obtain ⟨ad, A1, c1, rfl, hcell, hc1, hC1⟩ := XJ HR0.out (kk : Int) (by omega) (by omega);replace hcell := pw_cell_below BW.out hcell;have hcall := HP.out wr A1 c1 (ja l0 (kk : Int)) BW.out (Kd.C_below hC1 BW.out) hc1
   have hx : Aside0 (l0.take (kk + 1) = l0.take kk ++ [ja l0 (kk : Int)]) := ⟨by
    rw [List.take_succ_eq_append_getElem hlt]; simp [ja, List.getD_eq_getElem?_getD, hlt]⟩
   clear hC1 hc1;generalize ja l0 (kk : Int) = y at hcell hcall hx;have hltz : (kk : Int) < (l0.length : Int) := by omega
   rw [show ((kk : Int)).toNat = kk from by omega] at hcell;cases hq : p y with
   | true =>
    rw [hq] at hcall;go_wp2_with (go_at_fn g; refine hcall.mono ?_; rintro e w' ⟨rfl, hb'⟩);go_ret;refine ⟨⟨_, rfl, ?_⟩, hb'⟩
    have : l0.any p = true := by
     rw [← List.take_append_drop (kk + 1) l0, hx.out]; simp [hq]
    rw [this]; simp
   | false =>
    rw [hq] at hcall;go_wp2_with (go_at_fn g; refine hcall.mono ?_; rintro e w' ⟨rfl, hb'⟩);go_roundg (l0.length - (kk + 1));case measure => omega
    case rel => exact ⟨kk + 1, by omega, by omega, by go_num, ⟨hb'⟩, ⟨by rw [hx.out, List.any_append, AF.out]; simp [hq]⟩⟩
  ·have hltz : ¬ (kk : Int) < (l0.length : Int) := by omega
   go_wp2;go_ret;refine ⟨⟨_, rfl, ?_⟩, BW.out⟩;have := AF.out;rw [List.take_of_length_le (by omega)] at this;rw [this]; rfl

/-! ### zI: function 218 -/

set_option maxHeartbeats 2000000 in
theorem zI.calls (g : Nat) (lb : Array Value) (eg : ∀ args w, (callFunc g args).run Try.prog w = .ok (.enter g args) w) (p : List Int → Bool) (A0 : Option Addr) (c0 : Nat) (l0 : List (List Int)) (w : World) (hr0 : Kd.C (Kd.slice 5 (Kd.int .u8)) w A0 l0.length l0)
  (hp : ∀ (W : World) (A : Option Addr) (c : Nat) (x : List Int), Below w.heap.size w W → Kd.C (Kd.int .u8) W A x.length x → x.length ≤ c → Calls Try.prog g (#[.slice A x.length c] ++ lb) W fun e w' => e = .returned (.bool (p x)) ∧ Below w.heap.size w w') :
  Calls Try.prog 218 #[.slice A0 l0.length c0, .func (.func g) #[] lb] w fun e w' => e = .returned (.bool (l0.any p)) ∧ Below w.heap.size w w' := by
 have hc := zQ.calls g lb eg p A0 c0 l0 w hr0 hp;generalize l0.any p = q at hc ⊢;clear hp hr0;go_enter Try.func218, Try.ntmps218;go_wp2_with (go_at_call 233; refine hc.mono ?_; rintro e w' ⟨⟨r, rfl, rfl⟩, hb'⟩);go_ret;exact ⟨rfl, hb'⟩

/-! ### Ql: function 219 -/

set_option maxHeartbeats 2000000 in
/-- What is handed to ContainsFunc: the predicate's contrary; the predicate lies in a variable. -/
theorem Ql.calls (g : Nat) (lb : Array Value) (eg : ∀ args w, (callFunc g args).run Try.prog w = .ok (.enter g args) w) (q : Bool) (A : Option Addr) (n c : Nat) (B : Nat) (w w0 : World) (hv : w.cell? ⟨B, 0, none⟩ = some (.func (.func g) #[] lb))
  (hp : Calls Try.prog g (#[.slice A n c] ++ lb) w fun e w' => e = .returned (.bool q) ∧ Below w0.heap.size w0 w') :
  Calls Try.prog 219 #[.slice A n c, .pointer (some ⟨B, 0, none⟩)] w fun e w' => e = .returned (.bool (!q)) ∧ Below w0.heap.size w0 w' := by
 go_enter Try.func219, Try.ntmps219;go_wp2_with (go_at_fn g; refine hp.mono ?_; rintro e w' ⟨rfl, hb'⟩);go_ret;exact ⟨rfl, hb'⟩

/-! ### Qr: function 154 -/

set_option maxHeartbeats 2000000 in
theorem Qr.calls (g : Nat) (lb : Array Value) (eg : ∀ args w, (callFunc g args).run Try.prog w = .ok (.enter g args) w) (p : List Int → Bool) (A0 : Option Addr) (c0 : Nat) (l0 : List (List Int)) (w : World) (hr0 : Kd.C (Kd.slice 5 (Kd.int .u8)) w A0 l0.length l0)
  (hp : ∀ (W : World) (A : Option Addr) (c : Nat) (x : List Int), Below w.heap.size w W → Kd.C (Kd.int .u8) W A x.length x → x.length ≤ c → Calls Try.prog g (#[.slice A x.length c] ++ lb) W fun e w' => e = .returned (.bool (p x)) ∧ Below W.heap.size W w') :
  Calls Try.prog 154 #[.slice A0 l0.length c0, .func (.func g) #[] lb] w fun e w' => e = .returned (.bool (l0.all p)) ∧ Below w.heap.size w w' := by
 have eg2 : ∀ args w, (callFunc 219 args).run Try.prog w = .ok (.enter 219 args) w := enters_of Try.func219 (by kernel_rfl) rfl;have hb0 : Below w.heap.size w (w.alloc (.cells #[.func (.func g) #[] lb] 43)) := below_alloc (Below.refl _ _) _
 have hc := zI.calls 219 #[.pointer (some ⟨w.heap.size, 0, none⟩)] eg2 (fun x => !p x) A0 c0 l0 (w.alloc (.cells #[.func (.func g) #[] lb] 43)) (Kd.C_below hr0 hb0) (fun W A c x hW hC hc =>
  Ql.calls g lb eg (p x) A x.length c w.heap.size W _ ((hW.cell (p := ⟨w.heap.size, 0, none⟩) (by simp)).trans (by simp)) ((hp W A c x (hb0.trans (hW.mono (by simp))) hC hc).mono fun e w' ⟨he, hb⟩ => ⟨he, hW.trans (hb.mono hW.size)⟩))
 have e1 : (l0.any fun x => !p x) = !(l0.all p) := by rw [List.all_eq_not_any_not]; simp
 rw [e1] at hc;generalize l0.all p = q at hc ⊢;clear hp hr0 e1;go_enter Try.func154, Try.ntmps154;go_wp2_with (go_at_call 218; refine hc.mono ?_; rintro e w' ⟨rfl, hb'⟩);go_ret;exact ⟨by simp, hb0.trans (hb'.mono (by simp))⟩

/-! ### zP: function 238 -/

set_option maxHeartbeats 2000000 in
theorem zP.calls (g : Nat) (lb : Array Value) (eg : ∀ args w, (callFunc g args).run Try.prog w = .ok (.enter g args) w) (p : Int → Bool) (A0 : Option Addr) (c0 : Nat) (l0 : List Int) (w : World) (hr0 : Kd.C (Kd.int .u8) w A0 l0.length l0)
  (hp : ∀ (W : World) (x : Int), Below w.heap.size w W → Calls Try.prog g (#[.int .u8 x] ++ lb) W fun e w' => e = .returned (.bool (p x)) ∧ Below w.heap.size w w') :
  Calls Try.prog 238 #[.slice A0 l0.length c0, .func (.func g) #[] lb] w fun e w' => (∃ r : Int, e = .returned (.int .i64 r) ∧ decide (0 ≤ r) = l0.any p) ∧ Below w.heap.size w w' := by
 have HR0 := ak hr0;have hbig : l0.length ≤ 9223372036854775807 := hr0.2.1;have HP := ak hp;clear hr0 hp;go_enter Try.func238, Try.ntmps238;go_wp2;go_loopg [5, 8] l0.length (fun gg _ s8 wr => ∃ kk : Nat, kk ≤ l0.length ∧ l0.length - kk ≤ gg ∧ s8 = .int .i64 kk ∧ Aside0 (Below w.heap.size w wr) ∧ Aside0 ((l0.take kk).any p = false))
 case atStart => exact ⟨0, Nat.zero_le _, by omega, rfl, ⟨Below.refl _ w⟩, ⟨by simp⟩⟩
 case round =>
  obtain ⟨kk, hkk, hg, rfl, BW, AF⟩ := hrel;by_cases hlt : kk < l0.length
  ·obtain ⟨ad, rfl, hcell⟩ := Kd.at_int HR0.out (kk : Int) (by omega) (by omega);replace hcell := pw_cell_below BW.out hcell;have hcall := HP.out wr (rd l0 (kk : Int)) BW.out
   have hx : Aside0 (l0.take (kk + 1) = l0.take kk ++ [rd l0 (kk : Int)]) := ⟨by
    rw [List.take_succ_eq_append_getElem hlt]; simp [rd, List.getD_eq_getElem?_getD, hlt]⟩
   generalize rd l0 (kk : Int) = y at hcell hcall hx;have hltz : (kk : Int) < (l0.length : Int) := by omega
   rw [show ((kk : Int)).toNat = kk from by omega] at hcell;cases hq : p y with
   | true =>
    rw [hq] at hcall;go_wp2_with (go_at_fn g; refine hcall.mono ?_; rintro e w' ⟨rfl, hb'⟩);go_ret;refine ⟨⟨_, rfl, ?_⟩, hb'⟩
    have : l0.any p = true := by
     rw [← List.take_append_drop (kk + 1) l0, hx.out]; simp [hq]
    rw [this]; simp
   | false =>
    rw [hq] at hcall;go_wp2_with (go_at_fn g; refine hcall.mono ?_; rintro e w' ⟨rfl, hb'⟩);go_roundg (l0.length - (kk + 1));case measure => omega
    case rel => exact ⟨kk + 1, by omega, by omega, by go_num, ⟨hb'⟩, ⟨by rw [hx.out, List.any_append, AF.out]; simp [hq]⟩⟩
  ·have hltz : ¬ (kk : Int) < (l0.length : Int) := by omega
   go_wp2;go_ret;refine ⟨⟨_, rfl, ?_⟩, BW.out⟩;have := AF.out;rw [List.take_of_length_le (by omega)] at this;rw [this]; rfl

/-! ### zH: function 234 -/

set_option maxHeartbeats 2000000 in
theorem zH.calls (g : Nat) (lb : Array Value) (eg : ∀ args w, (callFunc g args).run Try.prog w = .ok (.enter g args) w) (p : Int → Bool) (A0 : Option Addr) (c0 : Nat) (l0 : List Int) (w : World) (hr0 : Kd.C (Kd.int .u8) w A0 l0.length l0)
  (hp : ∀ (W : World) (x : Int), Below w.heap.size w W → Calls Try.prog g (#[.int .u8 x] ++ lb) W fun e w' => e = .returned (.bool (p x)) ∧ Below w.heap.size w w') :
  Calls Try.prog 234 #[.slice A0 l0.length c0, .func (.func g) #[] lb] w fun e w' => e = .returned (.bool (l0.any p)) ∧ Below w.heap.size w w' := by
 have hc := zP.calls g lb eg p A0 c0 l0 w hr0 hp;generalize l0.any p = q at hc ⊢;clear hp hr0;go_enter Try.func234, Try.ntmps234;go_wp2_with (go_at_call 238; refine hc.mono ?_; rintro e w' ⟨⟨r, rfl, rfl⟩, hb'⟩);go_ret;exact ⟨rfl, hb'⟩

/-! ### Qk: function 235 -/

set_option maxHeartbeats 2000000 in
/-- What is handed to ContainsFunc: the predicate's contrary; the predicate lies in a variable. -/
theorem Qk.calls (g : Nat) (lb : Array Value) (eg : ∀ args w, (callFunc g args).run Try.prog w = .ok (.enter g args) w) (q : Bool) (x : Int) (B : Nat) (w w0 : World) (hv : w.cell? ⟨B, 0, none⟩ = some (.func (.func g) #[] lb))
  (hp : Calls Try.prog g (#[.int .u8 x] ++ lb) w fun e w' => e = .returned (.bool q) ∧ Below w0.heap.size w0 w') :
  Calls Try.prog 235 #[.int .u8 x, .pointer (some ⟨B, 0, none⟩)] w fun e w' => e = .returned (.bool (!q)) ∧ Below w0.heap.size w0 w' := by
 go_enter Try.func235, Try.ntmps235;go_wp2_with (go_at_fn g; refine hp.mono ?_; rintro e w' ⟨rfl, hb'⟩);go_ret;exact ⟨rfl, hb'⟩

/-! ### Qq: function 220 -/

set_option maxHeartbeats 2000000 in
theorem Qq.calls (g : Nat) (lb : Array Value) (eg : ∀ args w, (callFunc g args).run Try.prog w = .ok (.enter g args) w) (p : Int → Bool) (A0 : Option Addr) (c0 : Nat) (l0 : List Int) (w : World) (hr0 : Kd.C (Kd.int .u8) w A0 l0.length l0)
  (hp : ∀ (W : World) (x : Int), Below w.heap.size w W → Calls Try.prog g (#[.int .u8 x] ++ lb) W fun e w' => e = .returned (.bool (p x)) ∧ Below W.heap.size W w') :
  Calls Try.prog 220 #[.slice A0 l0.length c0, .func (.func g) #[] lb] w fun e w' => e = .returned (.bool (l0.all p)) ∧ Below w.heap.size w w' := by
 have eg2 : ∀ args w, (callFunc 235 args).run Try.prog w = .ok (.enter 235 args) w := enters_of Try.func235 (by kernel_rfl) rfl;have hb0 : Below w.heap.size w (w.alloc (.cells #[.func (.func g) #[] lb] 221)) := below_alloc (Below.refl _ _) _
 have hc := zH.calls 235 #[.pointer (some ⟨w.heap.size, 0, none⟩)] eg2 (fun x => !p x) A0 c0 l0 (w.alloc (.cells #[.func (.func g) #[] lb] 221)) (Kd.C_below hr0 hb0) (fun W x hW =>
  Qk.calls g lb eg (p x) x w.heap.size W _ ((hW.cell (p := ⟨w.heap.size, 0, none⟩) (by simp)).trans (by simp)) ((hp W x (hb0.trans (hW.mono (by simp)))).mono fun e w' ⟨he, hb⟩ => ⟨he, hW.trans (hb.mono hW.size)⟩))
 have e1 : (l0.any fun x => !p x) = !(l0.all p) := by rw [List.all_eq_not_any_not]; simp
 rw [e1] at hc;generalize l0.all p = q at hc ⊢;clear hp hr0 e1;go_enter Try.func220, Try.ntmps220;go_wp2_with (go_at_call 234; refine hc.mono ?_; rintro e w' ⟨rfl, hb'⟩);go_ret;exact ⟨by simp, hb0.trans (hb'.mono (by simp))⟩

/-! ### zJ: function 221 -/
def zJ.f (a0 : Int) : Option (Bool) := if a0 ≥ 97 then (if a0 ≤ 122 then (some true) else (if a0 ≥ 48 then (if a0 ≤ 57 then (some true) else (some (a0 == 45))) else (some (a0 == 45)))) else (if a0 ≥ 48 then (if a0 ≤ 57 then (some true) else (some (a0 == 45))) else (some (a0 == 45)))
set_option maxHeartbeats 8000000 in
set_option maxRecDepth 100000 in
theorem zJ.calls (a0 : Int) (r : Bool) (w : World) (h : zJ.f a0 = some r) :
  Calls Try.prog 221 #[.int .u8 a0] w fun e w' => e = .returned (.bool r) ∧ Drawn0 w w' := by
 have H : (if a0 ≥ 97 then (if a0 ≤ 122 then (some true) else (if a0 ≥ 48 then (if a0 ≤ 57 then (some true) else (some (a0 == 45))) else (some (a0 == 45)))) else (if a0 ≥ 48 then (if a0 ≤ 57 then (some true) else (some (a0 == 45))) else (some (a0 == 45)))) = some r := h;clear h;replace H := ih H;obtain ⟨c2b0, H⟩ | ⟨c2b0, H⟩ := H
 ·replace H := ip H;obtain ⟨c3b0, H⟩ | ⟨c3b0, H⟩ := H
  ·obtain rfl := Option.some.inj H;go_enter Try.func221, Try.ntmps221;go_wp2;go_ret;exact ⟨o2, od⟩
  ·replace H := ih H;obtain ⟨c4b0, H⟩ | ⟨c4b0, H⟩ := H
   ·replace H := ip H;obtain ⟨c5b0, H⟩ | ⟨c5b0, H⟩ := H
    ·obtain rfl := Option.some.inj H;go_enter Try.func221, Try.ntmps221;go_wp2;go_ret;exact ⟨o2, od⟩
    ·obtain rfl := Option.some.inj H;go_enter Try.func221, Try.ntmps221;go_wp2;go_ret;exact ⟨o2, od⟩
   ·obtain rfl := Option.some.inj H;go_enter Try.func221, Try.ntmps221;go_wp2;go_ret;exact ⟨o2, od⟩
 ·replace H := ih H;obtain ⟨c6b0, H⟩ | ⟨c6b0, H⟩ := H
  ·replace H := ip H;obtain ⟨c7b0, H⟩ | ⟨c7b0, H⟩ := H
   ·obtain rfl := Option.some.inj H;go_enter Try.func221, Try.ntmps221;go_wp2;go_ret;exact ⟨o2, od⟩
   ·obtain rfl := Option.some.inj H;go_enter Try.func221, Try.ntmps221;go_wp2;go_ret;exact ⟨o2, od⟩
  ·obtain rfl := Option.some.inj H;go_enter Try.func221, Try.ntmps221;go_wp2;go_ret;exact ⟨o2, od⟩

/-! ### qB: function 155 -/

def qB.byte (x : Int) : Bool := (decide (97 ≤ x) && decide (x ≤ 122)) || (decide (48 ≤ x) && decide (x ≤ 57)) || x == 45
theorem qB.byte_f (x : Int) : zJ.f x = some (qB.byte x) := by
 unfold zJ.f qB.byte;by_cases h1 : 97 ≤ x <;> by_cases h2 : x ≤ 122 <;> by_cases h3 : 48 ≤ x <;> by_cases h4 : x ≤ 57 <;> by_cases h5 : x = 45 <;> simp [*] <;> omega
def qB.v (l0 : List Int) : Bool := decide (1 ≤ l0.length) && decide (l0.length ≤ 15) && l0.all qB.byte
def qB.f (l0 : List Int) : Option Bool := some (qB.v l0)
set_option maxHeartbeats 8000000 in
set_option maxRecDepth 100000 in
theorem qB.calls (A0 : Option Addr) (c0 : Nat) (l0 : List Int) (r : Bool) (w : World) (hr0 : Kd.C (Kd.int .u8) w A0 l0.length l0) (hc0 : l0.length ≤ c0) (h : qB.f l0 = some r) :
  Calls Try.prog 155 #[.slice A0 l0.length c0] w fun e w' => e = .returned (.bool r) ∧ Below w.heap.size w w' := by
 have eg : ∀ args w, (callFunc 221 args).run Try.prog w = .ok (.enter 221 args) w := enters_of Try.func221 (by kernel_rfl) rfl;have ha := Qq.calls 221 #[] eg qB.byte A0 c0 l0 w hr0 (fun W x hW => (zJ.calls x _ W (qB.byte_f x)).mono fun e w' ⟨he, hd⟩ => ⟨he, hd.below⟩);have hbig : l0.length ≤ 9223372036854775807 := hr0.2.1;have hrv : r = qB.v l0 := (Option.some.inj h).symm;subst hrv;unfold qB.v;clear h hr0;generalize l0.all qB.byte = q at ha ⊢;by_cases h1 : 1 ≤ l0.length
 ·by_cases h2 : l0.length ≤ 15
  ·rw [decide_eq_true h1, decide_eq_true h2];simp only [Bool.true_and];go_enter Try.func155, Try.ntmps155;go_wp2_with (first | (go_at_call 220;refine ha.mono ?_;rintro e w' ⟨rfl, hb'⟩) | (go_at_call 83;go_in));go_ret;exact ⟨rfl, hb'⟩
  ·rw [decide_eq_true h1, decide_eq_false h2];simp only [Bool.and_false, Bool.false_and];go_enter Try.func155, Try.ntmps155;go_wp2;go_ret;exact ⟨rfl, Below.refl _ _⟩
 ·rw [decide_eq_false h1];simp only [Bool.false_and];go_enter Try.func155, Try.ntmps155;go_wp2;go_ret;exact ⟨rfl, Below.refl _ _⟩

/-! ### qq: function 74 -/

def qq.v (l : List (List Int)) : Bool := decide (l.length ≤ 6) && l.all qB.v
def qq.f (l : List (List Int)) : Option Bool := some (qq.v l)
set_option maxHeartbeats 8000000 in
set_option maxRecDepth 100000 in
theorem qq.calls (jV : Option Addr) (jU : Nat) (qo : List (List Int)) (r : Bool) (w : World) (za : Kd.C (Kd.slice 5 (Kd.int .u8)) w jV qo.length qo) (zj : qo.length ≤ jU) (h : qq.f qo = some r) :
  Calls Try.prog 74 #[.agg #[.slice jV qo.length jU]] w fun e w' => e = .returned (.bool r) ∧ Below w.heap.size w w' := by
 have hu := Try.underlying31;have eg : ∀ args w, (callFunc 155 args).run Try.prog w = .ok (.enter 155 args) w := enters_of Try.func155 (by kernel_rfl) rfl;have hb0 : Below w.heap.size w (w.alloc (.cells #[.slice jV qo.length jU] 31)) := below_alloc (Below.refl _ _) _;have ha := fun (W : World) (hW : Below w.heap.size w W) => Qr.calls 155 #[] eg qB.v jV jU qo W (Kd.C_below za hW) (fun W2 A c x hW2 hC hc => (qB.calls A c x _ W2 hC hc rfl))
 have hbig : qo.length ≤ 9223372036854775807 := za.2.1;have hrv : r = qq.v qo := (Option.some.inj h).symm;subst hrv;unfold qq.v;clear h za;have HA := ak ha;clear ha;generalize qo.all qB.v = q at HA ⊢;by_cases h2 : qo.length ≤ 6
 ·rw [decide_eq_true h2];simp only [Bool.true_and];go_enter Try.func74, Try.ntmps74;go_wp2_with (go_at_call 154; refine (HA.out _ hb0).mono ?_; rintro e w' ⟨rfl, hb'⟩);go_ret;exact ⟨rfl, hb0.trans (hb'.mono (by simp))⟩
 ·rw [decide_eq_false h2];simp only [Bool.false_and];go_enter Try.func74, Try.ntmps74;go_wp2;go_ret;exact ⟨rfl, hb0⟩

/-! ### zf: function 147 -/

def zf.f (l0 : List Int) : Option (List Int) := if l0.length < 140737488355328 then some l0 else none
set_option maxHeartbeats 8000000 in
set_option maxRecDepth 100000 in
theorem zf.calls (A0 : Option Addr) (c0 : Nat) (l0 : List Int) (r : List Int) (w : World) (hr0 : Kd.C (Kd.int .u8) w A0 l0.length l0) (hc0 : l0.length ≤ c0) (h : zf.f l0 = some r) :
  Calls Try.prog 147 #[.slice A0 l0.length c0] w fun e w' => ∃ v0_ : Value, e = .returned (v0_) ∧ Kd.R (Kd.int .u8) 5 w' w.heap.size (fun _ => True) v0_ r ∧ Below w.heap.size w w' := by
 have HR0 := ak hr0;have HC0 := ak hc0
 have HLM : Aside0 (l0.length < 140737488355328) := by
  unfold zf.f at h; split at h
  ·exact ⟨by assumption⟩
  ·cases h
 have hr : l0 = r := by
  unfold zf.f at h; rw [if_pos HLM.out] at h; exact Option.some.inj h
 subst hr;clear hr0 hc0 h;have HB := ak (Below.refl w.heap.size w);cases A0 with
 | none =>
  have hl : l0 = [] := by
   have := HR0.out.2.2;cases l0 with
   | nil => rfl
   | cons x l => obtain ⟨ad, e, _⟩ := this (by simp); cases e
  subst hl;have hq := fun (W : World) => Lib.run_eql_slice_nil (P := Try.prog) W 25 5 none 0 c0 0 0 Try.underlying25
  go_enter Try.func147, Try.ntmps147;go_wp2;go_ret;exact ⟨_, rfl, Kd.R_nil _ _ _ _ _, bw HB.out⟩
 | some ad =>
  have hq := fun (W : World) => Lib.run_eql_slice_nil (P := Try.prog) W 25 5 (some ad) l0.length c0 0 0 Try.underlying25
  go_enter Try.func147, Try.ntmps147;go_wp2_with (first | ((with_reducible refine gate_dst (N := 5) rfl ?_);refine Kd.R_lit (Kd.int .u8) _ 5 ?hg (N := 5) ?hd (xs := ([] : List Int)) (inner := []) (ok := fun _ => True) (okp := fun _ => True) ?hr ?hp (fun _ hk => hk) trivial (Below.refl _ _) (Nat.le_refl _) (by simp) ?_;(case hd => rfl);(case hg => rfl);(case hr => first | (go_simp; done) | (go_simp; rfl));(case hp => exact (Reps.none _ _));intro qmz w3 ho4 hb hg_ hnew_;clear hg_ hnew_;have qeo := ak (Kd.R_lower ho4 (below_size HB.out));replace HB := ak (below_step HB.out hb);clear hb ho4) | ((with_reducible refine gate_builtin (b := .append) (xs := #[.tmp 5, .tmp 6]) rfl ?_);at_builtin;refine Kd.R_append_rows (Kd.int .u8) (w0 := w) w.heap.size rfl (.tmp 5) (.tmp 6) 25 5 (.int .u8 0) 1 rfl Try.underlying25 Jd rfl (by decide) (by omega) qmz [] l0 _ _ _ (fun _ => True) (fun _ => False) rfl rfl ?aO ?aR (fun _ _ h => h) (fun _ h => h.elim) ?aF ?aB ?aS ?aL ?_;(case aR => exact cw HR0.out HB.out);(case aB => exact (bw HB.out));(case aF => exact (fun _ _ => trivial));(case aO => exact (rw_ qeo.out));(case aS => exact (below_size (bw HB.out)));(case aL => have := HLM.out; simp; omega);intro qIK w5 ho hb hg hat;rw [List.nil_append] at ho;replace HB := ak (hb);have qmp := ak (ho);clear qeo;clear ho hb hg hat));go_ret;exact ⟨_, rfl, (rw_ qmp.out), bw HB.out⟩

/-! ### zi: function 87 -/
def zi.f (l0 : List Int) (a1 : Int) (a2 : Int) : Option (List Int × Int) := if a1 < 0 then (some (([] : List Int), (-1))) else (if a2 < 0 then (some (([] : List Int), (-1))) else (if a1 > (l0.length : Int) then (some (([] : List Int), (-1))) else (if a2 > (wrap64 ((l0.length : Int) - a1)) then (some (([] : List Int), (-1))) else (if 0 ≤ a1 then (if a1 ≤ (wrap64 (a1 + a2)) then (if (wrap64 (a1 + a2)) ≤ (l0.length : Int) then ((zf.f ((l0.take ((wrap64 (a1 + a2)) : Int).toNat).drop (a1 : Int).toNat)).bind fun jx => (some (jx, wrap64 (a1 + a2)))) else (none)) else (none)) else (none)))))
set_option maxHeartbeats 8000000 in
set_option maxRecDepth 100000 in
theorem zi.calls (A0 : Option Addr) (c0 : Nat) (l0 : List Int) (a1 : Int) (a2 : Int) (r1 : List Int) (r2 : Int) (w : World) (hr0 : Kd.C (Kd.int .u8) w A0 l0.length l0) (hc0 : l0.length ≤ c0) (h : zi.f l0 a1 a2 = some (r1, r2)) :
  Calls Try.prog 87 #[.slice A0 l0.length c0, .int .i64 a1, .int .i64 a2] w fun e w' => ∃ v0_ : Value, e = .returned (.tuple #[v0_, .int .i64 r2]) ∧ Kd.R (Kd.int .u8) 5 w' w.heap.size (fun _ => True) v0_ r1 ∧ Below w.heap.size w w' := by
 have HR0 := ak hr0;have HC0 := ak hc0;clear hr0 hc0;have HB := ak (Below.refl w.heap.size w);have H : (if a1 < 0 then (some (([] : List Int), (-1))) else (if a2 < 0 then (some (([] : List Int), (-1))) else (if a1 > (l0.length : Int) then (some (([] : List Int), (-1))) else (if a2 > (wrap64 ((l0.length : Int) - a1)) then (some (([] : List Int), (-1))) else (if 0 ≤ a1 then (if a1 ≤ (wrap64 (a1 + a2)) then (if (wrap64 (a1 + a2)) ≤ (l0.length : Int) then ((zf.f ((l0.take ((wrap64 (a1 + a2)) : Int).toNat).drop (a1 : Int).toNat)).bind fun jx => (some (jx, wrap64 (a1 + a2)))) else (none)) else (none)) else (none)))))) = some (r1, r2) := h;clear h;replace H := ip H;obtain ⟨c4b0, H⟩ | ⟨c4b0, H⟩ := H
 ·simp only [Option.some.injEq, Prod.mk.injEq] at H;obtain ⟨rfl, rfl⟩ := H;go_enter Try.func87, Try.ntmps87;go_wp2;go_ret2;exact ⟨_, o1, by first | exact Kd.R_nil _ _ _ _ _ | exact Kd.N_nil _ _ _ _ _ | exact Kd.V_nil _ _ _ _ _ | exact Kd.Q_nil _ _ _ _ _ | exact Kd.S_nil _ _ _ _ _, bw HB.out⟩
 ·replace H := ip H;obtain ⟨c5b0, H⟩ | ⟨c5b0, H⟩ := H
  ·simp only [Option.some.injEq, Prod.mk.injEq] at H;obtain ⟨rfl, rfl⟩ := H;go_enter Try.func87, Try.ntmps87;go_wp2;go_ret2;exact ⟨_, o1, by first | exact Kd.R_nil _ _ _ _ _ | exact Kd.N_nil _ _ _ _ _ | exact Kd.V_nil _ _ _ _ _ | exact Kd.Q_nil _ _ _ _ _ | exact Kd.S_nil _ _ _ _ _, bw HB.out⟩
  ·replace H := ig H;obtain ⟨c6b0, H⟩ | ⟨c6b0, H⟩ := H
   ·simp only [Option.some.injEq, Prod.mk.injEq] at H;obtain ⟨rfl, rfl⟩ := H;go_enter Try.func87, Try.ntmps87;go_wp2;go_ret2;exact ⟨_, o1, by first | exact Kd.R_nil _ _ _ _ _ | exact Kd.N_nil _ _ _ _ _ | exact Kd.V_nil _ _ _ _ _ | exact Kd.Q_nil _ _ _ _ _ | exact Kd.S_nil _ _ _ _ _, bw HB.out⟩
   ·replace H := ig H;obtain ⟨c7b0, H⟩ | ⟨c7b0, H⟩ := H
    ·simp only [Option.some.injEq, Prod.mk.injEq] at H;obtain ⟨rfl, rfl⟩ := H;go_enter Try.func87, Try.ntmps87;go_wp2;go_ret2;exact ⟨_, o1, by first | exact Kd.R_nil _ _ _ _ _ | exact Kd.N_nil _ _ _ _ _ | exact Kd.V_nil _ _ _ _ _ | exact Kd.Q_nil _ _ _ _ _ | exact Kd.S_nil _ _ _ _ _, bw HB.out⟩
    ·replace H := ipE H;obtain ⟨c8b0, c8b1, H⟩ := H;by_cases c9 : a1 ≤ (wrap64 (a1 + a2))
     ·rw [if_pos c9] at H;have c9b0 := eq_true c9;have c9b1 : decide (a1 ≤ (wrap64 (a1 + a2))) = true := decide_eq_true c9;by_cases c10 : (wrap64 (a1 + a2)) ≤ (l0.length : Int)
      ·rw [if_pos c10] at H;have c10b0 := eq_true c10;have c10b1 : decide ((wrap64 (a1 + a2)) ≤ (l0.length : Int)) = true := decide_eq_true c10;obtain ⟨jl, zw⟩ : ∃ y_ : List Int, y_ = ((l0.take ((wrap64 (a1 + a2)) : Int).toNat).drop (a1 : Int).toNat) := ⟨_, rfl⟩;(try with_reducible replace H := bnS H)
       (try rw [← zw] at H)
       have ya := ak zw;clear zw;replace H := bnd H;obtain ⟨jx, A11, H⟩ := H;simp only [Option.some.injEq, Prod.mk.injEq] at H;obtain ⟨rfl, rfl⟩ := H;have q12 : ((wrap64 (a1 + a2)) : Int) ≤ ((l0.length : Int) : Int) := of_decide_eq_true (by first | (with_reducible assumption) | assumption);obtain ⟨qIS, qec, _, qd2, _⟩ := info_parts Jd;have hroom12 : l0.length ≤ c0 := HC0.out;have qlg : Kd.C (Kd.int .u8) _ A0 l0.length l0 := HR0.out;have qmC : (a1 : Int) ≤ ((wrap64 (a1 + a2)) : Int) := of_decide_eq_true (by first | (with_reducible assumption) | assumption);have qmG : (0 : Int) ≤ (a1 : Int) := of_decide_eq_true (by first | (with_reducible assumption) | assumption);have qld := cut_mid (P := Try.prog) 25 5 .i64 .i64 Try.underlying25 qec 1 qd2 A0 l0.length c0 a1 (wrap64 (a1 + a2)) qmG qmC q12 hroom12;have Xh := Kd.C_mid (lo := (a1 : Int).toNat) (hi := ((wrap64 (a1 + a2)) : Int).toNat) (c := c0) qlg (by omega) (by omega) hroom12;obtain ⟨A12, qdb⟩ : ∃ A1, A1 = (if c0 = (a1 : Int).toNat then A0 else (A0 : Option Addr).map (·.add ((a1 : Int).toNat * 1))) := ⟨_, rfl⟩;obtain ⟨c12, qdt⟩ : ∃ c1, c1 = c0 - (a1 : Int).toNat := ⟨_, rfl⟩;have qc3 : jl.length = ((wrap64 (a1 + a2)) : Int).toNat - (a1 : Int).toNat := (by rw [ya.out, List.length_drop, List.length_take] <;> omega);rw [show ((l0).take ((wrap64 (a1 + a2)) : Int).toNat).drop (a1 : Int).toNat = jl from ya.out.symm] at Xh;replace Xh : Kd.C (Kd.int .u8) _ A12 jl.length jl := (by rw [qdb]; exact Xh);rw [← qc3, ← qdb, ← qdt] at qld;have qdj := ak Xh;have qeq := ak (show jl.length ≤ c12 from by rw [qc3, qdt]; exact Nat.sub_le_sub_right (Nat.le_trans (by omega) hroom12) _);clear Xh qlg hroom12 qec qd2 qdt;have qJM := ak qc3;have qJP := ak qdb;clear qc3 qdb;replace q12 := eq_true q12;go_enter Try.func87, Try.ntmps87;go_wp2_with (((with_reducible refine gate_callee (f := 147) rfl ?_);refine glG 34 rfl rfl Try.func147 (zf.calls _ _ jl jx _ (cd qdj) qeq.out A11.out) ?_;rintro e w13 ⟨qIN, rfl, ho0, hb⟩;refine ⟨_, rfl, ?_⟩;have qmr := ak (Kd.R_lower ho0 (below_size (bw HB.out)));replace HB := b2 HB hb;(try clear hb);(try clear ho0)));go_ret2;exact ⟨_, o1, rw_ qmr.out, bw HB.out⟩
      ·rw [if_neg c10] at H;exact absurd H (by simp)
     ·rw [if_neg c9] at H;exact absurd H (by simp)

/-! ### qn: function 163 -/

def qn.byte (x : Int) : Int := if 65 ≤ x ∧ x ≤ 90 then x + 97 - 65 else x
def qn.f (l0 : List Int) : Option (List Int) := if l0.length < 140737488355328 then some (l0.map qn.byte) else none
theorem qn.step (l : List Int) (i : Nat) (h : i < l.length) : (l.take i).map qn.byte ++ l.drop i = (l.take i).map qn.byte ++ rd l (i : Int) :: l.drop (i + 1) := by
 rw [List.drop_eq_getElem_cons h]; simp [rd, List.getD_eq_getElem?_getD, h]
theorem qn.next (l : List Int) (i : Nat) (h : i < l.length) : ((l.take i).map qn.byte ++ l.drop i).set i (qn.byte (rd l (i : Int))) = (l.take (i + 1)).map qn.byte ++ l.drop (i + 1) := by
 rw [qn.step l i h, List.set_append_right _ _ (by simp; omega)];simp only [List.length_map, List.length_take, Nat.min_eq_left (Nat.le_of_lt h), Nat.sub_self, List.set_cons_zero];rw [List.take_succ_eq_append_getElem h, List.map_append, List.append_assoc];simp only [List.map_cons, List.map_nil, List.singleton_append];congr 2
 simp [rd, List.getD_eq_getElem?_getD, h]
theorem qn.at (l : List Int) (i : Nat) (h : i < l.length) : rdOf (0 : Int) ((l.take i).map qn.byte ++ l.drop i) (i : Int) = rd l (i : Int) := by
 rw [qn.step l i h];simp only [rdOf, List.getD_eq_getElem?_getD, show ((i : Int)).toNat = i from by omega];rw [List.getElem?_append_right (by simp; omega)];simp [Nat.min_eq_left (Nat.le_of_lt h)]
theorem qn.keep (l : List Int) (i : Nat) (h : i < l.length) (hb : qn.byte (rd l (i : Int)) = rd l (i : Int)) : (l.take (i + 1)).map qn.byte ++ l.drop (i + 1) = (l.take i).map qn.byte ++ l.drop i := by
 rw [← qn.next l i h, hb, qn.step l i h, List.set_append_right _ _ (by simp; omega)];simp [Nat.min_eq_left (Nat.le_of_lt h)]
set_option maxHeartbeats 8000000 in
set_option maxRecDepth 100000 in
theorem qn.calls (A0 : Option Addr) (c0 : Nat) (l0 : List Int) (r : List Int) (w : World) (hr0 : Kd.C (Kd.int .u8) w A0 l0.length l0) (hc0 : l0.length ≤ c0) (h : qn.f l0 = some r) :
  Calls Try.prog 163 #[.slice A0 l0.length c0] w fun e w' => ∃ v0_ : Value, e = .returned (v0_) ∧ Kd.R (Kd.int .u8) 5 w' w.heap.size (fun _ => True) v0_ r ∧ Below w.heap.size w w' := by
 have HR0 := ak hr0;have HC0 := ak hc0
 have hlm : l0.length < 140737488355328 := by
  unfold qn.f at h; split at h
  ·assumption
  ·cases h
 have hr : l0.map qn.byte = r := by
  unfold qn.f at h; rw [if_pos hlm] at h; exact Option.some.inj h
 subst hr;clear hr0 hc0 h;go_enter Try.func163, Try.ntmps163;go_wp2_with (go_at_call 147; refine (zf.calls A0 c0 l0 l0 _ HR0.out HC0.out (by unfold zf.f; rw [if_pos hlm])).mono ?_; rintro e w' ⟨v1, rfl, ho, hb⟩; have HO := ak ho; have HB := ak hb; clear ho hb; obtain ⟨A1, c1, e1⟩ := Kd.R_slice HO.out; subst e1);go_loopg [10] l0.length (fun gg s10 w' => ∃ kk : Nat, kk ≤ l0.length ∧ l0.length - kk ≤ gg ∧ s10 = .int .i64 kk ∧ Aside0 (Kd.R (Kd.int .u8) 5 w' w.heap.size (fun _ => True) (.slice A1 l0.length c1) ((l0.take kk).map qn.byte ++ l0.drop kk)) ∧ Aside0 (Below w.heap.size w w'))
 case atStart => exact ⟨0, Nat.zero_le _, by omega, rfl, ⟨by simpa using HO.out⟩, HB⟩
 case round =>
  clear HO HB;obtain ⟨kk, hkk, hg, rfl, HO, HB⟩ := hrel;by_cases hlt : kk < l0.length
  ·have hltz : (kk : Int) < (l0.length : Int) := by omega
   have hlen : ((l0.take kk).map qn.byte ++ l0.drop kk).length = l0.length := by simp; omega
   obtain ⟨g, cp, eo, hgb, hgl, cl, hgc⟩ := Kd.R_form HO.out (by omega);have eA : A1 = some ⟨g, 0, none⟩ := by injection eo
   subst eA;have GB := ak hgb;have GL := ak hgl;have HAT := qn.at l0 kk hlt;obtain ⟨hcell, hfr⟩ := Kd.R_celln 0 HO.out (kk : Int) (by omega) (by omega);rw [HAT] at hcell;rw [show ((kk : Int)).toNat = kk from by omega] at hcell hfr;have HP := ak (Kd.R_putn HO.out (kk : Int) (qn.byte (rd l0 (kk : Int))));rw [show ((kk : Int)).toNat = kk from by omega, qn.next l0 kk hlt] at HP;have HK := ak (qn.keep l0 kk hlt);clear hlen eo hgb hgl hgc HAT;generalize rd l0 (kk : Int) = x at hcell HP HK;by_cases h1 : 65 ≤ x
   ·by_cases h2 : x ≤ 90
    ·have hbyte : qn.byte x = x + 97 - 65 := by unfold qn.byte; rw [if_pos ⟨h1, h2⟩]
     rw [hbyte] at HP;clear HK hbyte;go_wp2;go_roundg (l0.length - (kk + 1));case measure => omega
     case rel => exact ⟨kk + 1, by omega, by omega, by go_num, ⟨HP.out⟩, ⟨below_set HB.out GB.out⟩⟩
    ·have hbyte : qn.byte x = x := by unfold qn.byte; rw [if_neg (by omega)]
     have HK2 := ak (HK.out hbyte);clear hbyte HK HP;go_wp2;go_roundg (l0.length - (kk + 1));case measure => omega
     case rel => exact ⟨kk + 1, by omega, by omega, by go_num, ⟨by rw [HK2.out]; exact HO.out⟩, HB⟩
   ·have hbyte : qn.byte x = x := by unfold qn.byte; rw [if_neg (by omega)]
    have HK2 := ak (HK.out hbyte);clear hbyte HK HP;go_wp2;go_roundg (l0.length - (kk + 1));case measure => omega
    case rel => exact ⟨kk + 1, by omega, by omega, by go_num, ⟨by rw [HK2.out]; exact HO.out⟩, HB⟩
  ·have : kk = l0.length := by omega
   subst this;go_wp2;go_ret;refine ⟨_, rfl, ?_, HB.out⟩;have := HO.out;rw [List.take_of_length_le (Nat.le_refl _), List.drop_of_length_le (Nat.le_refl _), List.append_nil] at this;exact this

/-! ### qi: function 86 -/
mutual
def qi.j0 : Nat → List Int → Int → Bool → Option ((List (List Int)) × Int)
 | 0, _, _, _ => none
 | k + 1, x0, x1, x20 => if x20 = true then (some (([] : List (List Int)), (-1))) else (qi.l0 k x0 x1 (-1) 0 ([] : List (List Int)))
def qi.l0 : Nat → List Int → Int → Int → Int → List (List Int) → Option ((List (List Int)) × Int)
 | 0, _, _, _, _, _ => none
 | k + 1, x0, x1, x7, x8, qY => if x1 ≥ (x0.length : Int) then (some (([] : List (List Int)), (-1))) else (if 0 ≤ x1 then (if x1 < (x0.length : Int) then (if (wrap64 (rd x0 x1)) = 0 then (if x7 < 0 then ((qq.f qY).bind fun jw => (if jw = true then (some (qY, wrap64 (x1 + 1))) else (some (([] : List (List Int)), (-1))))) else ((qq.f qY).bind fun jx => (if jx = true then (some (qY, x7)) else (some (([] : List (List Int)), (-1)))))) else (if (wrap64 (rd x0 x1)) ≥ 192 then ((qw.f k x0 x1 2).bind fun zS => (if zS.2 < 0 then (qi.j2 k x0 x7 (wrap64 (x8 + 1)) (wrap64 (zS.1 - 49152)) zS.2 true qY) else (if (wrap64 (zS.1 - 49152)) ≥ x1 then (qi.j2 k x0 x7 (wrap64 (x8 + 1)) (wrap64 (zS.1 - 49152)) zS.2 true qY) else (qi.j2 k x0 x7 (wrap64 (x8 + 1)) (wrap64 (zS.1 - 49152)) zS.2 (decide ((wrap64 (x8 + 1)) > 8)) qY)))) else (if (wrap64 (rd x0 x1)) > 15 then (some (([] : List (List Int)), (-1))) else ((zi.f x0 (wrap64 (x1 + 1)) (wrap64 (rd x0 x1))).bind fun Jh => (if Jh.2 < 0 then (some (([] : List (List Int)), (-1))) else (if (qY.length : Int) = 6 then (some (([] : List (List Int)), (-1))) else ((qn.f Jh.1).bind fun jZ => (if qY.length < 5864062014805 then (qi.l0 k x0 Jh.2 x7 x8 (qY ++ [jZ])) else (none))))))))) else (none)) else (none))
def qi.j2 : Nat → List Int → Int → Int → Int → Int → Bool → List (List Int) → Option ((List (List Int)) × Int)
 | 0, _, _, _, _, _, _, _ => none
 | k + 1, x0, x7, x8, x10, x11, x94, qY => if x94 = true then (some (([] : List (List Int)), (-1))) else (if x7 < 0 then (qi.l0 k x0 x10 x11 x8 qY) else (qi.l0 k x0 x10 x7 x8 qY))
end
def qi.f (k : Nat) (l0 : List Int) (a1 : Int) : Option ((List (List Int)) × Int) := if (l0.length : Int) > 512 then (qi.j0 k l0 a1 true) else (qi.j0 k l0 a1 (decide (a1 < 0)))
def qi.T10 : Bool × List (List Nat × List Nat) := (true, [([], []), ([0], [0]), ([], []), ([2], [2]), ([3], [3]), ([1, 4, 3], [1, 4]), ([], []), ([0, 1, 2, 3, 4, 5], []), ([7, 5, 5, 0, 1, 2, 3, 4, 5], [5, 7]), ([6, 8, 0, 1, 2, 3, 4, 5, 6, 7, 8], [6])])
def qi.B10 : List Nat := [0, 1, 0, 4, 12, 31, 0, 63, 191, 511]
theorem qi.tab10 : rtab .any (opsOf Try.f86 10) = qi.T10 := by kernel_rfl
theorem qi.bits10 : waitsOk qi.T10.2 qi.B10 = true := by kernel_rfl
set_option maxHeartbeats 8000000 in
set_option maxRecDepth 100000 in
theorem qi.calls (k : Nat) (A0 : Option Addr) (c0 : Nat) (l0 : List Int) (a1 : Int) (r1 : List (List Int)) (r2 : Int) (w : World) (hr0 : Kd.C (Kd.int .u8) w A0 l0.length l0) (hc0 : l0.length ≤ c0) (h : qi.f k l0 a1 = some (r1, r2)) :
  Calls Try.prog 86 #[.slice A0 l0.length c0, .int .i64 a1] w fun e w' => ∃ v0_ : Value, e = .returned (.tuple #[.agg #[v0_], .int .i64 r2]) ∧ Kd.S (Kd.slice 5 (Kd.int .u8)) 25 w' w.heap.size (fun _ => True) v0_ r1 ∧ Below w.heap.size w w' := by
 have QD := Try.underlying31;have HR0 := ak hr0;have HC0 := ak hc0;clear hr0 hc0;have HB := ak (Below.refl w.heap.size w);have H : (if (l0.length : Int) > 512 then (qi.j0 k l0 a1 true) else (qi.j0 k l0 a1 (decide (a1 < 0)))) = some (r1, r2) := h;clear h;have HC3 := ak H;clear H;go_enter Try.func86, Try.ntmps86;go_upto_region 1 with (((with_reducible refine gate_dst (N := 4) rfl ?_);(try (refine gate_guard (by rfl) ?_; dsimp only));refine bxd (N := 4) rfl HB ?_;clear HB;intro qb w4 hg HB qc qA hb;have jv := qA;clear hb hg))
 (try simp only [Act.put, List.setIfInBounds_toArray, List.set_cons_zero, List.set_cons_succ])
 go_cut [20] (fun v20 wc => ∃ (kq : Nat) (qcV : Bool), v20 = .bool qcV ∧ Aside0 (qi.j0 kq l0 a1 qcV = some (r1, r2)) ∧ Aside0 (kq ≤ k) ∧ Aside0 (wc.heap[qb]? = some (.cells #[(.slice none 0 0)] 31 (0, 0))) ∧ Aside0 (Below w.heap.size w wc))
 case first =>
  have H := HC3.out;clear HC3;replace H := ig H;obtain ⟨c5b0, H⟩ | ⟨c5b0, H⟩ := H
  ·have c5b1 : decide (512 < l0.length) = true := decide_eq_true (by have := of_decide_eq_true c5b0; omega);(first | rw [c5b0] | (simp only [i64_w, i32_w]; rw [c5b0]) | skip)
   have H' := ak H;clear H;go_wp2;go_meet
   case rel => exact ⟨_, (true), o2, H', ⟨o3⟩, ⟨bk qc.out⟩, ⟨bs⟩⟩
  ·have c5b1 : decide (512 < l0.length) = false := decide_eq_false (by have := of_decide_eq_false c5b0; omega);(first | rw [c5b0] | (simp only [i64_w, i32_w]; rw [c5b0]) | skip)
   have H' := ak H;clear H;go_wp2;go_meet
   case rel => exact ⟨_, (decide (a1 < 0)), o2, H', ⟨o3⟩, ⟨bk qc.out⟩, ⟨bs⟩⟩
 case rest =>
  clear HC3;obtain ⟨kq, qcV, rfl, HA, HJ2, qc, HB⟩ := hcut;cases kq with
  | zero => exact absurd HA.out (by simp [qi.j0])
  | succ kj2 =>
   have H := HA.out;clear HA;simp only [qi.j0] at H;replace H := ib H;obtain ⟨rfl, H⟩ | ⟨rfl, H⟩ := H
   ·simp only [Option.some.injEq, Prod.mk.injEq] at H;obtain ⟨rfl, rfl⟩ := H;obtain ⟨qlb, qk3⟩ := cells1 qc.out;go_wp2;refine bodyPost_ret (results_ct rfl _ _ qb 31 #[.slice none 0 0] (0, 0) _ rfl (zx qc.out) Try.underlying31 rfl (by kernel_rfl)) rfl ?_;exact ⟨_, o1, by first | exact Kd.S_nil _ _ _ _ _ | exact Kd.N_nil _ _ _ _ _ | exact Kd.V_nil _ _ _ _ _ | exact Kd.Q_nil _ _ _ _ _ | exact Kd.R_nil _ _ _ _ _, bs⟩
   ·have H' := ak H;clear H;go_wp2_with (((with_reducible refine gate_dst (N := 6) rfl ?_);(try (refine gate_guard (by rfl) ?_; dsimp only));refine bxe (N := 6) rfl ?_;intro qg hg w8 hbox hb;have qf := ak (hbox);have jp := b3s hg bs;have zG := jp;replace HB := b2s bs hb;have qe := b4 hg qc;have qa := b5 hg qc;replace qc := b1 qc hb;clear hb hbox hg;have qJw := qa.out;have qJt := qe.out;obtain ⟨Jw, Ju⟩ := cells1 qf.out));go_loopg [1, 7, 8] kj2 (fun kq v1 v7 v8 w' => ∃ (yd : Int) (QG : Int) (yr : Int) (qO : List (List Int)) (jF : Value), v1 = .int .i64 yd ∧ v7 = .int .i64 QG ∧ v8 = .int .i64 yr ∧ Aside0 (qi.l0 kq l0 yd QG yr qO = some (r1, r2)) ∧ Aside0 (kq ≤ kj2) ∧ Aside0 (Kd.S (Kd.slice 5 (Kd.int .u8)) 25 w' w.heap.size (fun _ => True) jF qO) ∧ Aside0 (w'.heap[qb]? = some (.cells #[(.slice none 0 0)] 31 (0, 0))) ∧ Aside0 (w'.heap[qg]? = some (.cells #[jF] 31 (0, 0))) ∧ Aside0 (Below w.heap.size w w'))
    case atStart => exact ⟨(a1), ((-1)), (0), (([] : List (List Int))), (.slice none 0 0), o2, o2, o2, H', ⟨Nat.le_refl _⟩, ⟨by first | exact Kd.S_nil _ _ _ _ _ | exact Kd.N_nil _ _ _ _ _ | exact Kd.V_nil _ _ _ _ _ | exact Kd.Q_nil _ _ _ _ _ | exact Kd.R_nil _ _ _ _ _⟩, ⟨qdg qe.out qc.out⟩, ⟨zx qf.out⟩, ⟨bs⟩⟩
    case round =>
     clear H';(try clear Jw)
     (try clear Ju)
     obtain ⟨yd, QG, yr, qO, jF, rfl, rfl, rfl, HA, HK2, HO_103000, qc, qf, HB⟩ := hrel;cases gk with
     | zero => exact absurd HA.out (by simp [qi.l0])
     | succ k2 =>
      have H := HA.out;clear HA;simp only [qi.l0] at H;replace H := ih H;obtain ⟨c11b0, H⟩ | ⟨c11b0, H⟩ := H
      ·simp only [Option.some.injEq, Prod.mk.injEq] at H;obtain ⟨rfl, rfl⟩ := H;have qea := qe.out;have qd8 := qa.out;obtain ⟨Qx, Qw⟩ := cells1 qc.out;go_wp2;refine bodyPost_ret (results_ct rfl _ _ qb 31 #[.slice none 0 0] (0, 0) _ rfl (zx qc.out) Try.underlying31 rfl (by kernel_rfl)) rfl ?_;exact ⟨_, o1, by first | exact Kd.S_nil _ _ _ _ _ | exact Kd.N_nil _ _ _ _ _ | exact Kd.V_nil _ _ _ _ _ | exact Kd.Q_nil _ _ _ _ _ | exact Kd.R_nil _ _ _ _ _, bs⟩
      ·replace H := ipN H;obtain ⟨c14b0, H⟩ := H;replace H := ipN H;obtain ⟨c15b0, H⟩ := H;replace H := ie H;obtain ⟨c16b0, c16b1, H⟩ | ⟨c16b0, c16b1, H⟩ := H
       ·replace H := ip H;obtain ⟨c17b0, H⟩ | ⟨c17b0, H⟩ := H
        ·replace H := bnd H;obtain ⟨jw, A18, H⟩ := H;replace H := ib H;obtain ⟨rfl, H⟩ | ⟨rfl, H⟩ := H
         ·simp only [Option.some.injEq, Prod.mk.injEq] at H;obtain ⟨rfl, rfl⟩ := H;obtain ⟨yC, rfl, jL, zM, zL⟩ := el_int HR0 HB yd;have qHJ := qa.out;have qHg := qe.out;obtain ⟨Yy, ZD⟩ := cells1 qf.out;obtain ⟨qlI, qlu, quR⟩ := Kd.S_slice HO_103000.out;subst quR;go_wp2_with (((with_reducible refine gate_callee (f := 74) rfl ?_);refine glB 66 rfl rfl Try.func74 (qq.calls _ _ qO true _ ?qL ?ji A18.out) (fun w23 hb => ?_);(case qL => repeat (first | exact (Kd.S_reads' HO_103000.out).2.2 | (with_reducible refine Kd.C_alloc ?_ _) | (with_reducible refine Kd.C_drewN ?_ _) | (with_reducible refine Kd.C_drew ?_)));(case ji => exact (Kd.S_reads' HO_103000.out).2.1);replace HO_103000 := ak (Kd.S_below (sw HO_103000.out) hb);replace qc := b1 qc hb;replace qf := b1 qf hb;replace HB := b2s bs hb;(try clear hb);obtain ⟨qj1, qgT⟩ := cells1 qf.out;obtain ⟨qcy, qbb⟩ := cells1 qc.out));refine bodyPost_ret (results_ct rfl _ _ qb 31 #[.slice qlI qO.length qlu] (0, 0) _ rfl (zx qc.out) Try.underlying31 rfl (by kernel_rfl)) rfl ?_;exact ⟨_, o1, by (with_reducible repeat (first | apply Kd.S_alloc | apply Kd.S_drewN | apply Kd.S_drew)); exact Kd.S_mono (Kd.S_far (p := ⟨qb, 0, none⟩) (Kd.S_types HO_103000.out qc.out (by decide)) (fun _ hk => hk.2) (.slice qlI qO.length qlu)) (fun _ hk => trivial), bs⟩
         ·simp only [Option.some.injEq, Prod.mk.injEq] at H;obtain ⟨rfl, rfl⟩ := H;obtain ⟨yC, rfl, jL, zM, zL⟩ := el_int HR0 HB yd;have qd9 := qa.out;have qd7 := qe.out;obtain ⟨Yx, ZC⟩ := cells1 qf.out;obtain ⟨qJZ, qJE, quP⟩ := Kd.S_slice HO_103000.out;subst quP;go_wp2_with (((with_reducible refine gate_callee (f := 74) rfl ?_);refine glB 66 rfl rfl Try.func74 (qq.calls _ _ qO false _ ?qL ?ji A18.out) (fun w29 hb => ?_);(case qL => repeat (first | exact (Kd.S_reads' HO_103000.out).2.2 | (with_reducible refine Kd.C_alloc ?_ _) | (with_reducible refine Kd.C_drewN ?_ _) | (with_reducible refine Kd.C_drew ?_)));(case ji => exact (Kd.S_reads' HO_103000.out).2.1);replace HO_103000 := ak (Kd.S_below (sw HO_103000.out) hb);replace qc := b1 qc hb;replace qf := b1 qf hb;replace HB := b2s bs hb;(try clear hb);obtain ⟨Jv, Jt⟩ := cells1 qc.out));refine bodyPost_ret (results_ct rfl _ _ qb 31 #[.slice none 0 0] (0, 0) _ rfl (zx qc.out) Try.underlying31 rfl (by kernel_rfl)) rfl ?_;exact ⟨_, o1, by first | exact Kd.S_nil _ _ _ _ _ | exact Kd.N_nil _ _ _ _ _ | exact Kd.V_nil _ _ _ _ _ | exact Kd.Q_nil _ _ _ _ _ | exact Kd.R_nil _ _ _ _ _, bs⟩
        ·replace H := bnd H;obtain ⟨jx, A31, H⟩ := H;replace H := ib H;obtain ⟨rfl, H⟩ | ⟨rfl, H⟩ := H
         ·simp only [Option.some.injEq, Prod.mk.injEq] at H;obtain ⟨rfl, rfl⟩ := H;obtain ⟨yC, rfl, jL, zM, zL⟩ := el_int HR0 HB yd;have qHE := qa.out;have qHb := qe.out;obtain ⟨Yi, Zn⟩ := cells1 qf.out;obtain ⟨qlG, qls, quN⟩ := Kd.S_slice HO_103000.out;subst quN;go_wp2_with (((with_reducible refine gate_callee (f := 74) rfl ?_);refine glB 66 rfl rfl Try.func74 (qq.calls _ _ qO true _ ?qL ?ji A31.out) (fun w36 hb => ?_);(case qL => repeat (first | exact (Kd.S_reads' HO_103000.out).2.2 | (with_reducible refine Kd.C_alloc ?_ _) | (with_reducible refine Kd.C_drewN ?_ _) | (with_reducible refine Kd.C_drew ?_)));(case ji => exact (Kd.S_reads' HO_103000.out).2.1);replace HO_103000 := ak (Kd.S_below (sw HO_103000.out) hb);replace qc := b1 qc hb;replace qf := b1 qf hb;replace HB := b2s bs hb;(try clear hb);obtain ⟨qCH, qyA⟩ := cells1 qf.out;obtain ⟨qci, qaV⟩ := cells1 qc.out));refine bodyPost_ret (results_ct rfl _ _ qb 31 #[.slice qlG qO.length qls] (0, 0) _ rfl (zx qc.out) Try.underlying31 rfl (by kernel_rfl)) rfl ?_;exact ⟨_, o1, by (with_reducible repeat (first | apply Kd.S_alloc | apply Kd.S_drewN | apply Kd.S_drew)); exact Kd.S_mono (Kd.S_far (p := ⟨qb, 0, none⟩) (Kd.S_types HO_103000.out qc.out (by decide)) (fun _ hk => hk.2) (.slice qlG qO.length qls)) (fun _ hk => trivial), bs⟩
         ·simp only [Option.some.injEq, Prod.mk.injEq] at H;obtain ⟨rfl, rfl⟩ := H;obtain ⟨yC, rfl, jL, zM, zL⟩ := el_int HR0 HB yd;have ql6 := qa.out;have ql1 := qe.out;obtain ⟨qcb, qaO⟩ := cells1 qf.out;obtain ⟨qJX, qJC, quL⟩ := Kd.S_slice HO_103000.out;subst quL;go_wp2_with (((with_reducible refine gate_callee (f := 74) rfl ?_);refine glB 66 rfl rfl Try.func74 (qq.calls _ _ qO false _ ?qL ?ji A31.out) (fun w42 hb => ?_);(case qL => repeat (first | exact (Kd.S_reads' HO_103000.out).2.2 | (with_reducible refine Kd.C_alloc ?_ _) | (with_reducible refine Kd.C_drewN ?_ _) | (with_reducible refine Kd.C_drew ?_)));(case ji => exact (Kd.S_reads' HO_103000.out).2.1);replace HO_103000 := ak (Kd.S_below (sw HO_103000.out) hb);replace qc := b1 qc hb;replace qf := b1 qf hb;replace HB := b2s bs hb;(try clear hb);obtain ⟨qca, qaN⟩ := cells1 qc.out));refine bodyPost_ret (results_ct rfl _ _ qb 31 #[.slice none 0 0] (0, 0) _ rfl (zx qc.out) Try.underlying31 rfl (by kernel_rfl)) rfl ?_;exact ⟨_, o1, by first | exact Kd.S_nil _ _ _ _ _ | exact Kd.N_nil _ _ _ _ _ | exact Kd.V_nil _ _ _ _ _ | exact Kd.Q_nil _ _ _ _ _ | exact Kd.R_nil _ _ _ _ _, bs⟩
       ·replace H := ih H;obtain ⟨c44b0, H⟩ | ⟨c44b0, H⟩ := H
        ·replace H := Option.bind_eq_some_iff.mp H;obtain ⟨⟨jY, qu⟩, qlP, H⟩ := H;replace H : (if qu < 0 then (qi.j2 k2 l0 QG (wrap64 (yr + 1)) (wrap64 (jY - 49152)) qu true qO) else (if (wrap64 (jY - 49152)) ≥ yd then (qi.j2 k2 l0 QG (wrap64 (yr + 1)) (wrap64 (jY - 49152)) qu true qO) else (qi.j2 k2 l0 QG (wrap64 (yr + 1)) (wrap64 (jY - 49152)) qu (decide ((wrap64 (yr + 1)) > 8)) qO))) = some (r1, r2) := H;have A45 := ak qlP;clear qlP;have qdJ := ak H;clear H;obtain ⟨yC, rfl, jL, zM, zL⟩ := el_int HR0 HB yd;go_upto_region 21 with (((with_reducible refine gate_callee (f := 84) rfl ?_);refine glD 77 rfl rfl Try.func84 (qw.calls k2 _ _ l0 yd 2 jY qu _ (cv HR0 HB) HC0.out A45.out) (fun nd => ?_)))
         (try simp only [Act.put, List.setIfInBounds_toArray, List.set_cons_zero, List.set_cons_succ])
         go_cut [94] (fun v94 wc => ∃ (kq : Nat) (YV : Bool), v94 = .bool YV ∧ Aside0 (qi.j2 kq l0 QG (wrap64 (yr + 1)) (wrap64 (jY - 49152)) qu YV qO = some (r1, r2)) ∧ Aside0 (kq ≤ k2) ∧ Aside0 (Kd.S (Kd.slice 5 (Kd.int .u8)) 25 wc w.heap.size (fun _ => True) jF qO) ∧ Aside0 (wc.heap[qb]? = some (.cells #[(.slice none 0 0)] 31 (0, 0))) ∧ Aside0 (wc.heap[qg]? = some (.cells #[jF] 31 (0, 0))) ∧ Aside0 (Below w.heap.size w wc))
         case first =>
          have H := qdJ.out;clear qdJ;replace H := ip H;obtain ⟨c47b0, H⟩ | ⟨c47b0, H⟩ := H
          ·(first | rw [c47b0] | (simp only [i64_w, i32_w]; rw [c47b0]) | skip)
           have H' := ak H;clear H;go_wp2;go_meet
           case rel => exact ⟨_, (true), o2, H', ⟨by have := HJ2.out; have := HK2.out; first | omega | exact Nat.le_refl _⟩, ⟨sw HO_103000.out⟩, ⟨bk qc.out⟩, ⟨bk qf.out⟩, ⟨bs⟩⟩
          ·(first | rw [c47b0] | (simp only [i64_w, i32_w]; rw [c47b0]) | skip)
           replace H := ih H;obtain ⟨c48b0, H⟩ | ⟨c48b0, H⟩ := H
           ·have H' := ak H;clear H;go_wp2;go_meet
            case rel => exact ⟨_, (true), o2, H', ⟨by have := HJ2.out; have := HK2.out; first | omega | exact Nat.le_refl _⟩, ⟨sw HO_103000.out⟩, ⟨bk qc.out⟩, ⟨bk qf.out⟩, ⟨bs⟩⟩
           ·have H' := ak H;clear H;go_wp2;go_meet
            case rel => exact ⟨_, (decide ((wrap64 (yr + 1)) > 8)), o2, H', ⟨by have := HJ2.out; have := HK2.out; first | omega | exact Nat.le_refl _⟩, ⟨sw HO_103000.out⟩, ⟨bk qc.out⟩, ⟨bk qf.out⟩, ⟨bs⟩⟩
         case rest =>
          clear qdJ;(try clear c11b0)
          (try clear c14b0)
          (try clear c15b0)
          (try clear c16b0)
          (try clear c16b1)
          (try clear c44b0)
          (try clear Jw)
          (try clear Ju)
          (try clear jL)
          (try clear zM)
          (try clear zL)
          obtain ⟨kq, YV, rfl, HA, qdl, HO_103000, qc, qf, HB⟩ := hcut;cases kq with
          | zero => exact absurd HA.out (by simp [qi.j2])
          | succ qkQ =>
           have H := HA.out;clear HA;simp only [qi.j2] at H;replace H := ib H;obtain ⟨rfl, H⟩ | ⟨rfl, H⟩ := H
           ·simp only [Option.some.injEq, Prod.mk.injEq] at H;obtain ⟨rfl, rfl⟩ := H;have qHx := qe.out;have qG4 := qa.out;obtain ⟨qiS, qfK⟩ := cells1 qc.out;go_wp2;refine bodyPost_ret (results_ct rfl _ _ qb 31 #[.slice none 0 0] (0, 0) _ rfl (zx qc.out) Try.underlying31 rfl (by kernel_rfl)) rfl ?_;exact ⟨_, o1, by first | exact Kd.S_nil _ _ _ _ _ | exact Kd.N_nil _ _ _ _ _ | exact Kd.V_nil _ _ _ _ _ | exact Kd.Q_nil _ _ _ _ _ | exact Kd.R_nil _ _ _ _ _, bs⟩
           ·replace H := ip H;obtain ⟨c52b0, H⟩ | ⟨c52b0, H⟩ := H
            ·have H' := ak H;clear H;go_wp2;go_roundg qkQ;case measure => have := HJ2.out; have := HK2.out; have := qdl.out; omega
             case rel => exact ⟨((wrap64 (jY - 49152))), (qu), ((wrap64 (yr + 1))), (qO), (jF), o2, o2, o2, H', ⟨by have := HJ2.out; have := HK2.out; have := qdl.out; omega⟩, ⟨sw HO_103000.out⟩, ⟨bk qc.out⟩, ⟨bk qf.out⟩, ⟨bs⟩⟩
            ·have H' := ak H;clear H;go_wp2;go_roundg qkQ;case measure => have := HJ2.out; have := HK2.out; have := qdl.out; omega
             case rel => exact ⟨((wrap64 (jY - 49152))), (QG), ((wrap64 (yr + 1))), (qO), (jF), o2, o2, o2, H', ⟨by have := HJ2.out; have := HK2.out; have := qdl.out; omega⟩, ⟨sw HO_103000.out⟩, ⟨bk qc.out⟩, ⟨bk qf.out⟩, ⟨bs⟩⟩
        ·replace H := ig H;obtain ⟨c53b0, H⟩ | ⟨c53b0, H⟩ := H
         ·simp only [Option.some.injEq, Prod.mk.injEq] at H;obtain ⟨rfl, rfl⟩ := H;obtain ⟨yC, rfl, jL, zM, zL⟩ := el_int HR0 HB yd;have ql5 := qe.out;have ql0 := qa.out;obtain ⟨qbV, qay⟩ := cells1 qc.out;go_wp2;refine bodyPost_ret (results_ct rfl _ _ qb 31 #[.slice none 0 0] (0, 0) _ rfl (zx qc.out) Try.underlying31 rfl (by kernel_rfl)) rfl ?_;exact ⟨_, o1, by first | exact Kd.S_nil _ _ _ _ _ | exact Kd.N_nil _ _ _ _ _ | exact Kd.V_nil _ _ _ _ _ | exact Kd.Q_nil _ _ _ _ _ | exact Kd.R_nil _ _ _ _ _, bs⟩
         ·replace H := Option.bind_eq_some_iff.mp H;obtain ⟨⟨zC, jX⟩, qlO, H⟩ := H;replace H : (if jX < 0 then (some (([] : List (List Int)), (-1))) else (if (qO.length : Int) = 6 then (some (([] : List (List Int)), (-1))) else ((qn.f zC).bind fun jZ => (if qO.length < 5864062014805 then (qi.l0 k2 l0 jX QG yr (qO ++ [jZ])) else (none))))) = some (r1, r2) := H;have A56 := ak qlO;clear qlO;replace H := ip H;obtain ⟨c57b0, H⟩ | ⟨c57b0, H⟩ := H
          ·simp only [Option.some.injEq, Prod.mk.injEq] at H;obtain ⟨rfl, rfl⟩ := H;obtain ⟨yC, rfl, jL, zM, zL⟩ := el_int HR0 HB yd;go_wp2_with (((with_reducible refine gate_callee (f := 87) rfl ?_);refine glG 38 rfl rfl Try.func87 (zi.calls _ _ l0 (wrap64 (yd + 1)) (wrap64 (rd l0 yd)) zC jX _ (cv HR0 HB) HC0.out A56.out) ?_;rintro e w58 ⟨Xa, rfl, ho0, hb⟩;refine ⟨_, rfl, ?_⟩;replace HO_103000 := ak (Kd.S_elder' (sw HO_103000.out) (Kd.R_base ho0) hb);have jP := ak (Kd.R_lower ho0 (below_size bs));replace qc := b1 qc hb;replace qf := b1 qf hb;replace HB := b2s bs hb;(try clear hb);(try clear ho0);have qHs := qe.out;have qGZ := qa.out;obtain ⟨ZS, JX⟩ := cells1 qc.out));refine bodyPost_ret (results_ct rfl _ _ qb 31 #[.slice none 0 0] (0, 0) _ rfl (zx qc.out) Try.underlying31 rfl (by kernel_rfl)) rfl ?_;exact ⟨_, o1, by first | exact Kd.S_nil _ _ _ _ _ | exact Kd.N_nil _ _ _ _ _ | exact Kd.V_nil _ _ _ _ _ | exact Kd.Q_nil _ _ _ _ _ | exact Kd.R_nil _ _ _ _ _, bs⟩
          ·replace H := ie H;obtain ⟨c61b0, c61b1, H⟩ | ⟨c61b0, c61b1, H⟩ := H
           ·simp only [Option.some.injEq, Prod.mk.injEq] at H;obtain ⟨rfl, rfl⟩ := H;obtain ⟨yC, rfl, jL, zM, zL⟩ := el_int HR0 HB yd;go_wp2_with (((with_reducible refine gate_callee (f := 87) rfl ?_);refine glG 38 rfl rfl Try.func87 (zi.calls _ _ l0 (wrap64 (yd + 1)) (wrap64 (rd l0 yd)) zC jX _ (cv HR0 HB) HC0.out A56.out) ?_;rintro e w62 ⟨Xa, rfl, ho0, hb⟩;refine ⟨_, rfl, ?_⟩;replace HO_103000 := ak (Kd.S_elder' (sw HO_103000.out) (Kd.R_base ho0) hb);have jP := ak (Kd.R_lower ho0 (below_size bs));replace qc := b1 qc hb;replace qf := b1 qf hb;replace HB := b2s bs hb;(try clear hb);(try clear ho0);have qHp := qa.out;have qGW := qe.out;obtain ⟨qii, qfa⟩ := cells1 qf.out;obtain ⟨qJV, qJA, quF⟩ := Kd.S_slice HO_103000.out;subst quF;obtain ⟨qih, qe9⟩ := cells1 qc.out));refine bodyPost_ret (results_ct rfl _ _ qb 31 #[.slice none 0 0] (0, 0) _ rfl (zx qc.out) Try.underlying31 rfl (by kernel_rfl)) rfl ?_;exact ⟨_, o1, by first | exact Kd.S_nil _ _ _ _ _ | exact Kd.N_nil _ _ _ _ _ | exact Kd.V_nil _ _ _ _ _ | exact Kd.Q_nil _ _ _ _ _ | exact Kd.R_nil _ _ _ _ _, bs⟩
           ·replace H := bnd H;obtain ⟨jZ, A67, H⟩ := H;by_cases c68 : qO.length < 5864062014805
            ·rw [if_pos c68] at H;have qmk := ak c68;clear c68;obtain ⟨qI, ym⟩ : ∃ y_ : List (List Int), y_ = (qO ++ [jZ]) := ⟨_, rfl⟩;(try with_reducible replace H := bnS H)
             (try rw [← ym] at H)
             have yN := ak ym;clear ym;have H' := ak H;clear H;obtain ⟨yC, rfl, jL, zM, zL⟩ := el_int HR0 HB yd;try go_wp2_with (((with_reducible refine gate_callee (f := 87) rfl ?_);refine glG 38 rfl rfl Try.func87 (zi.calls _ _ l0 (wrap64 (yd + 1)) (wrap64 (rd l0 yd)) zC jX _ (cv HR0 HB) HC0.out A56.out) ?_;rintro e w69 ⟨Xa, rfl, ho0, hb⟩;refine ⟨_, rfl, ?_⟩;replace HO_103000 := ak (Kd.S_elder' (sw HO_103000.out) (Kd.R_base ho0) hb);have jP := ak (Kd.R_lower ho0 (below_size bs));replace qc := b1 qc hb;replace qf := b1 qf hb;replace HB := b2s bs hb;(try clear hb);(try clear ho0);have qHm := qa.out;have qGT := qe.out;obtain ⟨qbt, XW⟩ := cells1 qf.out;obtain ⟨XP, XF, quE⟩ := Kd.S_slice HO_103000.out;subst quE))
             replace HO_103000 := ak (Kd.S_drew HO_103000.out);replace jP := ak (Kd.R_drew jP.out);replace qc := ak (blk_drew qc.out);replace qf := ak (blk_drew qf.out);replace HB := ak (below_drew1 HB.out);obtain ⟨qdR, qdz, qll⟩ := Kd.R_slice jP.out;(first | subst qll | (injection qll with f1_ f2_ f3_; have f4_ := f1_.symm; have f5_ := f3_.symm; clear f1_ f2_ f3_; subst f4_; subst f5_))
             refine start_ (n := 10) (S := fun w' => w'.cell? ⟨qg, 0, none⟩ = some (.slice XP qO.length XF)) (ds := [8]) (bA 10 0) (by kernel_rfl) rfl rfl ((blk_cell qf.out 0).trans rfl) (fun hHeld => ?_); refine with_tabW qi.tab10 qi.bits10 (fun HT_ HW_ => ?_);generalize w69.drew = w73 at HO_103000 jP qc qf HB hHeld ⊢;refine pu HT_ 0 ?_;refine pu HT_ 2 ?_;refine pu HT_ 6 ?_;refine take_ (i := 1) (N := some 51) (v := ?_) (a' := ?_) (bA 10 71) rfl rfl (take_ofW HT_.out HW_.out (by kernel_rfl)) (fun _ _ _ h => h) (Or.inl ⟨by rfl, ?_⟩) hHeld ?_ ?_;rotate_left; intro w' s0; go_simp; with_reducible rfl; rotate_left; go_simp; rfl
             refine on HT_ 3 (fun K hK => ?_);refine gsG Try.func163 (qn.calls _ _ zC jZ _ ?qL ?ji A67.out) ?_;(case qL => repeat (first | exact (Kd.R_reads' jP.out).2.2 | (with_reducible refine Kd.C_alloc ?_ _) | (with_reducible refine Kd.C_drewN ?_ _) | (with_reducible refine Kd.C_drew ?_)))
             (case ji => exact (Kd.R_reads' jP.out).2.1)
             rintro e w75 ⟨qmy, rfl, ho0, hb⟩;refine ⟨_, rfl, ?_⟩;replace HO_103000 := ak (Kd.S_elder' (sw HO_103000.out) (Kd.R_base ho0) hb);have Qs := ak (Kd.R_lower (Kd.R_new' ho0 (Kd.R_lt (rw_ jP.out))) (below_size bs));replace jP := ak (Kd.R_elder' (rw_ jP.out) (Kd.R_base ho0) hb);replace qc := b1 qc hb;replace qf := b1 qf hb;replace HB := b2s bs hb;(try clear hb)
             (try clear ho0)
             obtain ⟨qlE, qlq, qlk⟩ := Kd.R_slice Qs.out;(first | subst qlk | (injection qlk with f1_ f2_ f3_; have f4_ := f1_.symm; have f5_ := f3_.symm; clear f1_ f2_ f3_; subst f4_; subst f5_))
             refine hK.out _ _ ((blk_cell qf.out 0).trans rfl) (fun hHeld => ?_);clear hK K;refine norm_ (a' := ?_) ?_ ?_; rotate_left; go_simp; rfl;refine on HT_ 4 (fun K hK => ?_);refine value_ (w1 := ?_) (v := ?_) (by rfl) rfl ?_ ?_;rotate_left 2
             ·go_simp;constructor
              ·rfl
              ·rfl
             refine hK.out _ _ ((blk_cell (blk_alloc qf.out _) 0).trans rfl) (fun hHeld => ?_);clear hK K;refine norm_ (a' := ?_) ?_ ?_; rotate_left; go_simp; rfl;refine on HT_ 5 (fun K hK => ?_);refine Kd.S_append_step (Kd.slice 5 (Kd.int .u8)) (w0 := w) w.heap.size (by rfl) (.tmp 51) (.tmp 54) 22 25 (.slice none 0 0) 24 rfl Try.underlying22 qdq rfl (by decide) (by omega) (.slice XP qO.length XF) qO jZ [.slice qlE jZ.length qlq] (fun k_ => some k_ ≠ (.slice qdR zC.length qdz : Value).ownBlock) (fun k_ => some k_ = (.slice qlE jZ.length qlq : Value).ownBlock) rfl rfl ?aP (fun k_ hk_ => ((Kd.R_mono (ok' := fun k_ => ((fun k_ => some k_ ≠ (.slice qdR zC.length qdz : Value).ownBlock)) k_ ∧ some k_ ≠ (.slice XP qO.length XF : Value).ownBlock) (Kd.R_apart' (Qs.out) (Kd.S_typed HO_103000.out) (by decide)) (fun k_ hk => ⟨hk.1.2, hk.2⟩))).1 k_ hk_.symm) ?aF ?aO ?aB ?aS ?aL ?_;(case aP => exact Kd.M_row (Kd.R_mono (Kd.R_tight rfl (Kd.R_mono (ok' := fun k_ => ((fun k_ => some k_ ≠ (.slice qdR zC.length qdz : Value).ownBlock)) k_ ∧ some k_ ≠ (.slice XP qO.length XF : Value).ownBlock) (Kd.R_apart' (Qs.out) (Kd.S_typed HO_103000.out) (by decide)) (fun k_ hk => ⟨hk.1.2, hk.2⟩))) (fun _ h_ => h_)))
             (case aB => exact bs)
             (case aF => exact (fun k_ hk => Kd.fresh' (Kd.R_lt (rw_ jP.out)) k_ hk))
             (case aO => exact (sw (Kd.S_mono HO_103000.out (fun k_ hk => ⟨hk.1.2, fun e_ => hk.2 e_⟩))))
             (case aS => exact (below_size bs))
             (case aL => have := qmk.out; omega)
             intro YZ w76 ho hb hg hat;rw [← yN.out] at ho;replace qc := ak (blk_grown (bk qc.out) hg (Kd.S_ne HO_103000.out qc.out (by decide)));replace qf := ak (blk_grown (bk qf.out) hg (Kd.S_ne HO_103000.out qf.out (by decide)));replace jP := ak (Kd.R_over' (rw_ jP.out) (Kd.S_typed (sw HO_103000.out)) (by decide) hg);replace HB := ak (hb);have jo := ak (ho);clear HO_103000 Qs ho hb hg hat;obtain ⟨qlD, qlp, qlj⟩ := Kd.S_slice jo.out;(first | subst qlj | (injection qlj with f1_ f2_ f3_; have f4_ := f1_.symm; have f5_ := f3_.symm; clear f1_ f2_ f3_; subst f4_; subst f5_))
             refine hK.out _ _ ((blk_cell qf.out 0).trans rfl) (fun hHeld => ?_);clear hK K;refine norm_ (a' := ?_) ?_ ?_; rotate_left; go_simp; rfl;refine pu HT_ 7 ?_;refine last_ (i := 8) (N := none) (bA 10 511) rfl rfl (one_of HT_.out (by kernel_rfl)) (by decide) (fun K hK => ?_);have qI6 : w76.cell? ⟨qg, 0, none⟩ = some (.slice XP qO.length XF) := (blk_cell qf.out 0).trans rfl;have qHV := blk_frozen qf.out 0;have qve := qe.out;have qvM := qa.out;refine skip_ (w1 := ?_) (by rfl) rfl ?_ ?_;rotate_left
             ·go_simp;rfl
             refine hK.out _ _ ?_;clear hK K;refine pu HT_ 9 ?_;refine done_ (done_of HT_.out (by kernel_rfl)) ?_;try go_wp2
             go_roundg k2;case measure => have := HJ2.out; have := HK2.out; omega
             case rel => exact ⟨(jX), (QG), (yr), (qI), (.slice qlD qI.length qlp), o2, o2, o2, H', ⟨by have := HJ2.out; have := HK2.out; omega⟩, ⟨by (with_reducible repeat (first | apply Kd.S_alloc | apply Kd.S_drewN | apply Kd.S_drew)); exact Kd.S_mono (Kd.S_far (p := ⟨qg, 0, none⟩) (Kd.S_types jo.out qf.out (by decide)) (fun _ hk => hk.2) (.slice qlD qI.length qlp)) (fun _ hk => trivial)⟩, ⟨qdg qe.out qc.out⟩, ⟨zx qf.out⟩, ⟨bs⟩⟩
            ·rw [if_neg c68] at H;exact absurd H (by simp)

/-- A cell is as it was, or bears a number where a number of its kind was. -/
def Rel (u v : Value) : Prop := v = u ∨ ∃ k x y, u = .int k x ∧ v = .int k y
theorem Rel.refl (u : Value) : Rel u u := .inl rfl
theorem Rel.trans {u v x : Value} (h : Rel u v) (k : Rel v x) : Rel u x := by
  rcases h with rfl | ⟨a, b, c, rfl, rfl⟩
  · exact k
  · rcases k with rfl | ⟨a', b', c', e, rfl⟩
    · exact .inr ⟨a, b, c, rfl, rfl⟩
    · injection e with e1 e2; subst e1; exact .inr ⟨a, b, c', rfl, rfl⟩
/-- So for cells in line. -/
def RelL (cs cs' : List Value) : Prop := cs'.length = cs.length ∧ ∀ (j : Nat) u v, cs[j]? = some u → cs'[j]? = some v → Rel u v
theorem RelL.refl (cs : List Value) : RelL cs cs := ⟨rfl, fun j u v h k => by rw [h] at k; injection k with k; subst k; exact Rel.refl _⟩
theorem RelL.trans {a b c : List Value} (h : RelL a b) (k : RelL b c) : RelL a c := ⟨k.1.trans h.1, fun j u v hu hv => by
  have hj := (List.getElem?_eq_some_iff.1 hu).1;have hb : b[j]? = some (b[j]'(by rw [h.1]; exact hj)) := List.getElem?_eq_getElem _
  exact (h.2 j u _ hu hb).trans (k.2 j _ v hb hv)⟩
/-- The one world is the other, but that numbers in blocks of P may be written over. -/
structure Mark (P : Nat → Prop) (w w' : World) : Prop where
  os : w'.os = w.os
  tape : w'.tape = w.tape
  output : w'.output = w.output
  size : w.heap.size ≤ w'.heap.size
  out : ∀ k : Nat, k < w.heap.size → ¬ P k → w'.heap[k]? = w.heap[k]?
  cells : ∀ (k : Nat) (cs : Array Value) (t : TypeId) (fr : Nat × Nat), w.heap[k]? = some (Obj.cells cs t fr) → ∃ cs' : Array Value, w'.heap[k]? = some (Obj.cells cs' t fr) ∧ RelL cs.toList cs'.toList
section
variable {P P' : Nat → Prop} {w w' w2 : World} {base : Nat}
theorem Mark.refl (P : Nat → Prop) (w : World) : Mark P w w := ⟨rfl, rfl, rfl, Nat.le_refl _, fun _ _ _ => rfl, fun _ cs _ _ h => ⟨cs, h, RelL.refl _⟩⟩
theorem Mark.trans (h : Mark P w w') (k : Mark P w' w2) : Mark P w w2 := ⟨k.os.trans h.os, k.tape.trans h.tape, k.output.trans h.output, Nat.le_trans h.size k.size, fun i hl hi => (k.out i (Nat.lt_of_lt_of_le hl h.size) hi).trans (h.out i hl hi), fun i cs t fr hc => by
  obtain ⟨cs1, h1, r1⟩ := h.cells i cs t fr hc;obtain ⟨cs2, h2, r2⟩ := k.cells i cs1 t fr h1
  exact ⟨cs2, h2, r1.trans r2⟩⟩
theorem Mark.mono (h : Mark P w w') (hp : ∀ k, P k → P' k) : Mark P' w w' := ⟨h.os, h.tape, h.output, h.size, fun i hl hi => h.out i hl (fun hk => hi (hp i hk)), h.cells⟩
theorem Mark.of_below (h : Below w.heap.size w w') : Mark P w w' := ⟨h.os, h.tape, h.output, h.size, fun k hk _ => h.block k hk, fun k cs t fr hc => ⟨cs, (h.block k (blk_lt hc)).trans hc, RelL.refl _⟩⟩
theorem Mark.below (h : Mark P w w') (hb : base ≤ w.heap.size) (hp : ∀ k, P k → base ≤ k) : Below base w w' := ⟨h.os, h.tape, h.output, h.size, fun k hk => h.out k (by omega) (fun hp2 => by have := hp k hp2; omega)⟩
theorem Mark.set {g i : Nat} {cs : Array Value} {t : TypeId} {k : IntKind} {x y : Int} (hb : w.heap[g]? = some (.cells cs t (0, 0))) (hi : cs[i]? = some (.int k x)) (hg : P g) : Mark P w (w.setCell ⟨g, i, none⟩ (.int k y)) := by
  refine ⟨rfl, rfl, rfl, by simp [World.setCell], fun j _ hj => Below.heap_setCell w _ _ j (fun e => hj (by rw [e]; exact hg)), fun j cs2 t2 fr2 h2 => ?_⟩;by_cases hjg : j = g
  · subst hjg
    rw [hb] at h2;injection h2 with h2
    injection h2 with e1 e2 e3
    subst e1; subst e2; subst e3;refine ⟨cs.setIfInBounds i (.int k y), blk_set hb i _, by simp, fun q u v hu hv => ?_⟩;rw [Array.getElem?_toList] at hu hv;rw [Array.getElem?_setIfInBounds] at hv;split at hv
    · rename_i e
      subst e;split at hv
      · injection hv with hv
        rw [hi] at hu;injection hu with hu
        subst hu; subst hv;exact .inr ⟨k, x, y, rfl, rfl⟩
      · cases hv
    · rw [hu] at hv; injection hv with hv; subst hv; exact Rel.refl _
  · exact ⟨cs2, (Below.heap_setCell w ⟨g, i, none⟩ (.int k y) j hjg).trans h2, RelL.refl _⟩
end
/-- An element of a row whose elements lie apart: its cells, what it leads to (in P), and the row anew where nothing but that is marked. -/
theorem S_at {α : Type} {d : Kd α} {e base : Nat} {ok : Nat → Prop} {w : World} {v : Value} {xs : List α} (h : d.S e w base ok v xs) (i : Nat) (hi : i < xs.length) :
    ∃ (P : Nat → Prop) (c : List Value) (g cap : Nat), (∀ k, P k → ok k) ∧ v = .slice (some ⟨g, 0, none⟩) xs.length cap ∧ d.M w base P (xs[i]) c ∧ (∀ j u, c[j]? = some u → w.cell? ⟨g, i * d.sz + j, none⟩ = some u) ∧ ∀ (w' : World) (y : α), Mark P w w' → d.M w' base P y c → d.S e w' base ok v (xs.set i y) := by
  obtain ⟨f, h0, inner, ⟨hil, ho⟩, hrl, hr⟩ := h;rw [List.length_zipIdx] at hil ho hrl;rcases ho with ⟨rfl, hn⟩ | ⟨g, cap, cur, rfl, hb, hg, hcap, hmax, hsz, htk⟩
  · omega
  · have hM := hr i (xs[i], i) (Kd.zip_at (List.getElem?_eq_getElem hi))
    refine ⟨_, _, g, cap, fun k hk => hk.1.1, rfl, hM, fun j u hu => ?_, fun w' y hm hy => ⟨f, h0, inner, ?_, ?_, fun j p hp => ?_⟩⟩
    · rw [cell_of_row w g _ cur e (0, 0) hg]
      rw [List.getElem?_take] at hu;split at hu
      · rename_i hj
        rw [List.getElem?_drop, ← htk, List.getElem?_take] at hu;split at hu
        · have hu2 : cur[i * d.sz + j]? = some u := by have := hu; simp only [Array.getElem?_toList] at this; exact this
          exact hu2
        · cases hu
      · cases hu
    · refine ⟨by rw [List.length_zipIdx, List.length_set]; exact hil, .inr ⟨g, cap, cur, by rw [List.length_zipIdx, List.length_set], hb, ?_, by rw [List.length_zipIdx, List.length_set]; exact hcap, hmax, hsz, by rw [List.length_zipIdx, List.length_set]; exact htk⟩⟩
      rw [hm.out g (blk_lt hg) (fun hk => hk.1.2 rfl)]; exact hg
    · rw [List.length_zipIdx, List.length_set]; exact hrl
    · rw [List.getElem?_zipIdx, Nat.zero_add] at hp
      by_cases hj : j = i
      · subst hj
        rw [List.getElem?_set_self hi] at hp;injection hp with hp
        subst hp;exact hy
      · rw [List.getElem?_set_ne (fun e => hj e.symm)] at hp
        have h2 := hr j p (by rw [List.getElem?_zipIdx, Nat.zero_add]; exact hp);obtain ⟨x, hx, rfl⟩ := Option.map_eq_some_iff.1 hp;have h3 : d.M w base (fun k => (ok k ∧ some k ≠ (Value.slice (some ⟨g, 0, none⟩) xs.length cap).ownBlock) ∧ f k = j) x ((inner.drop (j * d.sz)).take d.sz) := h2;have h4 := Kd.M_step (w1 := w') h3 (fun k hk hl => hm.out k hl (fun hk2 => hj (hk.2.symm.trans hk2.2)));exact h4
/-- What was made while memory grew from one size to another. -/
def Btw (a b : Nat) : Nat → Prop := fun k => a ≤ k ∧ k < b
section
variable {α : Type} {d : Kd α} {e base a b a' b' g : Nat} {ok P : Nat → Prop} {w w' : World} {v : Value} {xs : List α} {o : Obj}
theorem R_btw (h : d.R e w base ok v xs) : d.R e w base (Btw base w.heap.size) v xs := Kd.R_mono (Kd.R_bound h) (fun k hk => ⟨hk.2.1, hk.2.2.1⟩)
end
theorem S_ge_ {α : Type} {d : Kd α} {e base : Nat} {ok : Nat → Prop} {W : World} {v : Value} {xs : List α} (h : d.S e W base ok v xs) : d.S e W base (fun k => ok k ∧ base ≤ k) v xs := Kd.S_mono (Kd.S_bound h) (fun k hk => ⟨hk.1, hk.2.1⟩)

/-- What stands ahead of a record's data, after each of the five readings: the name, the type, the class, the time, the size, the place. -/
abbrev HdV := List (List Int) × Int × Int × Int × Int × Int
def hgA (k : Nat) (l : List Int) (s : HdV) : Option HdV := (qi.f k l s.2.2.2.2.2).bind fun b => some (b.1, s.2.1, s.2.2.1, s.2.2.2.1, s.2.2.2.2.1, b.2)
def hgB (k : Nat) (l : List Int) (s : HdV) : Option HdV := (qw.f k l s.2.2.2.2.2 2).bind fun b => some (s.1, b.1, s.2.2.1, s.2.2.2.1, s.2.2.2.2.1, b.2)
def hgC (k : Nat) (l : List Int) (s : HdV) : Option HdV := (qw.f k l s.2.2.2.2.2 2).bind fun b => some (s.1, s.2.1, b.1, s.2.2.2.1, s.2.2.2.2.1, b.2)
def hgD (k : Nat) (l : List Int) (s : HdV) : Option HdV := (qw.f k l s.2.2.2.2.2 4).bind fun b => some (s.1, s.2.1, s.2.2.1, b.1, s.2.2.2.2.1, b.2)
def hgE (k : Nat) (l : List Int) (s : HdV) : Option HdV := (qw.f k l s.2.2.2.2.2 2).bind fun b => some (s.1, s.2.1, s.2.2.1, s.2.2.2.1, b.1, b.2)
def hgZ : HdV := ([], 0, 0, 0, 0, -1)
def hgStep (k : Nat) (l : List Int) (i : Nat) (s : HdV) : Option HdV := if i = 0 then hgA k l s else if i = 1 then hgB k l s else if i = 2 then hgC k l s else if i = 3 then hgD k l s else hgE k l s
/-- The readings from the i-th on: none behind the first that fails. -/
def hgGo (k : Nat) (l : List Int) : Nat → Nat → HdV → Option HdV
  | 0, _, s => some s
  | m + 1, i, s => (hgStep k l i s).bind fun t => if t.2.2.2.2.2 < 0 then some hgZ else hgGo k l m (i + 1) t
def yf.f (k : Nat) (l : List Int) (a : Int) : Option HdV := hgGo k l 5 0 ([], 0, 0, 0, 0, a)
abbrev hdC (v : Value) (x1 x2 x3 x4 : Int) : Array Value := #[v, .int .i64 x1, .int .i64 x2, .int .i64 x3, .int .i64 x4]
/-- What a reading leaves: the place and the head turned, all else as it was. -/
structure HgPost (w w' : World) (b3 b6 : Nat) (r : Int) (C : Array Value) : Prop where
  at_ : w'.heap[b3]? = some (.cells #[.int .i64 r] 3 (0, 0))
  hd : w'.heap[b6]? = some (.cells C 123 (0, 0))
  kept : Kept w w' (fun k => k = b3 ∨ k = b6)
  below : ∀ (base : Nat) (w0 : World), Below base w0 w → base ≤ w.heap.size → base ≤ b3 → base ≤ b6 → Below base w0 w'
theorem HgPost.mk_ {w w1 : World} {b3 b6 j : Nat} {a r : Int} {C C' : Array Value} {u : Value} (hb : Below w.heap.size w w1) (n : b3 ≠ b6) (h3 : w1.heap[b3]? = some (.cells #[.int .i64 a] 3 (0, 0))) (h6 : w1.heap[b6]? = some (.cells C 123 (0, 0))) (e : C.setIfInBounds j u = C') :
    HgPost w ((w1.setCell ⟨b6, j, none⟩ u).setCell ⟨b3, 0, none⟩ (.int .i64 r)) b3 b6 r C' :=
  ⟨blk_put (blk_far h3 n u) 0 _ rfl, blk_far (blk_put h6 j u e) (Ne.symm n) _, ((Kept.of_below hb _).setCell (.inl (.inr rfl)) u).setCell (.inl (.inl rfl)) _,
   fun base w0 h hs h3 h6 => ((h.trans (hb.mono hs)).setCell h6 u).setCell h3 _⟩
set_option maxHeartbeats 4000000 in
set_option maxRecDepth 100000 in
/-- The first reading: the name. -/
theorem hg1 (k : Nat) (A : Option Addr) (c : Nat) (l : List Int) (a : Int) (nm : List (List Int)) (r : Int) (b2 b3 b6 : Nat) (v0 : Value) (x1 x2 x3 x4 : Int) (w : World)
    (hr : Kd.C (Kd.int .u8) w A l.length l) (hc : l.length ≤ c)
    (h2 : w.heap[b2]? = some (.cells #[.slice A l.length c] 25 (0, 0))) (h3 : w.heap[b3]? = some (.cells #[.int .i64 a] 3 (0, 0))) (h6 : w.heap[b6]? = some (.cells (hdC v0 x1 x2 x3 x4) 123 (0, 0))) (n36 : b3 ≠ b6)
    (h : qi.f k l a = some (nm, r)) :
    Calls Try.prog 167 #[.pointer (some ⟨b2, 0, none⟩), .pointer (some ⟨b3, 0, none⟩), .pointer (some ⟨b6, 0, none⟩)] w fun e w' => ∃ v : Value, e = .returned (.tuple #[]) ∧ HgPost w w' b3 b6 r (hdC v x1 x2 x3 x4) ∧ Kd.S (Kd.slice 5 (Kd.int .u8)) 25 w' w.heap.size (fun _ => True) v nm := by
  have HR := ak hr;have HC := ak hc;have H2 := ak h2;have H3 := ak h3;have H6 := ak h6;have H := ak h;have L3 := ak (blk_lt h3);have L6 := ak (blk_lt h6);have c2 := (blk_cell h2 0).trans rfl;have c3 := (blk_cell h3 0).trans rfl;clear hr hc h2 h3 h6 h;go_enter Try.func167, Try.ntmps167;go_wp2_with (fail);refine (qi.calls k A c l a nm r w HR.out HC.out H.out).mono ?_;rintro e w1 ⟨v, rfl, ho, hb⟩;replace H3 := ak (blk_below H3.out hb);replace H6 := ak (blk_below H6.out hb);have HO := ak ho;have HB := ak hb;obtain ⟨cur, cap, ev⟩ : ∃ A c, v = .slice A nm.length c := Kd.S_slice ho;subst ev;have q6 := (blk_cell H6.out 0).trans rfl;have q3 := (blk_cell H3.out 0).trans rfl;have f6 := blk_frozen H6.out 0;have f3 := blk_frozen H3.out 0;have n63 : ¬ b6 = b3 := fun e => n36 e.symm
  clear ho hb c2 c3;go_wp2_with (fail);go_end0
  have hp := HgPost.mk_ (r := r) (u := .slice cur nm.length cap) (j := 0) (C' := hdC (.slice cur nm.length cap) x1 x2 x3 x4) HB.out n36 H3.out H6.out rfl;refine ⟨_, rfl, hp, Kd.S_mono (ok := fun k => True ∧ w.heap.size ≤ k) (Kd.S_far (Kd.S_far (S_ge_ HO.out) (fun k hk e => ?_) _) (fun k hk e => ?_) _) (fun _ _ => trivial)⟩
  · have := hk.2; have := L6.out; have e : k = b6 := e; omega
  · have := hk.2; have := L3.out; have e : k = b3 := e; omega
set_option maxHeartbeats 4000000 in
set_option maxRecDepth 100000 in
theorem hg2 (k : Nat) (A : Option Addr) (c : Nat) (l : List Int) (a : Int) (z r : Int) (b2 b3 b6 : Nat) (v0 : Value) (x1 x2 x3 x4 : Int) (w : World)
    (hr : Kd.C (Kd.int .u8) w A l.length l) (hc : l.length ≤ c)
    (h2 : w.heap[b2]? = some (.cells #[.slice A l.length c] 25 (0, 0))) (h3 : w.heap[b3]? = some (.cells #[.int .i64 a] 3 (0, 0))) (h6 : w.heap[b6]? = some (.cells (hdC v0 x1 x2 x3 x4) 123 (0, 0))) (n36 : b3 ≠ b6)
    (h : qw.f k l a 2 = some (z, r)) :
    Calls Try.prog 168 #[.pointer (some ⟨b2, 0, none⟩), .pointer (some ⟨b3, 0, none⟩), .pointer (some ⟨b6, 0, none⟩)] w fun e w' => e = .returned (.tuple #[]) ∧ HgPost w w' b3 b6 r (hdC v0 z x2 x3 x4) := by
  have HR := ak hr;have HC := ak hc;have H2 := ak h2;have H3 := ak h3;have H6 := ak h6;have H := ak h;have c2 := (blk_cell h2 0).trans rfl;have c3 := (blk_cell h3 0).trans rfl;clear hr hc h2 h3 h6 h;go_enter Try.func168, Try.ntmps168;go_wp2_with (fail);refine (qw.calls k A c l a 2 z r w HR.out HC.out H.out).mono ?_;rintro e w1 ⟨rfl, hd⟩;have hb := hd.below;replace H3 := ak (blk_below H3.out hb);replace H6 := ak (blk_below H6.out hb);have HB := ak hb;have q6 := (blk_cell H6.out 1).trans rfl;have q3 := (blk_cell H3.out 0).trans rfl;have f6 := blk_frozen H6.out 1;have f3 := blk_frozen H3.out 0;have n63 : ¬ b6 = b3 := fun e => n36 e.symm
  clear hb hd c2 c3;go_wp2_with (fail);go_end0
  exact ⟨rfl, HgPost.mk_ (r := r) (u := .int .i64 z) (j := 1) (C' := hdC v0 z x2 x3 x4) HB.out n36 H3.out H6.out rfl⟩
set_option maxHeartbeats 4000000 in
set_option maxRecDepth 100000 in
theorem hg3 (k : Nat) (A : Option Addr) (c : Nat) (l : List Int) (a : Int) (z r : Int) (b2 b3 b6 : Nat) (v0 : Value) (x1 x2 x3 x4 : Int) (w : World)
    (hr : Kd.C (Kd.int .u8) w A l.length l) (hc : l.length ≤ c)
    (h2 : w.heap[b2]? = some (.cells #[.slice A l.length c] 25 (0, 0))) (h3 : w.heap[b3]? = some (.cells #[.int .i64 a] 3 (0, 0))) (h6 : w.heap[b6]? = some (.cells (hdC v0 x1 x2 x3 x4) 123 (0, 0))) (n36 : b3 ≠ b6)
    (h : qw.f k l a 2 = some (z, r)) :
    Calls Try.prog 169 #[.pointer (some ⟨b2, 0, none⟩), .pointer (some ⟨b3, 0, none⟩), .pointer (some ⟨b6, 0, none⟩)] w fun e w' => e = .returned (.tuple #[]) ∧ HgPost w w' b3 b6 r (hdC v0 x1 z x3 x4) := by
  have HR := ak hr;have HC := ak hc;have H2 := ak h2;have H3 := ak h3;have H6 := ak h6;have H := ak h;have c2 := (blk_cell h2 0).trans rfl;have c3 := (blk_cell h3 0).trans rfl;clear hr hc h2 h3 h6 h;go_enter Try.func169, Try.ntmps169;go_wp2_with (fail);refine (qw.calls k A c l a 2 z r w HR.out HC.out H.out).mono ?_;rintro e w1 ⟨rfl, hd⟩;have hb := hd.below;replace H3 := ak (blk_below H3.out hb);replace H6 := ak (blk_below H6.out hb);have HB := ak hb;have q6 := (blk_cell H6.out 2).trans rfl;have q3 := (blk_cell H3.out 0).trans rfl;have f6 := blk_frozen H6.out 2;have f3 := blk_frozen H3.out 0;have n63 : ¬ b6 = b3 := fun e => n36 e.symm
  clear hb hd c2 c3;go_wp2_with (fail);go_end0
  exact ⟨rfl, HgPost.mk_ (r := r) (u := .int .i64 z) (j := 2) (C' := hdC v0 x1 z x3 x4) HB.out n36 H3.out H6.out rfl⟩
set_option maxHeartbeats 4000000 in
set_option maxRecDepth 100000 in
theorem hg4 (k : Nat) (A : Option Addr) (c : Nat) (l : List Int) (a : Int) (z r : Int) (b2 b3 b6 : Nat) (v0 : Value) (x1 x2 x3 x4 : Int) (w : World)
    (hr : Kd.C (Kd.int .u8) w A l.length l) (hc : l.length ≤ c)
    (h2 : w.heap[b2]? = some (.cells #[.slice A l.length c] 25 (0, 0))) (h3 : w.heap[b3]? = some (.cells #[.int .i64 a] 3 (0, 0))) (h6 : w.heap[b6]? = some (.cells (hdC v0 x1 x2 x3 x4) 123 (0, 0))) (n36 : b3 ≠ b6)
    (h : qw.f k l a 4 = some (z, r)) :
    Calls Try.prog 170 #[.pointer (some ⟨b2, 0, none⟩), .pointer (some ⟨b3, 0, none⟩), .pointer (some ⟨b6, 0, none⟩)] w fun e w' => e = .returned (.tuple #[]) ∧ HgPost w w' b3 b6 r (hdC v0 x1 x2 z x4) := by
  have HR := ak hr;have HC := ak hc;have H2 := ak h2;have H3 := ak h3;have H6 := ak h6;have H := ak h;have c2 := (blk_cell h2 0).trans rfl;have c3 := (blk_cell h3 0).trans rfl;clear hr hc h2 h3 h6 h;go_enter Try.func170, Try.ntmps170;go_wp2_with (fail);refine (qw.calls k A c l a 4 z r w HR.out HC.out H.out).mono ?_;rintro e w1 ⟨rfl, hd⟩;have hb := hd.below;replace H3 := ak (blk_below H3.out hb);replace H6 := ak (blk_below H6.out hb);have HB := ak hb;have q6 := (blk_cell H6.out 3).trans rfl;have q3 := (blk_cell H3.out 0).trans rfl;have f6 := blk_frozen H6.out 3;have f3 := blk_frozen H3.out 0;have n63 : ¬ b6 = b3 := fun e => n36 e.symm
  clear hb hd c2 c3;go_wp2_with (fail);go_end0
  exact ⟨rfl, HgPost.mk_ (r := r) (u := .int .i64 z) (j := 3) (C' := hdC v0 x1 x2 z x4) HB.out n36 H3.out H6.out rfl⟩
set_option maxHeartbeats 4000000 in
set_option maxRecDepth 100000 in
theorem hg5 (k : Nat) (A : Option Addr) (c : Nat) (l : List Int) (a : Int) (z r : Int) (b2 b3 b6 : Nat) (v0 : Value) (x1 x2 x3 x4 : Int) (w : World)
    (hr : Kd.C (Kd.int .u8) w A l.length l) (hc : l.length ≤ c)
    (h2 : w.heap[b2]? = some (.cells #[.slice A l.length c] 25 (0, 0))) (h3 : w.heap[b3]? = some (.cells #[.int .i64 a] 3 (0, 0))) (h6 : w.heap[b6]? = some (.cells (hdC v0 x1 x2 x3 x4) 123 (0, 0))) (n36 : b3 ≠ b6)
    (h : qw.f k l a 2 = some (z, r)) :
    Calls Try.prog 171 #[.pointer (some ⟨b2, 0, none⟩), .pointer (some ⟨b3, 0, none⟩), .pointer (some ⟨b6, 0, none⟩)] w fun e w' => e = .returned (.tuple #[]) ∧ HgPost w w' b3 b6 r (hdC v0 x1 x2 x3 z) := by
  have HR := ak hr;have HC := ak hc;have H2 := ak h2;have H3 := ak h3;have H6 := ak h6;have H := ak h;have c2 := (blk_cell h2 0).trans rfl;have c3 := (blk_cell h3 0).trans rfl;clear hr hc h2 h3 h6 h;go_enter Try.func171, Try.ntmps171;go_wp2_with (fail);refine (qw.calls k A c l a 2 z r w HR.out HC.out H.out).mono ?_;rintro e w1 ⟨rfl, hd⟩;have hb := hd.below;replace H3 := ak (blk_below H3.out hb);replace H6 := ak (blk_below H6.out hb);have HB := ak hb;have q6 := (blk_cell H6.out 4).trans rfl;have q3 := (blk_cell H3.out 0).trans rfl;have f6 := blk_frozen H6.out 4;have f3 := blk_frozen H3.out 0;have n63 : ¬ b6 = b3 := fun e => n36 e.symm
  clear hb hd c2 c3;go_wp2_with (fail);go_end0
  exact ⟨rfl, HgPost.mk_ (r := r) (u := .int .i64 z) (j := 4) (C' := hdC v0 x1 x2 x3 z) HB.out n36 H3.out H6.out rfl⟩
theorem hgSV {α : Type} {d : Kd α} {e base b4 : Nat} {ok : Nat → Prop} {W : World} {v : Value} {xs : List α} (h : d.S e W base ok v xs) (hok : ∀ k, ok k → k ≠ b4) (v0 v1 v2 v3 v4 : Value) : d.S e (((((W.setCell ⟨b4, 0, none⟩ v0).setCell ⟨b4, 1, none⟩ v1).setCell ⟨b4, 2, none⟩ v2).setCell ⟨b4, 3, none⟩ v3).setCell ⟨b4, 4, none⟩ v4) base ok v xs :=
  Kd.S_far (Kd.S_far (Kd.S_far (Kd.S_far (Kd.S_far h hok _) hok _) hok _) hok _) hok _
theorem hgBelow {w W : World} {b4 : Nat} (h : Below w.heap.size w W) (hb : w.heap.size ≤ b4) (v0 v1 v2 v3 v4 : Value) : Below w.heap.size w (((((W.setCell ⟨b4, 0, none⟩ v0).setCell ⟨b4, 1, none⟩ v1).setCell ⟨b4, 2, none⟩ v2).setCell ⟨b4, 3, none⟩ v3).setCell ⟨b4, 4, none⟩ v4) :=
  ((((h.setCell hb _).setCell hb _).setCell hb _).setCell hb _).setCell hb _
theorem S_mono_ge {α : Type} {d : Kd α} {e base b : Nat} {W : World} {v : Value} {xs : List α} (h : d.S e W base (fun _ => True) v xs) (hb : b ≤ base) : d.S e W base (fun k => b ≤ k) v xs := Kd.S_mono (S_ge_ h) (fun k hk => Nat.le_trans hb hk.2)
theorem al_size (w : World) (o : Obj) : (w.alloc o).heap.size = w.heap.size + 1 := Array.size_push _
theorem hg_start (w : World) (o1 o2 o3 o4 o5 : Obj) : (((((w.alloc o1).alloc o2).alloc o3).alloc o4).alloc o5).heap[w.heap.size]? = some o1 ∧ (((((w.alloc o1).alloc o2).alloc o3).alloc o4).alloc o5).heap[w.heap.size + 1]? = some o2 ∧ (((((w.alloc o1).alloc o2).alloc o3).alloc o4).alloc o5).heap[w.heap.size + 1 + 1]? = some o3 ∧ (((((w.alloc o1).alloc o2).alloc o3).alloc o4).alloc o5).heap[w.heap.size + 1 + 1 + 1]? = some o4 ∧ (((((w.alloc o1).alloc o2).alloc o3).alloc o4).alloc o5).heap[w.heap.size + 1 + 1 + 1 + 1]? = some o5 ∧ Below w.heap.size w (((((w.alloc o1).alloc o2).alloc o3).alloc o4).alloc o5) ∧ (((((w.alloc o1).alloc o2).alloc o3).alloc o4).alloc o5).heap.size = w.heap.size + 5 := by
  have h1 := heap_alloc_new w o1;have h2 := heap_alloc_new (w.alloc o1) o2;have h3 := heap_alloc_new ((w.alloc o1).alloc o2) o3;have h4 := heap_alloc_new (((w.alloc o1).alloc o2).alloc o3) o4;have h5 := heap_alloc_new ((((w.alloc o1).alloc o2).alloc o3).alloc o4) o5;simp only [al_size] at h2 h3 h4 h5;refine ⟨blk_alloc (blk_alloc (blk_alloc (blk_alloc h1 _) _) _) _, blk_alloc (blk_alloc (blk_alloc h2 _) _) _, blk_alloc (blk_alloc h3 _) _, blk_alloc h4 _, h5, ?_, by simp only [al_size]⟩;exact below_alloc (below_alloc (below_alloc (below_alloc (below_alloc (Below.refl _ _) _) _) _) _) _
abbrev fnC (b2 b3 b6 : Nat) : Array Value := #[.func (.func 167) #[] #[.pointer (some ⟨b2, 0, none⟩), .pointer (some ⟨b3, 0, none⟩), .pointer (some ⟨b6, 0, none⟩)], .func (.func 168) #[] #[.pointer (some ⟨b2, 0, none⟩), .pointer (some ⟨b3, 0, none⟩), .pointer (some ⟨b6, 0, none⟩)], .func (.func 169) #[] #[.pointer (some ⟨b2, 0, none⟩), .pointer (some ⟨b3, 0, none⟩), .pointer (some ⟨b6, 0, none⟩)], .func (.func 170) #[] #[.pointer (some ⟨b2, 0, none⟩), .pointer (some ⟨b3, 0, none⟩), .pointer (some ⟨b6, 0, none⟩)], .func (.func 171) #[] #[.pointer (some ⟨b2, 0, none⟩), .pointer (some ⟨b3, 0, none⟩), .pointer (some ⟨b6, 0, none⟩)]]
set_option maxHeartbeats 8000000 in
set_option maxRecDepth 100000 in
theorem yf.calls (k : Nat) (A0 : Option Addr) (c0 : Nat) (l0 : List Int) (a1 : Int) (r1 : List (List Int)) (r2 r3 r4 r5 r6 : Int) (w : World) (hr0 : Kd.C (Kd.int .u8) w A0 l0.length l0) (hc0 : l0.length ≤ c0) (h : yf.f k l0 a1 = some (r1, r2, r3, r4, r5, r6)) :
    Calls Try.prog 94 #[.slice A0 l0.length c0, .int .i64 a1] w fun e w' => ∃ v : Value, e = .returned (.tuple #[.agg #[v, .int .i64 r2, .int .i64 r3, .int .i64 r4, .int .i64 r5], .int .i64 r6]) ∧ Kd.S (Kd.slice 5 (Kd.int .u8)) 25 w' w.heap.size (fun _ => True) v r1 ∧ Below w.heap.size w w' := by
  have HR := ak hr0;have HC := ak hc0;have H := ak (show hgGo k l0 5 0 ([], 0, 0, 0, 0, a1) = some (r1, r2, r3, r4, r5, r6) from h);clear hr0 hc0 h;have hmf : ∀ (fn : Fn) (first cap : Array Value) (w : World), (Instr.makeFunc fn first cap).run Try.prog w = .ok (.func fn first cap) w := fun _ _ _ _ => rfl
  go_enter Try.func94, Try.ntmps94;go_wp2_with (fail);obtain ⟨s2, s3, s4, s6, s15, hb, hsz⟩ := hg_start w (.cells #[.slice A0 l0.length c0] 25) (.cells #[.int .i64 a1] 3) (.cells (hdC (.slice none 0 0) 0 0 0 0) 123) (.cells (hdC (.slice none 0 0) 0 0 0 0) 123) (.cells (fnC w.heap.size (w.heap.size + 1) (w.heap.size + 1 + 1 + 1)) 1);generalize (((((w.alloc (.cells #[.slice A0 l0.length c0] 25)).alloc (.cells #[.int .i64 a1] 3)).alloc (.cells (hdC (.slice none 0 0) 0 0 0 0) 123)).alloc (.cells (hdC (.slice none 0 0) 0 0 0 0) 123)).alloc (.cells (fnC w.heap.size (w.heap.size + 1) (w.heap.size + 1 + 1 + 1)) 1)) = W5 at s2 s3 s4 s6 s15 hb hsz ⊢;obtain ⟨b3, e3⟩ : ∃ b, b = w.heap.size + 1 := ⟨_, rfl⟩;obtain ⟨b4, e4⟩ : ∃ b, b = w.heap.size + 1 + 1 := ⟨_, rfl⟩;obtain ⟨b6, e6⟩ : ∃ b, b = w.heap.size + 1 + 1 + 1 := ⟨_, rfl⟩;obtain ⟨b15, e15⟩ : ∃ b, b = w.heap.size + 1 + 1 + 1 + 1 := ⟨_, rfl⟩;have E := ak (show b3 = w.heap.size + 1 ∧ b4 = w.heap.size + 2 ∧ b6 = w.heap.size + 3 ∧ b15 = w.heap.size + 4 from ⟨e3, e4, e6, e15⟩);have n36 : b3 ≠ b6 := by omega
  have S2 := ak s2;have S3 := ak (show W5.heap[b3]? = some (.cells #[.int .i64 a1] 3 (0, 0)) by rw [e3]; exact s3);have S4 := ak (show W5.heap[b4]? = some (.cells (hdC (.slice none 0 0) 0 0 0 0) 123 (0, 0)) by rw [e4]; exact s4);have S6 := ak (show W5.heap[b6]? = some (.cells (hdC (.slice none 0 0) 0 0 0 0) 123 (0, 0)) by rw [e6]; exact s6);have S15 := ak (show W5.heap[b15]? = some (.cells (fnC w.heap.size b3 b6) 1 (0, 0)) by rw [e15, e6, e3]; exact s15);rw [← e15, ← e6, ← e4, ← e3];have HB := ak hb;have HSZ := ak hsz;clear s2 s3 s4 s6 s15 hb hsz e3 e4 e6 e15;obtain ⟨R, hR⟩ : ∃ R : HdV, R = (r1, r2, r3, r4, r5, r6) := ⟨_, rfl⟩;rw [← hR] at H;have HRE := ak hR;clear hR;go_loopg [17] 5 (fun kq v17 w' => ∃ (i : Nat) (s : HdV) (v : Value), i ≤ 5 ∧ 5 - i ≤ kq ∧ v17 = .int .i64 i ∧ Aside0 (hgGo k l0 (5 - i) i s = some R) ∧ Aside0 (w'.heap[w.heap.size]? = some (.cells #[.slice A0 l0.length c0] 25 (0, 0))) ∧ Aside0 (w'.heap[b3]? = some (.cells #[.int .i64 s.2.2.2.2.2] 3 (0, 0))) ∧ Aside0 (w'.heap[b4]? = some (.cells (hdC (.slice none 0 0) 0 0 0 0) 123 (0, 0))) ∧ Aside0 (w'.heap[b6]? = some (.cells (hdC v s.2.1 s.2.2.1 s.2.2.2.1 s.2.2.2.2.1) 123 (0, 0))) ∧ Aside0 (w'.heap[b15]? = some (.cells (fnC w.heap.size b3 b6) 1 (0, 0))) ∧ Aside0 (Kd.S (Kd.slice 5 (Kd.int .u8)) 25 w' w.heap.size (fun k => w.heap.size + 5 ≤ k) v s.1) ∧ Aside0 (w.heap.size + 5 ≤ w'.heap.size) ∧ Aside0 (Below w.heap.size w w'))
  case atStart => exact ⟨0, ([], 0, 0, 0, 0, a1), .slice none 0 0, by omega, by omega, rfl, H, S2, S3, S4, S6, S15, ⟨Kd.S_nil _ _ _ _ _⟩, ⟨by have := HSZ.out; omega⟩, HB⟩
  case round =>
    clear H S2 S3 S4 S6 S15 HB HSZ hmf;obtain ⟨i, s, v, hi, hg, rfl, H, S2, S3, S4, S6, S15, SV, HSZ, HB⟩ := hrel;obtain ⟨nm, x1, x2, x3, x4, a⟩ := s;have quy : i = 0 ∨ i = 1 ∨ i = 2 ∨ i = 3 ∨ i = 4 ∨ i = 5 := by omega
    rcases quy with rfl | rfl | rfl | rfl | rfl | rfl
    · have hh := H.out
      simp only [hgGo] at hh;obtain ⟨t, ht, h2⟩ := Option.bind_eq_some_iff.1 hh;have ht : hgA k l0 (nm, x1, x2, x3, x4, a) = some t := ht;obtain ⟨⟨nm2, a2⟩, hb, he⟩ := Option.bind_eq_some_iff.1 ht;obtain rfl := Option.some.inj he;have HG := ak hb;have H2 := ak h2;clear hh ht hb he h2 H;have hcell := (blk_cell S15.out 0).trans rfl;go_wp2_with (fail);refine (hg1 k A0 c0 l0 a nm2 a2 w.heap.size b3 b6 v x1 x2 x3 x4 wr (Kd.C_below HR.out HB.out) HC.out S2.out S3.out S6.out n36 HG.out).mono ?_;rintro e w2 ⟨v2, rfl, hp, hs⟩;have he := E.out;have hsz := HSZ.out;have hz2 := hp.kept.1;have SV2 := ak (show Kd.S (Kd.slice 5 (Kd.int .u8)) 25 w2 w.heap.size (fun k => w.heap.size + 5 ≤ k) v2 nm2 from Kd.S_mono (Kd.S_lower (S_mono_ge hs (by omega)) (by omega)) (fun k hk => hk));have T2 := ak (blk_kept S2.out hp.kept (fun hx => by omega));have T3 := ak hp.at_;have T4 := ak (blk_kept S4.out hp.kept (fun hx => by omega));have T6 := ak hp.hd;have T15 := ak (blk_kept S15.out hp.kept (fun hx => by omega));have TZ := ak (show w.heap.size + 5 ≤ w2.heap.size by omega);have TB := ak (hp.below w.heap.size w HB.out (by omega) (by omega) (by omega));have q3 := (blk_cell T3.out 0).trans rfl;clear he hsz hz2 hp hs S2 S3 S4 S6 S15 SV HSZ HB HG hcell;by_cases ha : a2 < 0
      · have hz := H2.out
        rw [if_pos ha] at hz;have HR2 := ak (show R = hgZ from (Option.some.inj hz).symm);have z0 := (blk_cell T4.out 0).trans rfl;have z1 := (blk_cell T4.out 1).trans rfl;have z2 := (blk_cell T4.out 2).trans rfl;have z3 := (blk_cell T4.out 3).trans rfl;have z4 := (blk_cell T4.out 4).trans rfl;have f0 := blk_frozen T4.out 0;have f1 := blk_frozen T4.out 1;have f2 := blk_frozen T4.out 2;have f3 := blk_frozen T4.out 3;have f4 := blk_frozen T4.out 4;clear hz H2;go_wp2_with (fail);have hRR := HRE.out.symm.trans HR2.out;simp only [hgZ, Prod.mk.injEq] at hRR;obtain ⟨rfl, rfl, rfl, rfl, rfl, rfl⟩ := hRR;have hbf := hgBelow TB.out (show w.heap.size ≤ b4 by have := E.out; omega) (.slice none 0 0) (.int .i64 0) (.int .i64 0) (.int .i64 0) (.int .i64 0);have htf := Jx (W1 := w2) (v0 := .slice none 0 0) (v1 := .int .i64 0) (v2 := .int .i64 0) (v3 := .int .i64 0) (v4 := .int .i64 0) T4.out;generalize (((((w2.setCell ⟨b4, 0, none⟩ (.slice none 0 0)).setCell ⟨b4, 1, none⟩ (.int .i64 0)).setCell ⟨b4, 2, none⟩ (.int .i64 0)).setCell ⟨b4, 3, none⟩ (.int .i64 0)).setCell ⟨b4, 4, none⟩ (.int .i64 0)) = WF at hbf htf ⊢;clear z0 z1 z2 z3 z4 f0 f1 f2 f3 f4 q3;have HBF := ak hbf;have z0 := (blk_cell htf 0).trans rfl;have z1 := (blk_cell htf 1).trans rfl;have z2 := (blk_cell htf 2).trans rfl;have z3 := (blk_cell htf 3).trans rfl;have z4 := (blk_cell htf 4).trans rfl;clear hbf htf;refine bodyPost_ret (v := .tuple #[.agg #[.slice none 0 0, .int .i64 0, .int .i64 0, .int .i64 0, .int .i64 0], .int .i64 (-1)]) (by simp [results, Try.results94, go_sem, *]) rfl ?_;exact ⟨_, rfl, Kd.S_nil _ _ _ _ _, HBF.out⟩
      · have hz := H2.out
        rw [if_neg ha] at hz;have HN := ak (show hgGo k l0 (5 - (0 + 1)) (0 + 1) (nm2, x1, x2, x3, x4, a2) = some R from hz);clear hz H2;go_wp2_with (fail);go_roundg (5 - (0 + 1));case measure => omega
        case rel => exact ⟨0 + 1, (nm2, x1, x2, x3, x4, a2), v2, by omega, by omega, by go_num, HN, T2, T3, T4, T6, T15, SV2, TZ, TB⟩
    · have hh := H.out
      simp only [hgGo] at hh;obtain ⟨t, ht, h2⟩ := Option.bind_eq_some_iff.1 hh;have ht : hgB k l0 (nm, x1, x2, x3, x4, a) = some t := ht;obtain ⟨⟨z, a2⟩, hb, he⟩ := Option.bind_eq_some_iff.1 ht;obtain rfl := Option.some.inj he;have HG := ak hb;have H2 := ak h2;clear hh ht hb he h2 H;have hcell := (blk_cell S15.out 1).trans rfl;go_wp2_with (fail);refine (hg2 k A0 c0 l0 a z a2 w.heap.size b3 b6 v x1 x2 x3 x4 wr (Kd.C_below HR.out HB.out) HC.out S2.out S3.out S6.out n36 HG.out).mono ?_;rintro e w2 ⟨rfl, hp⟩;have he := E.out;have hsz := HSZ.out;have hz2 := hp.kept.1;have SV2 := ak (show Kd.S (Kd.slice 5 (Kd.int .u8)) 25 w2 w.heap.size (fun k => w.heap.size + 5 ≤ k) v nm from Kd.S_step SV.out (fun k hk hlt => hp.kept.2 k hlt (fun hx => by omega)));have T2 := ak (blk_kept S2.out hp.kept (fun hx => by omega));have T3 := ak hp.at_;have T4 := ak (blk_kept S4.out hp.kept (fun hx => by omega));have T6 := ak hp.hd;have T15 := ak (blk_kept S15.out hp.kept (fun hx => by omega));have TZ := ak (show w.heap.size + 5 ≤ w2.heap.size by omega);have TB := ak (hp.below w.heap.size w HB.out (by omega) (by omega) (by omega));have q3 := (blk_cell T3.out 0).trans rfl;clear he hsz hz2 hp S2 S3 S4 S6 S15 SV HSZ HB HG hcell;by_cases ha : a2 < 0
      · have hz := H2.out
        rw [if_pos ha] at hz;have HR2 := ak (show R = hgZ from (Option.some.inj hz).symm);have z0 := (blk_cell T4.out 0).trans rfl;have z1 := (blk_cell T4.out 1).trans rfl;have z2 := (blk_cell T4.out 2).trans rfl;have z3 := (blk_cell T4.out 3).trans rfl;have z4 := (blk_cell T4.out 4).trans rfl;have f0 := blk_frozen T4.out 0;have f1 := blk_frozen T4.out 1;have f2 := blk_frozen T4.out 2;have f3 := blk_frozen T4.out 3;have f4 := blk_frozen T4.out 4;clear hz H2;go_wp2_with (fail);have hRR := HRE.out.symm.trans HR2.out;simp only [hgZ, Prod.mk.injEq] at hRR;obtain ⟨rfl, rfl, rfl, rfl, rfl, rfl⟩ := hRR;have hbf := hgBelow TB.out (show w.heap.size ≤ b4 by have := E.out; omega) (.slice none 0 0) (.int .i64 0) (.int .i64 0) (.int .i64 0) (.int .i64 0);have htf := Jx (W1 := w2) (v0 := .slice none 0 0) (v1 := .int .i64 0) (v2 := .int .i64 0) (v3 := .int .i64 0) (v4 := .int .i64 0) T4.out;generalize (((((w2.setCell ⟨b4, 0, none⟩ (.slice none 0 0)).setCell ⟨b4, 1, none⟩ (.int .i64 0)).setCell ⟨b4, 2, none⟩ (.int .i64 0)).setCell ⟨b4, 3, none⟩ (.int .i64 0)).setCell ⟨b4, 4, none⟩ (.int .i64 0)) = WF at hbf htf ⊢;clear z0 z1 z2 z3 z4 f0 f1 f2 f3 f4 q3;have HBF := ak hbf;have z0 := (blk_cell htf 0).trans rfl;have z1 := (blk_cell htf 1).trans rfl;have z2 := (blk_cell htf 2).trans rfl;have z3 := (blk_cell htf 3).trans rfl;have z4 := (blk_cell htf 4).trans rfl;clear hbf htf;refine bodyPost_ret (v := .tuple #[.agg #[.slice none 0 0, .int .i64 0, .int .i64 0, .int .i64 0, .int .i64 0], .int .i64 (-1)]) (by simp [results, Try.results94, go_sem, *]) rfl ?_;exact ⟨_, rfl, Kd.S_nil _ _ _ _ _, HBF.out⟩
      · have hz := H2.out
        rw [if_neg ha] at hz;have HN := ak (show hgGo k l0 (5 - (1 + 1)) (1 + 1) (nm, z, x2, x3, x4, a2) = some R from hz);clear hz H2;go_wp2_with (fail);go_roundg (5 - (1 + 1));case measure => omega
        case rel => exact ⟨1 + 1, (nm, z, x2, x3, x4, a2), v, by omega, by omega, by go_num, HN, T2, T3, T4, T6, T15, SV2, TZ, TB⟩
    · have hh := H.out
      simp only [hgGo] at hh;obtain ⟨t, ht, h2⟩ := Option.bind_eq_some_iff.1 hh;have ht : hgC k l0 (nm, x1, x2, x3, x4, a) = some t := ht;obtain ⟨⟨z, a2⟩, hb, he⟩ := Option.bind_eq_some_iff.1 ht;obtain rfl := Option.some.inj he;have HG := ak hb;have H2 := ak h2;clear hh ht hb he h2 H;have hcell := (blk_cell S15.out 2).trans rfl;go_wp2_with (fail);refine (hg3 k A0 c0 l0 a z a2 w.heap.size b3 b6 v x1 x2 x3 x4 wr (Kd.C_below HR.out HB.out) HC.out S2.out S3.out S6.out n36 HG.out).mono ?_;rintro e w2 ⟨rfl, hp⟩;have he := E.out;have hsz := HSZ.out;have hz2 := hp.kept.1;have SV2 := ak (show Kd.S (Kd.slice 5 (Kd.int .u8)) 25 w2 w.heap.size (fun k => w.heap.size + 5 ≤ k) v nm from Kd.S_step SV.out (fun k hk hlt => hp.kept.2 k hlt (fun hx => by omega)));have T2 := ak (blk_kept S2.out hp.kept (fun hx => by omega));have T3 := ak hp.at_;have T4 := ak (blk_kept S4.out hp.kept (fun hx => by omega));have T6 := ak hp.hd;have T15 := ak (blk_kept S15.out hp.kept (fun hx => by omega));have TZ := ak (show w.heap.size + 5 ≤ w2.heap.size by omega);have TB := ak (hp.below w.heap.size w HB.out (by omega) (by omega) (by omega));have q3 := (blk_cell T3.out 0).trans rfl;clear he hsz hz2 hp S2 S3 S4 S6 S15 SV HSZ HB HG hcell;by_cases ha : a2 < 0
      · have hz := H2.out
        rw [if_pos ha] at hz;have HR2 := ak (show R = hgZ from (Option.some.inj hz).symm);have z0 := (blk_cell T4.out 0).trans rfl;have z1 := (blk_cell T4.out 1).trans rfl;have z2 := (blk_cell T4.out 2).trans rfl;have z3 := (blk_cell T4.out 3).trans rfl;have z4 := (blk_cell T4.out 4).trans rfl;have f0 := blk_frozen T4.out 0;have f1 := blk_frozen T4.out 1;have f2 := blk_frozen T4.out 2;have f3 := blk_frozen T4.out 3;have f4 := blk_frozen T4.out 4;clear hz H2;go_wp2_with (fail);have hRR := HRE.out.symm.trans HR2.out;simp only [hgZ, Prod.mk.injEq] at hRR;obtain ⟨rfl, rfl, rfl, rfl, rfl, rfl⟩ := hRR;have hbf := hgBelow TB.out (show w.heap.size ≤ b4 by have := E.out; omega) (.slice none 0 0) (.int .i64 0) (.int .i64 0) (.int .i64 0) (.int .i64 0);have htf := Jx (W1 := w2) (v0 := .slice none 0 0) (v1 := .int .i64 0) (v2 := .int .i64 0) (v3 := .int .i64 0) (v4 := .int .i64 0) T4.out;generalize (((((w2.setCell ⟨b4, 0, none⟩ (.slice none 0 0)).setCell ⟨b4, 1, none⟩ (.int .i64 0)).setCell ⟨b4, 2, none⟩ (.int .i64 0)).setCell ⟨b4, 3, none⟩ (.int .i64 0)).setCell ⟨b4, 4, none⟩ (.int .i64 0)) = WF at hbf htf ⊢;clear z0 z1 z2 z3 z4 f0 f1 f2 f3 f4 q3;have HBF := ak hbf;have z0 := (blk_cell htf 0).trans rfl;have z1 := (blk_cell htf 1).trans rfl;have z2 := (blk_cell htf 2).trans rfl;have z3 := (blk_cell htf 3).trans rfl;have z4 := (blk_cell htf 4).trans rfl;clear hbf htf;refine bodyPost_ret (v := .tuple #[.agg #[.slice none 0 0, .int .i64 0, .int .i64 0, .int .i64 0, .int .i64 0], .int .i64 (-1)]) (by simp [results, Try.results94, go_sem, *]) rfl ?_;exact ⟨_, rfl, Kd.S_nil _ _ _ _ _, HBF.out⟩
      · have hz := H2.out
        rw [if_neg ha] at hz;have HN := ak (show hgGo k l0 (5 - (2 + 1)) (2 + 1) (nm, x1, z, x3, x4, a2) = some R from hz);clear hz H2;go_wp2_with (fail);go_roundg (5 - (2 + 1));case measure => omega
        case rel => exact ⟨2 + 1, (nm, x1, z, x3, x4, a2), v, by omega, by omega, by go_num, HN, T2, T3, T4, T6, T15, SV2, TZ, TB⟩
    · have hh := H.out
      simp only [hgGo] at hh;obtain ⟨t, ht, h2⟩ := Option.bind_eq_some_iff.1 hh;have ht : hgD k l0 (nm, x1, x2, x3, x4, a) = some t := ht;obtain ⟨⟨z, a2⟩, hb, he⟩ := Option.bind_eq_some_iff.1 ht;obtain rfl := Option.some.inj he;have HG := ak hb;have H2 := ak h2;clear hh ht hb he h2 H;have hcell := (blk_cell S15.out 3).trans rfl;go_wp2_with (fail);refine (hg4 k A0 c0 l0 a z a2 w.heap.size b3 b6 v x1 x2 x3 x4 wr (Kd.C_below HR.out HB.out) HC.out S2.out S3.out S6.out n36 HG.out).mono ?_;rintro e w2 ⟨rfl, hp⟩;have he := E.out;have hsz := HSZ.out;have hz2 := hp.kept.1;have SV2 := ak (show Kd.S (Kd.slice 5 (Kd.int .u8)) 25 w2 w.heap.size (fun k => w.heap.size + 5 ≤ k) v nm from Kd.S_step SV.out (fun k hk hlt => hp.kept.2 k hlt (fun hx => by omega)));have T2 := ak (blk_kept S2.out hp.kept (fun hx => by omega));have T3 := ak hp.at_;have T4 := ak (blk_kept S4.out hp.kept (fun hx => by omega));have T6 := ak hp.hd;have T15 := ak (blk_kept S15.out hp.kept (fun hx => by omega));have TZ := ak (show w.heap.size + 5 ≤ w2.heap.size by omega);have TB := ak (hp.below w.heap.size w HB.out (by omega) (by omega) (by omega));have q3 := (blk_cell T3.out 0).trans rfl;clear he hsz hz2 hp S2 S3 S4 S6 S15 SV HSZ HB HG hcell;by_cases ha : a2 < 0
      · have hz := H2.out
        rw [if_pos ha] at hz;have HR2 := ak (show R = hgZ from (Option.some.inj hz).symm);have z0 := (blk_cell T4.out 0).trans rfl;have z1 := (blk_cell T4.out 1).trans rfl;have z2 := (blk_cell T4.out 2).trans rfl;have z3 := (blk_cell T4.out 3).trans rfl;have z4 := (blk_cell T4.out 4).trans rfl;have f0 := blk_frozen T4.out 0;have f1 := blk_frozen T4.out 1;have f2 := blk_frozen T4.out 2;have f3 := blk_frozen T4.out 3;have f4 := blk_frozen T4.out 4;clear hz H2;go_wp2_with (fail);have hRR := HRE.out.symm.trans HR2.out;simp only [hgZ, Prod.mk.injEq] at hRR;obtain ⟨rfl, rfl, rfl, rfl, rfl, rfl⟩ := hRR;have hbf := hgBelow TB.out (show w.heap.size ≤ b4 by have := E.out; omega) (.slice none 0 0) (.int .i64 0) (.int .i64 0) (.int .i64 0) (.int .i64 0);have htf := Jx (W1 := w2) (v0 := .slice none 0 0) (v1 := .int .i64 0) (v2 := .int .i64 0) (v3 := .int .i64 0) (v4 := .int .i64 0) T4.out;generalize (((((w2.setCell ⟨b4, 0, none⟩ (.slice none 0 0)).setCell ⟨b4, 1, none⟩ (.int .i64 0)).setCell ⟨b4, 2, none⟩ (.int .i64 0)).setCell ⟨b4, 3, none⟩ (.int .i64 0)).setCell ⟨b4, 4, none⟩ (.int .i64 0)) = WF at hbf htf ⊢;clear z0 z1 z2 z3 z4 f0 f1 f2 f3 f4 q3;have HBF := ak hbf;have z0 := (blk_cell htf 0).trans rfl;have z1 := (blk_cell htf 1).trans rfl;have z2 := (blk_cell htf 2).trans rfl;have z3 := (blk_cell htf 3).trans rfl;have z4 := (blk_cell htf 4).trans rfl;clear hbf htf;refine bodyPost_ret (v := .tuple #[.agg #[.slice none 0 0, .int .i64 0, .int .i64 0, .int .i64 0, .int .i64 0], .int .i64 (-1)]) (by simp [results, Try.results94, go_sem, *]) rfl ?_;exact ⟨_, rfl, Kd.S_nil _ _ _ _ _, HBF.out⟩
      · have hz := H2.out
        rw [if_neg ha] at hz;have HN := ak (show hgGo k l0 (5 - (3 + 1)) (3 + 1) (nm, x1, x2, z, x4, a2) = some R from hz);clear hz H2;go_wp2_with (fail);go_roundg (5 - (3 + 1));case measure => omega
        case rel => exact ⟨3 + 1, (nm, x1, x2, z, x4, a2), v, by omega, by omega, by go_num, HN, T2, T3, T4, T6, T15, SV2, TZ, TB⟩
    · have hh := H.out
      simp only [hgGo] at hh;obtain ⟨t, ht, h2⟩ := Option.bind_eq_some_iff.1 hh;have ht : hgE k l0 (nm, x1, x2, x3, x4, a) = some t := ht;obtain ⟨⟨z, a2⟩, hb, he⟩ := Option.bind_eq_some_iff.1 ht;obtain rfl := Option.some.inj he;have HG := ak hb;have H2 := ak h2;clear hh ht hb he h2 H;have hcell := (blk_cell S15.out 4).trans rfl;go_wp2_with (fail);refine (hg5 k A0 c0 l0 a z a2 w.heap.size b3 b6 v x1 x2 x3 x4 wr (Kd.C_below HR.out HB.out) HC.out S2.out S3.out S6.out n36 HG.out).mono ?_;rintro e w2 ⟨rfl, hp⟩;have he := E.out;have hsz := HSZ.out;have hz2 := hp.kept.1;have SV2 := ak (show Kd.S (Kd.slice 5 (Kd.int .u8)) 25 w2 w.heap.size (fun k => w.heap.size + 5 ≤ k) v nm from Kd.S_step SV.out (fun k hk hlt => hp.kept.2 k hlt (fun hx => by omega)));have T2 := ak (blk_kept S2.out hp.kept (fun hx => by omega));have T3 := ak hp.at_;have T4 := ak (blk_kept S4.out hp.kept (fun hx => by omega));have T6 := ak hp.hd;have T15 := ak (blk_kept S15.out hp.kept (fun hx => by omega));have TZ := ak (show w.heap.size + 5 ≤ w2.heap.size by omega);have TB := ak (hp.below w.heap.size w HB.out (by omega) (by omega) (by omega));have q3 := (blk_cell T3.out 0).trans rfl;clear he hsz hz2 hp S2 S3 S4 S6 S15 SV HSZ HB HG hcell;by_cases ha : a2 < 0
      · have hz := H2.out
        rw [if_pos ha] at hz;have HR2 := ak (show R = hgZ from (Option.some.inj hz).symm);have z0 := (blk_cell T4.out 0).trans rfl;have z1 := (blk_cell T4.out 1).trans rfl;have z2 := (blk_cell T4.out 2).trans rfl;have z3 := (blk_cell T4.out 3).trans rfl;have z4 := (blk_cell T4.out 4).trans rfl;have f0 := blk_frozen T4.out 0;have f1 := blk_frozen T4.out 1;have f2 := blk_frozen T4.out 2;have f3 := blk_frozen T4.out 3;have f4 := blk_frozen T4.out 4;clear hz H2;go_wp2_with (fail);have hRR := HRE.out.symm.trans HR2.out;simp only [hgZ, Prod.mk.injEq] at hRR;obtain ⟨rfl, rfl, rfl, rfl, rfl, rfl⟩ := hRR;have hbf := hgBelow TB.out (show w.heap.size ≤ b4 by have := E.out; omega) (.slice none 0 0) (.int .i64 0) (.int .i64 0) (.int .i64 0) (.int .i64 0);have htf := Jx (W1 := w2) (v0 := .slice none 0 0) (v1 := .int .i64 0) (v2 := .int .i64 0) (v3 := .int .i64 0) (v4 := .int .i64 0) T4.out;generalize (((((w2.setCell ⟨b4, 0, none⟩ (.slice none 0 0)).setCell ⟨b4, 1, none⟩ (.int .i64 0)).setCell ⟨b4, 2, none⟩ (.int .i64 0)).setCell ⟨b4, 3, none⟩ (.int .i64 0)).setCell ⟨b4, 4, none⟩ (.int .i64 0)) = WF at hbf htf ⊢;clear z0 z1 z2 z3 z4 f0 f1 f2 f3 f4 q3;have HBF := ak hbf;have z0 := (blk_cell htf 0).trans rfl;have z1 := (blk_cell htf 1).trans rfl;have z2 := (blk_cell htf 2).trans rfl;have z3 := (blk_cell htf 3).trans rfl;have z4 := (blk_cell htf 4).trans rfl;clear hbf htf;refine bodyPost_ret (v := .tuple #[.agg #[.slice none 0 0, .int .i64 0, .int .i64 0, .int .i64 0, .int .i64 0], .int .i64 (-1)]) (by simp [results, Try.results94, go_sem, *]) rfl ?_;exact ⟨_, rfl, Kd.S_nil _ _ _ _ _, HBF.out⟩
      · have hz := H2.out
        rw [if_neg ha] at hz;have HN := ak (show hgGo k l0 (5 - (4 + 1)) (4 + 1) (nm, x1, x2, x3, z, a2) = some R from hz);clear hz H2;go_wp2_with (fail);go_roundg (5 - (4 + 1));case measure => omega
        case rel => exact ⟨4 + 1, (nm, x1, x2, x3, z, a2), v, by omega, by omega, by go_num, HN, T2, T3, T4, T6, T15, SV2, TZ, TB⟩
    · have HRs := ak (show R = (nm, x1, x2, x3, x4, a) from (Option.some.inj H.out).symm)
      have hRR := HRE.out.symm.trans HRs.out;simp only [Prod.mk.injEq] at hRR;obtain ⟨rfl, rfl, rfl, rfl, rfl, rfl⟩ := hRR;obtain ⟨Av, cv, rfl⟩ := Kd.S_slice SV.out;have q3 := (blk_cell S3.out 0).trans rfl;have q0 := (blk_cell S6.out 0).trans rfl;have q1 := (blk_cell S6.out 1).trans rfl;have q2 := (blk_cell S6.out 2).trans rfl;have q4 := (blk_cell S6.out 3).trans rfl;have q5 := (blk_cell S6.out 4).trans rfl;have z0 := (blk_cell S4.out 0).trans rfl;have z1 := (blk_cell S4.out 1).trans rfl;have z2 := (blk_cell S4.out 2).trans rfl;have z3 := (blk_cell S4.out 3).trans rfl;have z4 := (blk_cell S4.out 4).trans rfl;have f0 := blk_frozen S4.out 0;have f1 := blk_frozen S4.out 1;have f2 := blk_frozen S4.out 2;have f3 := blk_frozen S4.out 3;have f4 := blk_frozen S4.out 4;have n34 : ¬ b3 = b4 := by have := E.out; omega
      have n43 : ¬ b4 = b3 := by have := E.out; omega
      have n64 : ¬ b6 = b4 := by have := E.out; omega
      have n46 : ¬ b4 = b6 := by have := E.out; omega
      clear H S15 S2;go_wp2_with (fail);go_region_law (fail)
      all_goals go_wp2_with (fail)
      all_goals
        have hb4 : w.heap.size ≤ b4 := by have := E.out; omega
        have hbf := hgBelow HB.out hb4 (.slice Av r1.length cv) (.int .i64 r2) (.int .i64 r3) (.int .i64 r4) (.int .i64 r5);have htf := Jx (W1 := wr) (v0 := .slice Av r1.length cv) (v1 := .int .i64 r2) (v2 := .int .i64 r3) (v3 := .int .i64 r4) (v4 := .int .i64 r5) S4.out;have hsv := hgSV SV.out (b4 := b4) (fun k hk e => by have := E.out; omega) (.slice Av r1.length cv) (.int .i64 r2) (.int .i64 r3) (.int .i64 r4) (.int .i64 r5);generalize (((((wr.setCell ⟨b4, 0, none⟩ (.slice Av r1.length cv)).setCell ⟨b4, 1, none⟩ (.int .i64 r2)).setCell ⟨b4, 2, none⟩ (.int .i64 r3)).setCell ⟨b4, 3, none⟩ (.int .i64 r4)).setCell ⟨b4, 4, none⟩ (.int .i64 r5)) = WF at hbf htf hsv ⊢;clear z0 z1 z2 z3 z4 f0 f1 f2 f3 f4 q0 q1 q2 q3 q4 q5 n34 n43 n46 n64 hb4;have HBF := ak hbf;have HSV := ak hsv;have z0 := (blk_cell htf 0).trans rfl;have z1 := (blk_cell htf 1).trans rfl;have z2 := (blk_cell htf 2).trans rfl;have z3 := (blk_cell htf 3).trans rfl;have z4 := (blk_cell htf 4).trans rfl;clear hbf htf hsv;refine bodyPost_ret (v := .tuple #[.agg #[.slice Av r1.length cv, .int .i64 r2, .int .i64 r3, .int .i64 r4, .int .i64 r5], .int .i64 r6]) (by simp [results, Try.results94, go_sem, *]) rfl ?_;exact ⟨_, rfl, Kd.S_mono (Kd.S_drew HSV.out) (fun _ _ => trivial), below_drew1 HBF.out⟩

/-! ### qD: function 162 -/

def qD.v (t : Int) : ByteArray := if t = 1 then ⟨#[65]⟩ else if t = 2 then ⟨#[78, 83]⟩ else if t = 5 then ⟨#[67, 78, 65, 77, 69]⟩ else if t = 6 then ⟨#[83, 79, 65]⟩ else if t = 12 then ⟨#[80, 84, 82]⟩ else if t = 16 then ⟨#[84, 88, 84]⟩ else if t = 49 then ⟨#[68, 72, 67, 73, 68]⟩ else ⟨#[]⟩
def qD.f (t : Int) : Option ByteArray := if -9223372036854775808 ≤ t ∧ t ≤ 9223372036854775807 then some (qD.v t) else none
theorem qD.inv {e : TypeId} (he : Try.prog.underlying e = some .string) {v : Value} {z : DataW Unit × List MemPlace} (h : plainElem Try.prog e v = some z) : ∃ s : ByteArray, v = .string s ∧ z = (.lit (.string s.data.toList), []) ∧ s.size ≤ maxLen := by
 unfold plainElem at h;rw [he] at h;cases v <;> simp at h
 exact ⟨_, rfl, h.2.symm, h.1⟩
theorem qD.ne {a b : Int} (h : ¬ a = b) : (Lit.int .i64 a) ≠ Lit.int .i64 b := fun e => h (by injection e)
set_option maxHeartbeats 8000000 in
set_option maxRecDepth 100000 in
theorem qD.calls (a0 : Int) (r : ByteArray) (w : World) (h : qD.f a0 = some r) :
  Calls Try.prog 162 #[.int .i64 a0] w fun e w' => e = .returned (.string r) ∧ Below w.heap.size w w' := by
 have hw : (Lit.int .i64 a0).wf = true := by
  unfold qD.f at h; split at h
  ·exact WalkArith.wf_i64 (by assumption)
  ·cases h
 have hr : qD.v a0 = r := by
  unfold qD.f at h; split at h
  ·exact Option.some.inj h
  ·cases h
 clear h;have law : Go.Maps.Keyed Try.prog 3 := Go.Maps.int_keyed Try.underlying3;have um := Try.underlying222;have us := Try.underlying9;have key : ∀ n : Int, (Lit.int .i64 n).wf = true → keyOf Try.prog 3 (.int .i64 n) = some (.int .i64 n) := fun n hn => Go.Maps.keyOf_int_mk Try.underlying3 hn
 have el : ∀ s : ByteArray, s.size ≤ maxLen → plainElem (H := Unit) Try.prog 9 (.string s) = some (.lit (.string s.data.toList), []) := fun s hs => plainElem_string us hs
 have o0 := World.ownsMap_made (H := Unit) w Try.prog 3 (plainElem Try.prog 9);obtain ⟨w1, r1, o1, g1⟩ := o0.update law um (by unfold maxLen; omega) (key 1 (by decide)) (el ⟨#[65]⟩ (by decide));obtain ⟨w2, r2, o2, g2⟩ := o1.update law um (by unfold maxLen; omega) (key 2 (by decide)) (el ⟨#[78, 83]⟩ (by decide));obtain ⟨w3, r3, o3, g3⟩ := o2.update law um (by unfold maxLen; omega) (key 5 (by decide)) (el ⟨#[67, 78, 65, 77, 69]⟩ (by decide));obtain ⟨w4, r4, o4, g4⟩ := o3.update law um (by unfold maxLen; omega) (key 6 (by decide)) (el ⟨#[83, 79, 65]⟩ (by decide));obtain ⟨w5, r5, o5, g5⟩ := o4.update law um (by unfold maxLen; omega) (key 12 (by decide)) (el ⟨#[80, 84, 82]⟩ (by decide));obtain ⟨w6, r6, o6, g6⟩ := o5.update law um (by unfold maxLen; omega) (key 16 (by decide)) (el ⟨#[84, 88, 84]⟩ (by decide));obtain ⟨w7, r7, o7, g7⟩ := o6.update law um (by unfold maxLen; omega) (key 49 (by decide)) (el ⟨#[68, 72, 67, 73, 68]⟩ (by decide));obtain ⟨v, ps, rl, hv⟩ := o7.lookup law um (z := .string ⟨#[]⟩) (by kernel_rfl) (el ⟨#[]⟩ (by decide)) (key a0 hw);obtain ⟨s, rfl, hs, _⟩ := qD.inv us hv
 have hB : Below w.heap.size w w7 := by
  have b0 := below_alloc (Below.refl w.heap.size w) (.map #[] 0);refine Below.grown (Below.grown (Below.grown (Below.grown (Below.grown (Below.grown (Below.grown b0 g1 ?_ ?_) g2 ?_ ?_) g3 ?_ ?_) g4 ?_ ?_) g5 ?_ ?_) g6 ?_ ?_) g7 ?_ ?_
  all_goals first
   | (intro j hj; cases hj; exact Nat.le_refl _)
   | (have := b0.size; have := g1.size; have := g2.size; have := g3.size; have := g4.size; have := g5.size; have := g6.size; omega)
 have e : s = qD.v a0 := by
  simp only [Prod.mk.injEq] at hs;have hat := hs.1
  have fin : ∀ {l : ByteArray}, (DataW.lit (.string l.data.toList) : DataW Unit) = .lit (.string s.data.toList) → s = l := fun {l} he => by
   simp at he
   cases s; cases l; simp at he; rw [he]
  have im : ∀ {D : DataW Unit} {k d}, Go.Maps.IsMap D → Go.Maps.IsMap (D.put k d) := fun {D k d} ⟨es, he⟩ => by subst he; exact ⟨_, rfl⟩
  have i0 : Go.Maps.IsMap (DataW.map [] : DataW Unit) := ⟨_, rfl⟩;unfold qD.v;by_cases h7 : a0 = 49
  ·subst h7;rw [Go.Maps.atKey_put_same (im (im (im (im (im (im i0)))))) (by trivial)] at hat;exact fin hat
  rw [Go.Maps.atKey_put_other (qD.ne h7)] at hat;by_cases h6 : a0 = 16
  ·subst h6;rw [Go.Maps.atKey_put_same (im (im (im (im (im i0))))) (by trivial)] at hat;exact fin hat
  rw [Go.Maps.atKey_put_other (qD.ne h6)] at hat;by_cases h5 : a0 = 12
  ·subst h5;rw [Go.Maps.atKey_put_same (im (im (im (im i0)))) (by trivial)] at hat;exact fin hat
  rw [Go.Maps.atKey_put_other (qD.ne h5)] at hat;by_cases h4 : a0 = 6
  ·subst h4;rw [Go.Maps.atKey_put_same (im (im (im i0))) (by trivial)] at hat;exact fin hat
  rw [Go.Maps.atKey_put_other (qD.ne h4)] at hat;by_cases h3 : a0 = 5
  ·subst h3;rw [Go.Maps.atKey_put_same (im (im i0)) (by trivial)] at hat;exact fin hat
  rw [Go.Maps.atKey_put_other (qD.ne h3)] at hat;by_cases h2 : a0 = 2
  ·subst h2;rw [Go.Maps.atKey_put_same (im i0) (by trivial)] at hat;exact fin hat
  rw [Go.Maps.atKey_put_other (qD.ne h2)] at hat;by_cases h1 : a0 = 1
  ·subst h1;rw [Go.Maps.atKey_put_same i0 (by trivial)] at hat;exact fin hat
  rw [Go.Maps.atKey_put_other (qD.ne h1)] at hat;rw [if_neg h1, if_neg h2, if_neg h3, if_neg h4, if_neg h5, if_neg h6, if_neg h7];exact fin hat
 have HB := ak hB;subst e;clear o0 o1 o2 o3 o4 o5 o6 o7 g1 g2 g3 g4 g5 g6 g7 hB hs hv key el law hw;subst hr;generalize qD.v a0 = s at rl ⊢;have hmm := @run_makeMap Try.prog;go_enter Try.func162, Try.ntmps162;go_wp2;go_ret;exact ⟨rfl, HB.out⟩

/-! ### ju: function 82 -/

def ju.f (a0 : Int) : Option Bool := (qD.f a0).bind fun t => some (!t.toList.isEmpty)
set_option maxHeartbeats 8000000 in
set_option maxRecDepth 100000 in
theorem ju.calls (a0 : Int) (r : Bool) (w : World) (h : ju.f a0 = some r) :
  Calls Try.prog 82 #[.int .i64 a0] w fun e w' => e = .returned (.bool r) ∧ Below w.heap.size w w' := by
 obtain ⟨s, hs, hr⟩ := Option.bind_eq_some_iff.mp h;have hr := Option.some.inj hr;subst hr;have HC := ak hs;clear h hs;go_enter Try.func82, Try.ntmps82;go_wp2_with (go_at_call 162; refine (qD.calls a0 s _ HC.out).mono ?_; rintro e w' ⟨rfl, hb⟩);go_ret;exact ⟨by first | rfl | simp, hb⟩

/-! ### jq: function 83 -/
def jq.f (a0 : Int) (a1 : Int) (a2 : Int) : Option (Bool) := if a1 ≤ a0 then (some (decide (a0 ≤ a2))) else (some false)
set_option maxHeartbeats 8000000 in
set_option maxRecDepth 100000 in
theorem jq.calls (a0 : Int) (a1 : Int) (a2 : Int) (r : Bool) (w : World) (h : jq.f a0 a1 a2 = some r) :
  Calls Try.prog 83 #[.int .i64 a0, .int .i64 a1, .int .i64 a2] w fun e w' => e = .returned (.bool r) ∧ Drawn0 w w' := by
 have H : (if a1 ≤ a0 then (some (decide (a0 ≤ a2))) else (some false)) = some r := h;clear h;replace H := ip H;obtain ⟨c4b0, H⟩ | ⟨c4b0, H⟩ := H
 ·obtain rfl := Option.some.inj H;go_enter Try.func83, Try.ntmps83;go_wp2;go_ret;exact ⟨o2, od⟩
 ·obtain rfl := Option.some.inj H;go_enter Try.func83, Try.ntmps83;go_wp2;go_ret;exact ⟨o2, od⟩

/-! ### jO: function 85 -/
def jO.f (a0 : Int) : Option (Bool) := if a0 = 2 then (some true) else (if a0 = 5 then (some true) else (if a0 = 6 then (some true) else (some (a0 == 12))))
set_option maxHeartbeats 8000000 in
set_option maxRecDepth 100000 in
theorem jO.calls (a0 : Int) (r : Bool) (w : World) (h : jO.f a0 = some r) :
  Calls Try.prog 85 #[.int .i64 a0] w fun e w' => e = .returned (.bool r) ∧ Drawn0 w w' := by
 have H : (if a0 = 2 then (some true) else (if a0 = 5 then (some true) else (if a0 = 6 then (some true) else (some (a0 == 12))))) = some r := h;clear h;replace H := ie H;obtain ⟨c2b0, c2b1, H⟩ | ⟨c2b0, c2b1, H⟩ := H
 ·obtain rfl := Option.some.inj H;go_enter Try.func85, Try.ntmps85;go_wp2;go_ret;exact ⟨o2, od⟩
 ·replace H := ie H;obtain ⟨c3b0, c3b1, H⟩ | ⟨c3b0, c3b1, H⟩ := H
  ·obtain rfl := Option.some.inj H;go_enter Try.func85, Try.ntmps85;go_wp2;go_ret;exact ⟨o2, od⟩
  ·replace H := ie H;obtain ⟨c4b0, c4b1, H⟩ | ⟨c4b0, c4b1, H⟩ := H
   ·obtain rfl := Option.some.inj H;go_enter Try.func85, Try.ntmps85;go_wp2;go_ret;exact ⟨o2, od⟩
   ·obtain rfl := Option.some.inj H;go_enter Try.func85, Try.ntmps85;go_wp2;go_ret;exact ⟨o2, od⟩

/-! ### zn: function 138 -/
def zn.f (a0 : Int) : Option (Bool) := (jq.f a0 0 4294967295).bind fun Xd => (some Xd)
set_option maxHeartbeats 8000000 in
set_option maxRecDepth 100000 in
theorem zn.calls (a0 : Int) (r : Bool) (w : World) (h : zn.f a0 = some r) :
  Calls Try.prog 138 #[.int .i64 a0] w fun e w' => e = .returned (.bool r) ∧ Drawn0 w w' := by
 have H : ((jq.f a0 0 4294967295).bind fun Xd => (some Xd)) = some r := h;clear h;replace H := bnd H;obtain ⟨Xd, A2, H⟩ := H;obtain rfl := Option.some.inj H;go_enter Try.func138, Try.ntmps138;go_wp2_with (((with_reducible refine gate_callee (f := 83) rfl ?_);refine glD 4 rfl rfl Try.func83 (jq.calls a0 0 4294967295 Xd _ A2.out) (fun nd => ?_)));go_ret;exact ⟨o2, od⟩

/-! ### jJ: function 139 -/
def jJ.f (a0 : Int) : Option (Bool) := if a0 = 16 then (some true) else (some (a0 == 49))
set_option maxHeartbeats 8000000 in
set_option maxRecDepth 100000 in
theorem jJ.calls (a0 : Int) (r : Bool) (w : World) (h : jJ.f a0 = some r) :
  Calls Try.prog 139 #[.int .i64 a0] w fun e w' => e = .returned (.bool r) ∧ Drawn0 w w' := by
 have H : (if a0 = 16 then (some true) else (some (a0 == 49))) = some r := h;clear h;replace H := ie H;obtain ⟨c2b0, c2b1, H⟩ | ⟨c2b0, c2b1, H⟩ := H
 ·obtain rfl := Option.some.inj H;go_enter Try.func139, Try.ntmps139;go_wp2;go_ret;exact ⟨o2, od⟩
 ·obtain rfl := Option.some.inj H;go_enter Try.func139, Try.ntmps139;go_wp2;go_ret;exact ⟨o2, od⟩

/-! ### qk: function 63 -/
mutual
def qk.j0 : Nat → Bool → List (List Int) → Int → Int → Int → List (List Int) → List Int → List Int → Option (Bool)
 | 0, _, _, _, _, _, _, _, _ => none
 | k + 1, x22, jE, js, jW, jN, jD, jC, qX => if x22 = true then (some false) else (if js = 6 then (if (qX.length : Int) = 2 then (if 0 < (qX.length : Int) then ((zn.f (rd qX 0)).bind fun jY => (if jY = true then (if 1 < (qX.length : Int) then ((jq.f (rd qX 1) 0 100000).bind fun zC => (qk.j1 k zC jE js jW jN jD jC qX)) else (none)) else (qk.j1 k false jE js jW jN jD jC qX))) else (none)) else (qk.j1 k false jE js jW jN jD jC qX)) else (qk.j1 k ((qX.length : Int) == 0) jE js jW jN jD jC qX))
def qk.j1 : Nat → Bool → List (List Int) → Int → Int → Int → List (List Int) → List Int → List Int → Option (Bool)
 | 0, _, _, _, _, _, _, _, _ => none
 | k + 1, x3, jE, js, jW, jN, jD, jC, qX => if jN = 0 then (qk.j2 k x3 true jE js jW jN jD jC qX) else (if js = 1 then ((zn.f jN).bind fun jX => (qk.j2 k x3 jX jE js jW jN jD jC qX)) else (qk.j2 k x3 false jE js jW jN jD jC qX))
def qk.j2 : Nat → Bool → Bool → List (List Int) → Int → Int → Int → List (List Int) → List Int → List Int → Option (Bool)
 | 0, _, _, _, _, _, _, _, _, _ => none
 | k + 1, x3, x4, jE, js, jW, jN, jD, jC, qX => if (jD.length : Int) = 0 then (qk.j3 k x3 x4 true jE js jW jN jD jC qX) else ((jO.f js).bind fun ye => (if ye = true then ((qq.f jD).bind fun zA => (qk.j3 k x3 x4 zA jE js jW jN jD jC qX)) else (qk.j3 k x3 x4 false jE js jW jN jD jC qX)))
def qk.j3 : Nat → Bool → Bool → Bool → List (List Int) → Int → Int → Int → List (List Int) → List Int → List Int → Option (Bool)
 | 0, _, _, _, _, _, _, _, _, _, _ => none
 | k + 1, x3, x4, x5, jE, js, jW, jN, jD, jC, qX => if (jC.length : Int) = 0 then (if x3 = true then (if x4 = true then (if x5 = true then (some true) else (some false)) else (some false)) else (some false)) else ((jJ.f js).bind fun jZ => (if jZ = true then (if x3 = true then (if x4 = true then (if x5 = true then (some (decide ((jC.length : Int) ≤ 40))) else (some false)) else (some false)) else (some false)) else (if x3 = true then (if x4 = true then (if x5 = true then (some false) else (some false)) else (some false)) else (some false))))
end
def qk.f (k : Nat) (qo : List (List Int)) (qK : Int) (jh : Int) (jg : Int) (qF : List (List Int)) (qG : List Int) (qy : List Int) : Option (Bool) := (qq.f qo).bind fun jn => (if jn = true then ((ju.f qK).bind fun qE => (if qE = true then ((jq.f jh 0 100000).bind fun jw => (qk.j0 k (!jw) qo qK jh jg qF qG qy)) else (qk.j0 k true qo qK jh jg qF qG qy))) else (qk.j0 k true qo qK jh jg qF qG qy))
set_option maxHeartbeats 8000000 in
set_option maxRecDepth 100000 in
theorem qk.calls (k : Nat) (jV : Option Addr) (jU : Nat) (qo : List (List Int)) (qK : Int) (jh : Int) (jg : Int) (zZ : Option Addr) (zW : Nat) (qF : List (List Int)) (zY : Option Addr) (zV : Nat) (qG : List Int) (zX : Option Addr) (zU : Nat) (qy : List Int) (r : Bool) (w : World) (za : Kd.C (Kd.slice 5 (Kd.int .u8)) w jV qo.length qo) (zj : qo.length ≤ jU) (yv : Kd.C (Kd.slice 5 (Kd.int .u8)) w zZ qF.length qF) (yy : qF.length ≤ zW) (yu : Kd.C (Kd.int .u8) w zY qG.length qG) (yx : qG.length ≤ zV) (yt : Kd.C (Kd.int .i64) w zX qy.length qy) (yw : qy.length ≤ zU) (h : qk.f k qo qK jh jg qF qG qy = some r) :
  Calls Try.prog 63 #[.agg #[.slice jV qo.length jU, .int .i64 qK, .int .i64 jh, .int .i64 jg, .slice zZ qF.length zW, .slice zY qG.length zV, .slice zX qy.length zU]] w fun e w' => e = .returned (.bool r) ∧ Below w.heap.size w w' := by
 have JW := Try.underlying33;have QD := Try.underlying31;have jz := ak za;have jI := ak zj;clear za zj;have yb := ak yv;have yc := ak yy;clear yv yy;have Qf := ak yu;have Qh := ak yx;clear yu yx;have zt := ak yt;have Qt := ak yw;clear yt yw;have HB := ak (Below.refl w.heap.size w);have H : ((qq.f qo).bind fun jn => (if jn = true then ((ju.f qK).bind fun qE => (if qE = true then ((jq.f jh 0 100000).bind fun jw => (qk.j0 k (!jw) qo qK jh jg qF qG qy)) else (qk.j0 k true qo qK jh jg qF qG qy))) else (qk.j0 k true qo qK jh jg qF qG qy))) = some r := h;clear h;have HC2 := ak H;clear H;go_enter Try.func63, Try.ntmps63;go_upto_region 1 with (((with_reducible refine gate_dst (N := 1) rfl ?_);(try (refine gate_guard (by rfl) ?_; dsimp only));refine bxd (N := 1) rfl HB ?_;clear HB;intro qb w3 hg HB qc qA hb;have jv := qA;clear hb hg))
 (try simp only [Act.put, List.setIfInBounds_toArray, List.set_cons_zero, List.set_cons_succ])
 go_cut [22] (fun v22 wc => ∃ (kq : Nat) (qcS : Bool), v22 = .bool qcS ∧ Aside0 (qk.j0 kq qcS qo qK jh jg qF qG qy = some r) ∧ Aside0 (kq ≤ k) ∧ Aside0 (wc.heap[qb]? = some (.cells #[(.slice jV qo.length jU), .int .i64 qK, .int .i64 jh, .int .i64 jg, (.slice zZ qF.length zW), (.slice zY qG.length zV), (.slice zX qy.length zU)] 33 (0, 0))) ∧ Aside0 (Below w.heap.size w wc))
 case first =>
  have H := HC2.out;clear HC2;replace H := bnd H;obtain ⟨jn, A4, H⟩ := H;replace H := ib H;obtain ⟨rfl, H⟩ | ⟨rfl, H⟩ := H
  ·replace H := bnd H;obtain ⟨qE, A6, H⟩ := H;replace H := ib H;obtain ⟨rfl, H⟩ | ⟨rfl, H⟩ := H
   ·replace H := bnd H;obtain ⟨jw, A8, H⟩ := H;have H' := ak H;clear H;obtain ⟨Xu, qk9, qk8, qk7, qk6, qk5, qk4, Xm, qk1, qk0, qkZ, qkY, qkX, qkW⟩ := cells7 qc.out;go_wp2_with (first | ((with_reducible refine gate_callee (f := 74) rfl ?_);refine glB 9 rfl rfl Try.func74 (qq.calls _ _ qo true _ (cv jz HB) jI.out A4.out) (fun w10 hb => ?_);replace qc := b1 qc hb;replace HB := b2s bs hb;(try clear hb);obtain ⟨qcP, qkD, qkC, qkB, qkA, qkz, qky, qbs, qhv, qhu, qht, qhs, qhr, qhq⟩ := cells7 qc.out) | (go_at_call 82;(with_reducible refine (ju.calls qK true _ A6.out).mono ?_);rintro e w12 ⟨rfl, hb⟩;replace qc := b1 qc hb;replace HB := b2s bs hb;(try clear hb);obtain ⟨Qx, YM, YL, YK, YJ, YI, YH, Qw, ZR, ZQ, ZP, ZO, ZN, ZM⟩ := cells7 qc.out) | (go_at_call 83;(with_reducible refine (jq.calls jh 0 100000 jw _ A8.out).mono ?_);rintro e w' ⟨rfl, ⟨nd, rfl⟩⟩));go_meet
    case rel => exact ⟨_, (!jw), o2, H', ⟨o3⟩, ⟨bk qc.out⟩, ⟨bs⟩⟩
   ·have H' := ak H;clear H;obtain ⟨qkr, qC0, qCZ, qCY, qCX, qCW, qCV, qhj, qyT, qyS, qyR, qyQ, qyP, qyO⟩ := cells7 qc.out;go_wp2_with (first | ((with_reducible refine gate_callee (f := 74) rfl ?_);refine glB 9 rfl rfl Try.func74 (qq.calls _ _ qo true _ (cv jz HB) jI.out A4.out) (fun w15 hb => ?_);replace qc := b1 qc hb;replace HB := b2s bs hb;(try clear hb);obtain ⟨YG, YF, YE, YD, YC, YB, YA, ZL, ZK, ZJ, ZI, ZH, ZG, ZF⟩ := cells7 qc.out) | (go_at_call 82;(with_reducible refine (ju.calls qK false _ A6.out).mono ?_);rintro e w17 ⟨rfl, hb⟩;replace qc := b1 qc hb;replace HB := b2s bs hb;(try clear hb)));go_meet
    case rel => exact ⟨_, (true), o2, H', ⟨o3⟩, ⟨bk qc.out⟩, ⟨bs⟩⟩
  ·have H' := ak H;clear H;obtain ⟨qcM, qcL, qcK, qcJ, qcI, qcH, qcG, qbp, qbo, qbn, qbm, qbl, qbk, qbj⟩ := cells7 qc.out;go_wp2_with (((with_reducible refine gate_callee (f := 74) rfl ?_);refine glB 9 rfl rfl Try.func74 (qq.calls _ _ qo false _ (cv jz HB) jI.out A4.out) (fun w19 hb => ?_);replace qc := b1 qc hb;replace HB := b2s bs hb;(try clear hb)));go_meet
   case rel => exact ⟨_, (true), o2, H', ⟨o3⟩, ⟨bk qc.out⟩, ⟨bs⟩⟩
 case rest =>
  clear HC2;obtain ⟨kq, qcS, rfl, HA, HJ1, qc, HB⟩ := hcut;cases kq with
  | zero => exact absurd HA.out (by simp [qk.j0])
  | succ kj1 =>
   have H := HA.out;clear HA;simp only [qk.j0] at H;replace H := ib H;obtain ⟨rfl, H⟩ | ⟨rfl, H⟩ := H
   ·obtain rfl := Option.some.inj H;go_wp2;go_ret;exact ⟨o1, bs⟩
   ·have qdO := ak H;clear H;obtain ⟨Ja, QZ, QY, QX, QW, QV, QU, QT, QS, QR, QQ, QP, QO, QN⟩ := cells7 qc.out;go_upto_if 29 with (fail)
    go_cut [3] (fun v3 wc => ∃ (kq : Nat) (JI : Bool), v3 = .bool JI ∧ Aside0 (qk.j1 kq JI qo qK jh jg qF qG qy = some r) ∧ Aside0 (kq ≤ kj1) ∧ Aside0 (wc.heap[qb]? = some (.cells #[(.slice jV qo.length jU), .int .i64 qK, .int .i64 jh, .int .i64 jg, (.slice zZ qF.length zW), (.slice zY qG.length zV), (.slice zX qy.length zU)] 33 (0, 0))) ∧ Aside0 (Below w.heap.size w wc))
    case first =>
     have H := qdO.out;clear qdO;replace H := ie H;obtain ⟨c23b0, c23b1, H⟩ | ⟨c23b0, c23b1, H⟩ := H
     ·(first | rw [c23b0] | (simp only [i64_w, i32_w]; rw [c23b0]) | skip)
      replace H := ie H;obtain ⟨c24b0, c24b1, H⟩ | ⟨c24b0, c24b1, H⟩ := H
      ·replace H := ipN H;obtain ⟨c25b0, H⟩ := H;have c25b1 : decide (0 < qy.length) = true := decide_eq_true (by have := of_decide_eq_true c25b0; omega);replace H := bnd H;obtain ⟨jY, A26, H⟩ := H;replace H := ib H;obtain ⟨rfl, H⟩ | ⟨rfl, H⟩ := H
       ·replace H := ipN H;obtain ⟨c28b0, H⟩ := H;have c28b1 : decide (1 < qy.length) = true := decide_eq_true (by have := of_decide_eq_true c28b0; omega);replace H := bnd H;obtain ⟨zC, A29, H⟩ := H;have H' := ak H;clear H;obtain ⟨Jv, qcq, qcp, qco, qcn, qcm, qcl, Jt, qa3, qa2, qa1, qa0, qaZ, qaY⟩ := cells7 qc.out;obtain ⟨Jj, rfl, jc, ze, zd⟩ := el0_int zt 0 (h0 := by decide);replace ze := of_eq_true ze;replace zd := of_eq_true zd;have JJ : (0 < qy.length) = True := eq_true (by omega);(try rw [show ((0 : Int)).toNat = 0 from rfl] at jc)
        (try rw [Addr.add_zero'] at jc)
        replace jc := pw_cell_below HB.out jc;replace ze := eq_true ze;replace zd := eq_true zd;go_wp2_with (first | (go_at_call 138;(with_reducible refine (zn.calls (rd qy 0) true _ A26.out).mono ?_);rintro e w' ⟨rfl, ⟨nd, rfl⟩⟩;have zm : 0 ≤ (1 : Int) := (by omega);have zl : 1 < (qy.length : Int) := of_decide_eq_true (by first | (with_reducible assumption) | assumption);obtain ⟨Ji, JH, jK⟩ := Kd.at_int zt.out 1 zm zl;obtain rfl : Jj = Ji := (by injection JH);(try simp only [show (1 : Int).toNat = 1 from rfl, Nat.reduceMul, Nat.reduceEqDiff, Go.Addr.add, ↓reduceIte] at jK);have qdY : (1 < qy.length) = True := eq_true (by omega);(try rw [show ((1 : Int)).toNat = 1 from rfl] at jK);replace jK := pw_cell_below HB.out jK;replace zm := eq_true zm;replace zl := eq_true zl) | (go_at_call 83;(with_reducible refine (jq.calls (rd qy 1) 0 100000 zC _ A29.out).mono ?_);rintro e w' ⟨rfl, ⟨nd, rfl⟩⟩));go_meet
        case rel => exact ⟨_, (zC), o2, H', ⟨by have := HJ1.out; first | omega | exact Nat.le_refl _⟩, ⟨bk qc.out⟩, ⟨bs⟩⟩
       ·have H' := ak H;clear H;obtain ⟨qjH, qjG, qjF, qjE, qjD, qjC, qjB, qgz, qgy, qgx, qgw, qgv, qgu, qgt⟩ := cells7 qc.out;obtain ⟨Jj, rfl, jc, ze, zd⟩ := el0_int zt 0 (h0 := by decide);replace ze := of_eq_true ze;replace zd := of_eq_true zd;have JJ : (0 < qy.length) = True := eq_true (by omega);(try rw [show ((0 : Int)).toNat = 0 from rfl] at jc)
        (try rw [Addr.add_zero'] at jc)
        replace jc := pw_cell_below HB.out jc;replace ze := eq_true ze;replace zd := eq_true zd;go_wp2_with ((go_at_call 138;(with_reducible refine (zn.calls (rd qy 0) false _ A26.out).mono ?_);rintro e w' ⟨rfl, ⟨nd, rfl⟩⟩));go_meet
        case rel => exact ⟨_, (false), o2, H', ⟨by have := HJ1.out; first | omega | exact Nat.le_refl _⟩, ⟨bk qc.out⟩, ⟨bs⟩⟩
      ·have H' := ak H;clear H;obtain ⟨Yp, Yo, Yn, Ym, Yl, Yk, Yj, Zu, Zt, Zs, Zr, Zq, Zp, Zo⟩ := cells7 qc.out;go_wp2;go_meet
       case rel => exact ⟨_, (false), o2, H', ⟨by have := HJ1.out; first | omega | exact Nat.le_refl _⟩, ⟨bk qc.out⟩, ⟨bs⟩⟩
     ·(first | rw [c23b0] | (simp only [i64_w, i32_w]; rw [c23b0]) | skip)
      have H' := ak H;clear H;go_wp2;go_meet
      case rel => exact ⟨_, (((qy.length : Int) == 0)), o2, H', ⟨by have := HJ1.out; first | omega | exact Nat.le_refl _⟩, ⟨bk qc.out⟩, ⟨bs⟩⟩
    case rest =>
     clear qdO;(try clear Ja)
     (try clear QZ)
     (try clear QY)
     (try clear QX)
     (try clear QW)
     (try clear QV)
     (try clear QU)
     (try clear QT)
     (try clear QS)
     (try clear QR)
     (try clear QQ)
     (try clear QP)
     (try clear QO)
     (try clear QN)
     obtain ⟨kq, JI, rfl, HA, YO, qc, HB⟩ := hcut;cases kq with
     | zero => exact absurd HA.out (by simp [qk.j1])
     | succ qmK =>
      have H := HA.out;clear HA;simp only [qk.j1] at H;have qdM := ak H;clear H;go_upto_region 6 with (fail)
      go_cut [4] (fun v4 wc => ∃ (kq : Nat) (YP : Bool), v4 = .bool YP ∧ Aside0 (qk.j2 kq JI YP qo qK jh jg qF qG qy = some r) ∧ Aside0 (kq ≤ qmK) ∧ Aside0 (wc.heap[qb]? = some (.cells #[(.slice jV qo.length jU), .int .i64 qK, .int .i64 jh, .int .i64 jg, (.slice zZ qF.length zW), (.slice zY qG.length zV), (.slice zX qy.length zU)] 33 (0, 0))) ∧ Aside0 (Below w.heap.size w wc))
      case first =>
       have H := qdM.out;clear qdM;replace H := ie H;obtain ⟨c34b0, c34b1, H⟩ | ⟨c34b0, c34b1, H⟩ := H
       ·(first | rw [c34b0] | (simp only [i64_w, i32_w]; rw [c34b0]) | skip)
        have H' := ak H;clear H;obtain ⟨Yh, Yg, Yf, Ye, Yd, Yc, Yb, Zm, Zl, Zk, Zj, Zi, Zh, Zg⟩ := cells7 qc.out;go_wp2;go_meet
        case rel => exact ⟨_, (true), o2, H', ⟨by have := HJ1.out; have := YO.out; first | omega | exact Nat.le_refl _⟩, ⟨bk qc.out⟩, ⟨bs⟩⟩
       ·(first | rw [c34b0] | (simp only [i64_w, i32_w]; rw [c34b0]) | skip)
        replace H := ie H;obtain ⟨c36b0, c36b1, H⟩ | ⟨c36b0, c36b1, H⟩ := H
        ·replace H := bnd H;obtain ⟨jX, A37, H⟩ := H;have H' := ak H;clear H;obtain ⟨qci, qji, qjh, qjg, qjf, qje, qjd, qaV, qga, qf9, qf8, qf7, qf6, qf5⟩ := cells7 qc.out;go_wp2_with ((go_at_call 138;(with_reducible refine (zn.calls jg jX _ A37.out).mono ?_);rintro e w' ⟨rfl, ⟨nd, rfl⟩⟩));go_meet
         case rel => exact ⟨_, (jX), o2, H', ⟨by have := HJ1.out; have := YO.out; first | omega | exact Nat.le_refl _⟩, ⟨bk qc.out⟩, ⟨bs⟩⟩
        ·have H' := ak H;clear H;obtain ⟨Ya, qch, qcg, qcf, qce, qcd, qcc, Zf, qaU, qaT, qaS, qaR, qaQ, qaP⟩ := cells7 qc.out;go_wp2;go_meet
         case rel => exact ⟨_, (false), o2, H', ⟨by have := HJ1.out; have := YO.out; first | omega | exact Nat.le_refl _⟩, ⟨bk qc.out⟩, ⟨bs⟩⟩
      case rest =>
       clear qdM;(try clear Ja)
       (try clear QZ)
       (try clear QY)
       (try clear QX)
       (try clear QW)
       (try clear QV)
       (try clear QU)
       (try clear QT)
       (try clear QS)
       (try clear QR)
       (try clear QQ)
       (try clear QP)
       (try clear QO)
       (try clear QN)
       obtain ⟨kq, YP, rfl, HA, qdG, qc, HB⟩ := hcut;cases kq with
       | zero => exact absurd HA.out (by simp [qk.j2])
       | succ qmJ =>
        have H := HA.out;clear HA;simp only [qk.j2] at H;have qdL := ak H;clear H;go_upto_region 7 with (fail)
        go_cut [5] (fun v5 wc => ∃ (kq : Nat) (qcQ : Bool), v5 = .bool qcQ ∧ Aside0 (qk.j3 kq JI YP qcQ qo qK jh jg qF qG qy = some r) ∧ Aside0 (kq ≤ qmJ) ∧ Aside0 (wc.heap[qb]? = some (.cells #[(.slice jV qo.length jU), .int .i64 qK, .int .i64 jh, .int .i64 jg, (.slice zZ qF.length zW), (.slice zY qG.length zV), (.slice zX qy.length zU)] 33 (0, 0))) ∧ Aside0 (Below w.heap.size w wc))
        case first =>
         have H := qdL.out;clear qdL;replace H := ie H;obtain ⟨c41b0, c41b1, H⟩ | ⟨c41b0, c41b1, H⟩ := H
         ·(first | rw [c41b0] | (simp only [i64_w, i32_w]; rw [c41b0]) | skip)
          have H' := ak H;clear H;obtain ⟨qi6, qi5, qi4, qi3, qi2, qi1, qi0, qfY, qfX, qfW, qfV, qfU, qfT, qfS⟩ := cells7 qc.out;go_wp2;go_meet
          case rel => exact ⟨_, (true), o2, H', ⟨by have := HJ1.out; have := YO.out; have := qdG.out; first | omega | exact Nat.le_refl _⟩, ⟨bk qc.out⟩, ⟨bs⟩⟩
         ·have c41b2 : ¬ (qF = []) := fun h_ => bne_iff_ne.mp c41b1 (by rw [h_]; rfl)
          (first | rw [c41b0] | (simp only [i64_w, i32_w]; rw [c41b0]) | skip)
          replace H := bnd H;obtain ⟨ye, A43, H⟩ := H;replace H := ib H;obtain ⟨rfl, H⟩ | ⟨rfl, H⟩ := H
          ·replace H := bnd H;obtain ⟨zA, A45, H⟩ := H;have H' := ak H;clear H;obtain ⟨qb2, qb1, qb0, qbZ, qbY, qbX, qbW, qaF, qaE, qaD, qaC, qaB, qaA, qaz⟩ := cells7 qc.out;go_wp2_with (first | (go_at_call 85;(with_reducible refine (jO.calls qK true _ A43.out).mono ?_);rintro e w' ⟨rfl, ⟨nd, rfl⟩⟩) | (go_at_call 74;(with_reducible refine (qq.calls _ _ qF zA _ ?qL yc.out A45.out).mono ?_);(case qL => repeat (first | exact (Kd.C_below yb.out bs) | (with_reducible refine Kd.C_alloc ?_ _) | (with_reducible refine Kd.C_drewN ?_ _) | (with_reducible refine Kd.C_drew ?_)));rintro e w47 ⟨rfl, hb⟩;replace qc := b1 qc hb;replace HB := b2s bs hb;(try clear hb)));go_meet
           case rel => exact ⟨_, (zA), o2, H', ⟨by have := HJ1.out; have := YO.out; have := qdG.out; first | omega | exact Nat.le_refl _⟩, ⟨bk qc.out⟩, ⟨bs⟩⟩
          ·have H' := ak H;clear H;obtain ⟨ZZ, ZY, ZX, ZW, ZV, ZU, ZT, Ze, Zd, Zc, Zb, Za, JZ, JY⟩ := cells7 qc.out;go_wp2_with ((go_at_call 85;(with_reducible refine (jO.calls qK false _ A43.out).mono ?_);rintro e w' ⟨rfl, ⟨nd, rfl⟩⟩));go_meet
           case rel => exact ⟨_, (false), o2, H', ⟨by have := HJ1.out; have := YO.out; have := qdG.out; first | omega | exact Nat.le_refl _⟩, ⟨bk qc.out⟩, ⟨bs⟩⟩
        case rest =>
         clear qdL;(try clear Ja)
         (try clear QZ)
         (try clear QY)
         (try clear QX)
         (try clear QW)
         (try clear QV)
         (try clear QU)
         (try clear QT)
         (try clear QS)
         (try clear QR)
         (try clear QQ)
         (try clear QP)
         (try clear QO)
         (try clear QN)
         obtain ⟨kq, qcQ, rfl, HA, qJS, qc, HB⟩ := hcut;cases kq with
         | zero => exact absurd HA.out (by simp [qk.j3])
         | succ qIP =>
          have H := HA.out;clear HA;simp only [qk.j3] at H;replace H := ie H;obtain ⟨c49b0, c49b1, H⟩ | ⟨c49b0, c49b1, H⟩ := H
          ·replace H := ib H;obtain ⟨rfl, H⟩ | ⟨rfl, H⟩ := H
           ·replace H := ib H;obtain ⟨rfl, H⟩ | ⟨rfl, H⟩ := H
            ·replace H := ib H;obtain ⟨rfl, H⟩ | ⟨rfl, H⟩ := H
             ·obtain rfl := Option.some.inj H;obtain ⟨qiR, qiQ, qiP, qiO, qiN, qiM, qiL, qfJ, qfI, qfH, qfG, qfF, qfE, qfD⟩ := cells7 qc.out;go_wp2;go_ret;exact ⟨o1, bs⟩
             ·obtain rfl := Option.some.inj H;obtain ⟨qiK, qiJ, qiI, qiH, qiG, qiF, qiE, qfC, qfB, qfA, qfz, qfy, qfx, qfw⟩ := cells7 qc.out;go_wp2;go_ret;exact ⟨o1, bs⟩
            ·obtain rfl := Option.some.inj H;obtain ⟨qbV, qiD, qiC, qiB, qiA, qiz, qiy, qay, qfv, qfu, qft, qfs, qfr, qfq⟩ := cells7 qc.out;go_wp2;go_ret;exact ⟨o1, bs⟩
           ·obtain rfl := Option.some.inj H;obtain ⟨qix, qB8, qB7, qB6, qB5, qB4, qB3, qfp, qx1, qx0, qxZ, qxY, qxX, qxW⟩ := cells7 qc.out;go_wp2;go_ret;exact ⟨o1, bs⟩
          ·have c49b2 : ¬ (qG = []) := fun h_ => bne_iff_ne.mp c49b1 (by rw [h_]; rfl)
           replace H := bnd H;obtain ⟨jZ, A57, H⟩ := H;replace H := ib H;obtain ⟨rfl, H⟩ | ⟨rfl, H⟩ := H
           ·replace H := ib H;obtain ⟨rfl, H⟩ | ⟨rfl, H⟩ := H
            ·replace H := ib H;obtain ⟨rfl, H⟩ | ⟨rfl, H⟩ := H
             ·replace H := ib H;obtain ⟨rfl, H⟩ | ⟨rfl, H⟩ := H
              ·obtain rfl := Option.some.inj H;obtain ⟨qip, qio, qin, qim, qil, qik, qij, qfh, qfg, qff, qfe, qfd, qfc, qfb⟩ := cells7 qc.out;go_wp2_with ((go_at_call 139;(with_reducible refine (jJ.calls qK true _ A57.out).mono ?_);rintro e w' ⟨rfl, ⟨nd, rfl⟩⟩));go_ret;exact ⟨o1, bs⟩
              ·obtain rfl := Option.some.inj H;obtain ⟨qbO, qbN, qbM, qbL, qbK, qbJ, qbI, qar, qaq, qap, qao, qan, qam, qal⟩ := cells7 qc.out;go_wp2_with ((go_at_call 139;(with_reducible refine (jJ.calls qK true _ A57.out).mono ?_);rintro e w' ⟨rfl, ⟨nd, rfl⟩⟩));go_ret;exact ⟨o1, bs⟩
             ·obtain rfl := Option.some.inj H;obtain ⟨qii, qBN, qBM, qBL, qBK, qBJ, qBI, qfa, qxG, qxF, qxE, qxD, qxC, qxB⟩ := cells7 qc.out;go_wp2_with ((go_at_call 139;(with_reducible refine (jJ.calls qK true _ A57.out).mono ?_);rintro e w' ⟨rfl, ⟨nd, rfl⟩⟩));go_ret;exact ⟨o1, bs⟩
            ·obtain rfl := Option.some.inj H;obtain ⟨qBH, qBG, qBF, qBE, qBD, qBC, qBB, qxA, qxz, qxy, qxx, qxw, qxv, qxu⟩ := cells7 qc.out;go_wp2_with ((go_at_call 139;(with_reducible refine (jJ.calls qK true _ A57.out).mono ?_);rintro e w' ⟨rfl, ⟨nd, rfl⟩⟩));go_ret;exact ⟨o1, bs⟩
           ·replace H := ib H;obtain ⟨rfl, H⟩ | ⟨rfl, H⟩ := H
            ·replace H := ib H;obtain ⟨rfl, H⟩ | ⟨rfl, H⟩ := H
             ·replace H := ib H;obtain ⟨rfl, H⟩ | ⟨rfl, H⟩ := H
              ·obtain rfl := Option.some.inj H;obtain ⟨qig, qif, qie, qid, qic, qib, qia, qe8, qe7, qe6, qe5, qe4, qe3, qe2⟩ := cells7 qc.out;go_wp2_with ((go_at_call 139;(with_reducible refine (jJ.calls qK false _ A57.out).mono ?_);rintro e w' ⟨rfl, ⟨nd, rfl⟩⟩));go_ret;exact ⟨o1, bs⟩
              ·obtain rfl := Option.some.inj H;obtain ⟨qbA, qbz, qby, qbx, qbw, qbv, qbu, qad, qac, qab, qaa, XZ, XY, XX⟩ := cells7 qc.out;go_wp2_with ((go_at_call 139;(with_reducible refine (jJ.calls qK false _ A57.out).mono ?_);rintro e w' ⟨rfl, ⟨nd, rfl⟩⟩));go_ret;exact ⟨o1, bs⟩
             ·obtain rfl := Option.some.inj H;obtain ⟨qbt, qh9, qh8, qh7, qh6, qh5, qh4, XW, qe1, qe0, qeZ, qeY, qeX, qeW⟩ := cells7 qc.out;go_wp2_with ((go_at_call 139;(with_reducible refine (jJ.calls qK false _ A57.out).mono ?_);rintro e w' ⟨rfl, ⟨nd, rfl⟩⟩));go_ret;exact ⟨o1, bs⟩
            ·obtain rfl := Option.some.inj H;obtain ⟨qh3, qh2, qh1, qh0, qhZ, qhY, qhX, qeV, qeU, qeT, qeS, qeR, qeQ, qeP⟩ := cells7 qc.out;go_wp2_with ((go_at_call 139;(with_reducible refine (jJ.calls qK false _ A57.out).mono ?_);rintro e w' ⟨rfl, ⟨nd, rfl⟩⟩));go_ret;exact ⟨o1, bs⟩

/-! ### qm: function 27 -/
mutual
def qm.j0 : Nat → Int → List Int → Int → Int → Bool → Option ((List (List Int)) × Int × Int × Int × (List (List Int)) × List Int × List Int × Bool)
 | 0, _, _, _, _, _ => none
 | k + 1, x0, x1, x2, x3, x37 => if x37 = true then (some (([] : List (List Int)), 0, 0, 0, ([] : List (List Int)), ([] : List Int), ([] : List Int), false)) else (if x0 = 1 then ((qw.f k x1 x2 4).bind fun qdf => (if qdf.2 = (wrap64 (x2 + x3)) then ((qk.f k ([] : List (List Int)) x0 0 qdf.1 ([] : List (List Int)) ([] : List Int) ([] : List Int)).bind fun qu => (if qu = true then (some (([] : List (List Int)), x0, 0, qdf.1, ([] : List (List Int)), ([] : List Int), ([] : List Int), true)) else (some (([] : List (List Int)), 0, 0, 0, ([] : List (List Int)), ([] : List Int), ([] : List Int), false)))) else (some (([] : List (List Int)), 0, 0, 0, ([] : List (List Int)), ([] : List Int), ([] : List Int), false)))) else ((jO.f x0).bind fun zC => (if zC = true then ((qi.f k x1 x2).bind fun qel => (qm.l0 k x0 x1 x2 x3 qel.2 0 x0 0 0 qel.1 ([] : List Int))) else (if x3 > 0 then (if 0 ≤ x2 then (if x2 < (x1.length : Int) then ((zi.f x1 (wrap64 (x2 + 1)) (wrap64 (rd x1 x2))).bind fun yI => (if yI.2 = (wrap64 (x2 + x3)) then ((qk.f k ([] : List (List Int)) x0 0 0 ([] : List (List Int)) yI.1 ([] : List Int)).bind fun qcX => (if qcX = true then (some (([] : List (List Int)), x0, 0, 0, ([] : List (List Int)), yI.1, ([] : List Int), true)) else (some (([] : List (List Int)), 0, 0, 0, ([] : List (List Int)), ([] : List Int), ([] : List Int), false)))) else (some (([] : List (List Int)), 0, 0, 0, ([] : List (List Int)), ([] : List Int), ([] : List Int), false)))) else (none)) else (none)) else (if (-1) = (wrap64 (x2 + x3)) then ((qk.f k ([] : List (List Int)) x0 0 0 ([] : List (List Int)) ([] : List Int) ([] : List Int)).bind fun jb => (if jb = true then (some (([] : List (List Int)), x0, 0, 0, ([] : List (List Int)), ([] : List Int), ([] : List Int), true)) else (some (([] : List (List Int)), 0, 0, 0, ([] : List (List Int)), ([] : List Int), ([] : List Int), false)))) else (some (([] : List (List Int)), 0, 0, 0, ([] : List (List Int)), ([] : List Int), ([] : List Int), false)))))))
def qm.l0 : Nat → Int → List Int → Int → Int → Int → Int → Int → Int → Int → List (List Int) → List Int → Option ((List (List Int)) × Int × Int × Int × (List (List Int)) × List Int × List Int × Bool)
 | 0, _, _, _, _, _, _, _, _, _, _, _ => none
 | k + 1, x0, x1, x2, x3, x11, x61, QM, QL, QK, QJ, Qv => if x61 < 2 then (if x0 = 6 then (if x11 ≥ 0 then ((qw.f k x1 x11 4).bind fun yM => (if Qv.length < 17592186044416 then (qm.l0 k x0 x1 x2 x3 yM.2 (wrap64 (x61 + 1)) QM QL QK QJ (Qv ++ [yM.1])) else (none))) else (qm.l0 k x0 x1 x2 x3 x11 (wrap64 (x61 + 1)) QM QL QK QJ Qv)) else (qm.l0 k x0 x1 x2 x3 x11 (wrap64 (x61 + 1)) QM QL QK QJ Qv)) else (if x11 = (wrap64 (x2 + x3)) then ((qk.f k ([] : List (List Int)) QM QL QK QJ ([] : List Int) Qv).bind fun QH => (if QH = true then (some (([] : List (List Int)), QM, QL, QK, QJ, ([] : List Int), Qv, true)) else (some (([] : List (List Int)), 0, 0, 0, ([] : List (List Int)), ([] : List Int), ([] : List Int), false)))) else (some (([] : List (List Int)), 0, 0, 0, ([] : List (List Int)), ([] : List Int), ([] : List Int), false)))
end
def qm.f (k : Nat) (a0 : Int) (l1 : List Int) (a2 : Int) (a3 : Int) : Option ((List (List Int)) × Int × Int × Int × (List (List Int)) × List Int × List Int × Bool) := (ju.f a0).bind fun jn => (if jn = true then (if (l1.length : Int) > 512 then (qm.j0 k a0 l1 a2 a3 true) else (if a2 < 0 then (qm.j0 k a0 l1 a2 a3 true) else ((jq.f a3 0 512).bind fun qE => (if qE = true then (qm.j0 k a0 l1 a2 a3 (decide (a3 > (wrap64 ((l1.length : Int) - a2))))) else (qm.j0 k a0 l1 a2 a3 true))))) else (qm.j0 k a0 l1 a2 a3 true))
theorem bt2 {p : Prop} (h : p := by repeat (first | (with_reducible refine below_set ?_ (Aside0.out (by with_reducible assumption))) | (with_reducible apply pw_below_drewN) | (with_reducible apply below_alloc) | (with_reducible apply below_drew1) | exact bw HB.out)) : p := h
set_option maxHeartbeats 8000000 in
set_option maxRecDepth 100000 in
theorem qm.calls (k : Nat) (a0 : Int) (A1 : Option Addr) (c1 : Nat) (l1 : List Int) (a2 : Int) (a3 : Int) (r1 : List (List Int)) (r2 : Int) (r3 : Int) (r4 : Int) (r5 : List (List Int)) (r6 : List Int) (r7 : List Int) (r8 : Bool) (w : World) (hr1 : Kd.C (Kd.int .u8) w A1 l1.length l1) (hc1 : l1.length ≤ c1) (h : qm.f k a0 l1 a2 a3 = some (r1, r2, r3, r4, r5, r6, r7, r8)) :
  Calls Try.prog 27 #[.int .i64 a0, .slice A1 l1.length c1, .int .i64 a2, .int .i64 a3] w fun e w' => ∃ v0_ v4_ v5_ v6_ : Value, e = .returned (.tuple #[.agg #[v0_, .int .i64 r2, .int .i64 r3, .int .i64 r4, v4_, v5_, v6_], .bool r8]) ∧ Kd.S (Kd.slice 5 (Kd.int .u8)) 25 w' w.heap.size (fun k_ => some k_ ≠ (v4_ : Value).ownBlock ∧ some k_ ≠ (v5_ : Value).ownBlock) v0_ r1 ∧ Kd.S (Kd.slice 5 (Kd.int .u8)) 25 w' w.heap.size (fun k_ => some k_ ≠ (v0_ : Value).ownBlock ∧ some k_ ≠ (v5_ : Value).ownBlock) v4_ r5 ∧ Kd.R (Kd.int .u8) 5 w' w.heap.size (fun _ => True) v5_ r6 ∧ Kd.R (Kd.int .i64) 3 w' w.heap.size (fun _ => True) v6_ r7 ∧ Below w.heap.size w w' := by
 have JW := Try.underlying33;have QD := Try.underlying31;have HR1 := ak hr1;have HC1 := ak hc1;clear hr1 hc1;have HB := ak (Below.refl w.heap.size w);have H : ((ju.f a0).bind fun jn => (if jn = true then (if (l1.length : Int) > 512 then (qm.j0 k a0 l1 a2 a3 true) else (if a2 < 0 then (qm.j0 k a0 l1 a2 a3 true) else ((jq.f a3 0 512).bind fun qE => (if qE = true then (qm.j0 k a0 l1 a2 a3 (decide (a3 > (wrap64 ((l1.length : Int) - a2))))) else (qm.j0 k a0 l1 a2 a3 true))))) else (qm.j0 k a0 l1 a2 a3 true))) = some (r1, r2, r3, r4, r5, r6, r7, r8) := h;clear h;have HC5 := ak H;clear H;go_enter Try.func27, Try.ntmps27;go_upto_region 1 with (((with_reducible refine gate_dst (N := 8) rfl ?_);(try (refine gate_guard (by rfl) ?_; dsimp only));refine bxd (N := 8) rfl HB ?_;clear HB;intro qb w6 hg HB qc qA hb;have jv := qA;clear hb hg))
 (try simp only [Act.put, List.setIfInBounds_toArray, List.set_cons_zero, List.set_cons_succ])
 go_cut [37] (fun v37 wc => ∃ (kq : Nat) (qcR : Bool), v37 = .bool qcR ∧ Aside0 (qm.j0 kq a0 l1 a2 a3 qcR = some (r1, r2, r3, r4, r5, r6, r7, r8)) ∧ Aside0 (kq ≤ k) ∧ Aside0 (wc.heap[qb]? = some (.cells #[(.slice none 0 0), .int .i64 0, .int .i64 0, .int .i64 0, (.slice none 0 0), (.slice none 0 0), (.slice none 0 0)] 33 (0, 0))) ∧ Aside0 (Below w.heap.size w wc))
 case first =>
  have H := HC5.out;clear HC5;replace H := bnd H;obtain ⟨jn, A7, H⟩ := H;replace H := ib H;obtain ⟨rfl, H⟩ | ⟨rfl, H⟩ := H
  ·replace H := ig H;obtain ⟨c9b0, H⟩ | ⟨c9b0, H⟩ := H
   ·have c9b1 : decide (512 < l1.length) = true := decide_eq_true (by have := of_decide_eq_true c9b0; omega);(first | rw [c9b0] | (simp only [i64_w, i32_w]; rw [c9b0]) | skip)
    have H' := ak H;clear H;go_wp2_with (((with_reducible refine gate_callee (f := 82) rfl ?_);refine glB 14 rfl rfl Try.func82 (ju.calls a0 true _ A7.out) (fun w10 hb => ?_);replace qc := b1 qc hb;replace HB := b2s bt2 hb;(try clear hb)));go_meet
    case rel => exact ⟨_, (true), o2, H', ⟨o3⟩, ⟨bk qc.out⟩, ⟨bt2⟩⟩
   ·have c9b1 : decide (512 < l1.length) = false := decide_eq_false (by have := of_decide_eq_false c9b0; omega);(first | rw [c9b0] | (simp only [i64_w, i32_w]; rw [c9b0]) | skip)
    replace H := ip H;obtain ⟨c11b0, H⟩ | ⟨c11b0, H⟩ := H
    ·have H' := ak H;clear H;go_wp2_with (((with_reducible refine gate_callee (f := 82) rfl ?_);refine glB 14 rfl rfl Try.func82 (ju.calls a0 true _ A7.out) (fun w12 hb => ?_);replace qc := b1 qc hb;replace HB := b2s bt2 hb;(try clear hb)));go_meet
     case rel => exact ⟨_, (true), o2, H', ⟨o3⟩, ⟨bk qc.out⟩, ⟨bt2⟩⟩
    ·replace H := bnd H;obtain ⟨qE, A13, H⟩ := H;replace H := ib H;obtain ⟨rfl, H⟩ | ⟨rfl, H⟩ := H
     ·have H' := ak H;clear H;go_wp2_with (first | ((with_reducible refine gate_callee (f := 82) rfl ?_);refine glB 14 rfl rfl Try.func82 (ju.calls a0 true _ A7.out) (fun w15 hb => ?_);replace qc := b1 qc hb;replace HB := b2s bt2 hb;(try clear hb)) | (go_at_call 83;(with_reducible refine (jq.calls a3 0 512 true _ A13.out).mono ?_);rintro e w' ⟨rfl, ⟨nd, rfl⟩⟩));go_meet
      case rel => exact ⟨_, (decide (a3 > (wrap64 ((l1.length : Int) - a2)))), o2, H', ⟨o3⟩, ⟨bk qc.out⟩, ⟨bt2⟩⟩
     ·have H' := ak H;clear H;go_wp2_with (first | ((with_reducible refine gate_callee (f := 82) rfl ?_);refine glB 14 rfl rfl Try.func82 (ju.calls a0 true _ A7.out) (fun w16 hb => ?_);replace qc := b1 qc hb;replace HB := b2s bt2 hb;(try clear hb)) | (go_at_call 83;(with_reducible refine (jq.calls a3 0 512 false _ A13.out).mono ?_);rintro e w' ⟨rfl, ⟨nd, rfl⟩⟩));go_meet
      case rel => exact ⟨_, (true), o2, H', ⟨o3⟩, ⟨bk qc.out⟩, ⟨bt2⟩⟩
  ·have H' := ak H;clear H;go_wp2_with (((with_reducible refine gate_callee (f := 82) rfl ?_);refine glB 14 rfl rfl Try.func82 (ju.calls a0 false _ A7.out) (fun w17 hb => ?_);replace qc := b1 qc hb;replace HB := b2s bt2 hb;(try clear hb)));go_meet
   case rel => exact ⟨_, (true), o2, H', ⟨o3⟩, ⟨bk qc.out⟩, ⟨bt2⟩⟩
 case rest =>
  clear HC5;(try clear c1)
  obtain ⟨kq, qcR, rfl, HA, HJ4, qc, HB⟩ := hcut;cases kq with
  | zero => exact absurd HA.out (by simp [qm.j0])
  | succ kj4 =>
   have H := HA.out;clear HA;simp only [qm.j0] at H;replace H := ib H;obtain ⟨rfl, H⟩ | ⟨rfl, H⟩ := H
   ·simp only [Option.some.injEq, Prod.mk.injEq] at H;obtain ⟨rfl, rfl, rfl, rfl, rfl, rfl, rfl, rfl⟩ := H;obtain ⟨qkk, qkj, qki, qkh, qkg, qkf, qke, qhc, qhb, qha, qg9, qg8, qg7, qg6⟩ := cells7 qc.out;go_wp2;refine bodyPost_ret (results_ct rfl _ _ qb 33 #[.slice none 0 0, .int .i64 0, .int .i64 0, .int .i64 0, .slice none 0 0, .slice none 0 0, .slice none 0 0] (0, 0) _ rfl (qM qc.out) Try.underlying33 rfl (by kernel_rfl)) rfl ?_;exact ⟨_, _, _, _, o1, by first | exact Kd.S_nil _ _ _ _ _ | exact Kd.N_nil _ _ _ _ _ | exact Kd.V_nil _ _ _ _ _ | exact Kd.Q_nil _ _ _ _ _ | exact Kd.R_nil _ _ _ _ _, by first | exact Kd.S_nil _ _ _ _ _ | exact Kd.N_nil _ _ _ _ _ | exact Kd.V_nil _ _ _ _ _ | exact Kd.Q_nil _ _ _ _ _ | exact Kd.R_nil _ _ _ _ _, by first | exact Kd.R_nil _ _ _ _ _ | exact Kd.N_nil _ _ _ _ _ | exact Kd.V_nil _ _ _ _ _ | exact Kd.Q_nil _ _ _ _ _ | exact Kd.S_nil _ _ _ _ _, by first | exact Kd.R_nil _ _ _ _ _ | exact Kd.N_nil _ _ _ _ _ | exact Kd.V_nil _ _ _ _ _ | exact Kd.Q_nil _ _ _ _ _ | exact Kd.S_nil _ _ _ _ _, bt2⟩
   ·replace H := ie H;obtain ⟨c20b0, c20b1, H⟩ | ⟨c20b0, c20b1, H⟩ := H
    ·replace H := Option.bind_eq_some_iff.mp H;obtain ⟨⟨jx, jY⟩, qlS, H⟩ := H;replace H : (if jY = (wrap64 (a2 + a3)) then ((qk.f kj4 ([] : List (List Int)) a0 0 jx ([] : List (List Int)) ([] : List Int) ([] : List Int)).bind fun qu => (if qu = true then (some (([] : List (List Int)), a0, 0, jx, ([] : List (List Int)), ([] : List Int), ([] : List Int), true)) else (some (([] : List (List Int)), 0, 0, 0, ([] : List (List Int)), ([] : List Int), ([] : List Int), false)))) else (some (([] : List (List Int)), 0, 0, 0, ([] : List (List Int)), ([] : List Int), ([] : List Int), false))) = some (r1, r2, r3, r4, r5, r6, r7, r8) := H;have A21 := ak qlS;clear qlS;replace H := ie H;obtain ⟨c22b0, c22b1, H⟩ | ⟨c22b0, c22b1, H⟩ := H
     ·replace H := bnd H;obtain ⟨qu, A23, H⟩ := H;replace H := ib H;obtain ⟨rfl, H⟩ | ⟨rfl, H⟩ := H
      ·simp only [Option.some.injEq, Prod.mk.injEq] at H;obtain ⟨rfl, rfl, rfl, rfl, rfl, rfl, rfl, rfl⟩ := H;go_wp2_with (first | ((with_reducible refine gate_dst (N := 10) rfl ?_);(try (refine gate_guard (by rfl) ?_; dsimp only));refine bxe (N := 10) rfl ?_;intro jH hg w25 hbox hb;have qp := ak (hbox);have zF := b3s hg bt2;have Qu := zF;replace HB := b2s bt2 hb;have qt := b4 hg qc;have jk := b5 hg qc;replace qc := b1 qc hb;clear hb hbox hg;have qd9 := jk.out;have qd7 := qt.out;obtain ⟨Yx, qcw, qcv, qcu, qct, qcs, qcr, ZC, qa9, qa8, qa7, qa6, qa5, qa4⟩ := cells7 qp.out) | ((with_reducible refine gate_callee (f := 84) rfl ?_);refine glD 47 rfl rfl Try.func84 (qw.calls kj4 _ _ l1 a2 4 jx jY _ (Kd.C_below HR1.out bt2) HC1.out A21.out) (fun nd => ?_);generalize hq_ : World.drewN _ nd = wq_;have n0_ : Aside0 (wq_.heap[jH]? = some (.cells #[.slice none 0 0, .int .i64 a0, .int .i64 0, .int .i64 0, .slice none 0 0, .slice none 0 0, .slice none 0 0] 33 (0, 0))) := ⟨by rw [← hq_]; exact blk_drewN (qM qp.out) _⟩;have n1_ : Aside0 (wq_.heap[qb]? = some (.cells #[.slice none 0 0, .int .i64 0, .int .i64 0, .int .i64 0, .slice none 0 0, .slice none 0 0, .slice none 0 0] 33 (0, 0))) := ⟨by rw [← hq_]; exact blk_drewN (yo qt.out qc.out) _⟩;have n2_ : Aside0 (Below w.heap.size w wq_) := ⟨by rw [← hq_]; exact pw_below_drewN bt2 _⟩;clear hq_ qc qp HB;have qp := n0_;have qc := n1_;have HB := n2_;clear n0_ n1_ n2_;obtain ⟨qEm, qEl, qEk, qEj, qEi, qEh, qEg, qAf, qAe, qAd, qAc, qAb, qAa, qz9⟩ := cells7 qp.out;obtain ⟨qDG, qDF, qDE, qDD, qDC, qDB, qDA, qzz, qzy, qzx, qzw, qzv, qzu, qzt⟩ := cells7 qc.out) | (go_at_call 63;(refine (qk.calls kj4 _ _ ([] : List (List Int)) a0 0 jx _ _ ([] : List (List Int)) _ _ ([] : List Int) _ _ ([] : List Int) true _ ?qL ?ji ?jT ?zq ?zh ?zp ?zg ?zo A23.out).mono ?_);(case qL => exact Kd.C_nil _ _);(case ji => exact Nat.le_refl _);(case jT => exact Kd.C_nil _ _);(case zq => exact Nat.le_refl _);(case zh => exact Kd.C_nil _ _);(case zp => exact Nat.le_refl _);(case zg => exact Kd.C_nil _ _);(case zo => exact Nat.le_refl _);rintro e w28 ⟨rfl, hb⟩;replace qc := ak (blk_below (g := qb) (o := .cells #[.slice none 0 0, .int .i64 0, .int .i64 0, .int .i64 0, .slice none 0 0, .slice none 0 0, .slice none 0 0] 33 (0, 0)) (by with_reducible repeat (first | exact qc.out | refine blk_far ?_ qt.out _ | refine blk_drewN ?_ _ | refine blk_drew ?_ | refine blk_alloc ?_ _)) hb);replace qp := ak (blk_below (g := jH) (o := .cells #[.slice none 0 0, .int .i64 a0, .int .i64 0, .int .i64 jx, .slice none 0 0, .slice none 0 0, .slice none 0 0] 33 (0, 0)) (by refine blk_put (cs := #[.slice none 0 0, .int .i64 a0, .int .i64 0, .int .i64 0, .slice none 0 0, .slice none 0 0, .slice none 0 0]) ?_ 3 _ rfl; exact qp.out) hb);replace HB := b2s bt2 hb;(try clear hb);obtain ⟨Yw, Yv, Yu, Yt, Ys, Yr, Yq, ZB, ZA, Zz, Zy, Zx, Zw, Zv⟩ := cells7 qp.out;obtain ⟨Jv, qcq, qcp, qco, qcn, qcm, qcl, Jt, qa3, qa2, qa1, qa0, qaZ, qaY⟩ := cells7 qc.out));refine bodyPost_ret (results_ct rfl _ _ qb 33 #[.slice none 0 0, .int .i64 a0, .int .i64 0, .int .i64 jx, .slice none 0 0, .slice none 0 0, .slice none 0 0] (0, 0) _ rfl (qM qc.out) Try.underlying33 rfl (by kernel_rfl)) rfl ?_;exact ⟨_, _, _, _, o1, by first | exact Kd.S_nil _ _ _ _ _ | exact Kd.N_nil _ _ _ _ _ | exact Kd.V_nil _ _ _ _ _ | exact Kd.Q_nil _ _ _ _ _ | exact Kd.R_nil _ _ _ _ _, by first | exact Kd.S_nil _ _ _ _ _ | exact Kd.N_nil _ _ _ _ _ | exact Kd.V_nil _ _ _ _ _ | exact Kd.Q_nil _ _ _ _ _ | exact Kd.R_nil _ _ _ _ _, by first | exact Kd.R_nil _ _ _ _ _ | exact Kd.N_nil _ _ _ _ _ | exact Kd.V_nil _ _ _ _ _ | exact Kd.Q_nil _ _ _ _ _ | exact Kd.S_nil _ _ _ _ _, by first | exact Kd.R_nil _ _ _ _ _ | exact Kd.N_nil _ _ _ _ _ | exact Kd.V_nil _ _ _ _ _ | exact Kd.Q_nil _ _ _ _ _ | exact Kd.S_nil _ _ _ _ _, bt2⟩
      ·simp only [Option.some.injEq, Prod.mk.injEq] at H;obtain ⟨rfl, rfl, rfl, rfl, rfl, rfl, rfl, rfl⟩ := H;go_wp2_with (first | ((with_reducible refine gate_dst (N := 10) rfl ?_);(try (refine gate_guard (by rfl) ?_; dsimp only));refine bxe (N := 10) rfl ?_;intro jH hg w31 hbox hb;have qp := ak (hbox);have zF := b3s hg bt2;have Qu := zF;replace HB := b2s bt2 hb;have qt := b4 hg qc;have jk := b5 hg qc;replace qc := b1 qc hb;clear hb hbox hg;have qHF := jk.out;have qHc := qt.out;obtain ⟨qck, qjA, qjz, qjy, qjx, qjw, qjv, qaX, qgs, qgr, qgq, qgp, qgo, qgn⟩ := cells7 qp.out) | ((with_reducible refine gate_callee (f := 84) rfl ?_);refine glD 47 rfl rfl Try.func84 (qw.calls kj4 _ _ l1 a2 4 jx jY _ (Kd.C_below HR1.out bt2) HC1.out A21.out) (fun nd => ?_);generalize hq_ : World.drewN _ nd = wq_;have n0_ : Aside0 (wq_.heap[jH]? = some (.cells #[.slice none 0 0, .int .i64 a0, .int .i64 0, .int .i64 0, .slice none 0 0, .slice none 0 0, .slice none 0 0] 33 (0, 0))) := ⟨by rw [← hq_]; exact blk_drewN (qM qp.out) _⟩;have n1_ : Aside0 (wq_.heap[qb]? = some (.cells #[.slice none 0 0, .int .i64 0, .int .i64 0, .int .i64 0, .slice none 0 0, .slice none 0 0, .slice none 0 0] 33 (0, 0))) := ⟨by rw [← hq_]; exact blk_drewN (yo qt.out qc.out) _⟩;have n2_ : Aside0 (Below w.heap.size w wq_) := ⟨by rw [← hq_]; exact pw_below_drewN bt2 _⟩;clear hq_ qc qp HB;have qp := n0_;have qc := n1_;have HB := n2_;clear n0_ n1_ n2_;obtain ⟨qEf, qEe, qEd, qEc, qEb, qEa, qD9, qz8, qz7, qz6, qz5, qz4, qz3, qz2⟩ := cells7 qp.out;obtain ⟨qDz, qDy, qDx, qDw, qDv, qDu, qDt, qzs, qzr, qzq, qzp, qzo, qzn, qzm⟩ := cells7 qc.out) | (go_at_call 63;(refine (qk.calls kj4 _ _ ([] : List (List Int)) a0 0 jx _ _ ([] : List (List Int)) _ _ ([] : List Int) _ _ ([] : List Int) false _ ?qL ?ji ?jT ?zq ?zh ?zp ?zg ?zo A23.out).mono ?_);(case qL => exact Kd.C_nil _ _);(case ji => exact Nat.le_refl _);(case jT => exact Kd.C_nil _ _);(case zq => exact Nat.le_refl _);(case zh => exact Kd.C_nil _ _);(case zp => exact Nat.le_refl _);(case zg => exact Kd.C_nil _ _);(case zo => exact Nat.le_refl _);rintro e w34 ⟨rfl, hb⟩;replace qc := ak (blk_below (g := qb) (o := .cells #[.slice none 0 0, .int .i64 0, .int .i64 0, .int .i64 0, .slice none 0 0, .slice none 0 0, .slice none 0 0] 33 (0, 0)) (by with_reducible repeat (first | exact qc.out | refine blk_far ?_ qt.out _ | refine blk_drewN ?_ _ | refine blk_drew ?_ | refine blk_alloc ?_ _)) hb);replace qp := ak (blk_below (g := jH) (o := .cells #[.slice none 0 0, .int .i64 a0, .int .i64 0, .int .i64 jx, .slice none 0 0, .slice none 0 0, .slice none 0 0] 33 (0, 0)) (by refine blk_put (cs := #[.slice none 0 0, .int .i64 a0, .int .i64 0, .int .i64 0, .slice none 0 0, .slice none 0 0, .slice none 0 0]) ?_ 3 _ rfl; exact qp.out) hb);replace HB := b2s bt2 hb;(try clear hb);obtain ⟨Yh, Yg, Yf, Ye, Yd, Yc, Yb, Zm, Zl, Zk, Zj, Zi, Zh, Zg⟩ := cells7 qc.out));refine bodyPost_ret (results_ct rfl _ _ qb 33 #[.slice none 0 0, .int .i64 0, .int .i64 0, .int .i64 0, .slice none 0 0, .slice none 0 0, .slice none 0 0] (0, 0) _ rfl (qM qc.out) Try.underlying33 rfl (by kernel_rfl)) rfl ?_;exact ⟨_, _, _, _, o1, by first | exact Kd.S_nil _ _ _ _ _ | exact Kd.N_nil _ _ _ _ _ | exact Kd.V_nil _ _ _ _ _ | exact Kd.Q_nil _ _ _ _ _ | exact Kd.R_nil _ _ _ _ _, by first | exact Kd.S_nil _ _ _ _ _ | exact Kd.N_nil _ _ _ _ _ | exact Kd.V_nil _ _ _ _ _ | exact Kd.Q_nil _ _ _ _ _ | exact Kd.R_nil _ _ _ _ _, by first | exact Kd.R_nil _ _ _ _ _ | exact Kd.N_nil _ _ _ _ _ | exact Kd.V_nil _ _ _ _ _ | exact Kd.Q_nil _ _ _ _ _ | exact Kd.S_nil _ _ _ _ _, by first | exact Kd.R_nil _ _ _ _ _ | exact Kd.N_nil _ _ _ _ _ | exact Kd.V_nil _ _ _ _ _ | exact Kd.Q_nil _ _ _ _ _ | exact Kd.S_nil _ _ _ _ _, bt2⟩
     ·simp only [Option.some.injEq, Prod.mk.injEq] at H;obtain ⟨rfl, rfl, rfl, rfl, rfl, rfl, rfl, rfl⟩ := H;go_wp2_with (first | ((with_reducible refine gate_dst (N := 10) rfl ?_);(try (refine gate_guard (by rfl) ?_; dsimp only));refine bxe (N := 10) rfl ?_;intro jH hg w36 hbox hb;have qp := ak (hbox);have zF := b3s hg bt2;have Qu := zF;replace HB := b2s bt2 hb;have qt := b4 hg qc;have jk := b5 hg qc;replace qc := b1 qc hb;clear hb hbox hg;have qHC := jk.out;have qG9 := qt.out;obtain ⟨qci, qji, qjh, qjg, qjf, qje, qjd, qaV, qga, qf9, qf8, qf7, qf6, qf5⟩ := cells7 qp.out) | ((with_reducible refine gate_callee (f := 84) rfl ?_);refine glD 47 rfl rfl Try.func84 (qw.calls kj4 _ _ l1 a2 4 jx jY _ (Kd.C_below HR1.out bt2) HC1.out A21.out) (fun nd => ?_);generalize hq_ : World.drewN _ nd = wq_;have n0_ : Aside0 (wq_.heap[jH]? = some (.cells #[.slice none 0 0, .int .i64 a0, .int .i64 0, .int .i64 0, .slice none 0 0, .slice none 0 0, .slice none 0 0] 33 (0, 0))) := ⟨by rw [← hq_]; exact blk_drewN (qM qp.out) _⟩;have n1_ : Aside0 (wq_.heap[qb]? = some (.cells #[.slice none 0 0, .int .i64 0, .int .i64 0, .int .i64 0, .slice none 0 0, .slice none 0 0, .slice none 0 0] 33 (0, 0))) := ⟨by rw [← hq_]; exact blk_drewN (yo qt.out qc.out) _⟩;have n2_ : Aside0 (Below w.heap.size w wq_) := ⟨by rw [← hq_]; exact pw_below_drewN bt2 _⟩;clear hq_ qc qp HB;have qp := n0_;have qc := n1_;have HB := n2_;clear n0_ n1_ n2_;obtain ⟨qD8, qD7, qD6, qD5, qD4, qD3, qD2, qz1, qz0, qzZ, qzY, qzX, qzW, qzV⟩ := cells7 qp.out;obtain ⟨qDs, qDr, qDq, qDp, qDo, qDn, qDm, qzl, qzk, qzj, qzi, qzh, qzg, qzf⟩ := cells7 qc.out;obtain ⟨Ya, qch, qcg, qcf, qce, qcd, qcc, Zf, qaU, qaT, qaS, qaR, qaQ, qaP⟩ := cells7 qc.out));refine bodyPost_ret (results_ct rfl _ _ qb 33 #[.slice none 0 0, .int .i64 0, .int .i64 0, .int .i64 0, .slice none 0 0, .slice none 0 0, .slice none 0 0] (0, 0) _ rfl (qM (k := Gr.refl_ _) (blk_far qc.out (p := ⟨jH, 3, none⟩) qt.out _)) Try.underlying33 rfl (by kernel_rfl)) rfl ?_;exact ⟨_, _, _, _, o1, by first | exact Kd.S_nil _ _ _ _ _ | exact Kd.N_nil _ _ _ _ _ | exact Kd.V_nil _ _ _ _ _ | exact Kd.Q_nil _ _ _ _ _ | exact Kd.R_nil _ _ _ _ _, by first | exact Kd.S_nil _ _ _ _ _ | exact Kd.N_nil _ _ _ _ _ | exact Kd.V_nil _ _ _ _ _ | exact Kd.Q_nil _ _ _ _ _ | exact Kd.R_nil _ _ _ _ _, by first | exact Kd.R_nil _ _ _ _ _ | exact Kd.N_nil _ _ _ _ _ | exact Kd.V_nil _ _ _ _ _ | exact Kd.Q_nil _ _ _ _ _ | exact Kd.S_nil _ _ _ _ _, by first | exact Kd.R_nil _ _ _ _ _ | exact Kd.N_nil _ _ _ _ _ | exact Kd.V_nil _ _ _ _ _ | exact Kd.Q_nil _ _ _ _ _ | exact Kd.S_nil _ _ _ _ _, bt2⟩
    ·replace H := bnd H;obtain ⟨zC, A40, H⟩ := H;replace H := ib H;obtain ⟨rfl, H⟩ | ⟨rfl, H⟩ := H
     ·replace H := Option.bind_eq_some_iff.mp H;obtain ⟨⟨jX, jZ⟩, qlQ, H⟩ := H;replace H : (qm.l0 kj4 a0 l1 a2 a3 jZ 0 a0 0 0 jX ([] : List Int)) = some (r1, r2, r3, r4, r5, r6, r7, r8) := H;have A42 := ak qlQ;clear qlQ;have H' := ak H;clear H;go_wp2_with (first | ((with_reducible refine gate_dst (N := 10) rfl ?_);(try (refine gate_guard (by rfl) ?_; dsimp only));refine bxe (N := 10) rfl ?_;intro jH hg w43 hbox hb;have qp := ak (hbox);have zF := b3s hg bt2;have Qu := zF;replace HB := b2s bt2 hb;have qt := b4 hg qc;have jk := b5 hg qc;replace qc := b1 qc hb;clear hb hbox hg;have qHA := jk.out;have qG7 := qt.out;obtain ⟨qb9, qb8, qb7, qb6, qb5, qb4, qb3, qaM, qaL, qaK, qaJ, qaI, qaH, qaG⟩ := cells7 qp.out) | ((with_reducible refine gate_callee (f := 85) rfl ?_);refine glD 53 rfl rfl Try.func85 (jO.calls a0 true _ A40.out) (fun nd => ?_);generalize hq_ : World.drewN _ nd = wq_;have n0_ : Aside0 (wq_.heap[jH]? = some (.cells #[.slice none 0 0, .int .i64 a0, .int .i64 0, .int .i64 0, .slice none 0 0, .slice none 0 0, .slice none 0 0] 33 (0, 0))) := ⟨by rw [← hq_]; exact blk_drewN (qM qp.out) _⟩;have n1_ : Aside0 (wq_.heap[qb]? = some (.cells #[.slice none 0 0, .int .i64 0, .int .i64 0, .int .i64 0, .slice none 0 0, .slice none 0 0, .slice none 0 0] 33 (0, 0))) := ⟨by rw [← hq_]; exact blk_drewN (yo qt.out qc.out) _⟩;have n2_ : Aside0 (Below w.heap.size w wq_) := ⟨by rw [← hq_]; exact pw_below_drewN bt2 _⟩;clear hq_ qc qp HB;have qp := n0_;have qc := n1_;have HB := n2_;clear n0_ n1_ n2_;obtain ⟨qD1, qD0, qDZ, qDY, qDX, qDW, qDV, qzU, qzT, qzS, qzR, qzQ, qzP, qzO⟩ := cells7 qp.out;obtain ⟨qDl, qDk, qDj, qDi, qDh, qDg, qDf, qze, qzd, qzc, qzb, qza, qy9, qy8⟩ := cells7 qc.out) | ((with_reducible refine gate_callee (f := 86) rfl ?_);refine glG 57 rfl rfl Try.func86 (qi.calls kj4 _ _ l1 a2 jX jZ _ (Kd.C_below HR1.out bt2) HC1.out A42.out) ?_;rintro e w46 ⟨Xa, rfl, ho0, hb⟩;refine ⟨_, rfl, ?_⟩;have jP := ak (Kd.S_lower ho0 (below_size bt2));replace qc := ak (blk_below (g := qb) (o := .cells #[.slice none 0 0, .int .i64 0, .int .i64 0, .int .i64 0, .slice none 0 0, .slice none 0 0, .slice none 0 0] 33 (0, 0)) (by with_reducible repeat (first | exact qc.out | refine blk_far ?_ qt.out _ | refine blk_drewN ?_ _ | refine blk_drew ?_ | refine blk_alloc ?_ _)) hb);replace qp := ak (blk_below qp.out hb);replace HB := b2s bt2 hb;(try clear hb);(try clear ho0);obtain ⟨Jm, Jg, quK⟩ := Kd.S_slice jP.out;subst quK;obtain ⟨ZZ, ZY, ZX, ZW, ZV, ZU, ZT, Ze, Zd, Zc, Zb, Za, JZ, JY⟩ := cells7 qp.out));go_loopg [11, 61] kj4 (fun kq v11 v61 w' => ∃ (Jr : Int) (Jb : Int) (jR : List Int) (yH : Value), v11 = .int .i64 Jr ∧ v61 = .int .i64 Jb ∧ Aside0 (qm.l0 kq a0 l1 a2 a3 Jr Jb a0 0 0 jX jR = some (r1, r2, r3, r4, r5, r6, r7, r8)) ∧ Aside0 (kq ≤ kj4) ∧ Aside0 (Kd.S (Kd.slice 5 (Kd.int .u8)) 25 w' w.heap.size (fun _ => True) (.slice Jm jX.length Jg) jX) ∧ Aside0 (Kd.R (Kd.int .i64) 3 w' w.heap.size (fun _ => True) yH jR) ∧ Aside0 (w'.heap[qb]? = some (.cells #[(.slice none 0 0), .int .i64 0, .int .i64 0, .int .i64 0, (.slice none 0 0), (.slice none 0 0), (.slice none 0 0)] 33 (0, 0))) ∧ Aside0 (w'.heap[jH]? = some (.cells #[(.slice none 0 0), .int .i64 a0, .int .i64 0, .int .i64 0, (.slice Jm jX.length Jg), (.slice none 0 0), yH] 33 (0, 0))) ∧ Aside0 (Below w.heap.size w w'))
      case atStart => exact ⟨(jZ), (0), (([] : List Int)), (.slice none 0 0), o2, o2, H', ⟨Nat.le_refl _⟩, ⟨by (with_reducible repeat (first | apply Kd.S_alloc | apply Kd.S_drewN | apply Kd.S_drew)); exact Kd.S_mono (Kd.S_far (p := ⟨jH, 4, none⟩) (Kd.S_types jP.out qp.out (by decide)) (fun _ hk => hk.2) (.slice Jm jX.length Jg)) (fun _ hk => trivial)⟩, ⟨by first | exact Kd.R_nil _ _ _ _ _ | exact Kd.N_nil _ _ _ _ _ | exact Kd.V_nil _ _ _ _ _ | exact Kd.Q_nil _ _ _ _ _ | exact Kd.S_nil _ _ _ _ _⟩, ⟨blk_far qc.out qt.out _⟩, ⟨by (with_reducible repeat (first | refine blk_drewN ?_ _ | refine blk_drew ?_ | refine blk_alloc ?_ _)); refine blk_put (cs := #[.slice none 0 0, .int .i64 a0, .int .i64 0, .int .i64 0, .slice none 0 0, .slice none 0 0, .slice none 0 0]) ?_ 4 _ rfl; (with_reducible repeat (first | refine blk_drewN ?_ _ | refine blk_drew ?_ | refine blk_alloc ?_ _)); exact qp.out⟩, ⟨bt2⟩⟩
      case round =>
       clear H';(try clear c1)
       (try clear c20b0)
       (try clear c20b1)
       (try clear qb9)
       (try clear qb8)
       (try clear qb7)
       (try clear qb6)
       (try clear qb5)
       (try clear qb4)
       (try clear qb3)
       (try clear ZZ)
       (try clear ZY)
       (try clear ZX)
       (try clear ZW)
       (try clear ZV)
       (try clear ZU)
       (try clear ZT)
       (try clear qaM)
       (try clear qaL)
       (try clear qaK)
       (try clear qaJ)
       (try clear qaI)
       (try clear qaH)
       (try clear qaG)
       (try clear Ze)
       (try clear Zd)
       (try clear Zc)
       (try clear Zb)
       (try clear Za)
       (try clear JZ)
       (try clear JY)
       obtain ⟨Jr, Jb, jR, yH, rfl, rfl, HA, HK2, HO_105004, HO_105006, qc, qp, HB⟩ := hrel;cases gk with
       | zero => exact absurd HA.out (by simp [qm.l0])
       | succ k2 =>
        have H := HA.out;clear HA;simp only [qm.l0] at H;replace H := ip H;obtain ⟨c49b0, H⟩ | ⟨c49b0, H⟩ := H
        ·replace H := ie H;obtain ⟨c50b0, c50b1, H⟩ | ⟨c50b0, c50b1, H⟩ := H
         ·replace H := ih H;obtain ⟨c51b0, H⟩ | ⟨c51b0, H⟩ := H
          ·replace H := Option.bind_eq_some_iff.mp H;obtain ⟨⟨zz, Qn⟩, XQ, H⟩ := H;replace H : (if jR.length < 17592186044416 then (qm.l0 k2 a0 l1 a2 a3 Qn (wrap64 (Jb + 1)) a0 0 0 jX (jR ++ [zz])) else (none)) = some (r1, r2, r3, r4, r5, r6, r7, r8) := H;have A52 := ak XQ;clear XQ;by_cases c53 : jR.length < 17592186044416
           ·rw [if_pos c53] at H;have qmm := ak c53;clear c53;obtain ⟨qI, ym⟩ : ∃ y_ : List Int, y_ = (jR ++ [zz]) := ⟨_, rfl⟩;(try with_reducible replace H := bnS H)
            (try rw [← ym] at H)
            have yN := ak ym;clear ym;have H' := ak H;clear H;go_wp2_with (first | ((with_reducible refine gate_callee (f := 84) rfl ?_);refine glD 72 rfl rfl Try.func84 (qw.calls k2 _ _ l1 Jr 4 zz Qn _ (cv HR1 HB) HC1.out A52.out) (fun nd => ?_);(try (rw [drewN_self wr]; generalize hq_ : World.drewN wr _ = wr; have n0_ : Aside0 (Kd.S (Kd.slice 5 (Kd.int .u8)) 25 wr w.heap.size (fun _ => True) (.slice Jm jX.length Jg) jX) := ⟨by rw [← hq_]; exact (sw HO_105004.out)⟩; have n1_ : Aside0 (Kd.R (Kd.int .i64) 3 wr w.heap.size (fun _ => True) yH jR) := ⟨by rw [← hq_]; exact (rw_ HO_105006.out)⟩; have n2_ : Aside0 (wr.heap[qb]? = some (.cells #[.slice none 0 0, .int .i64 0, .int .i64 0, .int .i64 0, .slice none 0 0, .slice none 0 0, .slice none 0 0] 33 (0, 0))) := ⟨by rw [← hq_]; exact (bk qc.out)⟩; have n3_ : Aside0 (wr.heap[jH]? = some (.cells #[.slice none 0 0, .int .i64 a0, .int .i64 0, .int .i64 0, .slice Jm jX.length Jg, .slice none 0 0, yH] 33 (0, 0))) := ⟨by rw [← hq_]; exact (bk qp.out)⟩; have n4_ : Aside0 (Below w.heap.size w wr) := ⟨by rw [← hq_]; exact bt2⟩; clear HO_105004 HO_105006 qc qp HB hq_; have HO_105004 := n0_; have HO_105006 := n1_; have qc := n2_; have qp := n3_; have HB := n4_; clear n0_ n1_ n2_ n3_ n4_));have ql5 := jk.out;have ql0 := qt.out;obtain ⟨qbV, qiD, qiC, qiB, qiA, qiz, qiy, qay, qfv, qfu, qft, qfs, qfr, qfq⟩ := cells7 qp.out) | ((with_reducible refine gate_builtin (b := .append) (xs := #[.tmp 76, .tmp 78]) rfl ?_);(try (refine gate_guard (by rfl) ?_; dsimp only));at_builtin;refine Kd.R_append (Kd.int .i64) (w0 := w) w.heap.size rfl (.tmp 76) (.tmp 78) 26 3 (.int .i64 0) 8 rfl Try.underlying26 qlX rfl (by decide) (by omega) yH jR zz [.int .i64 zz] (fun _ => True) (fun _ => False) rfl rfl ?aP (fun _ hk => hk.elim) ?aF ?aO ?aB ?aS ?aL ?_;(case aP => exact rfl);(case aB => exact bt2);(case aF => exact (fun _ _ => trivial));(case aO => exact (rw_ HO_105006.out));(case aS => exact (below_size bt2));(case aL => have := qmm.out; omega);intro YZ w56 ho hb hg hat;rw [← yN.out] at ho;replace HO_105004 := ak (Kd.S_over' (sw HO_105004.out) (Kd.R_typed (rw_ HO_105006.out)) (by decide) hg);replace qc := ak (blk_grown (bk qc.out) hg (Kd.R_ne HO_105006.out qc.out (by decide)));replace qp := ak (blk_grown (bk qp.out) hg (Kd.R_ne HO_105006.out qp.out (by decide)));replace HB := ak (hb);have jo := ak (ho);clear HO_105006;clear ho hb hg hat;obtain ⟨qdV, qdD, quI⟩ := Kd.R_slice jo.out;subst quI;obtain ⟨qB2, qB1, qB0, qBZ, qBY, qBX, qBW, qxV, qxU, qxT, qxS, qxR, qxQ, qxP⟩ := cells7 qp.out));go_roundg k2;case measure => have := HJ4.out; have := HK2.out; omega
            case rel => exact ⟨(Qn), (wrap64 (Jb + 1)), (qI), (.slice qdV qI.length qdD), o2, o2, H', ⟨by have := HJ4.out; have := HK2.out; omega⟩, ⟨by (with_reducible repeat (first | apply Kd.S_alloc | apply Kd.S_drewN | apply Kd.S_drew)); exact Kd.S_mono (Kd.S_far (p := ⟨jH, 6, none⟩) (Kd.S_types HO_105004.out qp.out (by decide)) (fun _ hk => hk.2) (.slice qdV qI.length qdD)) (fun _ hk => trivial)⟩, ⟨by (with_reducible repeat (first | apply Kd.R_alloc | apply Kd.R_drewN | apply Kd.R_drew)); exact Kd.R_mono (Kd.R_far (p := ⟨jH, 6, none⟩) (Kd.R_types jo.out qp.out (by decide)) (fun _ hk => hk.2) (.slice qdV qI.length qdD)) (fun _ hk => trivial)⟩, ⟨blk_far qc.out qt.out _⟩, ⟨by (with_reducible repeat (first | refine blk_drewN ?_ _ | refine blk_drew ?_ | refine blk_alloc ?_ _)); refine blk_put (cs := #[.slice none 0 0, .int .i64 a0, .int .i64 0, .int .i64 0, .slice Jm jX.length Jg, .slice none 0 0, yH]) ?_ 6 _ rfl; (with_reducible repeat (first | refine blk_drewN ?_ _ | refine blk_drew ?_ | refine blk_alloc ?_ _)); exact qp.out⟩, ⟨bt2⟩⟩
           ·rw [if_neg c53] at H;exact absurd H (by simp)
          ·have H' := ak H;clear H;go_wp2;go_roundg k2;case measure => have := HJ4.out; have := HK2.out; omega
           case rel => exact ⟨(Jr), (wrap64 (Jb + 1)), (jR), (yH), o2, o2, H', ⟨by have := HJ4.out; have := HK2.out; omega⟩, ⟨sw HO_105004.out⟩, ⟨rw_ HO_105006.out⟩, ⟨bk qc.out⟩, ⟨bk qp.out⟩, ⟨bt2⟩⟩
         ·have H' := ak H;clear H;go_wp2;go_roundg k2;case measure => have := HJ4.out; have := HK2.out; omega
          case rel => exact ⟨(Jr), (wrap64 (Jb + 1)), (jR), (yH), o2, o2, H', ⟨by have := HJ4.out; have := HK2.out; omega⟩, ⟨sw HO_105004.out⟩, ⟨rw_ HO_105006.out⟩, ⟨bk qc.out⟩, ⟨bk qp.out⟩, ⟨bt2⟩⟩
        ·replace H := ie H;obtain ⟨c59b0, c59b1, H⟩ | ⟨c59b0, c59b1, H⟩ := H
         ·replace H := bnd H;obtain ⟨QH, A60, H⟩ := H;replace H := ib H;obtain ⟨rfl, H⟩ | ⟨rfl, H⟩ := H
          ·simp only [Option.some.injEq, Prod.mk.injEq] at H;obtain ⟨rfl, rfl, rfl, rfl, rfl, rfl, rfl, rfl⟩ := H;have qHq := jk.out;have qGX := qt.out;obtain ⟨qbO, qbN, qbM, qbL, qbK, qbJ, qbI, qar, qaq, qap, qao, qan, qam, qal⟩ := cells7 qp.out;obtain ⟨qdU, qdC, quG⟩ := Kd.R_slice HO_105006.out;subst quG;go_wp2_with ((go_at_call 63;(refine (qk.calls k2 _ _ ([] : List (List Int)) a0 0 0 _ _ jX _ _ ([] : List Int) _ _ jR true _ ?qL ?ji ?jT ?zq ?zh ?zp ?zg ?zo A60.out).mono ?_);(case qL => exact Kd.C_nil _ _);(case ji => exact Nat.le_refl _);(case jT => repeat (first | exact (Kd.S_reads' HO_105004.out).2.2 | (with_reducible refine Kd.C_alloc ?_ _) | (with_reducible refine Kd.C_drewN ?_ _) | (with_reducible refine Kd.C_drew ?_)));(case zq => exact (Kd.S_reads' HO_105004.out).2.1);(case zh => exact Kd.C_nil _ _);(case zp => exact Nat.le_refl _);(case zg => repeat (first | exact (Kd.R_reads' HO_105006.out).2.2 | (with_reducible refine Kd.C_alloc ?_ _) | (with_reducible refine Kd.C_drewN ?_ _) | (with_reducible refine Kd.C_drew ?_)));(case zo => exact (Kd.R_reads' HO_105006.out).2.1);rintro e w65 ⟨rfl, hb⟩;replace HO_105004 := ak (Kd.S_below (sw HO_105004.out) hb);replace HO_105006 := ak (Kd.R_below (rw_ HO_105006.out) hb);replace qc := b1 qc hb;replace qp := b1 qp hb;replace HB := b2s bt2 hb;(try clear hb);obtain ⟨qih, qBA, qBz, qBy, qBx, qBw, qBv, qe9, qxt, qxs, qxr, qxq, qxp, qxo⟩ := cells7 qp.out;obtain ⟨qbH, qbG, qbF, qbE, qbD, qbC, qbB, qak, qaj, qai, qah, qag, qaf, qae⟩ := cells7 qc.out));refine bodyPost_ret (results_ct rfl _ _ qb 33 #[.slice none 0 0, .int .i64 a0, .int .i64 0, .int .i64 0, .slice Jm jX.length Jg, .slice none 0 0, .slice qdU jR.length qdC] (0, 0) _ rfl (qM qc.out) Try.underlying33 rfl (by kernel_rfl)) rfl ?_;exact ⟨_, _, _, _, o1, by first | exact Kd.S_nil _ _ _ _ _ | exact Kd.N_nil _ _ _ _ _ | exact Kd.V_nil _ _ _ _ _ | exact Kd.Q_nil _ _ _ _ _ | exact Kd.R_nil _ _ _ _ _, by (with_reducible repeat (first | apply Kd.S_alloc | apply Kd.S_drewN | apply Kd.S_drew)); exact Kd.S_mono (Kd.S_far (p := ⟨qb, 6, none⟩) (Kd.S_far (p := ⟨qb, 5, none⟩) (Kd.S_far (p := ⟨qb, 4, none⟩) (Kd.S_far (p := ⟨qb, 3, none⟩) (Kd.S_far (p := ⟨qb, 2, none⟩) (Kd.S_far (p := ⟨qb, 1, none⟩) (Kd.S_far (p := ⟨qb, 0, none⟩) (Kd.S_types HO_105004.out qc.out (by decide)) (fun _ hk => hk.2) (.slice none 0 0)) (fun _ hk => hk.2) (.int .i64 a0)) (fun _ hk => hk.2) (.int .i64 0)) (fun _ hk => hk.2) (.int .i64 0)) (fun _ hk => hk.2) (.slice Jm jX.length Jg)) (fun _ hk => hk.2) (.slice none 0 0)) (fun _ hk => hk.2) (.slice qdU jR.length qdC)) (fun _ hk => ⟨(by simp [Value.ownBlock]), (by simp [Value.ownBlock])⟩), by first | exact Kd.R_nil _ _ _ _ _ | exact Kd.N_nil _ _ _ _ _ | exact Kd.V_nil _ _ _ _ _ | exact Kd.Q_nil _ _ _ _ _ | exact Kd.S_nil _ _ _ _ _, by (with_reducible repeat (first | apply Kd.R_alloc | apply Kd.R_drewN | apply Kd.R_drew)); exact Kd.R_mono (Kd.R_far (p := ⟨qb, 6, none⟩) (Kd.R_far (p := ⟨qb, 5, none⟩) (Kd.R_far (p := ⟨qb, 4, none⟩) (Kd.R_far (p := ⟨qb, 3, none⟩) (Kd.R_far (p := ⟨qb, 2, none⟩) (Kd.R_far (p := ⟨qb, 1, none⟩) (Kd.R_far (p := ⟨qb, 0, none⟩) (Kd.R_types HO_105006.out qc.out (by decide)) (fun _ hk => hk.2) (.slice none 0 0)) (fun _ hk => hk.2) (.int .i64 a0)) (fun _ hk => hk.2) (.int .i64 0)) (fun _ hk => hk.2) (.int .i64 0)) (fun _ hk => hk.2) (.slice Jm jX.length Jg)) (fun _ hk => hk.2) (.slice none 0 0)) (fun _ hk => hk.2) (.slice qdU jR.length qdC)) (fun _ hk => trivial), bt2⟩
          ·simp only [Option.some.injEq, Prod.mk.injEq] at H;obtain ⟨rfl, rfl, rfl, rfl, rfl, rfl, rfl, rfl⟩ := H;have qHo := jk.out;have qGV := qt.out;obtain ⟨qig, qif, qie, qid, qic, qib, qia, qe8, qe7, qe6, qe5, qe4, qe3, qe2⟩ := cells7 qp.out;obtain ⟨qdS, qdA, qdd⟩ := Kd.R_slice HO_105006.out;subst qdd;go_wp2_with ((go_at_call 63;(refine (qk.calls k2 _ _ ([] : List (List Int)) a0 0 0 _ _ jX _ _ ([] : List Int) _ _ jR false _ ?qL ?ji ?jT ?zq ?zh ?zp ?zg ?zo A60.out).mono ?_);(case qL => exact Kd.C_nil _ _);(case ji => exact Nat.le_refl _);(case jT => repeat (first | exact (Kd.S_reads' HO_105004.out).2.2 | (with_reducible refine Kd.C_alloc ?_ _) | (with_reducible refine Kd.C_drewN ?_ _) | (with_reducible refine Kd.C_drew ?_)));(case zq => exact (Kd.S_reads' HO_105004.out).2.1);(case zh => exact Kd.C_nil _ _);(case zp => exact Nat.le_refl _);(case zg => repeat (first | exact (Kd.R_reads' HO_105006.out).2.2 | (with_reducible refine Kd.C_alloc ?_ _) | (with_reducible refine Kd.C_drewN ?_ _) | (with_reducible refine Kd.C_drew ?_)));(case zo => exact (Kd.R_reads' HO_105006.out).2.1);rintro e w71 ⟨rfl, hb⟩;replace HO_105004 := ak (Kd.S_below (sw HO_105004.out) hb);replace HO_105006 := ak (Kd.R_below (rw_ HO_105006.out) hb);replace qc := b1 qc hb;replace qp := b1 qp hb;replace HB := b2s bt2 hb;(try clear hb);obtain ⟨qh3, qh2, qh1, qh0, qhZ, qhY, qhX, qeV, qeU, qeT, qeS, qeR, qeQ, qeP⟩ := cells7 qc.out));refine bodyPost_ret (results_ct rfl _ _ qb 33 #[.slice none 0 0, .int .i64 0, .int .i64 0, .int .i64 0, .slice none 0 0, .slice none 0 0, .slice none 0 0] (0, 0) _ rfl (qM qc.out) Try.underlying33 rfl (by kernel_rfl)) rfl ?_;exact ⟨_, _, _, _, o1, by first | exact Kd.S_nil _ _ _ _ _ | exact Kd.N_nil _ _ _ _ _ | exact Kd.V_nil _ _ _ _ _ | exact Kd.Q_nil _ _ _ _ _ | exact Kd.R_nil _ _ _ _ _, by first | exact Kd.S_nil _ _ _ _ _ | exact Kd.N_nil _ _ _ _ _ | exact Kd.V_nil _ _ _ _ _ | exact Kd.Q_nil _ _ _ _ _ | exact Kd.R_nil _ _ _ _ _, by first | exact Kd.R_nil _ _ _ _ _ | exact Kd.N_nil _ _ _ _ _ | exact Kd.V_nil _ _ _ _ _ | exact Kd.Q_nil _ _ _ _ _ | exact Kd.S_nil _ _ _ _ _, by first | exact Kd.R_nil _ _ _ _ _ | exact Kd.N_nil _ _ _ _ _ | exact Kd.V_nil _ _ _ _ _ | exact Kd.Q_nil _ _ _ _ _ | exact Kd.S_nil _ _ _ _ _, bt2⟩
         ·simp only [Option.some.injEq, Prod.mk.injEq] at H;obtain ⟨rfl, rfl, rfl, rfl, rfl, rfl, rfl, rfl⟩ := H;have qHl := qt.out;have qGS := jk.out;obtain ⟨qBn, qBm, qBl, qBk, qBj, qBi, qBh, qxg, qxf, qxe, qxd, qxc, qxb, qxa⟩ := cells7 qc.out;go_wp2;refine bodyPost_ret (results_ct rfl _ _ qb 33 #[.slice none 0 0, .int .i64 0, .int .i64 0, .int .i64 0, .slice none 0 0, .slice none 0 0, .slice none 0 0] (0, 0) _ rfl (qM qc.out) Try.underlying33 rfl (by kernel_rfl)) rfl ?_;exact ⟨_, _, _, _, o1, by first | exact Kd.S_nil _ _ _ _ _ | exact Kd.N_nil _ _ _ _ _ | exact Kd.V_nil _ _ _ _ _ | exact Kd.Q_nil _ _ _ _ _ | exact Kd.R_nil _ _ _ _ _, by first | exact Kd.S_nil _ _ _ _ _ | exact Kd.N_nil _ _ _ _ _ | exact Kd.V_nil _ _ _ _ _ | exact Kd.Q_nil _ _ _ _ _ | exact Kd.R_nil _ _ _ _ _, by first | exact Kd.R_nil _ _ _ _ _ | exact Kd.N_nil _ _ _ _ _ | exact Kd.V_nil _ _ _ _ _ | exact Kd.Q_nil _ _ _ _ _ | exact Kd.S_nil _ _ _ _ _, by first | exact Kd.R_nil _ _ _ _ _ | exact Kd.N_nil _ _ _ _ _ | exact Kd.V_nil _ _ _ _ _ | exact Kd.Q_nil _ _ _ _ _ | exact Kd.S_nil _ _ _ _ _, bt2⟩
     ·replace H := ig H;obtain ⟨c75b0, H⟩ | ⟨c75b0, H⟩ := H
      ·replace H := ipN H;obtain ⟨c76b0, H⟩ := H;replace H := ipN H;obtain ⟨c77b0, H⟩ := H;replace H := Option.bind_eq_some_iff.mp H;obtain ⟨⟨jB, Qb⟩, qlK, H⟩ := H;replace H : (if Qb = (wrap64 (a2 + a3)) then ((qk.f kj4 ([] : List (List Int)) a0 0 0 ([] : List (List Int)) jB ([] : List Int)).bind fun qcX => (if qcX = true then (some (([] : List (List Int)), a0, 0, 0, ([] : List (List Int)), jB, ([] : List Int), true)) else (some (([] : List (List Int)), 0, 0, 0, ([] : List (List Int)), ([] : List Int), ([] : List Int), false)))) else (some (([] : List (List Int)), 0, 0, 0, ([] : List (List Int)), ([] : List Int), ([] : List Int), false))) = some (r1, r2, r3, r4, r5, r6, r7, r8) := H;have A78 := ak qlK;clear qlK;replace H := ie H;obtain ⟨c79b0, c79b1, H⟩ | ⟨c79b0, c79b1, H⟩ := H
       ·replace H := bnd H;obtain ⟨qcX, A80, H⟩ := H;replace H := ib H;obtain ⟨rfl, H⟩ | ⟨rfl, H⟩ := H
        ·simp only [Option.some.injEq, Prod.mk.injEq] at H;obtain ⟨rfl, rfl, rfl, rfl, rfl, rfl, rfl, rfl⟩ := H;go_wp2_with (first | ((with_reducible refine gate_dst (N := 10) rfl ?_);(try (refine gate_guard (by rfl) ?_; dsimp only));refine bxe (N := 10) rfl ?_;intro jH hg w82 hbox hb;have qp := ak (hbox);have zF := b3s hg bt2;have Qu := zF;replace HB := b2s bt2 hb;have qt := b4 hg qc;have jk := b5 hg qc;replace qc := b1 qc hb;clear hb hbox hg;have qHh := jk.out;have qGO := qt.out;obtain ⟨qhP, qhO, qhN, qhM, qhL, qhK, qhJ, qeH, qeG, qeF, qeE, qeD, qeC, qeB⟩ := cells7 qp.out) | ((with_reducible refine gate_callee (f := 85) rfl ?_);refine glD 53 rfl rfl Try.func85 (jO.calls a0 false _ A40.out) (fun nd => ?_);generalize hq_ : World.drewN _ nd = wq_;have n0_ : Aside0 (wq_.heap[jH]? = some (.cells #[.slice none 0 0, .int .i64 a0, .int .i64 0, .int .i64 0, .slice none 0 0, .slice none 0 0, .slice none 0 0] 33 (0, 0))) := ⟨by rw [← hq_]; exact blk_drewN (qM qp.out) _⟩;have n1_ : Aside0 (wq_.heap[qb]? = some (.cells #[.slice none 0 0, .int .i64 0, .int .i64 0, .int .i64 0, .slice none 0 0, .slice none 0 0, .slice none 0 0] 33 (0, 0))) := ⟨by rw [← hq_]; exact blk_drewN (yo qt.out qc.out) _⟩;have n2_ : Aside0 (Below w.heap.size w wq_) := ⟨by rw [← hq_]; exact pw_below_drewN bt2 _⟩;clear hq_ qc qp HB;have qp := n0_;have qc := n1_;have HB := n2_;clear n0_ n1_ n2_;obtain ⟨qDU, qDT, qDS, qDR, qDQ, qDP, qDO, qzN, qzM, qzL, qzK, qzJ, qzI, qzH⟩ := cells7 qp.out;obtain ⟨qDe, qDd, qDc, qDb, qDa, qC9, qC8, qy7, qy6, qy5, qy4, qy3, qy2, qy1⟩ := cells7 qc.out;have QB : 0 ≤ (a2 : Int) := of_decide_eq_true (by first | (with_reducible assumption) | assumption);have Qz : a2 < (l1.length : Int) := of_decide_eq_true (by first | (with_reducible assumption) | assumption);obtain ⟨qem, XE, Qa⟩ := Kd.at_int HR1.out a2 QB Qz;cases XE;replace Qa := pw_cell_below HB.out Qa;replace QB := eq_true QB;replace Qz := eq_true Qz) | ((with_reducible refine gate_callee (f := 87) rfl ?_);refine glG 94 rfl rfl Try.func87 (zi.calls _ _ l1 (wrap64 (a2 + 1)) (wrap64 (rd l1 a2)) jB Qb _ (Kd.C_below HR1.out bt2) HC1.out A78.out) ?_;rintro e w85 ⟨JU, rfl, ho0, hb⟩;refine ⟨_, rfl, ?_⟩;have qP := ak (Kd.R_lower ho0 (below_size bt2));replace qc := ak (blk_below (g := qb) (o := .cells #[.slice none 0 0, .int .i64 0, .int .i64 0, .int .i64 0, .slice none 0 0, .slice none 0 0, .slice none 0 0] 33 (0, 0)) (by with_reducible repeat (first | exact qc.out | refine blk_far ?_ qt.out _ | refine blk_drewN ?_ _ | refine blk_drew ?_ | refine blk_alloc ?_ _)) hb);replace qp := ak (blk_below qp.out hb);replace HB := b2s bt2 hb;(try clear hb);(try clear ho0);obtain ⟨XO, YN, quC⟩ := Kd.R_slice qP.out;subst quC;obtain ⟨qAO, qAN, qAM, qAL, qAK, qAJ, qAI, qwH, qwG, qwF, qwE, qwD, qwC, qwB⟩ := cells7 qp.out) | (go_at_call 63;(refine (qk.calls kj4 _ _ ([] : List (List Int)) a0 0 0 _ _ ([] : List (List Int)) _ _ jB _ _ ([] : List Int) true _ ?qL ?ji ?jT ?zq ?zh ?zp ?zg ?zo A80.out).mono ?_);(case qL => exact Kd.C_nil _ _);(case ji => exact Nat.le_refl _);(case jT => exact Kd.C_nil _ _);(case zq => exact Nat.le_refl _);(case zh => refine (Kd.R_reads' (e := 5) (base := w.heap.size) (ok := fun k_ => True) (n := jB.length) (c := YN) ?_).2.2; exact (by (with_reducible repeat (first | apply Kd.R_alloc | apply Kd.R_drewN | apply Kd.R_drew)); exact (Kd.R_mono (Kd.R_far (p := ⟨jH, 5, none⟩) (Kd.R_types qP.out qp.out (by decide)) (fun _ hk => hk.2) (.slice XO jB.length YN)) (fun _ h_ => h_.1))));(case zp => exact (Kd.R_reads' qP.out).2.1);(case zg => exact Kd.C_nil _ _);(case zo => exact Nat.le_refl _);rintro e w88 ⟨rfl, hb⟩;replace qP := ak (Kd.R_below (by (with_reducible repeat (first | apply Kd.R_alloc | apply Kd.R_drewN | apply Kd.R_drew)); exact (Kd.R_mono (Kd.R_far (p := ⟨jH, 5, none⟩) (Kd.R_types qP.out qp.out (by decide)) (fun _ hk => hk.2) (.slice XO jB.length YN)) (fun _ h_ => h_.1))) hb);replace qc := ak (blk_below (g := qb) (o := .cells #[.slice none 0 0, .int .i64 0, .int .i64 0, .int .i64 0, .slice none 0 0, .slice none 0 0, .slice none 0 0] 33 (0, 0)) (by with_reducible repeat (first | exact qc.out | refine blk_far ?_ qt.out _ | refine blk_drewN ?_ _ | refine blk_drew ?_ | refine blk_alloc ?_ _)) hb);replace qp := ak (blk_below (g := jH) (o := .cells #[.slice none 0 0, .int .i64 a0, .int .i64 0, .int .i64 0, .slice none 0 0, .slice XO jB.length YN, .slice none 0 0] 33 (0, 0)) (by (with_reducible repeat (first | refine blk_drewN ?_ _ | refine blk_drew ?_ | refine blk_alloc ?_ _)); refine blk_put (cs := #[.slice none 0 0, .int .i64 a0, .int .i64 0, .int .i64 0, .slice none 0 0, .slice none 0 0, .slice none 0 0]) ?_ 5 _ rfl; (with_reducible repeat (first | refine blk_drewN ?_ _ | refine blk_drew ?_ | refine blk_alloc ?_ _)); exact qp.out) hb);replace HB := b2s bt2 hb;(try clear hb);obtain ⟨qAH, qAG, qAF, qAE, qAD, qAC, qAB, qwA, qwz, qwy, qwx, qww, qwv, qwu⟩ := cells7 qp.out;obtain ⟨qAA, qAz, qAy, qAx, qAw, qAv, qAu, qwt, qws, qwr, qwq, qwp, qwo, qwn⟩ := cells7 qc.out));refine bodyPost_ret (results_ct rfl _ _ qb 33 #[.slice none 0 0, .int .i64 a0, .int .i64 0, .int .i64 0, .slice none 0 0, .slice XO jB.length YN, .slice none 0 0] (0, 0) _ rfl (qM qc.out) Try.underlying33 rfl (by kernel_rfl)) rfl ?_;exact ⟨_, _, _, _, o1, by first | exact Kd.S_nil _ _ _ _ _ | exact Kd.N_nil _ _ _ _ _ | exact Kd.V_nil _ _ _ _ _ | exact Kd.Q_nil _ _ _ _ _ | exact Kd.R_nil _ _ _ _ _, by first | exact Kd.S_nil _ _ _ _ _ | exact Kd.N_nil _ _ _ _ _ | exact Kd.V_nil _ _ _ _ _ | exact Kd.Q_nil _ _ _ _ _ | exact Kd.R_nil _ _ _ _ _, by (with_reducible repeat (first | apply Kd.R_alloc | apply Kd.R_drewN | apply Kd.R_drew)); exact Kd.R_mono (Kd.R_far (p := ⟨qb, 6, none⟩) (Kd.R_far (p := ⟨qb, 5, none⟩) (Kd.R_far (p := ⟨qb, 4, none⟩) (Kd.R_far (p := ⟨qb, 3, none⟩) (Kd.R_far (p := ⟨qb, 2, none⟩) (Kd.R_far (p := ⟨qb, 1, none⟩) (Kd.R_far (p := ⟨qb, 0, none⟩) (Kd.R_types qP.out qc.out (by decide)) (fun _ hk => hk.2) (.slice none 0 0)) (fun _ hk => hk.2) (.int .i64 a0)) (fun _ hk => hk.2) (.int .i64 0)) (fun _ hk => hk.2) (.int .i64 0)) (fun _ hk => hk.2) (.slice none 0 0)) (fun _ hk => hk.2) (.slice XO jB.length YN)) (fun _ hk => hk.2) (.slice none 0 0)) (fun _ hk => trivial), by first | exact Kd.R_nil _ _ _ _ _ | exact Kd.N_nil _ _ _ _ _ | exact Kd.V_nil _ _ _ _ _ | exact Kd.Q_nil _ _ _ _ _ | exact Kd.S_nil _ _ _ _ _, bt2⟩
        ·simp only [Option.some.injEq, Prod.mk.injEq] at H;obtain ⟨rfl, rfl, rfl, rfl, rfl, rfl, rfl, rfl⟩ := H;go_wp2_with (first | ((with_reducible refine gate_dst (N := 10) rfl ?_);(try (refine gate_guard (by rfl) ?_; dsimp only));refine bxe (N := 10) rfl ?_;intro jH hg w91 hbox hb;have qp := ak (hbox);have zF := b3s hg bt2;have Qu := zF;replace HB := b2s bt2 hb;have qt := b4 hg qc;have jk := b5 hg qc;replace qc := b1 qc hb;clear hb hbox hg;have ql3 := jk.out;have qlY := qt.out;obtain ⟨qhI, qhH, qhG, qhF, qhE, qhD, qhC, qeA, qez, qey, qex, qew, qev, qeu⟩ := cells7 qp.out) | ((with_reducible refine gate_callee (f := 85) rfl ?_);refine glD 53 rfl rfl Try.func85 (jO.calls a0 false _ A40.out) (fun nd => ?_);generalize hq_ : World.drewN _ nd = wq_;have n0_ : Aside0 (wq_.heap[jH]? = some (.cells #[.slice none 0 0, .int .i64 a0, .int .i64 0, .int .i64 0, .slice none 0 0, .slice none 0 0, .slice none 0 0] 33 (0, 0))) := ⟨by rw [← hq_]; exact blk_drewN (qM qp.out) _⟩;have n1_ : Aside0 (wq_.heap[qb]? = some (.cells #[.slice none 0 0, .int .i64 0, .int .i64 0, .int .i64 0, .slice none 0 0, .slice none 0 0, .slice none 0 0] 33 (0, 0))) := ⟨by rw [← hq_]; exact blk_drewN (yo qt.out qc.out) _⟩;have n2_ : Aside0 (Below w.heap.size w wq_) := ⟨by rw [← hq_]; exact pw_below_drewN bt2 _⟩;clear hq_ qc qp HB;have qp := n0_;have qc := n1_;have HB := n2_;clear n0_ n1_ n2_;obtain ⟨qDN, qDM, qDL, qDK, qDJ, qDI, qDH, qzG, qzF, qzE, qzD, qzC, qzB, qzA⟩ := cells7 qp.out;obtain ⟨qC7, qC6, qC5, qC4, qC3, qC2, qC1, qy0, qyZ, qyY, qyX, qyW, qyV, qyU⟩ := cells7 qc.out;have QB : 0 ≤ (a2 : Int) := of_decide_eq_true (by first | (with_reducible assumption) | assumption);have Qz : a2 < (l1.length : Int) := of_decide_eq_true (by first | (with_reducible assumption) | assumption);obtain ⟨qem, XE, Qa⟩ := Kd.at_int HR1.out a2 QB Qz;cases XE;replace Qa := pw_cell_below HB.out Qa;replace QB := eq_true QB;replace Qz := eq_true Qz) | ((with_reducible refine gate_callee (f := 87) rfl ?_);refine glG 94 rfl rfl Try.func87 (zi.calls _ _ l1 (wrap64 (a2 + 1)) (wrap64 (rd l1 a2)) jB Qb _ (Kd.C_below HR1.out bt2) HC1.out A78.out) ?_;rintro e w94 ⟨JU, rfl, ho0, hb⟩;refine ⟨_, rfl, ?_⟩;have qP := ak (Kd.R_lower ho0 (below_size bt2));replace qc := ak (blk_below (g := qb) (o := .cells #[.slice none 0 0, .int .i64 0, .int .i64 0, .int .i64 0, .slice none 0 0, .slice none 0 0, .slice none 0 0] 33 (0, 0)) (by with_reducible repeat (first | exact qc.out | refine blk_far ?_ qt.out _ | refine blk_drewN ?_ _ | refine blk_drew ?_ | refine blk_alloc ?_ _)) hb);replace qp := ak (blk_below qp.out hb);replace HB := b2s bt2 hb;(try clear hb);(try clear ho0);obtain ⟨qdQ, qde, quA⟩ := Kd.R_slice qP.out;subst quA;obtain ⟨qAt, qAs, qAr, qAq, qAp, qAo, qAn, qwm, qwl, qwk, qwj, qwi, qwh, qwg⟩ := cells7 qp.out) | (go_at_call 63;(refine (qk.calls kj4 _ _ ([] : List (List Int)) a0 0 0 _ _ ([] : List (List Int)) _ _ jB _ _ ([] : List Int) false _ ?qL ?ji ?jT ?zq ?zh ?zp ?zg ?zo A80.out).mono ?_);(case qL => exact Kd.C_nil _ _);(case ji => exact Nat.le_refl _);(case jT => exact Kd.C_nil _ _);(case zq => exact Nat.le_refl _);(case zh => refine (Kd.R_reads' (e := 5) (base := w.heap.size) (ok := fun k_ => True) (n := jB.length) (c := qde) ?_).2.2; exact (by (with_reducible repeat (first | apply Kd.R_alloc | apply Kd.R_drewN | apply Kd.R_drew)); exact (Kd.R_mono (Kd.R_far (p := ⟨jH, 5, none⟩) (Kd.R_types qP.out qp.out (by decide)) (fun _ hk => hk.2) (.slice qdQ jB.length qde)) (fun _ h_ => h_.1))));(case zp => exact (Kd.R_reads' qP.out).2.1);(case zg => exact Kd.C_nil _ _);(case zo => exact Nat.le_refl _);rintro e w97 ⟨rfl, hb⟩;replace qP := ak (Kd.R_below (by (with_reducible repeat (first | apply Kd.R_alloc | apply Kd.R_drewN | apply Kd.R_drew)); exact (Kd.R_mono (Kd.R_far (p := ⟨jH, 5, none⟩) (Kd.R_types qP.out qp.out (by decide)) (fun _ hk => hk.2) (.slice qdQ jB.length qde)) (fun _ h_ => h_.1))) hb);replace qc := ak (blk_below (g := qb) (o := .cells #[.slice none 0 0, .int .i64 0, .int .i64 0, .int .i64 0, .slice none 0 0, .slice none 0 0, .slice none 0 0] 33 (0, 0)) (by with_reducible repeat (first | exact qc.out | refine blk_far ?_ qt.out _ | refine blk_drewN ?_ _ | refine blk_drew ?_ | refine blk_alloc ?_ _)) hb);replace qp := ak (blk_below (g := jH) (o := .cells #[.slice none 0 0, .int .i64 a0, .int .i64 0, .int .i64 0, .slice none 0 0, .slice qdQ jB.length qde, .slice none 0 0] 33 (0, 0)) (by (with_reducible repeat (first | refine blk_drewN ?_ _ | refine blk_drew ?_ | refine blk_alloc ?_ _)); refine blk_put (cs := #[.slice none 0 0, .int .i64 a0, .int .i64 0, .int .i64 0, .slice none 0 0, .slice none 0 0, .slice none 0 0]) ?_ 5 _ rfl; (with_reducible repeat (first | refine blk_drewN ?_ _ | refine blk_drew ?_ | refine blk_alloc ?_ _)); exact qp.out) hb);replace HB := b2s bt2 hb;(try clear hb);obtain ⟨qAm, qAl, qAk, qAj, qAi, qAh, qAg, qwf, qwe, qwd, qwc, qwb, qwa, qv9⟩ := cells7 qc.out));refine bodyPost_ret (results_ct rfl _ _ qb 33 #[.slice none 0 0, .int .i64 0, .int .i64 0, .int .i64 0, .slice none 0 0, .slice none 0 0, .slice none 0 0] (0, 0) _ rfl (qM qc.out) Try.underlying33 rfl (by kernel_rfl)) rfl ?_;exact ⟨_, _, _, _, o1, by first | exact Kd.S_nil _ _ _ _ _ | exact Kd.N_nil _ _ _ _ _ | exact Kd.V_nil _ _ _ _ _ | exact Kd.Q_nil _ _ _ _ _ | exact Kd.R_nil _ _ _ _ _, by first | exact Kd.S_nil _ _ _ _ _ | exact Kd.N_nil _ _ _ _ _ | exact Kd.V_nil _ _ _ _ _ | exact Kd.Q_nil _ _ _ _ _ | exact Kd.R_nil _ _ _ _ _, by first | exact Kd.R_nil _ _ _ _ _ | exact Kd.N_nil _ _ _ _ _ | exact Kd.V_nil _ _ _ _ _ | exact Kd.Q_nil _ _ _ _ _ | exact Kd.S_nil _ _ _ _ _, by first | exact Kd.R_nil _ _ _ _ _ | exact Kd.N_nil _ _ _ _ _ | exact Kd.V_nil _ _ _ _ _ | exact Kd.Q_nil _ _ _ _ _ | exact Kd.S_nil _ _ _ _ _, bt2⟩
       ·simp only [Option.some.injEq, Prod.mk.injEq] at H;obtain ⟨rfl, rfl, rfl, rfl, rfl, rfl, rfl, rfl⟩ := H;go_wp2_with (first | ((with_reducible refine gate_dst (N := 10) rfl ?_);(try (refine gate_guard (by rfl) ?_; dsimp only));refine bxe (N := 10) rfl ?_;intro jH hg w99 hbox hb;have qp := ak (hbox);have zF := b3s hg bt2;have Qu := zF;replace HB := b2s bt2 hb;have qt := b4 hg qc;have jk := b5 hg qc;replace qc := b1 qc hb;clear hb hbox hg;have qEF := jk.out;have qEw := qt.out;obtain ⟨qtD, qtC, qtB, qtA, qtz, qty, qtx, qqA, qqz, qqy, qqx, qqw, qqv, qqu⟩ := cells7 qp.out) | ((with_reducible refine gate_callee (f := 85) rfl ?_);refine glD 53 rfl rfl Try.func85 (jO.calls a0 false _ A40.out) (fun nd => ?_);generalize hq_ : World.drewN _ nd = wq_;have n0_ : Aside0 (wq_.heap[jH]? = some (.cells #[.slice none 0 0, .int .i64 a0, .int .i64 0, .int .i64 0, .slice none 0 0, .slice none 0 0, .slice none 0 0] 33 (0, 0))) := ⟨by rw [← hq_]; exact blk_drewN (qM qp.out) _⟩;have n1_ : Aside0 (wq_.heap[qb]? = some (.cells #[.slice none 0 0, .int .i64 0, .int .i64 0, .int .i64 0, .slice none 0 0, .slice none 0 0, .slice none 0 0] 33 (0, 0))) := ⟨by rw [← hq_]; exact blk_drewN (yo qt.out qc.out) _⟩;have n2_ : Aside0 (Below w.heap.size w wq_) := ⟨by rw [← hq_]; exact pw_below_drewN bt2 _⟩;clear hq_ qc qp HB;have qp := n0_;have qc := n1_;have HB := n2_;clear n0_ n1_ n2_;obtain ⟨qux, quw, quv, quu, qut, qus, qur, qru, qrt, qrs, qrr, qrq, qrp, qro⟩ := cells7 qp.out;obtain ⟨qt5, qt4, qt3, qt2, qt1, qt0, qtZ, qq2, qq1, qq0, qqZ, qqY, qqX, qqW⟩ := cells7 qc.out;have QB : 0 ≤ (a2 : Int) := of_decide_eq_true (by first | (with_reducible assumption) | assumption);have Qz : a2 < (l1.length : Int) := of_decide_eq_true (by first | (with_reducible assumption) | assumption);obtain ⟨qem, XE, Qa⟩ := Kd.at_int HR1.out a2 QB Qz;cases XE;replace Qa := pw_cell_below HB.out Qa;replace QB := eq_true QB;replace Qz := eq_true Qz) | ((with_reducible refine gate_callee (f := 87) rfl ?_);refine glG 94 rfl rfl Try.func87 (zi.calls _ _ l1 (wrap64 (a2 + 1)) (wrap64 (rd l1 a2)) jB Qb _ (Kd.C_below HR1.out bt2) HC1.out A78.out) ?_;rintro e qIJ ⟨JU, rfl, ho0, hb⟩;refine ⟨_, rfl, ?_⟩;have qP := ak (Kd.R_lower ho0 (below_size bt2));replace qc := ak (blk_below (g := qb) (o := .cells #[.slice none 0 0, .int .i64 0, .int .i64 0, .int .i64 0, .slice none 0 0, .slice none 0 0, .slice none 0 0] 33 (0, 0)) (by with_reducible repeat (first | exact qc.out | refine blk_far ?_ qt.out _ | refine blk_drewN ?_ _ | refine blk_drew ?_ | refine blk_alloc ?_ _)) hb);replace qp := ak (blk_below qp.out hb);replace HB := b2s bt2 hb;(try clear hb);(try clear ho0);obtain ⟨qIr, qIk, qmf⟩ := Kd.R_slice qP.out;subst qmf;obtain ⟨qtw, qtv, qtu, qtt, qts, qtr, qtq, qqt, qqs, qqr, qqq, qqp, qqo, qqn⟩ := cells7 qp.out;obtain ⟨qtp, qto, qtn, qtm, qtl, qtk, qtj, qqm, qql, qqk, qqj, qqi, qqh, qqg⟩ := cells7 qc.out));refine bodyPost_ret (results_ct rfl _ _ qb 33 #[.slice none 0 0, .int .i64 0, .int .i64 0, .int .i64 0, .slice none 0 0, .slice none 0 0, .slice none 0 0] (0, 0) _ rfl (by (with_reducible repeat (first | refine blk_drewN ?_ _ | refine blk_drew ?_ | refine blk_alloc ?_ _)); refine blk_put (cs := #[.slice none 0 0, .int .i64 0, .int .i64 0, .int .i64 0, .slice none 0 0, .slice none 0 0, .slice none 0 0]) ?_ 6 _ rfl; (with_reducible repeat (first | refine blk_drewN ?_ _ | refine blk_drew ?_ | refine blk_alloc ?_ _)); refine blk_put (cs := #[.slice none 0 0, .int .i64 0, .int .i64 0, .int .i64 0, .slice none 0 0, .slice none 0 0, .slice none 0 0]) ?_ 5 _ rfl; (with_reducible repeat (first | refine blk_drewN ?_ _ | refine blk_drew ?_ | refine blk_alloc ?_ _)); refine blk_put (cs := #[.slice none 0 0, .int .i64 0, .int .i64 0, .int .i64 0, .slice none 0 0, .slice none 0 0, .slice none 0 0]) ?_ 4 _ rfl; (with_reducible repeat (first | refine blk_drewN ?_ _ | refine blk_drew ?_ | refine blk_alloc ?_ _)); refine blk_put (cs := #[.slice none 0 0, .int .i64 0, .int .i64 0, .int .i64 0, .slice none 0 0, .slice none 0 0, .slice none 0 0]) ?_ 3 _ rfl; (with_reducible repeat (first | refine blk_drewN ?_ _ | refine blk_drew ?_ | refine blk_alloc ?_ _)); refine blk_put (cs := #[.slice none 0 0, .int .i64 0, .int .i64 0, .int .i64 0, .slice none 0 0, .slice none 0 0, .slice none 0 0]) ?_ 2 _ rfl; (with_reducible repeat (first | refine blk_drewN ?_ _ | refine blk_drew ?_ | refine blk_alloc ?_ _)); refine blk_put (cs := #[.slice none 0 0, .int .i64 0, .int .i64 0, .int .i64 0, .slice none 0 0, .slice none 0 0, .slice none 0 0]) ?_ 1 _ rfl; (with_reducible repeat (first | refine blk_drewN ?_ _ | refine blk_drew ?_ | refine blk_alloc ?_ _)); refine blk_put (cs := #[.slice none 0 0, .int .i64 0, .int .i64 0, .int .i64 0, .slice none 0 0, .slice none 0 0, .slice none 0 0]) ?_ 0 _ rfl; (with_reducible repeat (first | refine blk_drewN ?_ _ | refine blk_drew ?_ | refine blk_alloc ?_ _)); refine blk_far ?_ qt.out _; (with_reducible repeat (first | refine blk_drewN ?_ _ | refine blk_drew ?_ | refine blk_alloc ?_ _)); exact qc.out) Try.underlying33 rfl (by kernel_rfl)) rfl ?_;exact ⟨_, _, _, _, o1, by first | exact Kd.S_nil _ _ _ _ _ | exact Kd.N_nil _ _ _ _ _ | exact Kd.V_nil _ _ _ _ _ | exact Kd.Q_nil _ _ _ _ _ | exact Kd.R_nil _ _ _ _ _, by first | exact Kd.S_nil _ _ _ _ _ | exact Kd.N_nil _ _ _ _ _ | exact Kd.V_nil _ _ _ _ _ | exact Kd.Q_nil _ _ _ _ _ | exact Kd.R_nil _ _ _ _ _, by first | exact Kd.R_nil _ _ _ _ _ | exact Kd.N_nil _ _ _ _ _ | exact Kd.V_nil _ _ _ _ _ | exact Kd.Q_nil _ _ _ _ _ | exact Kd.S_nil _ _ _ _ _, by first | exact Kd.R_nil _ _ _ _ _ | exact Kd.N_nil _ _ _ _ _ | exact Kd.V_nil _ _ _ _ _ | exact Kd.Q_nil _ _ _ _ _ | exact Kd.S_nil _ _ _ _ _, bt2⟩
      ·replace H := ie H;obtain ⟨c106b0, c106b1, H⟩ | ⟨c106b0, c106b1, H⟩ := H
       ·replace H := bnd H;obtain ⟨jb, qlW, H⟩ := H;replace H := ib H;obtain ⟨rfl, H⟩ | ⟨rfl, H⟩ := H
        ·simp only [Option.some.injEq, Prod.mk.injEq] at H;obtain ⟨rfl, rfl, rfl, rfl, rfl, rfl, rfl, rfl⟩ := H;go_wp2_with (first | ((with_reducible refine gate_dst (N := 10) rfl ?_);(try (refine gate_guard (by rfl) ?_; dsimp only));refine bxe (N := 10) rfl ?_;intro jH hg Jn hbox hb;have qp := ak (hbox);have zF := b3s hg bt2;have Qu := zF;replace HB := b2s bt2 hb;have qt := b4 hg qc;have jk := b5 hg qc;replace qc := b1 qc hb;clear hb hbox hg;have qED := jk.out;have qEu := qt.out;obtain ⟨qtb, qta, qs9, qs8, qs7, qs6, qs5, qp8, qp7, qp6, qp5, qp4, qp3, qp2⟩ := cells7 qp.out) | ((with_reducible refine gate_callee (f := 85) rfl ?_);refine glD 53 rfl rfl Try.func85 (jO.calls a0 false _ A40.out) (fun nd => ?_);generalize hq_ : World.drewN _ nd = wq_;have n0_ : Aside0 (wq_.heap[jH]? = some (.cells #[.slice none 0 0, .int .i64 a0, .int .i64 0, .int .i64 0, .slice none 0 0, .slice none 0 0, .slice none 0 0] 33 (0, 0))) := ⟨by rw [← hq_]; exact blk_drewN (qM qp.out) _⟩;have n1_ : Aside0 (wq_.heap[qb]? = some (.cells #[.slice none 0 0, .int .i64 0, .int .i64 0, .int .i64 0, .slice none 0 0, .slice none 0 0, .slice none 0 0] 33 (0, 0))) := ⟨by rw [← hq_]; exact blk_drewN (yo qt.out qc.out) _⟩;have n2_ : Aside0 (Below w.heap.size w wq_) := ⟨by rw [← hq_]; exact pw_below_drewN bt2 _⟩;clear hq_ qc qp HB;have qp := n0_;have qc := n1_;have HB := n2_;clear n0_ n1_ n2_;obtain ⟨quq, qup, quo, qun, qum, qul, quk, qrn, qrm, qrl, qrk, qrj, qri, qrh⟩ := cells7 qp.out;obtain ⟨qtY, qtX, qtW, qtV, qtU, qtT, qtS, qqV, qqU, qqT, qqS, qqR, qqQ, qqP⟩ := cells7 qc.out) | (go_at_call 63;(refine (qk.calls kj4 _ _ ([] : List (List Int)) a0 0 0 _ _ ([] : List (List Int)) _ _ ([] : List Int) _ _ ([] : List Int) true _ ?qL ?ji ?jT ?zq ?zh ?zp ?zg ?zo qlW.out).mono ?_);(case qL => exact Kd.C_nil _ _);(case ji => exact Nat.le_refl _);(case jT => exact Kd.C_nil _ _);(case zq => exact Nat.le_refl _);(case zh => exact Kd.C_nil _ _);(case zp => exact Nat.le_refl _);(case zg => exact Kd.C_nil _ _);(case zo => exact Nat.le_refl _);rintro e qII ⟨rfl, hb⟩;replace qc := ak (blk_below (g := qb) (o := .cells #[.slice none 0 0, .int .i64 0, .int .i64 0, .int .i64 0, .slice none 0 0, .slice none 0 0, .slice none 0 0] 33 (0, 0)) (by with_reducible repeat (first | exact qc.out | refine blk_far ?_ qt.out _ | refine blk_drewN ?_ _ | refine blk_drew ?_ | refine blk_alloc ?_ _)) hb);replace qp := ak (blk_below qp.out hb);replace HB := b2s bt2 hb;(try clear hb);obtain ⟨qs4, qs3, qs2, qs1, qs0, qsZ, qsY, qp1, qp0, qpZ, qpY, qpX, qpW, qpV⟩ := cells7 qp.out;obtain ⟨qsX, qsW, qsV, qsU, qsT, qsS, qsR, qpU, qpT, qpS, qpR, qpQ, qpP, qpO⟩ := cells7 qc.out));refine bodyPost_ret (results_ct rfl _ _ qb 33 #[.slice none 0 0, .int .i64 a0, .int .i64 0, .int .i64 0, .slice none 0 0, .slice none 0 0, .slice none 0 0] (0, 0) _ rfl (qM qc.out) Try.underlying33 rfl (by kernel_rfl)) rfl ?_;exact ⟨_, _, _, _, o1, by first | exact Kd.S_nil _ _ _ _ _ | exact Kd.N_nil _ _ _ _ _ | exact Kd.V_nil _ _ _ _ _ | exact Kd.Q_nil _ _ _ _ _ | exact Kd.R_nil _ _ _ _ _, by first | exact Kd.S_nil _ _ _ _ _ | exact Kd.N_nil _ _ _ _ _ | exact Kd.V_nil _ _ _ _ _ | exact Kd.Q_nil _ _ _ _ _ | exact Kd.R_nil _ _ _ _ _, by first | exact Kd.R_nil _ _ _ _ _ | exact Kd.N_nil _ _ _ _ _ | exact Kd.V_nil _ _ _ _ _ | exact Kd.Q_nil _ _ _ _ _ | exact Kd.S_nil _ _ _ _ _, by first | exact Kd.R_nil _ _ _ _ _ | exact Kd.N_nil _ _ _ _ _ | exact Kd.V_nil _ _ _ _ _ | exact Kd.Q_nil _ _ _ _ _ | exact Kd.S_nil _ _ _ _ _, bt2⟩
        ·simp only [Option.some.injEq, Prod.mk.injEq] at H;obtain ⟨rfl, rfl, rfl, rfl, rfl, rfl, rfl, rfl⟩ := H;go_wp2_with (first | ((with_reducible refine gate_dst (N := 10) rfl ?_);(try (refine gate_guard (by rfl) ?_; dsimp only));refine bxe (N := 10) rfl ?_;intro jH hg qIH hbox hb;have qp := ak (hbox);have zF := b3s hg bt2;have Qu := zF;replace HB := b2s bt2 hb;have qt := b4 hg qc;have jk := b5 hg qc;replace qc := b1 qc hb;clear hb hbox hg;have qEC := jk.out;have qEt := qt.out;obtain ⟨qsQ, qsP, qsO, qsN, qsM, qsL, qsK, qpN, qpM, qpL, qpK, qpJ, qpI, qpH⟩ := cells7 qp.out) | ((with_reducible refine gate_callee (f := 85) rfl ?_);refine glD 53 rfl rfl Try.func85 (jO.calls a0 false _ A40.out) (fun nd => ?_);generalize hq_ : World.drewN _ nd = wq_;have n0_ : Aside0 (wq_.heap[jH]? = some (.cells #[.slice none 0 0, .int .i64 a0, .int .i64 0, .int .i64 0, .slice none 0 0, .slice none 0 0, .slice none 0 0] 33 (0, 0))) := ⟨by rw [← hq_]; exact blk_drewN (qM qp.out) _⟩;have n1_ : Aside0 (wq_.heap[qb]? = some (.cells #[.slice none 0 0, .int .i64 0, .int .i64 0, .int .i64 0, .slice none 0 0, .slice none 0 0, .slice none 0 0] 33 (0, 0))) := ⟨by rw [← hq_]; exact blk_drewN (yo qt.out qc.out) _⟩;have n2_ : Aside0 (Below w.heap.size w wq_) := ⟨by rw [← hq_]; exact pw_below_drewN bt2 _⟩;clear hq_ qc qp HB;have qp := n0_;have qc := n1_;have HB := n2_;clear n0_ n1_ n2_;obtain ⟨quj, qui, quh, qug, quf, que, qud, qrg, qrf, qre, qrd, qrc, qrb, qra⟩ := cells7 qp.out;obtain ⟨qtR, qtQ, qtP, qtO, qtN, qtM, qtL, qqO, qqN, qqM, qqL, qqK, qqJ, qqI⟩ := cells7 qc.out) | (go_at_call 63;(refine (qk.calls kj4 _ _ ([] : List (List Int)) a0 0 0 _ _ ([] : List (List Int)) _ _ ([] : List Int) _ _ ([] : List Int) false _ ?qL ?ji ?jT ?zq ?zh ?zp ?zg ?zo qlW.out).mono ?_);(case qL => exact Kd.C_nil _ _);(case ji => exact Nat.le_refl _);(case jT => exact Kd.C_nil _ _);(case zq => exact Nat.le_refl _);(case zh => exact Kd.C_nil _ _);(case zp => exact Nat.le_refl _);(case zg => exact Kd.C_nil _ _);(case zo => exact Nat.le_refl _);rintro e qIG ⟨rfl, hb⟩;replace qc := ak (blk_below (g := qb) (o := .cells #[.slice none 0 0, .int .i64 0, .int .i64 0, .int .i64 0, .slice none 0 0, .slice none 0 0, .slice none 0 0] 33 (0, 0)) (by with_reducible repeat (first | exact qc.out | refine blk_far ?_ qt.out _ | refine blk_drewN ?_ _ | refine blk_drew ?_ | refine blk_alloc ?_ _)) hb);replace qp := ak (blk_below qp.out hb);replace HB := b2s bt2 hb;(try clear hb);obtain ⟨qsJ, qsI, qsH, qsG, qsF, qsE, qsD, qpG, qpF, qpE, qpD, qpC, qpB, qpA⟩ := cells7 qc.out));refine bodyPost_ret (results_ct rfl _ _ qb 33 #[.slice none 0 0, .int .i64 0, .int .i64 0, .int .i64 0, .slice none 0 0, .slice none 0 0, .slice none 0 0] (0, 0) _ rfl (qM qc.out) Try.underlying33 rfl (by kernel_rfl)) rfl ?_;exact ⟨_, _, _, _, o1, by first | exact Kd.S_nil _ _ _ _ _ | exact Kd.N_nil _ _ _ _ _ | exact Kd.V_nil _ _ _ _ _ | exact Kd.Q_nil _ _ _ _ _ | exact Kd.R_nil _ _ _ _ _, by first | exact Kd.S_nil _ _ _ _ _ | exact Kd.N_nil _ _ _ _ _ | exact Kd.V_nil _ _ _ _ _ | exact Kd.Q_nil _ _ _ _ _ | exact Kd.R_nil _ _ _ _ _, by first | exact Kd.R_nil _ _ _ _ _ | exact Kd.N_nil _ _ _ _ _ | exact Kd.V_nil _ _ _ _ _ | exact Kd.Q_nil _ _ _ _ _ | exact Kd.S_nil _ _ _ _ _, by first | exact Kd.R_nil _ _ _ _ _ | exact Kd.N_nil _ _ _ _ _ | exact Kd.V_nil _ _ _ _ _ | exact Kd.Q_nil _ _ _ _ _ | exact Kd.S_nil _ _ _ _ _, bt2⟩
       ·simp only [Option.some.injEq, Prod.mk.injEq] at H;obtain ⟨rfl, rfl, rfl, rfl, rfl, rfl, rfl, rfl⟩ := H;go_wp2_with (first | ((with_reducible refine gate_dst (N := 10) rfl ?_);(try (refine gate_guard (by rfl) ?_; dsimp only));refine bxe (N := 10) rfl ?_;intro jH hg qmw hbox hb;have qp := ak (hbox);have zF := b3s hg bt2;have Qu := zF;replace HB := b2s bt2 hb;have qt := b4 hg qc;have jk := b5 hg qc;replace qc := b1 qc hb;clear hb hbox hg;have qEB := jk.out;have qEs := qt.out;obtain ⟨qsC, qsB, qsA, qsz, qsy, qsx, qsw, qpz, qpy, qpx, qpw, qpv, qpu, qpt⟩ := cells7 qp.out) | ((with_reducible refine gate_callee (f := 85) rfl ?_);refine glD 53 rfl rfl Try.func85 (jO.calls a0 false _ A40.out) (fun nd => ?_);generalize hq_ : World.drewN _ nd = wq_;have n0_ : Aside0 (wq_.heap[jH]? = some (.cells #[.slice none 0 0, .int .i64 a0, .int .i64 0, .int .i64 0, .slice none 0 0, .slice none 0 0, .slice none 0 0] 33 (0, 0))) := ⟨by rw [← hq_]; exact blk_drewN (qM qp.out) _⟩;have n1_ : Aside0 (wq_.heap[qb]? = some (.cells #[.slice none 0 0, .int .i64 0, .int .i64 0, .int .i64 0, .slice none 0 0, .slice none 0 0, .slice none 0 0] 33 (0, 0))) := ⟨by rw [← hq_]; exact blk_drewN (yo qt.out qc.out) _⟩;have n2_ : Aside0 (Below w.heap.size w wq_) := ⟨by rw [← hq_]; exact pw_below_drewN bt2 _⟩;clear hq_ qc qp HB;have qp := n0_;have qc := n1_;have HB := n2_;clear n0_ n1_ n2_;obtain ⟨quc, qub, qua, qt9, qt8, qt7, qt6, qq9, qq8, qq7, qq6, qq5, qq4, qq3⟩ := cells7 qp.out;obtain ⟨qtK, qtJ, qtI, qtH, qtG, qtF, qtE, qqH, qqG, qqF, qqE, qqD, qqC, qqB⟩ := cells7 qc.out;obtain ⟨qsv, qsu, qst, qss, qsr, qsq, qsp, qps, qpr, qpq, qpp, qpo, qpn, qpm⟩ := cells7 qc.out));refine bodyPost_ret (results_ct rfl _ _ qb 33 #[.slice none 0 0, .int .i64 0, .int .i64 0, .int .i64 0, .slice none 0 0, .slice none 0 0, .slice none 0 0] (0, 0) _ rfl (qM (k := Gr.refl_ _) qc.out) Try.underlying33 rfl (by kernel_rfl)) rfl ?_;exact ⟨_, _, _, _, o1, by first | exact Kd.S_nil _ _ _ _ _ | exact Kd.N_nil _ _ _ _ _ | exact Kd.V_nil _ _ _ _ _ | exact Kd.Q_nil _ _ _ _ _ | exact Kd.R_nil _ _ _ _ _, by first | exact Kd.S_nil _ _ _ _ _ | exact Kd.N_nil _ _ _ _ _ | exact Kd.V_nil _ _ _ _ _ | exact Kd.Q_nil _ _ _ _ _ | exact Kd.R_nil _ _ _ _ _, by first | exact Kd.R_nil _ _ _ _ _ | exact Kd.N_nil _ _ _ _ _ | exact Kd.V_nil _ _ _ _ _ | exact Kd.Q_nil _ _ _ _ _ | exact Kd.S_nil _ _ _ _ _, by first | exact Kd.R_nil _ _ _ _ _ | exact Kd.N_nil _ _ _ _ _ | exact Kd.V_nil _ _ _ _ _ | exact Kd.Q_nil _ _ _ _ _ | exact Kd.S_nil _ _ _ _ _, bt2⟩

end Go.Proofs.Ytagedmajlppohaa.Q
