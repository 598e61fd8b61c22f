/- Printed by a program of this session (wip/myprint.py), which drives the kit's printer: functions and what their calls do. -/
import Derived.Test.YtkmchjdioplfjaaDoorProg
import Derived.Below
import Derived.Deep.Draws
import Derived.Deep.AppendLies
import Derived.Maps.AppendAt
import Derived.OwnWalk
import Derived.Laws.BytesArg
import Derived.Laws.MakeOwn
import Derived.Laws.OwnMore
import Derived.Deep.OwnRows
import Derived.Tactics
import Derived.Lib.ConvBytes
import Derived.Laws.Slices
import Derived.WalkKit
import Derived.KernelRfl
import Derived.RowKit3
import Derived.Deep.LoopGhost
import Derived.Deep.QuietTactic
import Derived.BigQuiet
import Derived.WideLaws
import Derived.Deep.DeepCutAuto
import Derived.Deep.CutBlock
import Derived.Deep.RegionHeld3
import Derived.Laws.Rows
import Derived.Lib.AppendStr
import Derived.ArgAppend
import Derived.Laws.IdiomCopy
import Derived.OrdersHeld
import Derived.Laws.BitsLemmas
import Derived.RowKit
import Derived.WalkSpells
import Derived.WalkLawsBesides
import Derived.Shelf.Abstract
import Derived.Test.YtkmchjdioplfjaaDoorVFnExactRrText
import Derived.Deep.CutRange
import Derived.Shelf.Strconv.Itoa3
import Derived.Shelf.Strings.OnBuilder
import Derived.Shelf.Slices.ReverseS
import Derived.Lib.AppendIntMem
import Derived.IntWalk
import Derived.Laws.IdiomStrings
import Derived.Lib.ItoaLen
import Derived.Maps.Own
import Derived.Maps.Views
namespace Go.Proofs.YtkmchjdioplfjaaDoor.Q
open Go.RowKit Go Go.Proofs.YtkmchjdioplfjaaDoorW.PrintWords Go.Proofs.YtkmchjdioplfjaaDoorW.PrintLast Go.Proofs.YtkmchjdioplfjaaDoorW.PrintMore

set_option linter.unusedVariables false
set_option linter.unusedSimpArgs false

theorem info3 : (Tryd.prog.info? 3).map (fun i => (i.zero, i.size, i.bytes)) = some (some (.int .i64 0), 1, 8) := by kernel_rfl
theorem info5 : (Tryd.prog.info? 5).map (fun i => (i.zero, i.size, i.bytes)) = some (some (.int .u8 0), 1, 1) := by kernel_rfl
theorem info9 : (Tryd.prog.info? 9).map (fun i => (i.zero, i.size, i.bytes)) = some (some (.string ⟨#[]⟩), 1, 16) := by kernel_rfl
theorem info22 : (Tryd.prog.info? 22).map (fun i => (i.zero, i.size, i.bytes)) = some (some (.slice none 0 0), 1, 24) := by kernel_rfl
-- the values' own types
/-! #### struct type 7 -/
/-! #### struct type 8 -/
/-! #### struct type 13 -/
/-! #### struct type 14 -/
def rd_L10 (xs : List (List Int)) (i : Int) : (List Int) := xs.getD i.toNat ([] : List Int)
theorem at_L10 {w : World} {A : Option Addr} {n : Nat} {xs : List (List Int)} (h : Kd.C (Kd.slice 5 (Kd.int .u8)) w A n xs) (i : Int) (h0 : 0 ≤ i) (h1 : i < n) : ∃ ad A0 c0, A = some ad ∧ w.cell? (ad.add i.toNat) = some (.slice A0 (rd_L10 xs i).length c0) ∧ (rd_L10 xs i).length ≤ c0 ∧ (Kd.int .u8).C w A0 (rd_L10 xs i).length (rd_L10 xs i) := by
  obtain ⟨ad, c, e, _, hK, hc0⟩ := Kd.C_get h ([] : List Int) i h0 h1
  have hc : ∀ j u, c[j]? = some u → w.cell? (ad.add (i.toNat * 1 + j)) = some u := hc0
  obtain ⟨A0, c0, rfl, l0, g0⟩ := hK
  exact ⟨ad, A0, c0, e, by have hq := hc 0 _ rfl; rwa [Nat.mul_one, Nat.add_zero] at hq, l0, g0⟩

/-! #### struct type 28 -/
/-! #### struct type 29 -/
/-! #### struct type 44 -/
structure S44 where
  f0 : (List (List Int))
def k44 : Kd S44 := Kd.iso (Kd.slice 22 (Kd.slice 5 (Kd.int .u8))) (fun x : S44 => x.f0)
theorem k44_open {w : World} {x : S44} {cs : List Value} (h : k44.K w x cs) : ∃ A0 c0, cs = [.slice A0 x.f0.length c0] ∧ x.f0.length ≤ c0 ∧ (Kd.slice 5 (Kd.int .u8)).C w A0 x.f0.length x.f0 := by
  obtain ⟨A0, c0, rfl, l0, g0⟩ := h
  exact ⟨A0, c0, rfl, l0, g0⟩
/-! #### struct type 46 -/
/-! #### struct type 47 -/
structure S47 where
  f0 : S44
  f1 : Int
  f2 : Int
  f3 : Int
  f4 : S44
  f5 : (List Int)
  f6 : (List Int)
def k47 : Kd S47 := Kd.iso (Kd.pair k44 (Kd.pair (Kd.int .i64) (Kd.pair (Kd.int .i64) (Kd.pair (Kd.int .i64) (Kd.pair k44 (Kd.pair (Kd.slice 5 (Kd.int .u8)) (Kd.slice 3 (Kd.int .i64)))))))) (fun x : S47 => (x.f0, x.f1, x.f2, x.f3, x.f4, x.f5, x.f6))
theorem k47_open {w : World} {x : S47} {cs : List Value} (h : k47.K w x cs) : ∃ A0 c0 A4 c4 A5 c5 A6 c6, cs = [.slice A0 x.f0.f0.length c0, .int .i64 x.f1, .int .i64 x.f2, .int .i64 x.f3, .slice A4 x.f4.f0.length c4, .slice A5 x.f5.length c5, .slice A6 x.f6.length c6] ∧ x.f0.f0.length ≤ c0 ∧ (Kd.slice 5 (Kd.int .u8)).C w A0 x.f0.f0.length x.f0.f0 ∧ x.f4.f0.length ≤ c4 ∧ (Kd.slice 5 (Kd.int .u8)).C w A4 x.f4.f0.length x.f4.f0 ∧ x.f5.length ≤ c5 ∧ (Kd.int .u8).C w A5 x.f5.length x.f5 ∧ x.f6.length ≤ c6 ∧ (Kd.int .i64).C w A6 x.f6.length x.f6 := by
  obtain ⟨_, _, rfl, s0, ⟨_, _, rfl, rfl, ⟨_, _, rfl, rfl, ⟨_, _, rfl, rfl, ⟨_, _, rfl, s4, ⟨_, _, rfl, ⟨A5, c5, rfl, l5, g5⟩, ⟨A6, c6, rfl, l6, g6⟩⟩⟩⟩⟩⟩⟩ := h
  obtain ⟨A0, c0, rfl, l0, g0⟩ := k44_open s0
  obtain ⟨A4, c4, rfl, l4, g4⟩ := k44_open s4
  exact ⟨A0, c0, A4, c4, A5, c5, A6, c6, rfl, l0, g0, l4, g4, l5, g5, l6, g6⟩
/-! #### struct type 50 -/
/-! #### struct type 51 -/
/-! #### struct type 93 -/
/-! #### struct type 94 -/
/-! #### struct type 136 -/
/-! #### struct type 137 -/
/-! #### struct type 145 -/
/-! #### struct type 146 -/
/-- One world is another one with blocks made and draws taken. -/
def Gr (A W : World) : Prop := Below A.heap.size A W
instance Gr.refl_ (A : World) : Nonempty (Gr A A) := ⟨Below.refl _ _⟩
instance Gr.alloc_ (A W : World) (o : Obj) [h : Nonempty (Gr A W)] : Nonempty (Gr A (W.alloc o)) := h.elim fun h => ⟨below_alloc h o⟩
instance Gr.drew_ (A W : World) [h : Nonempty (Gr A W)] : Nonempty (Gr A W.drew) := h.elim fun h => ⟨below_drew h⟩
instance Gr.drewN_ (A W : World) (n : Nat) [h : Nonempty (Gr A W)] : Nonempty (Gr A (W.drewN n)) := h.elim fun h => ⟨pw_below_drewN h n⟩
section
variable {α : Type} {d : Kd α} {e base n : Nat} {ok : Nat → Prop} {w W W' : World} {v : Value} {xs : List α} {A : Option Addr}
theorem bw (h : Below w.heap.size w W) [g : Nonempty (Gr W W')] : Below w.heap.size w W' := g.elim fun g => below_step h g
theorem bk {g : Nat} {o : Obj} (h : W.heap[g]? = some o) [k : Nonempty (Gr W W')] : W'.heap[g]? = some o := k.elim fun k => blk_below h k
theorem cw (h : d.C w A n xs) (hb : Below w.heap.size w W) [g : Nonempty (Gr W W')] : d.C W' A n xs := Kd.C_below h (bw hb)
theorem rw_ (h : d.R e W base ok v xs) [g : Nonempty (Gr W W')] : d.R e W' base ok v xs := g.elim fun g => Kd.R_below h g
theorem sw (h : d.S e W base ok v xs) [g : Nonempty (Gr W W')] : d.S e W' base ok v xs := g.elim fun g => Kd.S_below h g
end
section
variable {W : World} {g t : Nat} {a b c d e f x y z : Value}
theorem cells1 (h : W.heap[g]? = some (.cells #[a] t (0, 0))) : W.cell? ⟨g, 0, none⟩ = some a ∧ W.frozen? ⟨g, 0, none⟩ = false := ⟨(blk_cell h 0).trans rfl, blk_frozen h 0⟩
theorem cells7 (h : W.heap[g]? = some (.cells #[a, b, c, d, e, f, x] t (0, 0))) : W.cell? ⟨g, 0, none⟩ = some a ∧ W.cell? ⟨g, 1, none⟩ = some b ∧ W.cell? ⟨g, 2, none⟩ = some c ∧ W.cell? ⟨g, 3, none⟩ = some d ∧ W.cell? ⟨g, 4, none⟩ = some e ∧ W.cell? ⟨g, 5, none⟩ = some f ∧ W.cell? ⟨g, 6, none⟩ = some x ∧ W.frozen? ⟨g, 0, none⟩ = false ∧ W.frozen? ⟨g, 1, none⟩ = false ∧ W.frozen? ⟨g, 2, none⟩ = false ∧ W.frozen? ⟨g, 3, none⟩ = false ∧ W.frozen? ⟨g, 4, none⟩ = false ∧ W.frozen? ⟨g, 5, none⟩ = false ∧ W.frozen? ⟨g, 6, none⟩ = false :=
  ⟨(blk_cell h 0).trans rfl, (blk_cell h 1).trans rfl, (blk_cell h 2).trans rfl, (blk_cell h 3).trans rfl, (blk_cell h 4).trans rfl, (blk_cell h 5).trans rfl, (blk_cell h 6).trans rfl, blk_frozen h 0, blk_frozen h 1, blk_frozen h 2, blk_frozen h 3, blk_frozen h 4, blk_frozen h 5, blk_frozen h 6⟩
end
section
variable {P : Program} {ops : Array Oper} {rest : List Oper} {o : Oper} {a : Act} {Q : Exit → Act → World → Prop}
/-- A struct's variable is made. -/
theorem boxed {w W0 W : World} {N : Tmp} (_hN : o.dst = some N) (hgd : o.guard = none) {cs : Array Value} {t : TypeId} (hB : Below w.heap.size w W0) [gr : Nonempty (Gr W0 W)]
    (hrun : (execOp a.eval o).run P W = .ok (.value (.pointer (some ⟨W.heap.size, 0, none⟩))) (W.alloc (.cells cs t (0, 0))))
    (h : ∀ g, ∀ w1, g = W.heap.size → Aside0 (Below w.heap.size w w1) → Aside0 (w1.heap[g]? = some (.cells cs t (0, 0))) → Aside0 (w.heap.size ≤ g) → Below W.heap.size W w1 → wpList P ops Q rest (a.put o.dst (.pointer (some ⟨g, 0, none⟩))) w1) : wpList P ops Q (o :: rest) a W := by
  have hB' : Below w.heap.size w W := bw hB
  exact box_event hgd _hN hrun (fun g hg w1 hbox hb => h g w1 hg ⟨below_step hB' hb⟩ ⟨hbox⟩ ⟨by rw [hg]; exact hB'.size⟩ hb)
end
section
variable {α : Type} {d : Kd α} {e base g k t : Nat} {ok : Nat → Prop} {W : World} {v : Value} {xs : List α} {cs : Array Value} {l : List Nat}
end
/-- Which operations of a region are done: n places, told by a number's bits. -/
def bA (n m : Nat) : Array Bool := ((List.range n).map fun i => m.testBit i).toArray
section
variable {α : Type} {d : Kd α} {e base g g' t : Nat} {ok : Nat → Prop} {W W1 : World} {v : Value} {xs : List α} {cs : Array Value} {fr : Nat × Nat}
end

section
variable {α β : Type} {A B r : Option α}
theorem bnd {o : Option β} {f : β → Option α} {r : α} (h : o.bind f = some r) : ∃ x, Aside0 (o = some x) ∧ f x = some r := (Option.bind_eq_some_iff.mp h).elim fun x h => ⟨x, ⟨h.1⟩, h.2⟩
theorem bnS {x : β} {f : β → Option α} (h : (some x).bind f = r) : f x = r := h
theorem ib {t : Bool} (h : (if t = true then A else B) = r) : (t = true ∧ A = r) ∨ (t = false ∧ B = r) := by cases t; exact .inr ⟨rfl, h⟩; exact .inl ⟨rfl, h⟩
section
variable {p : Prop} [Decidable p]
theorem iq (h : (if p then A else B) = r) : (p ∧ A = r) ∨ (¬ p ∧ B = r) := by
  by_cases c : p
  · exact .inl ⟨c, by rwa [if_pos c] at h⟩
  · exact .inr ⟨c, by rwa [if_neg c] at h⟩
theorem iqN {r : α} (h : (if p then A else none) = some r) : p ∧ A = some r := by
  obtain h | h := iq h
  · exact h
  · cases h.2
theorem ip (h : (if p then A else B) = r) : (decide p = true ∧ A = r) ∨ (decide p = false ∧ B = r) := (iq h).imp (fun h => ⟨decide_eq_true h.1, h.2⟩) (fun h => ⟨decide_eq_false h.1, h.2⟩)
theorem ipN {r : α} (h : (if p then A else none) = some r) : decide p = true ∧ A = some r := ⟨decide_eq_true (iqN h).1, (iqN h).2⟩
theorem ipE {r : α} (h : (if p then A else none) = some r) : p = True ∧ decide p = true ∧ A = some r := ⟨eq_true (iqN h).1, decide_eq_true (iqN h).1, (iqN h).2⟩
end
section
variable {a b : Int}
theorem ig (h : (if a > b then A else B) = r) : (decide (b < a) = true ∧ A = r) ∨ (decide (b < a) = false ∧ B = r) := ip h
theorem ih (h : (if a ≥ b then A else B) = r) : (decide (b ≤ a) = true ∧ A = r) ∨ (decide (b ≤ a) = false ∧ B = r) := ip h
end
section
variable {τ : Type} [BEq τ] [LawfulBEq τ] {a b : τ} [Decidable (a = b)]
theorem ie (h : (if a = b then A else B) = r) : ((a == b) = true ∧ (a != b) = false ∧ A = r) ∨ ((a == b) = false ∧ (a != b) = true ∧ B = r) := (iq h).imp (fun h => ⟨beq_iff_eq.mpr h.1, bne_eq_false_iff_eq.mpr h.1, h.2⟩) (fun h => ⟨beq_eq_false_iff_ne.mpr h.1, bne_iff_ne.mpr h.1, h.2⟩)
end
end
theorem lnT {a b : Nat} (h : ((a : Int) == (b : Int)) = true) : (a == b) = true := by have := beq_iff_eq.mp h; exact beq_iff_eq.mpr (by omega)
theorem lnF {a b : Nat} (h : ((a : Int) == (b : Int)) = false) : (a == b) = false := by have := beq_eq_false_iff_ne.mp h; exact beq_eq_false_iff_ne.mpr (by omega)
section
variable {α : Type} {d : Kd α} {e base n g t : Nat} {ok : Nat → Prop} {w W W' W2 : World} {v : Value} {xs : List α} {A : Option Addr} {o : Obj}
theorem ak {p : Prop} (h : p) : Aside0 p := ⟨h⟩
theorem cv (h : Aside0 (d.C w A n xs)) (hb : Aside0 (Below w.heap.size w W)) [Nonempty (Gr W W')] : d.C W' A n xs := cw h.out hb.out
theorem cd (h : Aside0 (d.C w A n xs)) [g : Nonempty (Gr w W')] : d.C W' A n xs := g.elim fun g => Kd.C_below h.out g
theorem b1 (h : Aside0 (W.heap[g]? = some o)) [Nonempty (Gr W W')] (hb : Below W'.heap.size W' W2) : Aside0 (W2.heap[g]? = some o) := ⟨blk_below (bk h.out) hb⟩
theorem b2 (h : Aside0 (Below w.heap.size w W)) [Nonempty (Gr W W')] (hb : Below W'.heap.size W' W2) : Aside0 (Below w.heap.size w W2) := ⟨below_step (bw h.out) hb⟩
theorem b2s (h : Below w.heap.size w W) (hb : Below W.heap.size W W2) : Aside0 (Below w.heap.size w W2) := ⟨below_step h hb⟩
theorem b3s (hg : g = W.heap.size) (h : Below w.heap.size w W) : Aside0 (w.heap.size ≤ g) := ⟨by rw [hg]; exact below_size h⟩
theorem b4 {g1 : Nat} (hg : g = W'.heap.size) (h : Aside0 (W.heap[g1]? = some o)) [Nonempty (Gr W W')] : Aside0 (g1 ≠ g) := ⟨by rw [hg]; exact Nat.ne_of_lt (blk_lt (bk h.out))⟩
theorem b5 {g1 : Nat} (hg : g = W'.heap.size) (h : Aside0 (W.heap[g1]? = some o)) [Nonempty (Gr W W')] : Aside0 (g ≠ g1) := ⟨by rw [hg]; exact Nat.ne_of_gt (blk_lt (bk h.out))⟩
end
/-- What was is still as it was: through stores into blocks that were made since. -/
theorem bs {p : Prop} (h : p := by repeat (first | (with_reducible refine below_set ?_ (Aside0.out (by with_reducible assumption))) | exact bw HB.out)) : p := h
theorem o1 {p : Prop} (h : p := by first | rfl | (simp [errW_none, errW_some] <;> rfl) | (simp [*, errW_none, errW_some] <;> rfl)) : p := h
theorem o2 {p : Prop} (h : p := by first | rfl | (simp; done) | (simp [*]; done)) : p := h
theorem od {p : Prop} (h : p := by repeat (first | exact Drawn0.refl _ | apply Drawn0.step)) : p := h
theorem kq {p : Prop} (h : p := by (repeat' apply And.intro) <;> first | (with_reducible assumption) | exact (blk_cell (Aside0.out (by with_reducible assumption)) _).trans rfl | exact pw_cell_below HB.out (by with_reducible assumption)) : p := h
theorem o3 {p : Prop} (h : p := by first | omega | exact Nat.le_refl _) : p := h
section
variable {P : Program} {ops : Array Oper} {rest : List Oper} {oi : Oper} {a : Act} {Q : Exit → Act → World → Prop}
/-- A call. -/
theorem glG {w : World} (N : Tmp) (hd : oi.dst = some N) {f : FuncId} {fn : Func} {zs : Array Operand} {ts : Array TypeId} (hop : oi.op = .call { callee := .value (.func f), args := zs, argTypes := ts }) (hf : P.funcs[f]? = some fn) {args : Array Value} {R : Ending → World → Prop} (hc : Calls P f args w R)
    (h : ∀ e w', R e w' → ∃ v, e = .returned v ∧ wpList P ops Q rest (a.put (some N) v) w') (hg : oi.guard = none := by rfl)
    (hname : (fn.name == "runtime.NumGoroutine") = false := by kernel_rfl) (hb : fn.body.isSome = true := by rfl)
    (hargs : zs.map a.eval = args := by (try simp only [List.map_toArray, List.map_cons, List.map_nil]); first | done | rfl | (simp only [List.length_drop, List.length_take]; rfl)) : wpList P ops Q (oi :: rest) a w :=
  goesL_ (some N) hd hg hf hname hb args hop hargs (hc.mono h)
theorem glD {w : World} (N : Tmp) (hd : oi.dst = some N) {f : FuncId} {fn : Func} {zs : Array Operand} {ts : Array TypeId} (hop : oi.op = .call { callee := .value (.func f), args := zs, argTypes := ts }) (hf : P.funcs[f]? = some fn) {args : Array Value} {v : Value} (hc : Calls P f args w fun e w' => e = .returned v ∧ Drawn0 w w')
    (h : ∀ nd, wpList P ops Q rest (a.put (some N) v) (w.drewN nd)) (hg : oi.guard = none := by rfl)
    (hname : (fn.name == "runtime.NumGoroutine") = false := by kernel_rfl) (hb : fn.body.isSome = true := by rfl)
    (hargs : zs.map a.eval = args := by (try simp only [List.map_toArray, List.map_cons, List.map_nil]); first | done | rfl | (simp only [List.length_drop, List.length_take]; rfl)) : wpList P ops Q (oi :: rest) a w :=
  goesL_ (some N) hd hg hf hname hb args hop hargs (hc.mono fun e w' h2 => ⟨v, h2.1, by obtain ⟨nd, rfl⟩ := h2.2; exact h nd⟩)
theorem glB {w : World} (N : Tmp) (hd : oi.dst = some N) {f : FuncId} {fn : Func} {zs : Array Operand} {ts : Array TypeId} (hop : oi.op = .call { callee := .value (.func f), args := zs, argTypes := ts }) (hf : P.funcs[f]? = some fn) {args : Array Value} {v : Value} (hc : Calls P f args w fun e w' => e = .returned v ∧ Below w.heap.size w w')
    (h : ∀ w', Below w.heap.size w w' → wpList P ops Q rest (a.put (some N) v) w') (hg : oi.guard = none := by rfl)
    (hname : (fn.name == "runtime.NumGoroutine") = false := by kernel_rfl) (hb : fn.body.isSome = true := by rfl)
    (hargs : zs.map a.eval = args := by (try simp only [List.map_toArray, List.map_cons, List.map_nil]); first | done | rfl | (simp only [List.length_drop, List.length_take]; rfl)) : wpList P ops Q (oi :: rest) a w :=
  goesL_ (some N) hd hg hf hname hb args hop hargs (hc.mono fun e w' h2 => ⟨v, h2.1, h w' h2.2⟩)
end
section
variable {P : Program} {ops : Array Oper} {oi : Oper} {Q : Exit → Act → World → Prop} {md : Region.Mode} {S : World → Prop} {ds : List Nat} {T : Bool × List (List Nat × List Nat)} {n m fuel : Nat} {a a' : Act} {w : World}
/-- Steps of a region: one that yields a value; one that is not wanted; a load; a call. -/
theorem pu (hT : Aside0 (rtab md ops = T)) (i : Nat) {N : Nat} {v : Value} (h : wpAnyLast P md ops Q S ds fuel (bA n (m + 2 ^ i)) a' w) (hi : ops[i]? = some oi := by rfl) (hN : oi.dst = some N := by rfl)
    (hc : anyT T (bA n m).toList (bA n (m + 2 ^ i)).toList i = true := by kernel_rfl) (hw : Region.wanted oi (yielded ops a.tmps) = true := by rfl)
    (hy : ∀ w, (execOp a.eval oi).run P w = .ok (.value v) w := by intro w'; go_simp; with_reducible rfl) (ha : a.put (some N) v = a' := by go_simp; rfl)
    (hQ : ∀ c a w, Q (.panic c) (a.put oi.dst v) w → Q (.panic c) a w := by exact fun _ _ _ h => h) : wpAnyLast P md ops Q S ds (fuel + 1) (bA n m) a w :=
  pure_ (i := i) _ hi hN (any_of hT.out hc) hQ (.inl ⟨hw, hy⟩) ha h
theorem ta {B : List Nat} (hT : Aside0 (rtab md ops = T)) (hB : Aside0 (waitsOk T.2 B = true)) (hS : S w) (i : Nat) {N : Nat} {v : Value} (h : wpAnyLast P md ops Q S ds fuel (bA n (m + 2 ^ i)) a' w) (hi : ops[i]? = some oi := by rfl) (hN : oi.dst = some N := by rfl)
    (hc : takeW T B ds (bA n m).toList (bA n (m + 2 ^ i)).toList i = true := by kernel_rfl) (hw : Region.wanted oi (yielded ops a.tmps) = true := by rfl)
    (hy : ∀ w, S w → (execOp a.eval oi).run P w = .ok (.value v) w := by intro w' hS; (repeat (obtain ⟨_, hS⟩ := hS)); go_simp; with_reducible rfl) (ha : a.put (some N) v = a' := by go_simp; rfl)
    (hQ : ∀ c a w, Q (.panic c) (a.put oi.dst v) w → Q (.panic c) a w := by exact fun _ _ _ h => h) : wpAnyLast P md ops Q S ds (fuel + 1) (bA n m) a w :=
  take_ (i := i) _ hi hN (take_ofW hT.out hB.out hc) hQ (.inl ⟨hw, hy⟩) hS ha h
theorem on (hT : Aside0 (rtab md ops = T)) (i : Nat) {N : Option Tmp}
    (h : ∀ K : Act → World → Prop, Shut (∀ a' w', S w' → (S w' → wpAnyLast P md ops Q S ds fuel (bA n (m + 2 ^ i)) a' w') → K a' w') → if Region.wanted oi (yielded ops a.tmps) = true then Oper.wp P oi a w K Q else K (a.put N undef) w)
    (hi : ops[i]? = some oi := by rfl) (hN : oi.dst = N := by rfl) (hc : (readyT T.2 (bA n m).toList == [i] && (bA n m).toList.set i true == (bA n (m + 2 ^ i)).toList) = true := by kernel_rfl) (hd : i ∉ ds := by decide) : wpAnyLast P md ops Q S ds (fuel + 1) (bA n m) a w :=
  one_ (i := i) _ hi hN (one_of hT.out hc) hd h
end
section
variable {P : Program} {ops : Array Oper} {rest : List Oper} {o : Oper} {a : Act} {Q : Exit → Act → World → Prop}
/-- A struct's variable is made. -/
theorem bxe {W : World} {N : Tmp} (hd : o.dst = some N) {cs : Array Value} {t : TypeId}
    (h : ∀ g, g = W.heap.size → ∀ w1, w1.heap[g]? = some (.cells cs t (0, 0)) → Below W.heap.size W w1 → wpList P ops Q rest (a.put o.dst (.pointer (some ⟨g, 0, none⟩))) w1) (hgd : o.guard = none := by rfl)
    (hrun : (execOp a.eval o).run P W = .ok (.value (.pointer (some ⟨W.heap.size, 0, none⟩))) (W.alloc (.cells cs t (0, 0))) := by first | (go_simp; done) | (go_simp; rfl)) : wpList P ops Q (o :: rest) a W := box_event hgd hd hrun h
theorem bxd {w W0 W : World} {N : Tmp} (hd : o.dst = some N) {cs : Array Value} {t : TypeId} (hB : Aside0 (Below w.heap.size w W0)) [gr : Nonempty (Gr W0 W)]
    (h : ∀ g, ∀ w1, g = W.heap.size → Aside0 (Below w.heap.size w w1) → Aside0 (w1.heap[g]? = some (.cells cs t (0, 0))) → Aside0 (w.heap.size ≤ g) → Below W.heap.size W w1 → wpList P ops Q rest (a.put o.dst (.pointer (some ⟨g, 0, none⟩))) w1) (hgd : o.guard = none := by rfl)
    (hrun : (execOp a.eval o).run P W = .ok (.value (.pointer (some ⟨W.heap.size, 0, none⟩))) (W.alloc (.cells cs t (0, 0))) := by first | (go_simp; done) | (go_simp; rfl)) : wpList P ops Q (o :: rest) a W := boxed hd hgd hB.out hrun h
end
theorem el_int {k : IntKind} {xs : List Int} {w W : World} {A : Option Addr} {n : Nat} (h : Aside0 (Kd.C (Kd.int k) w A n xs)) (hb : Aside0 (Below w.heap.size w W)) (i : Int) (h0 : decide (0 ≤ i) = true := by first | (with_reducible assumption) | assumption) (h1 : decide (i < n) = true := by first | (with_reducible assumption) | assumption) : ∃ ad, A = some ad ∧ W.cell? (ad.add i.toNat) = some (.int k (rd xs i)) ∧ (0 ≤ i) = True ∧ (i < n) = True := by
  obtain ⟨ad, e, x0⟩ := Kd.at_int h.out i (of_decide_eq_true h0) (of_decide_eq_true h1)
  exact ⟨ad, e, pw_cell_below hb.out x0, eq_true (of_decide_eq_true h0), eq_true (of_decide_eq_true h1)⟩
theorem elw_int {k : IntKind} {xs : List Int} {w W : World} {A : Option Addr} {n : Nat} (h : Aside0 (Kd.C (Kd.int k) w A n xs)) (hb : Aside0 (Below w.heap.size w W)) (i : Int) (h0 : decide (0 ≤ i) = true := by first | (with_reducible assumption) | assumption) (h1 : decide (i < n) = true := by first | (with_reducible assumption) | assumption) : ∃ ad, A = some ad ∧ w.cell? (ad.add i.toNat) = some (.int k (rd xs i)) ∧ W.cell? (ad.add i.toNat) = some (.int k (rd xs i)) ∧ (0 ≤ i) = True ∧ (i < n) = True := by
  obtain ⟨ad, e, x0⟩ := Kd.at_int h.out i (of_decide_eq_true h0) (of_decide_eq_true h1)
  exact ⟨ad, e, x0, pw_cell_below hb.out x0, eq_true (of_decide_eq_true h0), eq_true (of_decide_eq_true h1)⟩
theorem el0_int {k : IntKind} {xs : List Int} {w : World} {A : Option Addr} {n : Nat} (h : Aside0 (Kd.C (Kd.int k) w A n xs)) (i : Int) (h0 : decide (0 ≤ i) = true := by first | (with_reducible assumption) | assumption) (h1 : decide (i < n) = true := by first | (with_reducible assumption) | assumption) : ∃ ad, A = some ad ∧ w.cell? (ad.add i.toNat) = some (.int k (rd xs i)) ∧ (0 ≤ i) = True ∧ (i < n) = True := by
  obtain ⟨ad, e, x0⟩ := Kd.at_int h.out i (of_decide_eq_true h0) (of_decide_eq_true h1)
  exact ⟨ad, e, x0, eq_true (of_decide_eq_true h0), eq_true (of_decide_eq_true h1)⟩
theorem el2w_int {k : IntKind} {xs : List Int} {w W : World} {ad : Addr} {n : Nat} (h : Aside0 (Kd.C (Kd.int k) w (some ad) n xs)) (hb : Aside0 (Below w.heap.size w W)) (i : Int) (h0 : decide (0 ≤ i) = true := by first | (with_reducible assumption) | assumption) (h1 : decide (i < n) = true := by first | (with_reducible assumption) | assumption) : w.cell? (ad.add i.toNat) = some (.int k (rd xs i)) ∧ W.cell? (ad.add i.toNat) = some (.int k (rd xs i)) ∧ (0 ≤ i) = True ∧ (i < n) = True := by
  obtain ⟨ad', e, x0⟩ := Kd.at_int h.out i (of_decide_eq_true h0) (of_decide_eq_true h1)
  obtain rfl := Option.some.inj e
  exact ⟨x0, pw_cell_below hb.out x0, eq_true (of_decide_eq_true h0), eq_true (of_decide_eq_true h1)⟩
theorem el20_int {k : IntKind} {xs : List Int} {w : World} {ad : Addr} {n : Nat} (h : Aside0 (Kd.C (Kd.int k) w (some ad) n xs)) (i : Int) (h0 : decide (0 ≤ i) = true := by first | (with_reducible assumption) | assumption) (h1 : decide (i < n) = true := by first | (with_reducible assumption) | assumption) : w.cell? (ad.add i.toNat) = some (.int k (rd xs i)) ∧ (0 ≤ i) = True ∧ (i < n) = True := by
  obtain ⟨ad', e, x0⟩ := Kd.at_int h.out i (of_decide_eq_true h0) (of_decide_eq_true h1)
  obtain rfl := Option.some.inj e
  exact ⟨x0, eq_true (of_decide_eq_true h0), eq_true (of_decide_eq_true h1)⟩
theorem el_L10 {xs : List (List Int)} {w W : World} {A : Option Addr} {n : Nat} (h : Aside0 (Kd.C (Kd.slice 5 (Kd.int .u8)) w A n xs)) (hb : Aside0 (Below w.heap.size w W)) (i : Int) (h0 : decide (0 ≤ i) = true := by first | (with_reducible assumption) | assumption) (h1 : decide (i < n) = true := by first | (with_reducible assumption) | assumption) : ∃ ad A0 c0, A = some ad ∧ W.cell? (ad.add i.toNat) = some (.slice A0 (rd_L10 xs i).length c0) ∧ Aside0 ((rd_L10 xs i).length ≤ c0) ∧ Aside0 ((Kd.int .u8).C w A0 (rd_L10 xs i).length (rd_L10 xs i)) ∧ (0 ≤ i) = True ∧ (i < n) = True := by
  obtain ⟨ad, A0, c0, e, x0, y0, y1⟩ := at_L10 h.out i (of_decide_eq_true h0) (of_decide_eq_true h1)
  exact ⟨ad, A0, c0, e, pw_cell_below hb.out x0, ⟨y0⟩, ⟨y1⟩, eq_true (of_decide_eq_true h0), eq_true (of_decide_eq_true h1)⟩
theorem el0_L10 {xs : List (List Int)} {w : World} {A : Option Addr} {n : Nat} (h : Aside0 (Kd.C (Kd.slice 5 (Kd.int .u8)) w A n xs)) (i : Int) (h0 : decide (0 ≤ i) = true := by first | (with_reducible assumption) | assumption) (h1 : decide (i < n) = true := by first | (with_reducible assumption) | assumption) : ∃ ad A0 c0, A = some ad ∧ w.cell? (ad.add i.toNat) = some (.slice A0 (rd_L10 xs i).length c0) ∧ Aside0 ((rd_L10 xs i).length ≤ c0) ∧ Aside0 ((Kd.int .u8).C w A0 (rd_L10 xs i).length (rd_L10 xs i)) ∧ (0 ≤ i) = True ∧ (i < n) = True := by
  obtain ⟨ad, A0, c0, e, x0, y0, y1⟩ := at_L10 h.out i (of_decide_eq_true h0) (of_decide_eq_true h1)
  exact ⟨ad, A0, c0, e, x0, ⟨y0⟩, ⟨y1⟩, eq_true (of_decide_eq_true h0), eq_true (of_decide_eq_true h1)⟩

/-- A cell is as it was, or bears a number where a number of its kind was. -/
def Rel (u v : Value) : Prop := v = u ∨ ∃ k x y, u = .int k x ∧ v = .int k y
theorem Rel.refl (u : Value) : Rel u u := .inl rfl
theorem Rel.trans {u v x : Value} (h : Rel u v) (k : Rel v x) : Rel u x := by
  rcases h with rfl | ⟨a, b, c, rfl, rfl⟩
  · exact k
  · rcases k with rfl | ⟨a', b', c', e, rfl⟩
    · exact .inr ⟨a, b, c, rfl, rfl⟩
    · injection e with e1 e2; subst e1; exact .inr ⟨a, b, c', rfl, rfl⟩
theorem Rel.slice {a : Option Addr} {n c : Nat} {v : Value} (h : Rel (.slice a n c) v) : v = .slice a n c := by
  rcases h with h | ⟨_, _, _, h, _⟩
  · exact h
  · cases h
theorem Rel.int {k : IntKind} {x : Int} {v : Value} (h : Rel (.int k x) v) : ∃ y, v = .int k y := by
  rcases h with h | ⟨a, b, c, h, h2⟩
  · exact ⟨x, h⟩
  · injection h with h1 h3; subst h1; exact ⟨c, h2⟩
/-- So for cells in line. -/
def RelL (cs cs' : List Value) : Prop := cs'.length = cs.length ∧ ∀ (j : Nat) u v, cs[j]? = some u → cs'[j]? = some v → Rel u v
theorem RelL.refl (cs : List Value) : RelL cs cs := ⟨rfl, fun j u v h k => by rw [h] at k; injection k with k; subst k; exact Rel.refl _⟩
theorem RelL.trans {a b c : List Value} (h : RelL a b) (k : RelL b c) : RelL a c := ⟨k.1.trans h.1, fun j u v hu hv => by
  have hj := (List.getElem?_eq_some_iff.1 hu).1
  have hb : b[j]? = some (b[j]'(by rw [h.1]; exact hj)) := List.getElem?_eq_getElem _
  exact (h.2 j u _ hu hb).trans (k.2 j _ v hb hv)⟩
theorem RelL.take {a b : List Value} (h : RelL a b) (n : Nat) : RelL (a.take n) (b.take n) := ⟨by simp [h.1], fun j u v hu hv => by
  rw [List.getElem?_take] at hu hv
  split at hu
  · rename_i hlt; rw [if_pos hlt] at hv; exact h.2 j u v hu hv
  · cases hu⟩
theorem RelL.drop {a b : List Value} (h : RelL a b) (n : Nat) : RelL (a.drop n) (b.drop n) := ⟨by simp [h.1], fun j u v hu hv => by
  rw [List.getElem?_drop] at hu hv
  exact h.2 _ u v hu hv⟩
theorem RelL.one {u : Value} {b : List Value} (h : RelL [u] b) : ∃ v, b = [v] ∧ Rel u v := by
  obtain ⟨h1, h2⟩ := h
  match b, h1 with
  | [v], _ => exact ⟨v, rfl, h2 0 u v rfl rfl⟩
/-- The one world is the other, but that numbers in blocks of P may be written over. -/
structure Mark (P : Nat → Prop) (w w' : World) : Prop where
  os : w'.os = w.os
  tape : w'.tape = w.tape
  output : w'.output = w.output
  size : w.heap.size ≤ w'.heap.size
  out : ∀ k : Nat, k < w.heap.size → ¬ P k → w'.heap[k]? = w.heap[k]?
  cells : ∀ (k : Nat) (cs : Array Value) (t : TypeId) (fr : Nat × Nat), w.heap[k]? = some (Obj.cells cs t fr) → ∃ cs' : Array Value, w'.heap[k]? = some (Obj.cells cs' t fr) ∧ RelL cs.toList cs'.toList
section
variable {P P' : Nat → Prop} {w w' w2 : World} {base : Nat}
theorem Mark.refl (P : Nat → Prop) (w : World) : Mark P w w := ⟨rfl, rfl, rfl, Nat.le_refl _, fun _ _ _ => rfl, fun _ cs _ _ h => ⟨cs, h, RelL.refl _⟩⟩
theorem Mark.trans (h : Mark P w w') (k : Mark P w' w2) : Mark P w w2 := ⟨k.os.trans h.os, k.tape.trans h.tape, k.output.trans h.output, Nat.le_trans h.size k.size, fun i hl hi => (k.out i (Nat.lt_of_lt_of_le hl h.size) hi).trans (h.out i hl hi), fun i cs t fr hc => by
  obtain ⟨cs1, h1, r1⟩ := h.cells i cs t fr hc
  obtain ⟨cs2, h2, r2⟩ := k.cells i cs1 t fr h1
  exact ⟨cs2, h2, r1.trans r2⟩⟩
theorem Mark.mono (h : Mark P w w') (hp : ∀ k, P k → P' k) : Mark P' w w' := ⟨h.os, h.tape, h.output, h.size, fun i hl hi => h.out i hl (fun hk => hi (hp i hk)), h.cells⟩
theorem Mark.of_below (h : Below w.heap.size w w') : Mark P w w' := ⟨h.os, h.tape, h.output, h.size, fun k hk _ => h.block k hk, fun k cs t fr hc => ⟨cs, (h.block k (blk_lt hc)).trans hc, RelL.refl _⟩⟩
theorem Mark.below (h : Mark P w w') (hb : base ≤ w.heap.size) (hp : ∀ k, P k → base ≤ k) : Below base w w' := ⟨h.os, h.tape, h.output, h.size, fun k hk => h.out k (by omega) (fun hp2 => by have := hp k hp2; omega)⟩
theorem Mark.set {g i : Nat} {cs : Array Value} {t : TypeId} {k : IntKind} {x y : Int} (hb : w.heap[g]? = some (.cells cs t (0, 0))) (hi : cs[i]? = some (.int k x)) (hg : P g) : Mark P w (w.setCell ⟨g, i, none⟩ (.int k y)) := by
  refine ⟨rfl, rfl, rfl, by simp [World.setCell], fun j _ hj => Below.heap_setCell w _ _ j (fun e => hj (by rw [e]; exact hg)), fun j cs2 t2 fr2 h2 => ?_⟩
  by_cases hjg : j = g
  · subst hjg
    rw [hb] at h2
    injection h2 with h2
    injection h2 with e1 e2 e3
    subst e1; subst e2; subst e3
    refine ⟨cs.setIfInBounds i (.int k y), blk_set hb i _, by simp, fun q u v hu hv => ?_⟩
    rw [Array.getElem?_toList] at hu hv
    rw [Array.getElem?_setIfInBounds] at hv
    split at hv
    · rename_i e
      subst e
      split at hv
      · injection hv with hv
        rw [hi] at hu
        injection hu with hu
        subst hu; subst hv
        exact .inr ⟨k, x, y, rfl, rfl⟩
      · cases hv
    · rw [hu] at hv; injection hv with hv; subst hv; exact Rel.refl _
  · exact ⟨cs2, (Below.heap_setCell w ⟨g, i, none⟩ (.int k y) j hjg).trans h2, RelL.refl _⟩
end
/-- Values of a kind keep their shape (sh) where numbers are written over numbers. -/
def Stab {α : Type} (d : Kd α) (sh : α → α → Prop) : Prop := ∀ {P : Nat → Prop} {w w' : World} {base : Nat} {ok : Nat → Prop} {x : α} {cs cs' : List Value}, Mark P w w' → RelL cs cs' → d.M w base ok x cs → ∃ x', sh x x' ∧ d.M w' base ok x' cs'
/-- Lists of one length whose elements are of one shape. -/
def ShL {α : Type} (sh : α → α → Prop) (xs ys : List α) : Prop := ys.length = xs.length ∧ ∀ (j : Nat) x y, xs[j]? = some x → ys[j]? = some y → sh x y
theorem stab_int (k : IntKind) : Stab (Kd.int k) (fun _ _ => True) := by
  intro P w w' base ok x cs cs' hm hr h
  have h : cs = [.int k x] := h
  subst h
  obtain ⟨v, rfl, hv⟩ := hr.one
  obtain ⟨y, rfl⟩ := hv.int
  exact ⟨y, trivial, rfl⟩
theorem list_of {α : Type} {Q : Nat → α → Prop} : ∀ n, (∀ j, j < n → ∃ x, Q j x) → ∃ l : List α, l.length = n ∧ ∀ (j : Nat) x, l[j]? = some x → Q j x
  | 0, _ => ⟨[], rfl, fun j x h => by simp at h⟩
  | n + 1, h => by
    obtain ⟨l, hl, hq⟩ := list_of n (fun j hj => h j (by omega))
    obtain ⟨x, hx⟩ := h n (by omega)
    refine ⟨l ++ [x], by simp [hl], fun j y hy => ?_⟩
    by_cases hj : j < n
    · rw [List.getElem?_append_left (by omega)] at hy; exact hq j y hy
    · have hjl := (List.getElem?_eq_some_iff.1 hy).1
      simp at hjl
      have : j = n := by omega
      subst this
      rw [List.getElem?_append_right (by omega)] at hy
      simp [hl] at hy
      subst hy; exact hx
theorem stab_R {α : Type} {d : Kd α} {sh : α → α → Prop} (hs : Stab d sh) {P : Nat → Prop} {w w' : World} {e base : Nat} {ok : Nat → Prop} {v : Value} {xs : List α} (hm : Mark P w w') (h : d.R e w base ok v xs) : ∃ ys, ShL sh xs ys ∧ d.R e w' base ok v ys := by
  obtain ⟨h0, inner, ⟨hil, ho⟩, hrl, hr⟩ := h
  rcases ho with ⟨rfl, hn⟩ | ⟨g, cap, cur, rfl, hb, hg, hcap, hmax, hsz, htk⟩
  · have := List.eq_nil_of_length_eq_zero hn
    subst this
    exact ⟨[], ⟨rfl, fun j x y hx => by simp at hx⟩, Kd.R_nil _ _ _ _ _⟩
  · obtain ⟨cur', hg', hrel⟩ := hm.cells g cur e (0, 0) hg
    have hinn : RelL inner (cur'.toList.take (xs.length * d.sz)) := by rw [← htk]; exact hrel.take _
    obtain ⟨ys, hyl, hy⟩ := list_of (Q := fun j y => ∀ x, xs[j]? = some x → sh x y ∧ d.M w' base (fun k => ok k ∧ some k ≠ (Value.slice (some ⟨g, 0, none⟩) xs.length cap).ownBlock) y (((cur'.toList.take (xs.length * d.sz)).drop (j * d.sz)).take d.sz)) xs.length (fun j hj => by
      have hx : xs[j]? = some xs[j] := List.getElem?_eq_getElem hj
      obtain ⟨y, h1, h2⟩ := hs hm ((hinn.drop (j * d.sz)).take d.sz) (hr j _ hx)
      exact ⟨y, fun x hx2 => by rw [hx] at hx2; injection hx2 with hx2; subst hx2; exact ⟨h1, h2⟩⟩)
    refine ⟨ys, ⟨hyl, fun j x y hx hyj => (hy j y hyj x hx).1⟩, ?_⟩
    have hlen : (cur'.toList.take (xs.length * d.sz)).length = xs.length * d.sz := by rw [hinn.1]; exact hil
    rw [← hyl] at h0 hcap hlen ⊢
    refine ⟨h0, cur'.toList.take (ys.length * d.sz), ⟨hlen, .inr ⟨g, cap, cur', rfl, hb, hg', hcap, hmax, ?_, rfl⟩⟩, hlen, fun j y hyj => ?_⟩
    · have := hrel.1; simp at this; rw [this]; exact hsz
    · have hjl := (List.getElem?_eq_some_iff.1 hyj).1
      have := (hy j y hyj _ (List.getElem?_eq_getElem (by rw [← hyl]; exact hjl))).2
      rw [← hyl] at this
      exact this
theorem stab_slice {α : Type} {d : Kd α} {sh : α → α → Prop} (e : Nat) (hs : Stab d sh) : Stab (Kd.slice e d) (ShL sh) := by
  intro P w w' base ok x cs cs' hm hr h
  obtain ⟨v, rfl, hR⟩ := h
  obtain ⟨v', rfl, hv⟩ := hr.one
  obtain ⟨A, c, rfl, _⟩ := Kd.R_reads hR
  rw [hv.slice]
  obtain ⟨ys, h1, h2⟩ := stab_R hs hm hR
  exact ⟨ys, h1, _, rfl, h2⟩
theorem stab_tag {α : Type} {d : Kd α} {sh : α → α → Prop} (f : Nat → Nat) (h : Stab d sh) : Stab (Kd.tag f d) (fun x y => sh x.1 y.1 ∧ y.2 = x.2) := by
  intro P w w' base ok x cs cs' hm hr hx
  obtain ⟨y, s, m⟩ := h hm hr hx
  exact ⟨(y, x.2), ⟨s, rfl⟩, m⟩
theorem stab_S {α : Type} {d : Kd α} {sh : α → α → Prop} (hs : Stab d sh) {P : Nat → Prop} {w w' : World} {e base : Nat} {ok : Nat → Prop} {v : Value} {xs : List α} (hm : Mark P w w') (h : d.S e w base ok v xs) : ∃ ys, ShL sh xs ys ∧ d.S e w' base ok v ys := by
  obtain ⟨f, hR⟩ := h
  obtain ⟨zs, ⟨hl, hz⟩, hR2⟩ := stab_R (stab_tag f hs) hm hR
  have e : zs = (zs.map Prod.fst).zipIdx := by
    apply List.ext_getElem
    · simp
    · intro j h1 h2
      have hj : j < xs.zipIdx.length := by rw [← hl]; exact h1
      have := (hz j _ _ (List.getElem?_eq_getElem hj) (List.getElem?_eq_getElem h1)).2
      simp at this ⊢
      exact Prod.ext rfl this
  refine ⟨zs.map Prod.fst, ⟨by simpa using hl, fun j x y hx hy => ?_⟩, f, by rw [← e]; exact hR2⟩
  rw [List.getElem?_map] at hy
  obtain ⟨z, hzj, rfl⟩ := Option.map_eq_some_iff.1 hy
  exact (hz j (x, j) z (Kd.zip_at hx) hzj).1
/-- An element of a row whose elements lie apart: its cells, what it leads to (in P), and the row anew where nothing but that is marked. -/
theorem S_at {α : Type} {d : Kd α} {e base : Nat} {ok : Nat → Prop} {w : World} {v : Value} {xs : List α} (h : d.S e w base ok v xs) (i : Nat) (hi : i < xs.length) :
    ∃ (P : Nat → Prop) (c : List Value) (g cap : Nat), (∀ k, P k → ok k) ∧ v = .slice (some ⟨g, 0, none⟩) xs.length cap ∧ d.M w base P (xs[i]) c ∧ (∀ j u, c[j]? = some u → w.cell? ⟨g, i * d.sz + j, none⟩ = some u) ∧ ∀ (w' : World) (y : α), Mark P w w' → d.M w' base P y c → d.S e w' base ok v (xs.set i y) := by
  obtain ⟨f, h0, inner, ⟨hil, ho⟩, hrl, hr⟩ := h
  rw [List.length_zipIdx] at hil ho hrl
  rcases ho with ⟨rfl, hn⟩ | ⟨g, cap, cur, rfl, hb, hg, hcap, hmax, hsz, htk⟩
  · omega
  · have hM := hr i (xs[i], i) (Kd.zip_at (List.getElem?_eq_getElem hi))
    refine ⟨_, _, g, cap, fun k hk => hk.1.1, rfl, hM, fun j u hu => ?_, fun w' y hm hy => ⟨f, h0, inner, ?_, ?_, fun j p hp => ?_⟩⟩
    · rw [cell_of_row w g _ cur e (0, 0) hg]
      rw [List.getElem?_take] at hu
      split at hu
      · rename_i hj
        rw [List.getElem?_drop, ← htk, List.getElem?_take] at hu
        split at hu
        · have hu2 : cur[i * d.sz + j]? = some u := by have := hu; simp only [Array.getElem?_toList] at this; exact this
          exact hu2
        · cases hu
      · cases hu
    · refine ⟨by rw [List.length_zipIdx, List.length_set]; exact hil, .inr ⟨g, cap, cur, by rw [List.length_zipIdx, List.length_set], hb, ?_, by rw [List.length_zipIdx, List.length_set]; exact hcap, hmax, hsz, by rw [List.length_zipIdx, List.length_set]; exact htk⟩⟩
      rw [hm.out g (blk_lt hg) (fun hk => hk.1.2 rfl)]; exact hg
    · rw [List.length_zipIdx, List.length_set]; exact hrl
    · rw [List.getElem?_zipIdx, Nat.zero_add] at hp
      by_cases hj : j = i
      · subst hj
        rw [List.getElem?_set_self hi] at hp
        injection hp with hp
        subst hp
        exact hy
      · rw [List.getElem?_set_ne (fun e => hj e.symm)] at hp
        have h2 := hr j p (by rw [List.getElem?_zipIdx, Nat.zero_add]; exact hp)
        obtain ⟨x, hx, rfl⟩ := Option.map_eq_some_iff.1 hp
        have h3 : d.M w base (fun k => (ok k ∧ some k ≠ (Value.slice (some ⟨g, 0, none⟩) xs.length cap).ownBlock) ∧ f k = j) x ((inner.drop (j * d.sz)).take d.sz) := h2
        have h4 := Kd.M_step (w1 := w') h3 (fun k hk hl => hm.out k hl (fun hk2 => hj (hk.2.symm.trans hk2.2)))
        exact h4
/-- What was made while memory grew from one size to another. -/
def Btw (a b : Nat) : Nat → Prop := fun k => a ≤ k ∧ k < b
section
variable {α : Type} {d : Kd α} {e base a b a' b' g : Nat} {ok P : Nat → Prop} {w w' : World} {v : Value} {xs : List α} {o : Obj}
theorem R_btw (h : d.R e w base ok v xs) : d.R e w base (Btw base w.heap.size) v xs := Kd.R_mono (Kd.R_bound h) (fun k hk => ⟨hk.2.1, hk.2.2.1⟩)
theorem S_btw (h : d.S e w base ok v xs) : d.S e w base (Btw base w.heap.size) v xs := Kd.S_mono (Kd.S_bound h) (fun k hk => ⟨hk.2.1, hk.2.2.1⟩)
theorem Mark.below0 {w0 : World} (hm : Mark (Btw a b) w w') (hb : Below base w0 w) (hs : base ≤ w.heap.size) (ha : base ≤ a) : Below base w0 w' := hb.trans (hm.below hs (fun k hk => Nat.le_trans ha hk.1))
end
/-! ### laws_markByteSS: function 43 -/

/-- What is written over n bytes, numbers from k on. -/
def laws_markByteSS.mk (k : Int) (n : Nat) : List Int := (List.range n).map fun (j : Nat) => (k + (j : Int)) % 256
theorem laws_markByteSS.mk_len (k : Int) (n : Nat) : (laws_markByteSS.mk k n).length = n := by simp [laws_markByteSS.mk]
theorem laws_markByteSS.mk_set (k : Int) (l : List Int) (i : Nat) (h : i < l.length) : (laws_markByteSS.mk k i ++ l.drop i).set i ((k + i) % 256) = laws_markByteSS.mk k (i + 1) ++ l.drop (i + 1) := by
 rw [List.set_append_right _ _ (by rw [laws_markByteSS.mk_len]; omega), laws_markByteSS.mk_len, Nat.sub_self, List.drop_eq_getElem_cons h, List.set_cons_zero]
 unfold laws_markByteSS.mk
 rw [List.range_succ, List.map_append, List.append_assoc]
 rfl
set_option maxHeartbeats 8000000 in
set_option maxRecDepth 100000 in
/-- markByteS: numbers are written over the bytes of an own row. -/
theorem laws_markByteSS.bytes (P : Nat → Prop) (u : Value) (l : List Int) (k0 : Int) (base : Nat) (w : World) (h : Kd.R (Kd.int .u8) 5 w base P u l) (h0 : 0 ≤ k0) (h1 : k0 + l.length ≤ 4611686018427387904) :
  Calls Tryd.prog 11 #[u, .int .i64 k0] w fun e w' => e = .returned (.int .i64 (k0 + l.length)) ∧ Mark P w w' ∧ Kd.R (Kd.int .u8) 5 w' base P u (laws_markByteSS.mk k0 l.length) := by
 have HO := Aside0.mk h
 clear h
 go_enter Tryd.func11, Tryd.ntmps11
 go_wp2
 go_loopg [1, 5] l.length (fun kq v1 v5 w' => ∃ i : Nat, i ≤ l.length ∧ l.length - i ≤ kq ∧ v1 = .int .i64 (k0 + i) ∧ v5 = .int .i64 i ∧ Aside0 (Kd.R (Kd.int .u8) 5 w' base P u (laws_markByteSS.mk k0 i ++ l.drop i)) ∧ Aside0 (Mark P w w'))
 case atStart => exact ⟨0, Nat.zero_le _, by omega, by simp, rfl, ⟨by simpa [laws_markByteSS.mk] using HO.out⟩, ⟨Mark.refl _ _⟩⟩
 case round =>
  clear HO
  obtain ⟨i, hi, hg, rfl, rfl, HO, HM⟩ := hrel
  have hlen : (laws_markByteSS.mk k0 i ++ l.drop i).length = l.length := by rw [List.length_append, laws_markByteSS.mk_len, List.length_drop]; omega
  by_cases hlt : i < l.length
  ·have hset := Aside0.mk (laws_markByteSS.mk_set k0 l i hlt)
   generalize laws_markByteSS.mk k0 i ++ l.drop i = xs at HO hlen hset
   obtain ⟨Ao6, co6, eo6⟩ := Kd.R_slice HO.out
   subst eo6
   have p5 : 0 ≤ (i : Int) := by omega
   have q5 : (i : Int) < ((xs.length : Int) : Int) := by omega
   obtain ⟨go5, co5, eo5, gb5, gl5, cl5, HG5⟩ := Kd.R_form HO.out (by omega)
   (first | cases eo5 | (injection eo5 with ea_ en_ ec_; (first | subst ea_ | (injection ea_ with ea_; subst ea_)); subst ec_; clear en_))
   have GG5 := Aside0.mk HG5
   clear gb5 gl5 HG5
   obtain ⟨hx5, hf5⟩ := Kd.R_celln 0 HO.out (i : Int) p5 q5
   have hti : ((i : Int)).toNat = i := by omega
   have HP7 := Aside0.mk (Kd.R_putg HO.out (i : Int) ((k0 + i) % 256))
   rw [hti] at hx5 hf5 HP7
   have HC := Aside0.mk ((blk_cell GG5.out i).symm.trans hx5)
   clear hti hlen
   have HPo := Aside0.mk (HO.out.1 go5 rfl)
   go_wp2_with (first | ((with_reducible refine gate_store (t := 5) (p := 16) rfl ?_); refine store_event (t := 5) (p := 16) (v := ?vo_w8) (w1 := (wr.setCell ⟨go5, i, none⟩ (.int .u8 ((k0 + i) % 256)))) ?hg ?ho ?hn ?hr ?_; (case ho => rfl); (case hg => rfl); (case hn => rfl); (case hr => first | (go_simp; done) | (go_simp; rfl)); intro w8 hw; replace HO : Aside0 (Kd.R (Kd.int .u8) 5 w8 base P (.slice (some ⟨go5, 0, none⟩) xs.length co6) (laws_markByteSS.mk k0 (i + 1) ++ l.drop (i + 1))) := ⟨by rw [hw, ← hset.out]; exact HP7.out.1⟩; replace HM : Aside0 (Mark P w w8) := ⟨by rw [hw]; exact HM.out.trans (Mark.set GG5.out HC.out HPo.out)⟩; clear HP7 hw))
   go_roundg (l.length - (i + 1))
   case measure => omega
   case rel => exact ⟨i + 1, by omega, by omega, by go_num, by go_num, HO, HM⟩
  ·have : i = l.length := by omega
   subst this
   rw [List.drop_of_length_le (Nat.le_refl _), List.append_nil] at HO hlen
   obtain ⟨xs, hxs⟩ : ∃ xs, laws_markByteSS.mk k0 l.length = xs := ⟨_, rfl⟩
   rw [hxs] at HO hlen
   have HX := Aside0.mk hxs
   clear hxs
   obtain ⟨Ao9, co9, eo9⟩ := Kd.R_slice HO.out
   subst eo9
   have hlz : ¬ (l.length : Int) < (xs.length : Int) := by omega
   clear hlen
   go_wp2
   go_ret
   exact ⟨rfl, HM.out, by rw [HX.out]; exact HO.out⟩
def laws_markByteSS.all (k : Int) : List (List Int) → List (List Int)
 | [] => []
 | x :: l => laws_markByteSS.mk k x.length :: laws_markByteSS.all (k + x.length) l
def laws_markByteSS.sum (l : List (List Int)) : Nat := (l.map List.length).sum
theorem laws_markByteSS.all_len (l : List (List Int)) : ∀ k, (laws_markByteSS.all k l).length = l.length := by
 induction l with
 | nil => intro k; rfl
 | cons x l ih => intro k; simp [laws_markByteSS.all, ih]
theorem laws_markByteSS.all_snoc (l : List (List Int)) (x : List Int) : ∀ k, laws_markByteSS.all k (l ++ [x]) = laws_markByteSS.all k l ++ [laws_markByteSS.mk (k + (laws_markByteSS.sum l : Int)) x.length] := by
 induction l with
 | nil => intro k; simp [laws_markByteSS.all, laws_markByteSS.sum]
 | cons y l ih =>
  intro k
  simp only [List.cons_append, laws_markByteSS.all, ih, laws_markByteSS.sum, List.map_cons, List.sum_cons]
  rw [show k + (y.length : Int) + ((l.map List.length).sum : Nat) = k + ((y.length + (l.map List.length).sum : Nat) : Int) by omega]
theorem laws_markByteSS.sum_snoc (l : List (List Int)) (x : List Int) : laws_markByteSS.sum (l ++ [x]) = laws_markByteSS.sum l + x.length := by simp [laws_markByteSS.sum]
theorem laws_markByteSS.sum_take (l : List (List Int)) (k : Nat) : laws_markByteSS.sum (l.take k) ≤ laws_markByteSS.sum l := by
 have h := congrArg laws_markByteSS.sum (List.take_append_drop k l)
 have h2 : laws_markByteSS.sum (l.take k ++ l.drop k) = laws_markByteSS.sum (l.take k) + laws_markByteSS.sum (l.drop k) := by simp only [laws_markByteSS.sum, List.map_append, List.sum_append]
 omega
set_option maxHeartbeats 8000000 in
set_option maxRecDepth 100000 in
theorem laws_markByteSS.marks (P0_ : Nat → Prop) (u9000_ : Value) (l0 : List (List Int)) (a1 : Int) (base : Nat) (w : World) (ho0 : Kd.S (Kd.slice 5 (Kd.int .u8)) 22 w base P0_ u9000_ l0) (h0 : 0 ≤ a1) (h1 : a1 + (laws_markByteSS.sum l0 : Int) ≤ 4611686018427387904) :
  Calls Tryd.prog 43 #[u9000_, .int .i64 a1] w fun e w' => e = .returned (.int .i64 (a1 + (laws_markByteSS.sum l0 : Int))) ∧ Mark P0_ w w' ∧ Kd.S (Kd.slice 5 (Kd.int .u8)) 22 w' base P0_ u9000_ (laws_markByteSS.all a1 l0) := by
 have HO := Aside0.mk ho0
 have hbig : l0.length ≤ 9223372036854775807 := by
  obtain ⟨A, c, rfl, _, hr⟩ := Kd.R_reads (Kd.S_R ho0)
  exact hr.2.1
 obtain ⟨A0, c0, rfl⟩ : ∃ A c, u9000_ = .slice A l0.length c := by
  obtain ⟨A, c, rfl, _⟩ := Kd.R_reads (Kd.S_R ho0)
  exact ⟨A, c, rfl⟩
 have H1 := Aside0.mk h1
 clear ho0 h1
 go_enter Tryd.func43, Tryd.ntmps43
 go_wp2
 go_loopg [1, 5] l0.length (fun kq v1 v5 w' => ∃ i : Nat, i ≤ l0.length ∧ l0.length - i ≤ kq ∧ v1 = .int .i64 (a1 + (laws_markByteSS.sum (l0.take i) : Int)) ∧ v5 = .int .i64 i ∧ Aside0 (Kd.S (Kd.slice 5 (Kd.int .u8)) 22 w' base P0_ (.slice A0 l0.length c0) (laws_markByteSS.all a1 (l0.take i) ++ l0.drop i)) ∧ Aside0 (Mark P0_ w w'))
 case atStart => exact ⟨0, Nat.zero_le _, by omega, by simp [laws_markByteSS.sum], rfl, ⟨by simpa [laws_markByteSS.all] using HO.out⟩, ⟨Mark.refl _ _⟩⟩
 case round =>
  clear HO
  obtain ⟨i, hi, hg, rfl, rfl, HO, HM⟩ := hrel
  have hal : (laws_markByteSS.all a1 (l0.take i)).length = i := by rw [laws_markByteSS.all_len, List.length_take]; omega
  by_cases hlt : i < l0.length
  ·have hlen : (laws_markByteSS.all a1 (l0.take i) ++ l0.drop i).length = l0.length := by rw [List.length_append, hal, List.length_drop]; omega
   obtain ⟨P, c, g, cap, hP, hv, hM, hcc, hback⟩ := S_at HO.out i (by omega)
   rw [hlen] at hv
   injection hv with e1 e2 e3
   subst e1; subst e3
   have hxe : (laws_markByteSS.all a1 (l0.take i) ++ l0.drop i)[i]'(by omega) = l0[i] := by
    rw [List.getElem_append_right (by omega)]; simp [hal]
   rw [hxe] at hM
   obtain ⟨vi, rfl, hR⟩ := hM
   obtain ⟨Ai, ci, rfl, hli, hCi⟩ := Kd.R_reads hR
   have hcell : wr.cell? ⟨g, i, none⟩ = some (.slice Ai l0[i].length ci) := by have := hcc 0 _ rfl; simpa [Kd.slice] using this
   have hset : (laws_markByteSS.all a1 (l0.take i) ++ l0.drop i).set i (laws_markByteSS.mk (a1 + (laws_markByteSS.sum (l0.take i) : Int)) l0[i].length) = laws_markByteSS.all a1 (l0.take (i + 1)) ++ l0.drop (i + 1) := by
    rw [List.take_succ_eq_append_getElem hlt, laws_markByteSS.all_snoc, List.set_append_right _ _ (by omega), hal, Nat.sub_self, List.drop_eq_getElem_cons hlt, List.set_cons_zero, List.append_assoc]
    rfl
   have hst := laws_markByteSS.sum_take l0 (i + 1)
   have hss : laws_markByteSS.sum (l0.take (i + 1)) = laws_markByteSS.sum (l0.take i) + l0[i].length := by rw [List.take_succ_eq_append_getElem hlt, laws_markByteSS.sum_snoc]
   have h1' := H1.out
   have hcall := laws_markByteSS.bytes P (.slice Ai l0[i].length ci) l0[i] (a1 + (laws_markByteSS.sum (l0.take i) : Int)) base wr hR (by omega) (by omega)
   have HBK := Aside0.mk (fun (w' : World) (hm : Mark P wr w') (hr : Kd.R (Kd.int .u8) 5 w' base P (.slice Ai l0[i].length ci) (laws_markByteSS.mk (a1 + (laws_markByteSS.sum (l0.take i) : Int)) l0[i].length)) => hback w' (laws_markByteSS.mk (a1 + (laws_markByteSS.sum (l0.take i) : Int)) l0[i].length) hm ⟨_, rfl, hr⟩)
   rw [hset] at HBK
   have HSS := Aside0.mk hss
   have HPP := Aside0.mk hP
   have hk2 : a1 + (laws_markByteSS.sum (l0.take i) : Int) + (l0[i].length : Int) = a1 + (laws_markByteSS.sum (l0.take (i + 1)) : Int) := by omega
   rw [hk2] at hcall
   clear hback hR hCi hli hset hxe hlen hal hcc HO hst hss h1' hk2 hP
   have hltz : (i : Int) < (l0.length : Int) := by omega
   have hi0 : 0 ≤ (i : Int) := by omega
   generalize l0[i] = x at hcell hcall HBK HSS
   go_wp2_with (first | (go_at_call 11; refine hcall.mono ?_; rintro e w2 ⟨rfl, hm, hr⟩; have HO := Aside0.mk (HBK.out w2 hm hr); replace HM := Aside0.mk (HM.out.trans (hm.mono HPP.out)); clear hm hr HBK hcall))
   go_roundg (l0.length - (i + 1))
   case measure => omega
   case rel => exact ⟨i + 1, by omega, by omega, rfl, by go_num, HO, HM⟩
  ·have : i = l0.length := by omega
   subst this
   rw [List.take_of_length_le (Nat.le_refl _), List.drop_of_length_le (Nat.le_refl _), List.append_nil] at HO
   rw [List.take_of_length_le (Nat.le_refl _)]
   clear hal
   have hlz : ¬ (l0.length : Int) < (l0.length : Int) := by omega
   go_wp2
   go_ret
   exact ⟨rfl, HM.out, HO.out⟩
/-! ### laws_markName: function 16 -/

set_option maxHeartbeats 2000000 in
theorem laws_markName.marks (P0_ : Nat → Prop) (u9000_ : Value) (l0 : List (List Int)) (a1 : Int) (base : Nat) (w : World) (ho0 : Kd.S (Kd.slice 5 (Kd.int .u8)) 22 w base P0_ u9000_ l0) (h0 : 0 ≤ a1) (h1 : a1 + (laws_markByteSS.sum l0 : Int) ≤ 4611686018427387904) :
  Calls Tryd.prog 16 #[.agg #[u9000_], .int .i64 a1] w fun e w' => e = .returned (.int .i64 (a1 + (laws_markByteSS.sum l0 : Int))) ∧ Mark P0_ w w' ∧ Kd.S (Kd.slice 5 (Kd.int .u8)) 22 w' base P0_ u9000_ (laws_markByteSS.all a1 l0) := by
 have HO := Aside0.mk ho0
 have HB := Aside0.mk (Below.refl w.heap.size w)
 obtain ⟨A0, c0, rfl⟩ : ∃ A c, u9000_ = .slice A l0.length c := by
  obtain ⟨A, c, rfl, _⟩ := Kd.R_reads (Kd.S_R ho0)
  exact ⟨A, c, rfl⟩
 have H1 := Aside0.mk h1
 clear ho0 h1
 go_enter Tryd.func16, Tryd.ntmps16
 go_wp2_with (first | ((with_reducible refine gate_dst (N := 2) rfl ?_); refine boxed (N := 2) rfl rfl (cs := #[.slice A0 l0.length c0]) (t := 29) HB.out (by first | (go_simp; done) | (go_simp; rfl)) ?_; clear HB; intro gb w2 hg HB BK GE hb; clear hg hb; obtain ⟨hz0, hf0⟩ := cells1 BK.out) | (go_at_call 43; refine (laws_markByteSS.marks P0_ (.slice A0 l0.length c0) l0 a1 base _ (Kd.S_below HO.out (bw HB.out)) h0 H1.out).mono ?_; rintro e w3 ⟨rfl, hm, hs⟩))
 go_ret
 exact ⟨rfl, (Mark.of_below HB.out).trans hm, hs⟩
/-- The second form: a block that a string was laid into. -/
def Zs (e : Nat) (w : World) (base : Nat) (ok : Nat → Prop) (v : Value) (xs : List Int) : Prop :=
  ∃ g c cur, v = .slice (some ⟨g, 0, none⟩) xs.length c ∧ xs.length ≤ c ∧ ok g ∧ base ≤ g ∧ w.heap[g]? = some (.cells cur e (cur.size, cur.size + 1)) ∧ xs.length ≤ cur.size ∧ xs.length ≤ 9223372036854775807 ∧ ∀ i, i < xs.length → cur[i]? = some (.int .u8 (rd xs i))
def Zr (e : Nat) (w : World) (base : Nat) (ok : Nat → Prop) (v : Value) (xs : List Int) : Prop := Kd.R (Kd.int .u8) e w base ok v xs ∨ Zs e w base ok v xs
theorem rd_nat (xs : List Int) (j : Nat) : rd xs (j : Int) = xs.getD j 0 := by simp [rd]
section
variable {e base : Nat} {w w1 W W2 : World} {ok ok' S : Nat → Prop} {v u : Value} {xs : List Int}
theorem Z_of (h : Kd.R (Kd.int .u8) e w base ok v xs) : Zr e w base ok v xs := .inl h
theorem Z_mono (h : Zr e w base ok v xs) (hok : ∀ k, ok k → ok' k) : Zr e w base ok' v xs := by
  rcases h with h | ⟨g, c, cur, h1, h2, h3, h⟩
  · exact .inl (Kd.R_mono h hok)
  · exact .inr ⟨g, c, cur, h1, h2, hok _ h3, h⟩
theorem Z_lower {base' : Nat} (h : Zr e w base ok v xs) (hb : base' ≤ base) : Zr e w base' ok v xs := by
  rcases h with h | ⟨g, c, cur, h1, h2, h3, h4, h⟩
  · exact .inl (Kd.R_lower h hb)
  · exact .inr ⟨g, c, cur, h1, h2, h3, Nat.le_trans hb h4, h⟩
theorem Z_step (h : Zr e w base ok v xs) (hm : ∀ k, ok k → k < w.heap.size → w1.heap[k]? = w.heap[k]?) : Zr e w1 base ok v xs := by
  rcases h with h | ⟨g, c, cur, h1, h2, h3, h4, h5, h⟩
  · exact .inl (Kd.R_step h hm)
  · exact .inr ⟨g, c, cur, h1, h2, h3, h4, (hm g h3 (Array.getElem?_eq_some_iff.1 h5).1).trans h5, h⟩
theorem Z_below (h : Zr e w base ok v xs) (hb : Below w.heap.size w w1) : Zr e w1 base ok v xs := Z_step h (fun k _ hk => hb.block k hk)
theorem zw_ (h : Zr e w base ok v xs) [g : Nonempty (Gr w w1)] : Zr e w1 base ok v xs := g.elim fun g => Z_below h g
theorem Z_ok (h : Zr e w base ok v xs) : ∀ k, v.ownBlock = some k → ok k := by
  rcases h with h | ⟨g, c, cur, rfl, h2, h3, h⟩
  · exact h.1
  · intro k hk; simp only [Value.ownBlock, Option.some.injEq] at hk; exact hk ▸ h3
theorem Z_base (h : Zr e w base ok v xs) : ∀ k, v.ownBlock = some k → base ≤ k := by
  rcases h with h | ⟨g, c, cur, rfl, h2, h3, h4, h⟩
  · exact Kd.R_base h
  · intro k hk; simp only [Value.ownBlock, Option.some.injEq] at hk; exact hk ▸ h4
theorem Z_all {p : Nat → Prop} (h : Zr e w base ok v xs) (hp : ∀ k, v.ownBlock = some k → p k) : Zr e w base p v xs := by
  rcases h with h | ⟨g, c, cur, rfl, h2, h3, h⟩
  · exact .inl (Kd.R_reok rfl h hp)
  · exact .inr ⟨g, c, cur, rfl, h2, hp g rfl, h⟩
theorem Z_slice (h : Zr e w base ok v xs) : ∃ A c, v = .slice A xs.length c := by
  rcases h with h | ⟨g, c, cur, h1, _⟩
  · exact Kd.R_slice h
  · exact ⟨_, _, h1⟩
theorem Z_reads' {A : Option Addr} {n c : Nat} (h : Zr e w base ok (.slice A n c) xs) : n = xs.length ∧ n ≤ c ∧ (Kd.int .u8).C w A xs.length xs := by
  rcases h with h | ⟨g, c', cur, h1, h2, h3, h4, h5, h6, h7, h8⟩
  · exact Kd.R_reads' h
  · injection h1 with e1 e2 e3
    subst e1
    subst e2
    subst e3
    refine ⟨rfl, h2, Kd.C_of_reads (enc := Value.int .u8) (d := (0 : Int)) (h1 := fun _ => rfl) ⟨rfl, h7, fun hn => ⟨_, rfl, fun j hj => ?_⟩⟩⟩
    have hx := h8 j hj
    have hc := cell_of_row w g j cur e (cur.size, cur.size + 1) h5
    rw [show (⟨g, 0, none⟩ : Addr).add j = ⟨g, j, none⟩ by unfold Addr.add; split <;> simp_all, hc, hx]
    simp [rd, List.getD_eq_getElem?_getD]
theorem Z_ne (h : Zr e w base ok v xs) {g t : Nat} {cells : Array Value} (hb : w.heap[g]? = some (.cells cells t (0, 0))) (ht : e ≠ t) : some g ≠ v.ownBlock := by
  rcases h with h | ⟨g', c, cur, rfl, h2, h3, h4, h5, h⟩
  · exact Kd.R_ne h hb ht
  · intro hk
    simp only [Value.ownBlock, Option.some.injEq] at hk
    subst hk
    rw [hb] at h5
    injection h5 with h5
    injection h5 with _ h5
    exact ht h5.symm
theorem Z_form (h : Zr e w base ok v xs) (hp : 0 < xs.length) : ∃ g cap, v = .slice (some ⟨g, 0, none⟩) xs.length cap ∧ base ≤ g ∧ g < w.heap.size ∧ ∃ cells fr, w.heap[g]? = some (.cells cells e fr) := by
  rcases h with h | ⟨g, c, cur, rfl, h2, h3, h4, h5, h⟩
  · obtain ⟨g, cap, h1, h2, h3, cells, h4⟩ := Kd.R_form h hp
    exact ⟨g, cap, h1, h2, h3, cells, _, h4⟩
  · exact ⟨g, c, rfl, h4, (Array.getElem?_eq_some_iff.1 h5).1, cur, _, h5⟩
theorem Z_celln {g n cap : Nat} (d : Int) (h : Zr e W base ok (.slice (some ⟨g, 0, none⟩) n cap) xs) (i : Int) (h0 : 0 ≤ i) (hi : i < n) : W.cell? ⟨g, i.toNat, none⟩ = some (.int .u8 (rdOf d xs i)) ∧ W.frozen? ⟨g, i.toNat, none⟩ = false := by
  rcases h with h | ⟨g', c, cur, h1, h2, h3, h4, h5, h6, h7, h8⟩
  · exact Kd.R_celln d h i h0 hi
  · injection h1 with e1 e2 e3
    injection e1 with e1
    injection e1 with e1
    subst e1
    subst e2
    subst e3
    have hl : i.toNat < xs.length := by omega
    refine ⟨?_, ?_⟩
    · rw [cell_of_row W g i.toNat cur e (cur.size, cur.size + 1) h5, h8 _ hl, rd_nat]
      simp only [rdOf, List.getD_eq_getElem?_getD, List.getElem?_eq_getElem hl, Option.getD_some]
    · simp only [World.frozen?, h5]
      simp
      omega
theorem Z_putg {g n cap : Nat} (h : Zr e W base ok (.slice (some ⟨g, 0, none⟩) n cap) xs) (i x : Int) : Zr e (W.setCell ⟨g, i.toNat, none⟩ (.int .u8 x)) base ok (.slice (some ⟨g, 0, none⟩) n cap) (xs.set i.toNat x) ∧ W.grownBy (W.setCell ⟨g, i.toNat, none⟩ (.int .u8 x)) (some g) := by
  rcases h with h | ⟨g', c, cur, h1, h2, h3, h4, h5, h6, h7, h8⟩
  · obtain ⟨a, b⟩ := Kd.R_putg (enc := Value.int .u8) (h1 := fun _ => rfl) h i x
    exact ⟨.inl a, b⟩
  · injection h1 with e1 e2 e3
    injection e1 with e1
    injection e1 with e1
    subst e1
    subst e2
    subst e3
    have hs : (W.setCell ⟨g, i.toNat, none⟩ (.int .u8 x)).heap[g]? = some (.cells (cur.setIfInBounds i.toNat (.int .u8 x)) e (cur.size, cur.size + 1)) := by
      simp only [World.setCell]
      rw [Array.getElem?_modify]
      simp [h5]
    refine ⟨.inr ⟨g, cap, cur.setIfInBounds i.toNat (.int .u8 x), by rw [List.length_set], by rw [List.length_set]; exact h2, h3, h4, by rw [Array.size_setIfInBounds]; exact hs, by rw [List.length_set, Array.size_setIfInBounds]; exact h6, by rw [List.length_set]; exact h7, fun j hj => ?_⟩, ⟨rfl, rfl, rfl, by simp [World.setCell], fun k hk hne => Below.heap_setCell W ⟨g, i.toNat, none⟩ (.int .u8 x) k (fun e => hne (by rw [e]))⟩⟩
    rw [List.length_set] at hj
    rw [Array.getElem?_setIfInBounds]
    by_cases hij : i.toNat = j
    · subst hij
      have : i.toNat < cur.size := by omega
      rw [if_pos rfl, if_pos this]
      rw [rd_nat, List.getD_eq_getElem?_getD, List.getElem?_set_self hj]
      rfl
    · rw [if_neg hij, h8 j hj]
      rw [rd_nat, rd_nat, List.getD_eq_getElem?_getD, List.getD_eq_getElem?_getD, List.getElem?_set_ne hij]
end
section
variable {P : Program} {ops : Array Oper} {rest : List Oper} {o : Oper} {a : Act} {Q : Exit → Act → World → Prop}
/-- '[]byte("..")' of a constant: the row that was built is marked behind its end. -/
theorem Z_conv {w0 W : World} {base e t : Nat} {ok : Nat → Prop} {v : Value} {xs : List Int} (hgd : o.guard = none) {N : Tmp} (_hd : o.dst = some N) (x : Operand) (ho : o.op = .convert t t x) (ht : P.underlying t = some (.slice e)) (he : P.underlying e = some (.int .u8))
    (hx : a.eval x = v) (hR : Kd.R (Kd.int .u8) e W base ok v xs) (h0 : 0 < xs.length) (HB : Below base w0 W)
    (h : ∀ w1, Zr e w1 base ok v xs → Below base w0 w1 → W.grownBy w1 v.ownBlock → wpList P ops Q rest (a.put o.dst v) w1) : wpList P ops Q (o :: rest) a W := by
  obtain ⟨g, cap, rfl, hb, hl, cur, hg⟩ := Kd.R_form hR h0
  have hr := Kd.R_reads' hR
  have hc : ∀ i, i < xs.length → cur[i]? = some (.int .u8 (rd xs i)) := fun i hi => by
    have := (Kd.R_celln (enc := Value.int .u8) (h1 := fun _ => rfl) (0 : Int) hR (i : Int) (by omega) (by omega)).1
    rw [show ((i : Int)).toNat = i from by omega, cell_of_row W g i cur e (0, 0) hg] at this
    exact this
  have hs : xs.length ≤ cur.size := by
    have := (Array.getElem?_eq_some_iff.1 (hc (xs.length - 1) (by omega))).1
    omega
  have hw : (W.freeze ⟨g, cur.size, none⟩ 1).heap[g]? = some (.cells cur e (cur.size, cur.size + 1)) := by
    unfold World.freeze
    rw [if_neg (by decide)]
    simp only [Array.getElem?_modify, hg]
    simp
  have ho' : ∀ k, k ≠ g → (W.freeze ⟨g, cur.size, none⟩ 1).heap[k]? = W.heap[k]? := fun k hk => by
    unfold World.freeze
    rw [if_neg (by decide)]
    simp only [Array.getElem?_modify]
    rw [if_neg (fun e => hk e.symm)]
  have hsz : (W.freeze ⟨g, cur.size, none⟩ 1).heap.size = W.heap.size := by
    unfold World.freeze
    rw [if_neg (by decide)]
    simp
  have hgr : W.grownBy (W.freeze ⟨g, cur.size, none⟩ 1) (some g) := by
    refine ⟨?_, ?_, ?_, by omega, fun k _ hk => ho' k (fun e => hk (by rw [e]))⟩ <;> (unfold World.freeze; rw [if_neg (by decide)])
  have hrun : (execOp a.eval o).run P W = .ok (.value (.slice (some ⟨g, 0, none⟩) xs.length cap)) (W.freeze ⟨g, cur.size, none⟩ 1) := by
    have hsh : W.shape? g = some (e, cur.size) := by simp [World.shape?, hg]
    simp [execOp, ho, hx, convert, run_underlying ht, run_underlying he, markStringish, hsh, Result.andThen]
  refine Kd.event_run hgd hrun (h _ (.inr ⟨g, cap, cur, rfl, hr.2.1, hR.1 g rfl, hb, hw, hs, hr.2.2.2.1, hc⟩) (HB.grown hgr ?_ (fun j hj => ?_)) hgr)
  · omega
  · injection hj with hj
    omega
end

section
variable {b U : Nat} {w w' : World} {v : Value} {xs : List (List Int)} {ps : List (Option Addr × Nat × Nat)} {S : Nat → Prop}
end
theorem freeze_new (W : World) (C : Array Value) (e n : Nat) : (W.alloc (.cells C e)).freeze ⟨W.heap.size, n, none⟩ 1 = W.alloc (.cells C e (n, n + 1)) := by
  have hm : ∀ (a : Array Obj) (x : Obj) (f : Obj → Obj), (a.push x).modify a.size f = a.push (f x) := by
    intro a x f
    apply Array.ext
    · simp
    · intro i h1 h2
      simp only [Array.getElem_modify, Array.getElem_push]
      by_cases h : a.size = i
      · subst h
        simp
      · have hi : i < a.size := by simp at h1; omega
        simp [h, hi]
  unfold World.freeze
  rw [if_neg (by decide)]
  show ({ W.alloc (.cells C e) with heap := (W.heap.push (.cells C e)).modify W.heap.size _ } : World) = _
  rw [hm]
  rfl
theorem conv_lit22 (W : World) (C : Array Value) (n : Nat) (hn : C.size = n) : (convert 22 22 (.slice (some ⟨W.heap.size, 0, none⟩) n n)).run Tryd.prog (W.alloc (.cells C 5)) = .ok (.slice (some ⟨W.heap.size, 0, none⟩) n n) (W.alloc (.cells C 5 (n, n + 1))) := by
  have hsh : (W.alloc (.cells C 5)).shape? W.heap.size = some (5, n) := by
    have := heap_alloc_new W (.cells C 5)
    unfold World.shape?
    rw [this, ← hn]
  have hf := freeze_new W C 5 n
  simp [convert, run_underlying Tryd.underlying22, run_underlying Tryd.underlying5, markStringish, hsh, Result.andThen]
  exact hf
def Zq (e : Nat) (w : World) (base : Nat) (v : Value) (xs : List Int) : Prop := Zr e w base (fun _ => True) v xs ∧ (Kd.R (Kd.int .u8) e w base (fun _ => True) v xs ∨ ∃ g, v = .slice (some ⟨g, 0, none⟩) xs.length xs.length)
theorem Zq.of {e base : Nat} {w : World} {v : Value} {xs : List Int} (h : Kd.R (Kd.int .u8) e w base (fun _ => True) v xs) : Zq e w base v xs := ⟨.inl h, .inl h⟩
theorem Zq.below {e base : Nat} {w w1 : World} {v : Value} {xs : List Int} (h : Zq e w base v xs) (hb : Below w.heap.size w w1) : Zq e w1 base v xs := ⟨Z_below h.1 hb, h.2.imp (fun h => Kd.R_below h hb) id⟩
theorem Zq.lower {e base b' : Nat} {w : World} {v : Value} {xs : List Int} (h : Zq e w base v xs) (hb : b' ≤ base) : Zq e w b' v xs := ⟨Z_lower h.1 hb, h.2.imp (fun h => Kd.R_lower h hb) id⟩
theorem Zq_dot (W : World) : Zq 5 (W.alloc (.cells #[.int .u8 46] 5 (1, 2))) W.heap.size (.slice (some ⟨W.heap.size, 0, none⟩) 1 1) [46] :=
  ⟨.inr ⟨W.heap.size, 1, #[.int .u8 46], rfl, Nat.le_refl _, trivial, Nat.le_refl _, heap_alloc_new _ _, by decide, by decide, fun i hi => by
    have hi : i < 1 := hi
    obtain rfl : i = 0 := by omega
    rfl⟩, .inr ⟨_, rfl⟩⟩
/-- What an append to such a row does. -/
theorem Zq_run {W : World} (base t e : Nat) (ty : TypeId) (ht : Tryd.prog.underlying t = some (.slice e)) (hinfo : (Tryd.prog.info? e).map (fun i => (i.zero, i.size, i.bytes)) = some (some (.int .u8 0), 1, 1))
    (v : Value) (xs ys : List Int) (A : Option Addr) (c : Nat) (HO : Zq e W base v xs) (HR : Kd.C (Kd.int .u8) W A ys.length ys) (hy : 0 < ys.length) (hbase : base ≤ W.heap.size) (hl : xs.length + ys.length ≤ 140737488355328) :
    ∃ v1 w1, (Builtin.append_ #[t, t] ty #[v, .slice A ys.length c]).run Tryd.prog W = .ok v1 w1 ∧ Kd.R (Kd.int .u8) e w1 base (fun _ => True) v1 (xs ++ ys) ∧ W.grownBy w1 v.ownBlock := by
  obtain ⟨i0, hi, hzz⟩ := Option.map_eq_some_iff.1 hinfo
  simp only [Prod.mk.injEq] at hzz
  obtain ⟨hz0, hz1, hz2⟩ := hzz
  have hR2 : ReadsRow (fun (x : Int) (c : List Value) => c = [Value.int .u8 x]) 1 W A ys.length ys := HR
  obtain ⟨ad, rfl, hcells⟩ := hR2.2.2 hy
  have hnews : ∀ (j : Nat) u, (encs (Value.int .u8) ys)[j]? = some u → W.cell? (ad.add j) = some u := fun j u hu => by
    have hj : j < ys.length := by have := (List.getElem?_eq_some_iff.1 hu).1; simpa [encs] using this
    obtain ⟨c', h1, h2, h3⟩ := hcells j ys[j] (List.getElem?_eq_getElem hj)
    have hu' : u = .int .u8 ys[j] := by simpa [encs, List.getElem?_eq_getElem hj] using hu.symm
    subst h2
    rw [hu']
    have := h3 0 (.int .u8 ys[j]) rfl
    rwa [Nat.mul_one, Nat.add_zero] at this
  have hone : ∀ u ∈ encs (Value.int .u8) ys, u.oneCell' = true := fun u hu => by
    obtain ⟨x, _, rfl⟩ : ∃ x, x ∈ ys ∧ Value.int .u8 x = u := by simpa [encs] using hu
    rfl
  have hlen : xs.length + ys.length ≤ maxLen := by simp only [maxLen]; omega
  rcases HO.2 with h | ⟨g, rfl⟩
  · obtain ⟨v1, w1, hrun, hown, hg, _⟩ := run_append_own (P := Tryd.prog) W base t ty e i0 (.int .u8 0) 1 1 ht hi hz0 hz1 hz2 rfl (by decide) v xs.length (encs (Value.int .u8) xs) (Kd.own_of_R (h1 := fun _ => rfl) h) ad ys.length c (encs (Value.int .u8) ys) (by simp [encs]) hnews hone hlen (by omega) hbase
    refine ⟨v1, w1, hrun, Kd.R_of_own (h1 := fun _ => rfl) ?_ (fun _ _ => trivial), hg⟩
    rw [List.length_append, encs_append]
    exact hown
  · have hz := HO.1
    have holds : ∀ (j : Nat) u, (encs (Value.int .u8) xs)[j]? = some u → W.cell? ((⟨g, 0, none⟩ : Addr).add j) = some u := fun j u hu => by
      have hj : j < xs.length := by have := (List.getElem?_eq_some_iff.1 hu).1; simpa [encs] using this
      have hu' : u = .int .u8 xs[j] := by simpa [encs, List.getElem?_eq_getElem hj] using hu.symm
      have := (Z_celln 0 hz (j : Int) (by omega) (by omega)).1
      rw [show ((j : Int)).toNat = j by omega] at this
      rw [show (⟨g, 0, none⟩ : Addr).add j = ⟨g, j, none⟩ by unfold Addr.add; split <;> simp_all, this, hu']
      simp [rdOf, List.getD_eq_getElem?_getD, hj]
    obtain ⟨v1, w1, hrun, hown, hg⟩ := run_append_arg_grows (P := Tryd.prog) W t ty e i0 (.int .u8 0) 1 1 ht hi hz0 hz1 hz2 rfl (by decide) ⟨g, 0, none⟩ xs.length xs.length (encs (Value.int .u8) xs) (by simp [encs]) holds ad ys.length c (encs (Value.int .u8) ys) (by simp [encs]) hnews (by omega) hlen (by omega)
    refine ⟨v1, w1, hrun, Kd.R_lower (Kd.R_of_own (h1 := fun _ => rfl) ?_ (fun _ _ => trivial)) hbase, ⟨hg.os, hg.tape, hg.output, hg.size, fun k hk _ => hg.block k hk (by simp)⟩⟩
    rw [List.length_append, encs_append]
    exact hown
section
variable {ops : Array Oper} {rest : List Oper} {o : Oper} {a : Act} {Q : Exit → Act → World → Prop} {Kc : Act → World → Prop}
theorem Zq_append_step {w0 W : World} (base : Nat) (hw : Region.wanted o (yielded ops a.tmps) = true) (s x : Operand) (t e : TypeId)
    (ho : o.op = .call { callee := .builtin .append, args := #[s, x], argTypes := #[t, t] })
    (ht : Tryd.prog.underlying t = some (.slice e)) (hinfo : (Tryd.prog.info? e).map (fun i => (i.zero, i.size, i.bytes)) = some (some (.int .u8 0), 1, 1))
    (v : Value) (xs ys : List Int) (A : Option Addr) (c : Nat) (hs : a.eval s = v) (hx : a.eval x = .slice A ys.length c)
    (HO : Zq e W base v xs) (HR : Kd.C (Kd.int .u8) W A ys.length ys) (hy : 0 < ys.length) (HB : Below base w0 W) (hbase : base ≤ W.heap.size) (hl : xs.length + ys.length ≤ 140737488355328)
    (h : ∀ v1 w1, Kd.R (Kd.int .u8) e w1 base (fun _ => True) v1 (xs ++ ys) → Below base w0 w1 → W.grownBy w1 v.ownBlock → Kc (a.put o.dst v1) w1) :
    if Region.wanted o (yielded ops a.tmps) = true then Oper.wp Tryd.prog o a W Kc Q else Kc (a.put o.dst undef) W := by
  rw [if_pos hw]
  obtain ⟨v1, w1, hrun, hR, hg⟩ := Zq_run base t e o.type ht hinfo v xs ys A c HO HR hy hbase hl
  have hb : Below base w0 w1 := HB.grown hg hbase (fun k hk => Z_base HO.1 k hk)
  have hk := h v1 w1 hR hb hg
  unfold Oper.wp
  simp [execOp, ho, resolve, invoke, builtin, hs, hx, hrun, Result.andThen]
  exact hk
set_option maxRecDepth 100000 in
theorem R_str_step {w0 W : World} (base : Nat) (hw : Region.wanted o (yielded ops a.tmps) = true) (s x : Operand) (t u e : TypeId)
    (ho : o.op = .call { callee := .builtin .append, args := #[s, x], argTypes := #[t, u] })
    (ht : Tryd.prog.underlying t = some (.slice e)) (hu : Tryd.prog.underlying u = some .string) (hinfo : (Tryd.prog.info? e).map (fun i => (i.zero, i.size, i.bytes)) = some (some (.int .u8 0), 1, 1))
    (v : Value) (xs : List Int) (y : ByteArray) (hs : a.eval s = v) (hx : a.eval x = .string y)
    (HO : Kd.R (Kd.int .u8) e W base (fun _ => True) v xs) (HB : Below base w0 W) (hbase : base ≤ W.heap.size) (hl : xs.length + y.size ≤ 140737488355328)
    (h : ∀ v1 w1, Kd.R (Kd.int .u8) e w1 base (fun _ => True) v1 (xs ++ bytesOf y) → Below base w0 w1 → W.grownBy w1 v.ownBlock → Kc (a.put o.dst v1) w1) :
    if Region.wanted o (yielded ops a.tmps) = true then Oper.wp Tryd.prog o a W Kc Q else Kc (a.put o.dst undef) W := by
  rw [if_pos hw]
  obtain ⟨i0, hi, hzz⟩ := Option.map_eq_some_iff.1 hinfo
  simp only [Prod.mk.injEq] at hzz
  obtain ⟨hz0, hz1, hz2⟩ := hzz
  obtain ⟨v1, w1, hrun, hown, hg, _⟩ := Lib.run_append_own_string (P := Tryd.prog) W base t u o.type e i0 ht hu hi hz0 hz1 hz2 v xs.length (encs (Value.int .u8) xs) (Kd.own_of_R (h1 := fun _ => rfl) HO) y (by simp only [maxLen]; omega) hl hbase
  have hc : encs (Value.int .u8) (xs ++ bytesOf y) = encs (Value.int .u8) xs ++ Lib.strCells y := by
    rw [encs_append]
    congr 1
    simp [encs, bytesOf, Lib.strCells]
  have hR : Kd.R (Kd.int .u8) e w1 base (fun _ => True) v1 (xs ++ bytesOf y) := by
    refine Kd.R_of_own (h1 := fun _ => rfl) ?_ (fun _ _ => trivial)
    rw [List.length_append, bytesOf_length, hc]
    exact hown
  have hk := h v1 w1 hR (HB.grown hg hbase (fun k hk => Kd.R_base HO k hk)) hg
  unfold Oper.wp
  simp [execOp, ho, resolve, invoke, builtin, hs, hx, hrun, Result.andThen]
  exact hk
end

/-! ### spec_l2text: function 87 -/
def spec_l2text.l0 : Nat → List Int → Int → List (List Int) → Option (List Int)
 | 0, _, _, _ => none
 | k + 1, x3, x4, x102000 => if x4 < (x102000.length : Int) then (if 0 ≤ x4 then (if x3.length + (rd_L10 x102000 x4).length < 140737488355328 then ((some (x3 ++ (rd_L10 x102000 x4) : List Int)).bind fun y106 => (if y106.length < 140737488355328 then (spec_l2text.l0 k (y106 ++ [46]) (wrap64 (x4 + 1)) x102000) else (none))) else (none)) else (none)) else (some x3)
def spec_l2text.f (k : Nat) (l0_0 : List (List Int)) : Option (List Int) := if (l0_0.length : Int) = 0 then (some (([46] : List Int))) else (spec_l2text.l0 k ([] : List Int) 0 l0_0)
set_option maxHeartbeats 8000000 in
set_option maxRecDepth 100000 in
theorem spec_l2text.calls (k : Nat) (A0_0 : Option Addr) (c0_0 : Nat) (l0_0 : List (List Int)) (r : List Int) (w : World) (hr0_0 : Kd.C (Kd.slice 5 (Kd.int .u8)) w A0_0 l0_0.length l0_0) (hc0_0 : l0_0.length ≤ c0_0) (h : spec_l2text.f k l0_0 = some r) :
  Calls Tryd.prog 87 #[.agg #[.slice A0_0 l0_0.length c0_0]] w fun e w' => ∃ v0_ : Value, e = .returned (v0_) ∧ Zq 5 w' w.heap.size v0_ r ∧ Below w.heap.size w w' := by
 have hu29 := Tryd.underlying29
 have HR0_0 := ak hr0_0
 have HC0_0 := ak hc0_0
 clear hr0_0 hc0_0
 have HB := ak (Below.refl w.heap.size w)
 have H : (if (l0_0.length : Int) = 0 then (some (([46] : List Int))) else (spec_l2text.l0 k ([] : List Int) 0 l0_0)) = some r := h
 clear h
 replace H := ie H
 obtain ⟨c2b0, c2b1, H⟩ | ⟨c2b0, c2b1, H⟩ := H
 ·obtain ⟨y102, hy102⟩ : ∃ y_ : List Int, y_ = (([46] : List Int)) := ⟨_, rfl⟩
  (try with_reducible replace H := bnS H)
  (try rw [← hy102] at H)
  have Ny102 := ak hy102
  clear hy102
  obtain rfl := Option.some.inj H
  go_enter Tryd.func87, Tryd.ntmps87
  go_wp2_with ((with_reducible refine gate_dst (N := 1) rfl ?_);refine bxd (N := 1) rfl HB ?_;clear HB;intro gb101 w3 hg HB BK101 GE101 hb;have GW101 := GE101;clear hb hg;obtain ⟨hcz4_0, hfz4_0⟩ := cells1 BK101.out;have hcv := conv_lit22 w3 #[.int .u8 46] 1 rfl;have HW3 := ak (show w3.heap.size = w3.heap.size from rfl))
  go_ret
  exact ⟨_, o1, by rw [Ny102.out]; exact Zq.lower (Zq_dot w3) HB.out.size, below_alloc HB.out _⟩
 ·have c2b2 : ¬ (l0_0 = []) := fun h_ => bne_iff_ne.mp c2b1 (by rw [h_]; rfl)
  have H' := ak H
  clear H
  go_enter Tryd.func87, Tryd.ntmps87
  go_wp2_with (((with_reducible refine gate_dst (N := 1) rfl ?_);refine bxd (N := 1) rfl HB ?_;clear HB;intro gb101 w7 hg HB BK101 GE101 hb;have GW101 := GE101;clear hb hg;obtain ⟨hcz8_0, hfz8_0⟩ := cells1 BK101.out))
  go_loopg [3, 4] k (fun kq v3 v4 w' => ∃ (x3_1 : List Int) (x4_1 : Int), v4 = .int .i64 x4_1 ∧ Aside0 (spec_l2text.l0 kq x3_1 x4_1 l0_0 = some r) ∧ Aside0 (kq ≤ k) ∧ Aside0 (Kd.R (Kd.int .u8) 5 w' w.heap.size (fun _ => True) v3 x3_1) ∧ Aside0 (w'.heap[gb101]? = some (.cells #[(.slice A0_0 l0_0.length c0_0)] 29 (0, 0))) ∧ Aside0 (Below w.heap.size w w'))
  case atStart => exact ⟨(([] : List Int)), (0), o2, H', ⟨Nat.le_refl _⟩, ⟨by first | exact Kd.R_nil _ _ _ _ _ | exact Kd.N_nil _ _ _ _ _ | exact Kd.V_nil _ _ _ _ _ | exact Kd.Q_nil _ _ _ _ _ | exact Kd.S_nil _ _ _ _ _⟩, ⟨bk BK101.out⟩, ⟨bs⟩⟩
  case round =>
   clear H'
   (try clear c2b0)
   (try clear c2b1)
   (try clear c2b2)
   (try clear hcz8_0)
   (try clear hfz8_0)
   obtain ⟨x3_1, x4_1, rfl, HA, HK1, HO_3, BK101, HB⟩ := hrel
   cases gk with
   | zero => exact absurd HA.out (by simp [spec_l2text.l0])
   | succ k1 =>
    have H := HA.out
    clear HA
    simp only [spec_l2text.l0] at H
    replace H := ip H
    obtain ⟨c9b0, H⟩ | ⟨c9b0, H⟩ := H
    ·replace H := ipN H
     obtain ⟨c10b0, H⟩ := H
     by_cases c11 : x3_1.length + (rd_L10 l0_0 x4_1).length < 140737488355328
     ·rw [if_pos c11] at H
      have LMc11 := ak c11
      clear c11
      obtain ⟨y106, hy106⟩ : ∃ y_ : List Int, y_ = (x3_1 ++ (rd_L10 l0_0 x4_1)) := ⟨_, rfl⟩
      (try with_reducible replace H := bnS H)
      (try rw [← hy106] at H)
      have Ny106 := ak hy106
      clear hy106
      by_cases c12 : y106.length < 140737488355328
      ·rw [if_pos c12] at H
       have LMc12 := ak c12
       clear c12
       obtain ⟨y109, hy109⟩ : ∃ y_ : List Int, y_ = (y106 ++ [46]) := ⟨_, rfl⟩
       (try with_reducible replace H := bnS H)
       (try rw [← hy109] at H)
       have Ny109 := ak hy109
       clear hy109
       have H' := ak H
       clear H
       obtain ⟨hcz13_0, hfz13_0⟩ := cells1 BK101.out
       obtain ⟨ad105, A105_0, c105_0, rfl, hx105_0, HC105_0, HR105_0, p105, q105⟩ := el_L10 HR0_0 HB x4_1
       go_wp2_with (first | ((with_reducible refine gate_builtin (b := .append) (xs := #[.tmp 18, .tmp 23]) rfl ?_);at_builtin;refine Kd.R_append_rows (Kd.int .u8) (w0 := w) w.heap.size rfl (.tmp 18) (.tmp 23) 22 5 (.int .u8 0) 1 rfl Tryd.underlying22 info5 rfl (by decide) (by omega) u3 x3_1 (rd_L10 l0_0 x4_1) _ _ _ (fun _ => True) (fun _ => False) rfl rfl ?aO ?aR (fun _ _ h => h) (fun _ h => h.elim) ?aF ?aB ?aS ?aL ?_;(case aR => exact cw HR105_0.out HB.out);(case aB => exact bs);(case aF => exact (fun _ _ => trivial));(case aO => exact (rw_ HO_3.out));(case aS => exact (below_size bs));(case aL => have := LMc11.out; omega);intro v107 w14 ho hb hg hat;rw [← Ny106.out] at ho;replace BK101 := ak (blk_grown (bk BK101.out) hg (Kd.R_ne HO_3.out BK101.out (by decide)));replace HB := ak (hb);have HO108 := ak (ho);clear HO_3;clear ho hb hg hat) | ((with_reducible refine gate_builtin (b := .append) (xs := #[.tmp 24, .tmp 25]) rfl ?_);at_builtin;refine Kd.R_append (Kd.int .u8) (w0 := w) w.heap.size rfl (.tmp 24) (.tmp 25) 22 5 (.int .u8 0) 1 rfl Tryd.underlying22 info5 rfl (by decide) (by omega) v107 y106 46 [.int .u8 46] (fun _ => True) (fun _ => False) rfl rfl ?aP (fun _ hk => hk.elim) ?aF ?aO ?aB ?aS ?aL ?_;(case aP => exact rfl);(case aB => exact bs);(case aF => exact (fun _ _ => trivial));(case aO => exact (rw_ HO108.out));(case aS => exact (below_size bs));(case aL => have := LMc12.out; omega);intro v110 w15 ho hb hg hat;rw [← Ny109.out] at ho;replace BK101 := ak (blk_grown (bk BK101.out) hg (Kd.R_ne HO108.out BK101.out (by decide)));replace HB := ak (hb);have HO111 := ak (ho);clear HO108;clear ho hb hg hat))
       go_roundg k1
       case measure => have := HK1.out; omega
       case rel => exact ⟨(y109), (wrap64 (x4_1 + 1)), o2, H', ⟨by have := HK1.out; omega⟩, ⟨rw_ HO111.out⟩, ⟨bk BK101.out⟩, ⟨bs⟩⟩
      ·rw [if_neg c12] at H
       exact absurd H (by simp)
     ·rw [if_neg c11] at H
      exact absurd H (by simp)
    ·obtain rfl := Option.some.inj H
     obtain ⟨hcz16_0, hfz16_0⟩ := cells1 BK101.out
     go_wp2
     go_ret
     exact ⟨_, o1, Zq.of (rw_ HO_3.out), bs⟩

/-! ### spec_l1digits: function 70 -/
def spec_l1digits.f : Nat → Int → Option (List Int)
 | 0, _ => none
 | k + 1, a0 => if a0 < 10 then (some (([(wrap64 (48 + a0)) % 256] : List Int))) else ((spec_l1digits.f k (wrap64 (Int.tdiv a0 10))).bind fun t104 => (if t104.length < 140737488355328 then (some (t104 ++ [(wrap64 (48 + (Int.tmod a0 10))) % 256])) else (none)))
theorem spec_l1digits.mono_l : ∀ k, (∀ y0, LeO (spec_l1digits.f k y0) (spec_l1digits.f (k + 1) y0))
 | 0 => fun _ r h => by simp [spec_l1digits.f] at h
 | k + 1 => by
  have ih0 := spec_l1digits.mono_l k
  ·intro y0
   unfold spec_l1digits.f
   repeat' first
   | (with_reducible exact ih0 _)
   | (with_reducible exact LeO.refl _)
   | (with_reducible exact LeO.none _)
   | (with_reducible refine LeO.ite ?_ ?_)
   | (with_reducible refine LeO.bind ?_ (fun _ => ?_))
   | exact ih0 _
   | exact LeO.none _
   | refine LeO.ite ?_ ?_
   | refine LeO.bind ?_ (fun _ => ?_)
theorem spec_l1digits.mono : ∀ a0 k, LeO (spec_l1digits.f k a0) (spec_l1digits.f (k + 1) a0) := by
 intro a0 k
 have ih0 := spec_l1digits.mono_l k
 exact ih0 a0
set_option maxHeartbeats 8000000 in
set_option maxRecDepth 100000 in
theorem spec_l1digits.calls (k : Nat) : ∀ (a0 : Int) (r : List Int) (w : World) (h : spec_l1digits.f k a0 = some r),
  Calls Tryd.prog 70 #[.int .i64 a0] w fun e w' => ∃ v0_ : Value, e = .returned (v0_) ∧ Kd.R (Kd.int .u8) 5 w' w.heap.size (fun _ => True) v0_ r ∧ Below w.heap.size w w' := by
 induction k using Nat.strongRecOn with
 | _ k ih =>
 intro a0 r w h
 cases k with
 | zero => exact absurd h (by simp [spec_l1digits.f])
 | succ k =>
 simp only [spec_l1digits.f] at h
 have HB := ak (Below.refl w.heap.size w)
 have H : (if a0 < 10 then (some (([(wrap64 (48 + a0)) % 256] : List Int))) else ((spec_l1digits.f k (wrap64 (Int.tdiv a0 10))).bind fun t104 => (if t104.length < 140737488355328 then (some (t104 ++ [(wrap64 (48 + (Int.tmod a0 10))) % 256])) else (none)))) = some r := h
 clear h
 replace H := ip H
 obtain ⟨c2b0, H⟩ | ⟨c2b0, H⟩ := H
 ·obtain ⟨y101, hy101⟩ : ∃ y_ : List Int, y_ = (([(wrap64 (48 + a0)) % 256] : List Int)) := ⟨_, rfl⟩
  (try with_reducible replace H := bnS H)
  (try rw [← hy101] at H)
  have Ny101 := ak hy101
  clear hy101
  obtain rfl := Option.some.inj H
  go_enter Tryd.func70, Tryd.ntmps70
  go_wp2_with (((with_reducible refine gate_dst (N := 8) rfl ?_);refine Kd.R_lit (Kd.int .u8) _ 5 ?hg (N := 8) ?hd (xs := ([(wrap64 (48 + a0)) % 256] : List Int)) (inner := [.int .u8 ((wrap64 (48 + a0)) % 256)]) (ok := fun _ => True) (okp := fun _ => True) ?hr ?hp (fun _ hk => hk) trivial (Below.refl _ _) (Nat.le_refl _) (by simp) ?_;(case hd => rfl);(case hg => rfl);(case hr => first | (go_simp; done) | (go_simp; rfl));(case hp => exact (Reps.one (show Kd.M (Kd.int .u8) _ _ _ ((wrap64 (48 + a0)) % 256) [.int .u8 ((wrap64 (48 + a0)) % 256)] from rfl) (Reps.none _ _)));intro v102 w3 ho4 hb hg_ hnew_;clear hg_ hnew_;(first | rw [← Ny101.out] at ho4 | (simp only [Int.reduceToNat] at ho4; rw [← Ny101.out] at ho4));have HO103 := ak (Kd.R_lower ho4 (below_size (bw HB.out)));replace HB := b2 HB hb;clear hb ho4))
  go_ret
  exact ⟨_, o1, rw_ HO103.out, bw HB.out⟩
 ·replace H := bnd H
  obtain ⟨t104, A5, H⟩ := H
  by_cases c6 : t104.length < 140737488355328
  ·rw [if_pos c6] at H
   have LMc6 := ak c6
   clear c6
   obtain ⟨y107, hy107⟩ : ∃ y_ : List Int, y_ = (t104 ++ [(wrap64 (48 + (Int.tmod a0 10))) % 256]) := ⟨_, rfl⟩
   (try with_reducible replace H := bnS H)
   (try rw [← hy107] at H)
   have Ny107 := ak hy107
   clear hy107
   obtain rfl := Option.some.inj H
   go_enter Tryd.func70, Tryd.ntmps70
   go_wp2_with (first | ((with_reducible refine gate_callee (f := 70) rfl ?_);refine goesL_ (some 11) rfl rfl Tryd.func70 (by kernel_rfl) rfl #[.int .i64 (wrap64 (Int.tdiv a0 10))] rfl (by (try simp only [List.map_toArray, List.map_cons, List.map_nil]); first | done | rfl | (simp only [List.length_drop, List.length_take]; rfl)) ?_;(with_reducible refine (ih k (by omega) (wrap64 (Int.tdiv a0 10)) t104 _ A5.out).mono ?_);rintro e w7 ⟨v105, rfl, ho0, hb⟩;refine ⟨_, rfl, ?_⟩;have HO106 := ak (Kd.R_lower ho0 (below_size (bw HB.out)));replace HB := b2 HB hb;(try clear hb);(try clear ho0)) | ((with_reducible refine gate_builtin (b := .append) (xs := #[.tmp 11, .tmp 16]) rfl ?_);at_builtin;refine Kd.R_append (Kd.int .u8) (w0 := w) w.heap.size rfl (.tmp 11) (.tmp 16) 22 5 (.int .u8 0) 1 rfl Tryd.underlying22 info5 rfl (by decide) (by omega) v105 t104 ((wrap64 (48 + (Int.tmod a0 10))) % 256) [.int .u8 ((wrap64 (48 + (Int.tmod a0 10))) % 256)] (fun _ => True) (fun _ => False) rfl rfl ?aP (fun _ hk => hk.elim) ?aF ?aO ?aB ?aS ?aL ?_;(case aP => exact rfl);(case aB => exact (bw HB.out));(case aF => exact (fun _ _ => trivial));(case aO => exact (rw_ HO106.out));(case aS => exact (below_size (bw HB.out)));(case aL => have := LMc6.out; omega);intro v108 w8 ho hb hg hat;rw [← Ny107.out] at ho;replace HB := ak (hb);have HO109 := ak (ho);clear HO106;clear ho hb hg hat))
   go_ret
   exact ⟨_, o1, rw_ HO109.out, bw HB.out⟩
  ·rw [if_neg c6] at H
   exact absurd H (by simp)

/-! ### spec_l3type: function 88 -/
def spec_l3type.f (a0 : Int) : Option (ByteArray) := if a0 = 1 then (some (⟨#[65]⟩ : ByteArray)) else (if a0 = 2 then (some (⟨#[78, 83]⟩ : ByteArray)) else (if a0 = 5 then (some (⟨#[67, 78, 65, 77, 69]⟩ : ByteArray)) else (if a0 = 6 then (some (⟨#[83, 79, 65]⟩ : ByteArray)) else (if a0 = 12 then (some (⟨#[80, 84, 82]⟩ : ByteArray)) else (if a0 = 16 then (some (⟨#[84, 88, 84]⟩ : ByteArray)) else (some (⟨#[68, 72, 67, 73, 68]⟩ : ByteArray)))))))
set_option maxHeartbeats 8000000 in
set_option maxRecDepth 100000 in
theorem spec_l3type.calls (a0 : Int) (r : ByteArray) (w : World) (h : spec_l3type.f a0 = some r) :
  Calls Tryd.prog 88 #[.int .i64 a0] w fun e w' => e = .returned (.string r) ∧ Drawn0 w w' := by
 have H : (if a0 = 1 then (some (⟨#[65]⟩ : ByteArray)) else (if a0 = 2 then (some (⟨#[78, 83]⟩ : ByteArray)) else (if a0 = 5 then (some (⟨#[67, 78, 65, 77, 69]⟩ : ByteArray)) else (if a0 = 6 then (some (⟨#[83, 79, 65]⟩ : ByteArray)) else (if a0 = 12 then (some (⟨#[80, 84, 82]⟩ : ByteArray)) else (if a0 = 16 then (some (⟨#[84, 88, 84]⟩ : ByteArray)) else (some (⟨#[68, 72, 67, 73, 68]⟩ : ByteArray)))))))) = some r := h
 clear h
 replace H := ie H
 obtain ⟨c2b0, c2b1, H⟩ | ⟨c2b0, c2b1, H⟩ := H
 ·obtain rfl := Option.some.inj H
  go_enter Tryd.func88, Tryd.ntmps88
  go_wp2
  go_ret
  exact ⟨o2, od⟩
 ·replace H := ie H
  obtain ⟨c3b0, c3b1, H⟩ | ⟨c3b0, c3b1, H⟩ := H
  ·obtain rfl := Option.some.inj H
   go_enter Tryd.func88, Tryd.ntmps88
   go_wp2
   go_ret
   exact ⟨o2, od⟩
  ·replace H := ie H
   obtain ⟨c4b0, c4b1, H⟩ | ⟨c4b0, c4b1, H⟩ := H
   ·obtain rfl := Option.some.inj H
    go_enter Tryd.func88, Tryd.ntmps88
    go_wp2
    go_ret
    exact ⟨o2, od⟩
   ·replace H := ie H
    obtain ⟨c5b0, c5b1, H⟩ | ⟨c5b0, c5b1, H⟩ := H
    ·obtain rfl := Option.some.inj H
     go_enter Tryd.func88, Tryd.ntmps88
     go_wp2
     go_ret
     exact ⟨o2, od⟩
    ·replace H := ie H
     obtain ⟨c6b0, c6b1, H⟩ | ⟨c6b0, c6b1, H⟩ := H
     ·obtain rfl := Option.some.inj H
      go_enter Tryd.func88, Tryd.ntmps88
      go_wp2
      go_ret
      exact ⟨o2, od⟩
     ·replace H := ie H
      obtain ⟨c7b0, c7b1, H⟩ | ⟨c7b0, c7b1, H⟩ := H
      ·obtain rfl := Option.some.inj H
       go_enter Tryd.func88, Tryd.ntmps88
       go_wp2
       go_ret
       exact ⟨o2, od⟩
      ·obtain rfl := Option.some.inj H
       go_enter Tryd.func88, Tryd.ntmps88
       go_wp2
       go_ret
       exact ⟨o2, od⟩

/-! ### spec_l3named: function 89 -/
def spec_l3named.f (a0 : Int) : Option (Bool) := if a0 = 2 then (some true) else (if a0 = 5 then (some true) else (if a0 = 6 then (some true) else (some (a0 == 12))))
set_option maxHeartbeats 8000000 in
set_option maxRecDepth 100000 in
theorem spec_l3named.calls (a0 : Int) (r : Bool) (w : World) (h : spec_l3named.f a0 = some r) :
  Calls Tryd.prog 89 #[.int .i64 a0] w fun e w' => e = .returned (.bool r) ∧ Drawn0 w w' := by
 have H : (if a0 = 2 then (some true) else (if a0 = 5 then (some true) else (if a0 = 6 then (some true) else (some (a0 == 12))))) = some r := h
 clear h
 replace H := ie H
 obtain ⟨c2b0, c2b1, H⟩ | ⟨c2b0, c2b1, H⟩ := H
 ·obtain rfl := Option.some.inj H
  go_enter Tryd.func89, Tryd.ntmps89
  go_wp2
  go_ret
  exact ⟨o2, od⟩
 ·replace H := ie H
  obtain ⟨c3b0, c3b1, H⟩ | ⟨c3b0, c3b1, H⟩ := H
  ·obtain rfl := Option.some.inj H
   go_enter Tryd.func89, Tryd.ntmps89
   go_wp2
   go_ret
   exact ⟨o2, od⟩
  ·replace H := ie H
   obtain ⟨c4b0, c4b1, H⟩ | ⟨c4b0, c4b1, H⟩ := H
   ·obtain rfl := Option.some.inj H
    go_enter Tryd.func89, Tryd.ntmps89
    go_wp2
    go_ret
    exact ⟨o2, od⟩
   ·obtain rfl := Option.some.inj H
    go_enter Tryd.func89, Tryd.ntmps89
    go_wp2
    go_ret
    exact ⟨o2, od⟩

/-! ### spec_l3hex: function 90 -/
def spec_l3hex.l0 : Nat → List Int → List Int → Int → Option (List Int)
 | 0, _, _, _ => none
 | k + 1, x0, x3, x4 => if x4 < (x0.length : Int) then (if 0 ≤ x4 then (if 0 ≤ ((rd x0 x4) / 16) then (if ((rd x0 x4) / 16) < 16 then (if 0 ≤ (Go.bits .and .u8 (rd x0 x4) 15) then (if (Go.bits .and .u8 (rd x0 x4) 15) < 16 then ((some (([bt (⟨#[48, 49, 50, 51, 52, 53, 54, 55, 56, 57, 97, 98, 99, 100, 101, 102]⟩ : ByteArray) ((rd x0 x4) / 16), bt (⟨#[48, 49, 50, 51, 52, 53, 54, 55, 56, 57, 97, 98, 99, 100, 101, 102]⟩ : ByteArray) (Go.bits .and .u8 (rd x0 x4) 15)] : List Int) : List Int)).bind fun y103 => (if x3.length + y103.length < 140737488355328 then (spec_l3hex.l0 k x0 (x3 ++ y103) (wrap64 (x4 + 1))) else (none))) else (none)) else (none)) else (none)) else (none)) else (none)) else (some x3)
def spec_l3hex.f (k : Nat) (l0 : List Int) : Option (List Int) := spec_l3hex.l0 k l0 ([] : List Int) 0
def spec_l3hex.T5 : Bool × List (List Nat × List Nat) := (true, [([], []), ([], []), ([], []), ([1, 2], [1, 2]), ([3], [3]), ([4], [4]), ([5], [5]), ([], []), ([], []), ([7, 8], [7, 8]), ([9], [9]), ([10], [10]), ([11], [11]), ([6, 12], [6, 12]), ([0, 13], [0, 13]), ([14, 14, 0, 1, 2, 3, 4, 5, 6, 7, 8, 9, 10, 11, 12, 13, 14], [0, 14])])
def spec_l3hex.B5 : List Nat := [0, 0, 0, 6, 14, 30, 62, 0, 0, 384, 896, 1920, 3968, 8190, 16383, 32767]
theorem spec_l3hex.tab5 : rtab .any (opsOf Tryd.f90 5) = spec_l3hex.T5 := by kernel_rfl
theorem spec_l3hex.bits5 : waitsOk spec_l3hex.T5.2 spec_l3hex.B5 = true := by kernel_rfl
set_option maxHeartbeats 8000000 in
set_option maxRecDepth 100000 in
theorem spec_l3hex.calls (k : Nat) (A0 : Option Addr) (c0 : Nat) (l0 : List Int) (r : List Int) (w : World) (hr0 : Kd.C (Kd.int .u8) w A0 l0.length l0) (hc0 : l0.length ≤ c0) (h : spec_l3hex.f k l0 = some r) :
  Calls Tryd.prog 90 #[.slice A0 l0.length c0] w fun e w' => ∃ v0_ : Value, e = .returned (v0_) ∧ Kd.R (Kd.int .u8) 5 w' w.heap.size (fun _ => True) v0_ r ∧ Below w.heap.size w w' := by
 have HR0 := ak hr0
 have HC0 := ak hc0
 clear hr0 hc0
 have HB := ak (Below.refl w.heap.size w)
 have H : (spec_l3hex.l0 k l0 ([] : List Int) 0) = some r := h
 clear h
 have H' := ak H
 clear H
 go_enter Tryd.func90, Tryd.ntmps90
 go_wp2
 go_loopg [3, 4] k (fun kq v3 v4 w' => ∃ (x3_1 : List Int) (x4_1 : Int), v4 = .int .i64 x4_1 ∧ Aside0 (spec_l3hex.l0 kq l0 x3_1 x4_1 = some r) ∧ Aside0 (kq ≤ k) ∧ Aside0 (Kd.R (Kd.int .u8) 5 w' w.heap.size (fun _ => True) v3 x3_1) ∧ Aside0 (Below w.heap.size w w'))
 case atStart => exact ⟨(([] : List Int)), (0), o2, H', ⟨Nat.le_refl _⟩, ⟨by first | exact Kd.R_nil _ _ _ _ _ | exact Kd.N_nil _ _ _ _ _ | exact Kd.V_nil _ _ _ _ _ | exact Kd.Q_nil _ _ _ _ _ | exact Kd.S_nil _ _ _ _ _⟩, ⟨bw HB.out⟩⟩
 case round =>
  clear H'
  obtain ⟨x3_1, x4_1, rfl, HA, HK1, HO_3, HB⟩ := hrel
  cases gk with
  | zero => exact absurd HA.out (by simp [spec_l3hex.l0])
  | succ k1 =>
   have H := HA.out
   clear HA
   simp only [spec_l3hex.l0] at H
   replace H := ip H
   obtain ⟨c2b0, H⟩ | ⟨c2b0, H⟩ := H
   ·replace H := ipN H
    obtain ⟨c3b0, H⟩ := H
    obtain ⟨ji4, hji4⟩ : ∃ j_ : Int, ((rd l0 x4_1) / 16) = j_ := ⟨_, rfl⟩
    (first | rw [hji4] at H | simp only [hji4] at H)
    replace H := ipN H
    obtain ⟨c5b0, H⟩ := H
    replace H := ipN H
    obtain ⟨c6b0, H⟩ := H
    replace H := ipN H
    obtain ⟨c8b0, H⟩ := H
    replace H := ipN H
    obtain ⟨c9b0, H⟩ := H
    obtain ⟨y103, hy103⟩ : ∃ y_ : List Int, y_ = (([bt (⟨#[48, 49, 50, 51, 52, 53, 54, 55, 56, 57, 97, 98, 99, 100, 101, 102]⟩ : ByteArray) (ji4), bt (⟨#[48, 49, 50, 51, 52, 53, 54, 55, 56, 57, 97, 98, 99, 100, 101, 102]⟩ : ByteArray) (Go.bits .and .u8 (rd l0 x4_1) 15)] : List Int)) := ⟨_, rfl⟩
    (try with_reducible replace H := bnS H)
    (try rw [← hy103] at H)
    have Ny103 := ak hy103
    clear hy103
    by_cases c11 : x3_1.length + y103.length < 140737488355328
    ·rw [if_pos c11] at H
     have LMc11 := ak c11
     clear c11
     obtain ⟨y106, hy106⟩ : ∃ y_ : List Int, y_ = (x3_1 ++ y103) := ⟨_, rfl⟩
     (try with_reducible replace H := bnS H)
     (try rw [← hy106] at H)
     have Ny106 := ak hy106
     clear hy106
     have H' := ak H
     clear H
     try go_wp2
     replace HO_3 := ak (Kd.R_drew HO_3.out)
     replace HB := ak (below_drew1 HB.out)
     obtain ⟨ad101, rfl, hw101_0, hx101_0, p101, q101⟩ := elw_int HR0 HB x4_1
     have p7 : 0 ≤ ((ji4) : Int) := of_decide_eq_true (by first | (with_reducible assumption) | assumption)
     have q7 : (ji4) < (16 : Int) := of_decide_eq_true (by first | (with_reducible assumption) | assumption)
     have hx7 := bt_at (⟨#[48, 49, 50, 51, 52, 53, 54, 55, 56, 57, 97, 98, 99, 100, 101, 102]⟩ : ByteArray) (ji4)
     replace p7 := eq_true p7
     replace q7 := eq_true q7
     obtain ⟨hw102_0, hx102_0, p102, q102⟩ := el2w_int HR0 HB x4_1
     have p10 : 0 ≤ ((Go.bits .and .u8 (rd l0 x4_1) 15) : Int) := of_decide_eq_true (by first | (with_reducible assumption) | assumption)
     have q10 : (Go.bits .and .u8 (rd l0 x4_1) 15) < (16 : Int) := of_decide_eq_true (by first | (with_reducible assumption) | assumption)
     have hx10 := bt_at (⟨#[48, 49, 50, 51, 52, 53, 54, 55, 56, 57, 97, 98, 99, 100, 101, 102]⟩ : ByteArray) (Go.bits .and .u8 (rd l0 x4_1) 15)
     replace p10 := eq_true p10
     replace q10 := eq_true q10
     refine start_ (n := 16) (S := fun w' => w'.cell? (ad101.add (x4_1).toNat) = some (.int .u8 (rd l0 x4_1)) ∧ w'.cell? (ad101.add (x4_1).toNat) = some (.int .u8 (rd l0 x4_1))) (ds := []) (bA 16 0) (by kernel_rfl) rfl rfl kq (fun hHeld => ?_); refine with_tabW spec_l3hex.tab5 spec_l3hex.bits5 (fun HT_ HW_ => ?_)
     generalize wr.drew = w12 at HO_3 HB hx101_0 hx102_0 hHeld ⊢
     refine pu HT_ 0 ?_
     refine pu HT_ 1 ?_
     refine pu HT_ 2 ?_
     refine pu HT_ 3 ?_
     refine pu HT_ 7 ?_
     refine pu HT_ 8 ?_
     refine pu HT_ 9 ?_
     refine ta HT_ HW_ hHeld 4 ?_
     refine pu HT_ 5 ?_
     refine ta HT_ HW_ hHeld 6 ?_
     refine ta HT_ HW_ hHeld 10 ?_
     refine pu HT_ 11 ?_
     refine ta HT_ HW_ hHeld 12 ?_
     refine on HT_ 13 (fun K hK => ?_)
     refine Kd.R_lit_step (Kd.int .u8) _ 5 ?hg (N := 24) ?hd (xs := ([bt (⟨#[48, 49, 50, 51, 52, 53, 54, 55, 56, 57, 97, 98, 99, 100, 101, 102]⟩ : ByteArray) (ji4), bt (⟨#[48, 49, 50, 51, 52, 53, 54, 55, 56, 57, 97, 98, 99, 100, 101, 102]⟩ : ByteArray) (Go.bits .and .u8 (rd l0 x4_1) 15)] : List Int)) (inner := [.int .u8 (bt (⟨#[48, 49, 50, 51, 52, 53, 54, 55, 56, 57, 97, 98, 99, 100, 101, 102]⟩ : ByteArray) (ji4)), .int .u8 (bt (⟨#[48, 49, 50, 51, 52, 53, 54, 55, 56, 57, 97, 98, 99, 100, 101, 102]⟩ : ByteArray) (Go.bits .and .u8 (rd l0 x4_1) 15))]) (ok := fun _ => True) (okp := fun _ => True) ?hr ?hp (fun _ hk => hk) trivial (Below.refl _ _) (Nat.le_refl _) (by simp) ?_; (case hd => rfl); (case hg => rfl); (case hr => first | (go_simp; done) | (go_simp; rfl)); (case hp => exact (Reps.one (show Kd.M (Kd.int .u8) _ _ _ (bt (⟨#[48, 49, 50, 51, 52, 53, 54, 55, 56, 57, 97, 98, 99, 100, 101, 102]⟩ : ByteArray) (ji4)) [.int .u8 (bt (⟨#[48, 49, 50, 51, 52, 53, 54, 55, 56, 57, 97, 98, 99, 100, 101, 102]⟩ : ByteArray) (ji4))] from rfl) (Reps.one (show Kd.M (Kd.int .u8) _ _ _ (bt (⟨#[48, 49, 50, 51, 52, 53, 54, 55, 56, 57, 97, 98, 99, 100, 101, 102]⟩ : ByteArray) (Go.bits .and .u8 (rd l0 x4_1) 15)) [.int .u8 (bt (⟨#[48, 49, 50, 51, 52, 53, 54, 55, 56, 57, 97, 98, 99, 100, 101, 102]⟩ : ByteArray) (Go.bits .and .u8 (rd l0 x4_1) 15))] from rfl) (Reps.none _ _))))
     intro v104 w13 ho14 hb hg_ hnew_
     clear hg_ hnew_
     (first | rw [← Ny103.out] at ho14 | (simp only [Int.reduceToNat] at ho14; rw [← Ny103.out] at ho14))
     have HO105 := ak (Kd.R_lower (Kd.R_new' ho14 (Kd.R_lt (rw_ HO_3.out))) (below_size (bw HB.out)))
     replace HO_3 := ak (Kd.R_elder' (rw_ HO_3.out) (Kd.R_base ho14) hb)
     replace HB := b2 HB hb
     clear hb ho14
     obtain ⟨Ao16, co16, eo16⟩ := Kd.R_slice HO105.out
     (first | subst eo16 | (injection eo16 with f1_ f2_ f3_; have f4_ := f1_.symm; have f5_ := f3_.symm; clear f1_ f2_ f3_; subst f4_; subst f5_))
     refine hK.out _ _ ⟨(pw_cell_below HB.out hw101_0), (pw_cell_below HB.out hw102_0)⟩ (fun hHeld => ?_)
     clear hK K
     refine norm_ (a' := ?_) ?_ ?_; rotate_left; go_simp; rfl
     refine on HT_ 14 (fun K hK => ?_)
     refine Kd.R_append_rows_step (Kd.int .u8) (w0 := w) w.heap.size (by rfl) (.tmp 11) (.tmp 24) 22 5 (.int .u8 0) 1 rfl Tryd.underlying22 info5 rfl (by decide) (by omega) u3 x3_1 y103 _ _ _ (fun k_ => some k_ ≠ (.slice Ao16 y103.length co16 : Value).ownBlock) (fun _ => False) rfl rfl ?aO ?aR (fun _ _ h => h) (fun _ h => h.elim) ?aF ?aB ?aS ?aL ?_
     (case aR => repeat (first | exact (Kd.R_reads' HO105.out).2.2 | (with_reducible refine Kd.C_alloc ?_ _) | (with_reducible refine Kd.C_drewN ?_ _) | (with_reducible refine Kd.C_drew ?_)))
     (case aB => exact (bw HB.out))
     (case aF => exact (fun k_ hk => Kd.fresh' (Kd.R_lt (rw_ HO105.out)) k_ hk))
     (case aO => exact (rw_ (Kd.R_mono HO_3.out (fun _ hk => hk.2))))
     (case aS => exact (below_size (bw HB.out)))
     (case aL => have := LMc11.out; omega)
     intro v107 w15 ho hb hg hat
     rw [← Ny106.out] at ho
     replace HO105 := ak (Kd.R_after (ok := (fun _ => True)) (rw_ HO105.out) hg hat)
     replace HB := ak (hb)
     have HO108 := ak (ho)
     clear HO_3 ho hb hg hat
     refine hK.out _ _ ⟨(pw_cell_below HB.out hw101_0), (pw_cell_below HB.out hw102_0)⟩ (fun hHeld => ?_)
     clear hK K
     refine norm_ (a' := ?_) ?_ ?_; rotate_left; go_simp; rfl
     refine pu HT_ 15 ?_
     refine done_ (done_of HT_.out (by kernel_rfl)) ?_
     try go_wp2
     go_roundg k1
     case measure => have := HK1.out; omega
     case rel => exact ⟨(y106), (wrap64 (x4_1 + 1)), o2, H', ⟨by have := HK1.out; omega⟩, ⟨by (with_reducible repeat (first | apply Kd.R_alloc | apply Kd.R_drewN | apply Kd.R_drew)); exact Kd.R_mono HO108.out (fun _ hk => trivial)⟩, ⟨bw HB.out⟩⟩
    ·rw [if_neg c11] at H
     exact absurd H (by simp)
   ·obtain rfl := Option.some.inj H
    go_wp2
    go_ret
    exact ⟨_, o1, rw_ HO_3.out, bw HB.out⟩

/-! ### spec_l1dotted: function 36 -/
def spec_l1dotted.l0 : Nat → Int → List Int → Int → Option (List Int)
 | 0, _, _, _ => none
 | k + 1, x0, x3, x4 => if x4 ≥ 0 then (if 0 ≤ (wrap64 (8 * x4)) then ((spec_l1digits.f k (Go.bits .and .i64 (shr .i64 x0 (wrap64 (8 * x4))) 255)).bind fun t101 => (if x3.length + t101.length < 140737488355328 then ((some (x3 ++ t101 : List Int)).bind fun y104 => (if x4 > 0 then (if y104.length < 140737488355328 then (spec_l1dotted.l0 k x0 (y104 ++ [46]) (wrap64 (x4 - 1))) else (none)) else (spec_l1dotted.l0 k x0 y104 (wrap64 (x4 - 1))))) else (none))) else (none)) else (some x3)
def spec_l1dotted.f (k : Nat) (a0 : Int) : Option (List Int) := spec_l1dotted.l0 k a0 ([] : List Int) 3
set_option maxHeartbeats 8000000 in
set_option maxRecDepth 100000 in
theorem spec_l1dotted.calls (k : Nat) (a0 : Int) (r : List Int) (w : World) (h : spec_l1dotted.f k a0 = some r) :
  Calls Tryd.prog 36 #[.int .i64 a0] w fun e w' => ∃ v0_ : Value, e = .returned (v0_) ∧ Kd.R (Kd.int .u8) 5 w' w.heap.size (fun _ => True) v0_ r ∧ Below w.heap.size w w' := by
 have HB := ak (Below.refl w.heap.size w)
 have H : (spec_l1dotted.l0 k a0 ([] : List Int) 3) = some r := h
 clear h
 have H' := ak H
 clear H
 go_enter Tryd.func36, Tryd.ntmps36
 go_wp2
 go_loopg [3, 4] k (fun kq v3 v4 w' => ∃ (x3_1 : List Int) (x4_1 : Int), v4 = .int .i64 x4_1 ∧ Aside0 (spec_l1dotted.l0 kq a0 x3_1 x4_1 = some r) ∧ Aside0 (kq ≤ k) ∧ Aside0 (Kd.R (Kd.int .u8) 5 w' w.heap.size (fun _ => True) v3 x3_1) ∧ Aside0 (Below w.heap.size w w'))
 case atStart => exact ⟨(([] : List Int)), (3), o2, H', ⟨Nat.le_refl _⟩, ⟨by first | exact Kd.R_nil _ _ _ _ _ | exact Kd.N_nil _ _ _ _ _ | exact Kd.V_nil _ _ _ _ _ | exact Kd.Q_nil _ _ _ _ _ | exact Kd.S_nil _ _ _ _ _⟩, ⟨bw HB.out⟩⟩
 case round =>
  clear H'
  obtain ⟨x3_1, x4_1, rfl, HA, HK1, HO_3, HB⟩ := hrel
  cases gk with
  | zero => exact absurd HA.out (by simp [spec_l1dotted.l0])
  | succ k1 =>
   have H := HA.out
   clear HA
   simp only [spec_l1dotted.l0] at H
   replace H := ih H
   obtain ⟨c2b0, H⟩ | ⟨c2b0, H⟩ := H
   ·obtain ⟨ji3, hji3⟩ : ∃ j_ : Int, (wrap64 (8 * x4_1)) = j_ := ⟨_, rfl⟩
    (first | rw [hji3] at H | simp only [hji3] at H)
    have hji3w : (IntKind.i64.wrap (8 * x4_1)) = ji3 := (i64_w _).trans hji3
    replace H := ipE H
    obtain ⟨c4b0, c4b1, H⟩ := H
    obtain ⟨ji5, hji5⟩ : ∃ j_ : Int, (shr .i64 a0 (ji3)) = j_ := ⟨_, rfl⟩
    (first | rw [hji5] at H | simp only [hji5] at H)
    have hji5_ : (a0 / 2 ^ min (ji3).toNat 64) = ji5 := hji5
    have hji5z : (ji3) ≤ 64 → (a0 / 2 ^ (ji3).toNat) = ji5 := shr_small hji5
    replace H := bnd H
    obtain ⟨t101, A6, H⟩ := H
    by_cases c7 : x3_1.length + t101.length < 140737488355328
    ·rw [if_pos c7] at H
     have LMc7 := ak c7
     clear c7
     obtain ⟨y104, hy104⟩ : ∃ y_ : List Int, y_ = (x3_1 ++ t101) := ⟨_, rfl⟩
     (try with_reducible replace H := bnS H)
     (try rw [← hy104] at H)
     have Ny104 := ak hy104
     clear hy104
     replace H := ig H
     obtain ⟨c8b0, H⟩ | ⟨c8b0, H⟩ := H
     ·by_cases c9 : y104.length < 140737488355328
      ·rw [if_pos c9] at H
       have LMc9 := ak c9
       clear c9
       obtain ⟨y107, hy107⟩ : ∃ y_ : List Int, y_ = (y104 ++ [46]) := ⟨_, rfl⟩
       (try with_reducible replace H := bnS H)
       (try rw [← hy107] at H)
       have Ny107 := ak hy107
       clear hy107
       have H' := ak H
       clear H
       go_wp2_with (first | ((with_reducible refine gate_callee (f := 70) rfl ?_);refine goesL_ (some 15) rfl rfl Tryd.func70 (by kernel_rfl) rfl #[.int .i64 (Go.bits .and .i64 (ji5) 255)] rfl (by (try simp only [List.map_toArray, List.map_cons, List.map_nil]); first | done | (simp only [hji5]; rfl) | rfl | (simp only [List.length_drop, List.length_take]; rfl)) ?_;(with_reducible refine (spec_l1digits.calls k1 (Go.bits .and .i64 (ji5) 255) t101 _ A6.out).mono ?_);rintro e w10 ⟨v102, rfl, ho0, hb⟩;refine ⟨_, rfl, ?_⟩;have HO103 := ak (Kd.R_lower (Kd.R_new' ho0 (Kd.R_lt (rw_ HO_3.out))) (below_size (bw HB.out)));replace HO_3 := ak (Kd.R_elder' (rw_ HO_3.out) (Kd.R_base ho0) hb);replace HB := b2 HB hb;(try clear hb);(try clear ho0);obtain ⟨Ao12, co12, eo12⟩ := Kd.R_slice HO103.out;subst eo12) | ((with_reducible refine gate_builtin (b := .append) (xs := #[.tmp 9, .tmp 15]) rfl ?_);at_builtin;refine Kd.R_append_rows (Kd.int .u8) (w0 := w) w.heap.size rfl (.tmp 9) (.tmp 15) 22 5 (.int .u8 0) 1 rfl Tryd.underlying22 info5 rfl (by decide) (by omega) u3 x3_1 t101 _ _ _ (fun k_ => some k_ ≠ (.slice Ao12 t101.length co12 : Value).ownBlock) (fun _ => False) rfl rfl ?aO ?aR (fun _ _ h => h) (fun _ h => h.elim) ?aF ?aB ?aS ?aL ?_;(case aR => repeat (first | exact (Kd.R_reads' HO103.out).2.2 | (with_reducible refine Kd.C_alloc ?_ _) | (with_reducible refine Kd.C_drewN ?_ _) | (with_reducible refine Kd.C_drew ?_)));(case aB => exact (bw HB.out));(case aF => exact (fun k_ hk => Kd.fresh' (Kd.R_lt (rw_ HO103.out)) k_ hk));(case aO => exact (rw_ (Kd.R_mono HO_3.out (fun _ hk => hk.2))));(case aS => exact (below_size (bw HB.out)));(case aL => have := LMc7.out; omega);intro v105 w11 ho hb hg hat;rw [← Ny104.out] at ho;replace HO103 := ak (Kd.R_after (ok := (fun _ => True)) (rw_ HO103.out) hg hat);replace HB := ak (hb);have HO106 := ak (ho);clear HO_3;clear ho hb hg hat) | ((with_reducible refine gate_builtin (b := .append) (xs := #[.tmp 19, .tmp 20]) rfl ?_);at_builtin;refine Kd.R_append (Kd.int .u8) (w0 := w) w.heap.size rfl (.tmp 19) (.tmp 20) 22 5 (.int .u8 0) 1 rfl Tryd.underlying22 info5 rfl (by decide) (by omega) v105 y104 46 [.int .u8 46] (fun k_ => some k_ ≠ (.slice Ao12 t101.length co12 : Value).ownBlock) (fun _ => False) rfl rfl ?aP (fun _ hk => hk.elim) ?aF ?aO ?aB ?aS ?aL ?_;(case aP => exact rfl);(case aB => exact (bw HB.out));(case aF => exact (fun k_ hk => Kd.fresh' (Kd.R_lt (rw_ HO103.out)) k_ hk));(case aO => exact (rw_ HO106.out));(case aS => exact (below_size (bw HB.out)));(case aL => have := LMc9.out; omega);intro v108 w13 ho hb hg hat;rw [← Ny107.out] at ho;replace HO103 := ak (Kd.R_after (ok := (fun _ => True)) (rw_ HO103.out) hg hat);replace HB := ak (hb);have HO109 := ak (ho);clear HO106;clear ho hb hg hat))
       go_roundg k1
       case measure => have := HK1.out; omega
       case rel => exact ⟨(y107), (wrap64 (x4_1 - 1)), o2, H', ⟨by have := HK1.out; omega⟩, ⟨by (with_reducible repeat (first | apply Kd.R_alloc | apply Kd.R_drewN | apply Kd.R_drew)); exact Kd.R_mono HO109.out (fun _ hk => trivial)⟩, ⟨bw HB.out⟩⟩
      ·rw [if_neg c9] at H
       exact absurd H (by simp)
     ·have H' := ak H
      clear H
      go_wp2_with (first | ((with_reducible refine gate_callee (f := 70) rfl ?_);refine goesL_ (some 15) rfl rfl Tryd.func70 (by kernel_rfl) rfl #[.int .i64 (Go.bits .and .i64 (ji5) 255)] rfl (by (try simp only [List.map_toArray, List.map_cons, List.map_nil]); first | done | (simp only [hji5]; rfl) | rfl | (simp only [List.length_drop, List.length_take]; rfl)) ?_;(with_reducible refine (spec_l1digits.calls k1 (Go.bits .and .i64 (ji5) 255) t101 _ A6.out).mono ?_);rintro e w14 ⟨v102, rfl, ho0, hb⟩;refine ⟨_, rfl, ?_⟩;have HO103 := ak (Kd.R_lower (Kd.R_new' ho0 (Kd.R_lt (rw_ HO_3.out))) (below_size (bw HB.out)));replace HO_3 := ak (Kd.R_elder' (rw_ HO_3.out) (Kd.R_base ho0) hb);replace HB := b2 HB hb;(try clear hb);(try clear ho0);obtain ⟨Ao16, co16, eo16⟩ := Kd.R_slice HO103.out;subst eo16) | ((with_reducible refine gate_builtin (b := .append) (xs := #[.tmp 9, .tmp 15]) rfl ?_);at_builtin;refine Kd.R_append_rows (Kd.int .u8) (w0 := w) w.heap.size rfl (.tmp 9) (.tmp 15) 22 5 (.int .u8 0) 1 rfl Tryd.underlying22 info5 rfl (by decide) (by omega) u3 x3_1 t101 _ _ _ (fun k_ => some k_ ≠ (.slice Ao16 t101.length co16 : Value).ownBlock) (fun _ => False) rfl rfl ?aO ?aR (fun _ _ h => h) (fun _ h => h.elim) ?aF ?aB ?aS ?aL ?_;(case aR => repeat (first | exact (Kd.R_reads' HO103.out).2.2 | (with_reducible refine Kd.C_alloc ?_ _) | (with_reducible refine Kd.C_drewN ?_ _) | (with_reducible refine Kd.C_drew ?_)));(case aB => exact (bw HB.out));(case aF => exact (fun k_ hk => Kd.fresh' (Kd.R_lt (rw_ HO103.out)) k_ hk));(case aO => exact (rw_ (Kd.R_mono HO_3.out (fun _ hk => hk.2))));(case aS => exact (below_size (bw HB.out)));(case aL => have := LMc7.out; omega);intro v105 w15 ho hb hg hat;rw [← Ny104.out] at ho;replace HO103 := ak (Kd.R_after (ok := (fun _ => True)) (rw_ HO103.out) hg hat);replace HB := ak (hb);have HO106 := ak (ho);clear HO_3;clear ho hb hg hat))
      go_roundg k1
      case measure => have := HK1.out; omega
      case rel => exact ⟨(y104), (wrap64 (x4_1 - 1)), o2, H', ⟨by have := HK1.out; omega⟩, ⟨by (with_reducible repeat (first | apply Kd.R_alloc | apply Kd.R_drewN | apply Kd.R_drew)); exact Kd.R_mono HO106.out (fun _ hk => trivial)⟩, ⟨bw HB.out⟩⟩
    ·rw [if_neg c7] at H
     exact absurd H (by simp)
   ·obtain rfl := Option.some.inj H
    go_wp2
    go_ret
    exact ⟨_, o1, rw_ HO_3.out, bw HB.out⟩

theorem zqw_ {e base : Nat} {w w1 : World} {v : Value} {xs : List Int} (h : Zq e w base v xs) [g : Nonempty (Gr w w1)] : Zq e w1 base v xs := g.elim fun g => h.below g
theorem hcw {w W : World} {p : Addr} {v : Value} (hb : Below w.heap.size w W) (h : w.cell? p = some v) : W.cell? p = some v := (hb.cell (World.block_lt_of_cell? w _ h)).trans h
theorem C32 {W : World} {g : Nat} (h : W.heap[g]? = some (.cells #[.int .u8 32] 5 (0, 0))) : Kd.C (Kd.int .u8) W (some ⟨g, 0, none⟩) [(32 : Int)].length [32] :=
  Kd.C_of_reads (enc := Value.int .u8) (d := 0) ⟨rfl, by decide, fun _ => ⟨_, rfl, fun j hj => match j, hj with
    | 0, _ => (blk_cell h 0).trans rfl⟩⟩
theorem lit_ofd {W w1 : World} {c : Array Value} {t : Nat} {fr : Nat × Nat} (h : Below ((W.alloc (.cells c t fr)).drew).heap.size ((W.alloc (.cells c t fr)).drew) w1) : w1.heap[W.heap.size]? = some (.cells c t fr) := blk_below (blk_drew (heap_alloc_new W _)) h
theorem lit2 (W : World) : ((W.alloc (.cells #[.int .u8 32] 5)).alloc (.cells #[.int .u8 32] 5)).heap[W.heap.size]? = some (.cells #[.int .u8 32] 5 (0, 0)) ∧ ((W.alloc (.cells #[.int .u8 32] 5)).alloc (.cells #[.int .u8 32] 5)).heap[W.heap.size + 1]? = some (.cells #[.int .u8 32] 5 (0, 0)) :=
  ⟨blk_alloc (heap_alloc_new W _) _, by simpa using heap_alloc_new (W.alloc (.cells #[.int .u8 32] 5)) (.cells #[.int .u8 32] 5)⟩
/-- Two texts ' ' are laid, then a row is appended to. -/
theorem litg2 {W w5 : World} {v v1 : Value} (hg : ((W.alloc (.cells #[.int .u8 32] 5)).alloc (.cells #[.int .u8 32] 5)).grownBy w5 v.ownBlock) (hv : ∀ k, v.ownBlock = some k → k < W.heap.size)
    (hat : v1.ownBlock = v.ownBlock ∨ ∃ b, v1.ownBlock = some b ∧ ((W.alloc (.cells #[.int .u8 32] 5)).alloc (.cells #[.int .u8 32] 5)).heap.size ≤ b) :
    (w5.heap[W.heap.size]? = some (.cells #[.int .u8 32] 5 (0, 0)) ∧ w5.heap[W.heap.size + 1]? = some (.cells #[.int .u8 32] 5 (0, 0))) ∧ (some W.heap.size ≠ v1.ownBlock ∧ some (W.heap.size + 1) ≠ v1.ownBlock) := by
  refine ⟨⟨blk_grown (lit2 W).1 hg (fun e => by have := hv _ e.symm; omega), blk_grown (lit2 W).2 hg (fun e => by have := hv _ e.symm; omega)⟩, fun e => ?_, fun e => ?_⟩
  · rcases hat with h | ⟨b, h, hb⟩
    · rw [h] at e; have := hv _ e.symm; omega
    · rw [h] at e; have := Option.some.inj e; simp at hb; omega
  · rcases hat with h | ⟨b, h, hb⟩
    · rw [h] at e; have := hv _ e.symm; omega
    · rw [h] at e; have := Option.some.inj e; simp at hb; omega
theorem stepR {c : Prop} [Decidable c] {A B E : Prop} (hc : c) (h : if c then A else B) : if c then A else E := by rw [if_pos hc] at h ⊢; exact h
/-- What stands behind a record's type, in its text. -/
def Tail3 (k : Nat) (ty addr : Int) (tn : List (List Int)) (tx nu z : List Int) : Prop :=
  (ty = 1 ∧ spec_l1dotted.f k addr = some z) ∨
  (ty = 6 ∧ nu.length = 2 ∧ ∃ n2 d2 d3, spec_l2text.f k tn = some n2 ∧ spec_l1digits.f k (rd nu 0) = some d2 ∧ spec_l1digits.f k (rd nu 1) = some d3 ∧ z = n2 ++ [32] ++ d2 ++ [32] ++ d3) ∨
  (ty ≠ 1 ∧ ty ≠ 6 ∧ spec_l3named.f ty = some true ∧ spec_l2text.f k tn = some z) ∨
  (ty ≠ 1 ∧ ty ≠ 6 ∧ spec_l3named.f ty = some false ∧ spec_l3hex.f k tx = some z)
set_option maxHeartbeats 8000000 in
set_option maxRecDepth 100000 in
theorem l3text_any (k : Nat) (A0 : Option Addr) (c0 : Nat) (nm : List (List Int)) (ty ttl addr : Int) (A4 : Option Addr) (c4 : Nat) (tn : List (List Int)) (A5 : Option Addr) (c5 : Nat) (tx : List Int) (A6 : Option Addr) (c6 : Nat) (nu : List Int) (w : World)
    (hr0 : Kd.C (Kd.slice 5 (Kd.int .u8)) w A0 nm.length nm) (hc0 : nm.length ≤ c0) (hr4 : Kd.C (Kd.slice 5 (Kd.int .u8)) w A4 tn.length tn) (hc4 : tn.length ≤ c4) (hr5 : Kd.C (Kd.int .u8) w A5 tx.length tx) (hc5 : tx.length ≤ c5) (hr6 : Kd.C (Kd.int .i64) w A6 nu.length nu) (hc6 : nu.length ≤ c6)
    (n1 d1 : List Int) (s : ByteArray) (h1 : spec_l2text.f k nm = some n1) (h2 : spec_l1digits.f k ttl = some d1) (h3 : spec_l3type.f ty = some s) (l1 : n1.length ≤ 1000000) (l2 : d1.length ≤ 1000000) (l3 : s.size ≤ 1000000)
    (z : List Int) (hz : Tail3 k ty addr tn tx nu z) (l4 : z.length ≤ 5000000) :
    Calls Tryd.prog 63 #[.agg #[.slice A0 nm.length c0, .int .i64 ty, .int .i64 ttl, .int .i64 addr, .slice A4 tn.length c4, .slice A5 tx.length c5, .slice A6 nu.length c6]] w fun e w' => ∃ v : Value, e = .returned v ∧ Kd.R (Kd.int .u8) 5 w' w.heap.size (fun _ => True) v (n1 ++ [32] ++ d1 ++ [32] ++ bytesOf s ++ [32] ++ z) ∧ Below w.heap.size w w' := by
  have HR0 := ak hr0
  have HC0 := ak hc0
  have H1 := ak h1
  have H2 := ak h2
  have H3 := ak h3
  have L1 := ak l1
  have L2 := ak l2
  have L3 := ak l3
  have HR4 := ak hr4
  have HC4 := ak hc4
  have HR5 := ak hr5
  have HC5 := ak hc5
  have HR6 := ak hr6
  have HC6 := ak hc6
  have HZ3 := ak hz
  have L4 := ak l4
  clear hr0 hc0 h1 h2 h3 l1 l2 l3 hr4 hc4 hr5 hc5 hr6 hc6 hz l4
  go_enter Tryd.func63, Tryd.ntmps63
  go_upto_region 1 with (fail)
  obtain ⟨W1, hW1⟩ : ∃ W, W = w.alloc (.cells #[.slice A0 nm.length c0, .int .i64 ty, .int .i64 ttl, .int .i64 addr, .slice A4 tn.length c4, .slice A5 tx.length c5, .slice A6 nu.length c6] 51) := ⟨_, rfl⟩
  have BK := ak (show W1.heap[w.heap.size]? = some (.cells #[.slice A0 nm.length c0, .int .i64 ty, .int .i64 ttl, .int .i64 addr, .slice A4 tn.length c4, .slice A5 tx.length c5, .slice A6 nu.length c6] 51 (0, 0)) by rw [hW1]; exact heap_alloc_new w _)
  have HB := ak (show Below w.heap.size w W1 by rw [hW1]; exact below_alloc (Below.refl _ _) _)
  rw [← hW1]
  clear hW1
  go_cut [3] (fun s3 wx => ∃ v : Value, s3 = v ∧ Aside0 (Kd.R (Kd.int .u8) 5 wx w.heap.size (fun _ => True) v (n1 ++ [32] ++ d1)) ∧ Aside0 (wx.heap[w.heap.size]? = some (.cells #[.slice A0 nm.length c0, .int .i64 ty, .int .i64 ttl, .int .i64 addr, .slice A4 tn.length c4, .slice A5 tx.length c5, .slice A6 nu.length c6] 51 (0, 0))) ∧ Aside0 (Below w.heap.size w wx))
  case first =>
    go_region_held3 (fun w' => w'.cell? ⟨w.heap.size, 0, none⟩ = some (.slice A0 nm.length c0) ∧ w'.cell? ⟨w.heap.size, 2, none⟩ = some (.int .i64 ttl)) (first | exact ⟨(blk_cell (bk BK.out) 0).trans rfl, (blk_cell (bk BK.out) 2).trans rfl⟩ | go_keep)
      (first
        | (go_at_call 87; refine (spec_l2text.calls k A0 c0 nm n1 _ (cw HR0.out HB.out) HC0.out H1.out).mono ?_; rintro e w2 ⟨v6, rfl, hz, hb⟩; (first | have HLA := ak (lit_of' hb) | have HLA := ak (lit_ofd hb) | skip); have HZ := ak (Zq.lower hz (below_size (bw HB.out))); replace BK := b1 BK hb; replace HB := b2s (bw HB.out) hb; clear hz hb)
        | (go_at_call 70; refine (spec_l1digits.calls k ttl d1 _ H2.out).mono ?_; rintro e w4 ⟨v11, rfl, ho, hb⟩; obtain ⟨A11, c11, eo⟩ := Kd.R_slice ho; subst eo; replace HA := ak (Kd.R_below (rw_ HA.out) hb); have HD := ak (Kd.R_lower ho (below_size (bw HB.out))); replace BK := b1 BK hb; replace HB := b2s (bw HB.out) hb; clear ho hb)
        | (refine stepR (by simp [Region.wanted]) (Zq_append_step (w0 := w) w.heap.size (by simp [Region.wanted]) (.tmp 6) (.tmp 7) 22 5 (by rfl) Tryd.underlying22 info5 v6 n1 [32] _ _ (by rfl) (by rfl) (zqw_ HZ.out) (by first | exact C32 (heap_alloc_new _ _) | exact C32 HLA.out) (by decide) (bw HB.out) (below_size (bw HB.out)) (by have := L1.out; simp; omega) ?_); intro v8 w5 ho hb hg; replace BK := ak (blk_grown (bk BK.out) hg (Z_ne HZ.out.1 BK.out (by decide))); replace HB := ak hb; have HA := ak ho; clear ho hb hg HZ)
        | (refine stepR (by simp [Region.wanted]) (Kd.R_append_rows_step (Kd.int .u8) (w0 := w) w.heap.size (by simp [Region.wanted]) (.tmp 8) (.tmp 11) 22 5 (.int .u8 0) 1 (by rfl) Tryd.underlying22 info5 rfl (by decide) (by omega) v8 (n1 ++ [32]) d1 _ _ _ (fun _ => True) (fun _ => False) (by rfl) (by rfl) (rw_ HA.out) (Kd.R_reads' (rw_ HD.out)).2.2 (fun _ _ h => h) (fun _ h => h.elim) (fun _ _ => trivial) (bw HB.out) (below_size (bw HB.out)) (by have := L1.out; have := L2.out; simp; omega) ?_); intro v12 w6 ho hb hg hat; replace BK := ak (blk_grown (bk BK.out) hg (Kd.R_ne HA.out BK.out (by decide))); replace HB := ak hb; have HA2 := ak ho; clear ho hb hg hat HA HD)
        | (trace_state; fail))
    all_goals (go_wp2_with fail; go_meet; exact ⟨_, rfl, HA2, BK, HB⟩)
  case rest =>
    obtain ⟨v, rfl, HO, BK, HB⟩ := hcut
    obtain ⟨X1, hX1⟩ : ∃ x, x = n1 ++ [32] ++ d1 := ⟨_, rfl⟩
    have HX1 := ak (show X1.length ≤ 3000000 by rw [hX1]; have := L1.out; have := L2.out; simp; omega)
    rw [← hX1] at HO
    have HXE := ak hX1
    clear hX1
    go_upto_region 2 with (fail)
    go_cut [3] (fun s3 wx => ∃ v : Value, s3 = v ∧ Aside0 (Kd.R (Kd.int .u8) 5 wx w.heap.size (fun _ => True) v (X1 ++ [32] ++ bytesOf s ++ [32])) ∧ Aside0 (wx.heap[w.heap.size]? = some (.cells #[.slice A0 nm.length c0, .int .i64 ty, .int .i64 ttl, .int .i64 addr, .slice A4 tn.length c4, .slice A5 tx.length c5, .slice A6 nu.length c6] 51 (0, 0))) ∧ Aside0 (Below w.heap.size w wx))
    case first =>
      go_region_held3 (fun w' => w'.cell? ⟨w.heap.size, 1, none⟩ = some (.int .i64 ty)) (first | exact (blk_cell (bk BK.out) 1).trans rfl | go_keep)
        (first
          | (refine stepR (by simp [Region.wanted]) (Kd.R_append_rows_step (Kd.int .u8) (w0 := w) w.heap.size (by simp [Region.wanted]) (.tmp 13) (.tmp 14) 22 5 (.int .u8 0) 1 (by rfl) Tryd.underlying22 info5 rfl (by decide) (by omega) _ X1 [32] _ _ _ (fun _ => True) (fun _ => False) (by rfl) (by rfl) (rw_ HO.out) (by first | exact C32 (lit2 _).1 | exact C32 (lit2 _).2 | exact C32 (heap_alloc_new _ _)) (fun _ _ h => h) (fun _ h => h.elim) (fun _ _ => trivial) (bw HB.out) (below_size (bw HB.out)) (by have := HX1.out; omega) ?_); intro v15 w5 ho hb hg hat; (first | have HL2 := ak (litg2 (W := wc) ⟨hg.os, hg.tape, hg.output, hg.size, hg.block⟩ (fun k hk => Kd.R_lt HO.out k hk) hat) | skip); replace BK := ak (blk_grown (bk BK.out) hg (Kd.R_ne HO.out BK.out (by decide))); replace HB := ak hb; have HA := ak ho; clear ho hb hg hat HO)
          | (go_at_call 88; refine (spec_l3type.calls ty s _ H3.out).mono ?_; rintro e w4 ⟨rfl, ⟨nd, rfl⟩⟩)
          | (refine stepR (by simp [Region.wanted]) (R_str_step (w0 := w) w.heap.size (by simp [Region.wanted]) (.tmp 15) (.tmp 18) 22 9 5 (by rfl) Tryd.underlying22 Tryd.underlying9 info5 v15 (X1 ++ [32]) s (by rfl) (by rfl) (rw_ HA.out) (bw HB.out) (below_size (bw HB.out)) (by have := HX1.out; have := L3.out; simp; omega) ?_); intro v19 w7 ho hb hg; (first | have HLQ := ak (And.intro (blk_grown (bk HL2.out.1.1) hg HL2.out.2.1) (blk_grown (bk HL2.out.1.2) hg HL2.out.2.2)) | have HLQ := ak (blk_grown (heap_alloc_new _ _) hg (fun e => Nat.lt_irrefl _ (Kd.R_lt HA.out _ e.symm))) | have HLQ := ak (blk_grown (blk_drewN (heap_alloc_new _ _) _) hg (fun e => Nat.lt_irrefl _ (Kd.R_lt HA.out _ e.symm))) | skip); replace BK := ak (blk_grown (bk BK.out) hg (Kd.R_ne HA.out BK.out (by decide))); replace HB := ak hb; have HA2 := ak ho; clear ho hb hg HA)
          | (refine stepR (by simp [Region.wanted]) (Kd.R_append_rows_step (Kd.int .u8) (w0 := w) w.heap.size (by simp [Region.wanted]) (.tmp 19) (.tmp 20) 22 5 (.int .u8 0) 1 (by rfl) Tryd.underlying22 info5 rfl (by decide) (by omega) v19 (X1 ++ [32] ++ bytesOf s) [32] _ _ _ (fun _ => True) (fun _ => False) (by rfl) (by rfl) (rw_ HA2.out) (by first | exact C32 (heap_alloc_new _ _) | exact C32 HLQ.out.1 | exact C32 HLQ.out.2 | exact C32 HLQ.out) (fun _ _ h => h) (fun _ h => h.elim) (fun _ _ => trivial) (bw HB.out) (below_size (bw HB.out)) (by have := HX1.out; have := L3.out; simp [bytesOf_length]; omega) ?_); intro v21 w9 ho hb hg hat; replace BK := ak (blk_grown (bk BK.out) hg (Kd.R_ne HA2.out BK.out (by decide))); replace HB := ak hb; have HA3 := ak ho; clear ho hb hg hat HA2)
          | fail)
      all_goals (go_wp2_with fail; go_meet; exact ⟨_, rfl, HA3, BK, HB⟩)
    case rest =>
      obtain ⟨v, rfl, HO, BK, HB⟩ := hcut
      obtain ⟨X2, hX2⟩ : ∃ x, x = X1 ++ [32] ++ bytesOf s ++ [32] := ⟨_, rfl⟩
      have HX2 := ak (show X2.length ≤ 5000000 by rw [hX2]; have := HX1.out; have := L3.out; simp [bytesOf_length]; omega)
      rw [← hX2] at HO
      have HX2E := ak hX2
      clear hX2
      have hc1 : wc.cell? ⟨w.heap.size, 1, none⟩ = some (.int .i64 ty) := (blk_cell BK.out 1).trans rfl
      rcases HZ3.out with ⟨hty, hz⟩ | ⟨hty, hnl, n2, d2, d3, hn2, hd2, hd3, hze⟩ | ⟨hty1, hty6, hnm, hz⟩ | ⟨hty1, hty6, hnm, hz⟩
      · have HZ := ak hz
        clear hz
        subst hty
        have hc3 : wc.cell? ⟨w.heap.size, 3, none⟩ = some (.int .i64 addr) := (blk_cell BK.out 3).trans rfl
        go_wp2_with (fail)
        refine (spec_l1dotted.calls k addr z _ HZ.out).mono ?_
        rintro e w3 ⟨v29, rfl, ho, hb⟩
        obtain ⟨A29, c29, eo⟩ := Kd.R_slice ho
        subst eo
        replace HO := ak (Kd.R_below HO.out hb)
        have HD := ak ho
        replace HB := b2s HB.out hb
        clear ho hb hc1 hc3
        go_wp2_with (((with_reducible refine gate_builtin (b := .append) (xs := #[.tmp 26, .tmp 29]) rfl ?_);at_builtin;refine Kd.R_append_rows (Kd.int .u8) (w0 := w) w.heap.size rfl (.tmp 26) (.tmp 29) 22 5 (.int .u8 0) 1 rfl Tryd.underlying22 info5 rfl (by decide) (by omega) _ X2 z _ _ _ (fun _ => True) (fun _ => False) rfl rfl (rw_ HO.out) (Kd.R_reads' (rw_ HD.out)).2.2 (fun _ _ h => h) (fun _ h => h.elim) (fun _ _ => trivial) (bw HB.out) (below_size (bw HB.out)) (by have := HX2.out; have := L4.out; omega) ?_;intro v30 w5 ho hb hg hat;replace HB := ak hb;have HA := ak ho;clear ho hb hg hat HO HD BK))
        go_ret
        refine ⟨_, rfl, ?_, HB.out⟩
        have e : n1 ++ [32] ++ d1 ++ [32] ++ bytesOf s ++ [32] ++ z = X2 ++ z := by rw [HX2E.out, HXE.out]
        rw [e]
        exact HA.out
      · skip
        have HN2 := ak hn2
        have HD2 := ak hd2
        have HD3 := ak hd3
        have HZE := ak hze
        have LZ := ak (show n2.length ≤ 5000000 ∧ d2.length ≤ 5000000 ∧ d3.length ≤ 5000000 by have := L4.out; rw [hze] at this; simp at this; omega)
        obtain ⟨ad, had, hx0⟩ := Kd.at_int HR6.out 0 (by omega) (by rw [hnl]; omega)
        obtain ⟨ad', had', hx1⟩ := Kd.at_int HR6.out 1 (by omega) (by rw [hnl]; omega)
        rw [had] at had'
        obtain rfl := Option.some.inj had'
        clear hn2 hd2 hd3 hze had'
        subst hty
        have HX0 := ak (show w.cell? ad = some (.int .i64 (rd nu 0)) by have h := hx0; simp only [Int.toNat_zero] at h; rwa [show ad.add 0 = ad by unfold Addr.add; simp] at h)
        have HX1' := ak (show w.cell? ⟨ad.block, ad.off + 1, none⟩ = some (.int .i64 (rd nu 1)) from hx1)
        have HVL := ak (fun k hk => Kd.R_lt HO.out k hk)
        have hl0 : 0 < nu.length := by omega
        have hl1 : 1 < nu.length := by omega
        have hl1' : (1 : Int) < (nu.length : Int) := by omega
        clear hx0 hx1 hnl
        subst had
        go_upto_region 6 with (fail)
        go_cut [3] (fun s3 wx => ∃ v : Value, s3 = v ∧ Aside0 (Kd.R (Kd.int .u8) 5 wx w.heap.size (fun _ => True) v (X2 ++ n2 ++ [32] ++ d2)) ∧ Aside0 (wx.heap[w.heap.size]? = some (.cells #[.slice A0 nm.length c0, .int .i64 6, .int .i64 ttl, .int .i64 addr, .slice A4 tn.length c4, .slice A5 tx.length c5, .slice (some ad) nu.length c6] 51 (0, 0))) ∧ Aside0 (Below w.heap.size w wx))
        case first =>
          go_region_held3 (fun w' => w'.cell? ⟨w.heap.size, 4, none⟩ = some (.slice A4 tn.length c4) ∧ w'.cell? ⟨w.heap.size, 6, none⟩ = some (.slice (some ad) nu.length c6) ∧ w'.cell? ad = some (.int .i64 (rd nu 0))) (first | exact ⟨(blk_cell (bk BK.out) 4).trans rfl, (blk_cell (bk BK.out) 6).trans rfl, hcw (bw HB.out) HX0.out⟩ | go_keep)
            (first
              | (go_at_call 87; refine (spec_l2text.calls k A4 c4 tn n2 _ (cw HR4.out HB.out) HC4.out HN2.out).mono ?_; rintro e w2 ⟨v38, rfl, hz, hb⟩; obtain ⟨A38, c38, eo⟩ := Z_slice hz.1; subst eo; (first | have HLA := ak (lit_of' hb) | have HLA := ak (lit_ofd hb) | skip); have HZ := ak (Zq.lower hz (below_size (bw HB.out))); replace HO := ak (Kd.R_below (rw_ HO.out) hb); replace BK := b1 BK hb; replace HB := b2s (bw HB.out) hb; clear hz hb)
              | (go_at_call 70; refine (spec_l1digits.calls k (rd nu 0) d2 _ HD2.out).mono ?_; rintro e w4 ⟨v46, rfl, ho, hb⟩; obtain ⟨A46, c46, eo⟩ := Kd.R_slice ho; subst eo; replace HA2 := ak (Kd.R_below (rw_ HA2.out) hb); have HD := ak (Kd.R_lower ho (below_size (bw HB.out))); replace BK := b1 BK hb; replace HB := b2s (bw HB.out) hb; clear ho hb)
              | (refine stepR (by simp [Region.wanted]) (Kd.R_append_rows_step (Kd.int .u8) (w0 := w) w.heap.size (by simp [Region.wanted]) (.tmp 35) (.tmp 38) 22 5 (.int .u8 0) 1 (by rfl) Tryd.underlying22 info5 rfl (by decide) (by omega) _ (X2) n2 _ _ _ (fun _ => True) (fun _ => False) (by rfl) (by rfl) (rw_ HO.out) ((Z_reads' (zqw_ HZ.out).1).2.2) (fun _ _ h => h) (fun _ h => h.elim) (fun _ _ => trivial) (bw HB.out) (below_size (bw HB.out)) (by have := HX2.out; have := LZ.out; omega) ?_); intro v39 w5 ho hb hg hat; (first | have HLQ := ak (blk_grown (bk HLA.out) hg (fun e => Nat.lt_irrefl _ (HVL.out _ e.symm))) | have HLQ := ak (blk_grown (heap_alloc_new _ _) hg (fun e => Nat.lt_irrefl _ (Kd.R_lt HO.out _ e.symm))) | skip); replace BK := ak (blk_grown (bk BK.out) hg (Kd.R_ne HO.out BK.out (by decide))); replace HB := ak hb; have HA := ak ho; clear ho hb hg hat HO HZ)
              | (refine stepR (by simp [Region.wanted]) (Kd.R_append_rows_step (Kd.int .u8) (w0 := w) w.heap.size (by simp [Region.wanted]) (.tmp 39) (.tmp 40) 22 5 (.int .u8 0) 1 (by rfl) Tryd.underlying22 info5 rfl (by decide) (by omega) _ (X2 ++ n2) [32] _ _ _ (fun _ => True) (fun _ => False) (by rfl) (by rfl) (rw_ HA.out) (by first | exact C32 (heap_alloc_new _ _) | exact C32 HLQ.out) (fun _ _ h => h) (fun _ h => h.elim) (fun _ _ => trivial) (bw HB.out) (below_size (bw HB.out)) (by have := HX2.out; have := LZ.out; simp; omega) ?_); intro v41 w6 ho hb hg hat; replace BK := ak (blk_grown (bk BK.out) hg (Kd.R_ne HA.out BK.out (by decide))); replace HB := ak hb; have HA2 := ak ho; clear ho hb hg hat HA)
              | (refine stepR (by simp [Region.wanted]) (Kd.R_append_rows_step (Kd.int .u8) (w0 := w) w.heap.size (by simp [Region.wanted]) (.tmp 41) (.tmp 46) 22 5 (.int .u8 0) 1 (by rfl) Tryd.underlying22 info5 rfl (by decide) (by omega) _ (X2 ++ n2 ++ [32]) d2 _ _ _ (fun _ => True) (fun _ => False) (by rfl) (by rfl) (rw_ HA2.out) ((Kd.R_reads' (rw_ HD.out)).2.2) (fun _ _ h => h) (fun _ h => h.elim) (fun _ _ => trivial) (bw HB.out) (below_size (bw HB.out)) (by have := HX2.out; have := LZ.out; simp; omega) ?_); intro v47 w7 ho hb hg hat; replace BK := ak (blk_grown (bk BK.out) hg (Kd.R_ne HA2.out BK.out (by decide))); replace HB := ak hb; have HA3 := ak ho; clear ho hb hg hat HA2 HD)
              | fail)
          all_goals (go_wp2_with fail; go_meet; exact ⟨_, rfl, HA3, BK, HB⟩)
        case rest =>
          obtain ⟨v3, rfl, HO, BK, HB⟩ := hcut
          go_upto_region 7 with (fail)
          go_region_held3 (fun w' => w'.cell? ⟨w.heap.size, 6, none⟩ = some (.slice (some ad) nu.length c6) ∧ w'.cell? ⟨ad.block, ad.off + 1, none⟩ = some (.int .i64 (rd nu 1))) (first | exact ⟨(blk_cell (bk BK.out) 6).trans rfl, hcw (bw HB.out) HX1'.out⟩ | go_keep)
            (first
              | (go_at_call 70; refine (spec_l1digits.calls k (rd nu 1) d3 _ HD3.out).mono ?_; rintro e w4 ⟨v55, rfl, ho, hb⟩; obtain ⟨A55, c55, eo⟩ := Kd.R_slice ho; subst eo; replace HA2 := ak (Kd.R_below (rw_ HA2.out) hb); have HD := ak (Kd.R_lower ho (below_size (bw HB.out))); replace BK := b1 BK hb; replace HB := b2s (bw HB.out) hb; clear ho hb)
              | (refine stepR (by simp [Region.wanted]) (Kd.R_append_rows_step (Kd.int .u8) (w0 := w) w.heap.size (by simp [Region.wanted]) (.tmp 48) (.tmp 49) 22 5 (.int .u8 0) 1 (by rfl) Tryd.underlying22 info5 rfl (by decide) (by omega) _ (X2 ++ n2 ++ [32] ++ d2) [32] _ _ _ (fun _ => True) (fun _ => False) (by rfl) (by rfl) (rw_ HO.out) (by first | exact C32 (heap_alloc_new _ _)) (fun _ _ h => h) (fun _ h => h.elim) (fun _ _ => trivial) (bw HB.out) (below_size (bw HB.out)) (by have := HX2.out; have := LZ.out; simp; omega) ?_); intro v50 w6 ho hb hg hat; replace BK := ak (blk_grown (bk BK.out) hg (Kd.R_ne HO.out BK.out (by decide))); replace HB := ak hb; have HA2 := ak ho; clear ho hb hg hat HO)
              | (refine stepR (by simp [Region.wanted]) (Kd.R_append_rows_step (Kd.int .u8) (w0 := w) w.heap.size (by simp [Region.wanted]) (.tmp 50) (.tmp 55) 22 5 (.int .u8 0) 1 (by rfl) Tryd.underlying22 info5 rfl (by decide) (by omega) _ (X2 ++ n2 ++ [32] ++ d2 ++ [32]) d3 _ _ _ (fun _ => True) (fun _ => False) (by rfl) (by rfl) (rw_ HA2.out) ((Kd.R_reads' (rw_ HD.out)).2.2) (fun _ _ h => h) (fun _ h => h.elim) (fun _ _ => trivial) (bw HB.out) (below_size (bw HB.out)) (by have := HX2.out; have := LZ.out; simp; omega) ?_); intro v56 w7 ho hb hg hat; replace BK := ak (blk_grown (bk BK.out) hg (Kd.R_ne HA2.out BK.out (by decide))); replace HB := ak hb; have HA3 := ak ho; clear ho hb hg hat HA2 HD)
              | fail)
          all_goals
            go_wp2_with (fail)
            go_ret
            refine ⟨_, rfl, ?_, HB.out⟩
            have e : n1 ++ [32] ++ d1 ++ [32] ++ bytesOf s ++ [32] ++ z = X2 ++ n2 ++ [32] ++ d2 ++ [32] ++ d3 := by rw [HX2E.out, HXE.out, HZE.out]; simp only [List.append_assoc]
            rw [e]
            exact HA3.out
      · have HZ := ak hz
        have HNM := ak hnm
        clear hz hnm
        go_wp2_with (fail)
        refine (spec_l3named.calls ty true _ HNM.out).mono ?_
        rintro e w3 ⟨rfl, ⟨nd, rfl⟩⟩
        replace HO := ak (Kd.R_drewN HO.out nd)
        replace BK := ak (blk_drewN BK.out nd)
        replace HB := ak (pw_below_drewN HB.out nd)
        generalize wc.drewN nd = w3 at HO BK HB ⊢
        have hc4 : w3.cell? ⟨w.heap.size, 4, none⟩ = some (.slice A4 tn.length c4) := (blk_cell BK.out 4).trans rfl
        clear hc1
        go_wp2_with (fail)
        refine (spec_l2text.calls k A4 c4 tn z _ (cw HR4.out HB.out) HC4.out HZ.out).mono ?_
        rintro e w4 ⟨v29, rfl, ho, hb⟩
        obtain ⟨A29, c29, eo⟩ := Z_slice ho.1
        subst eo
        replace HO := ak (Kd.R_below HO.out hb)
        have HD := ak ho
        replace HB := b2s HB.out hb
        clear ho hb hc4
        go_wp2_with (((with_reducible refine gate_builtin (b := .append) (xs := #[.tmp 61, .tmp 64]) rfl ?_);at_builtin;refine Kd.R_append_rows (Kd.int .u8) (w0 := w) w.heap.size rfl (.tmp 61) (.tmp 64) 22 5 (.int .u8 0) 1 rfl Tryd.underlying22 info5 rfl (by decide) (by omega) _ X2 z _ _ _ (fun _ => True) (fun _ => False) rfl rfl (rw_ HO.out) (Z_reads' HD.out.1).2.2 (fun _ _ h => h) (fun _ h => h.elim) (fun _ _ => trivial) (bw HB.out) (below_size (bw HB.out)) (by have := HX2.out; have := L4.out; omega) ?_;intro v30 w5 ho hb hg hat;replace HB := ak hb;have HA := ak ho;clear ho hb hg hat HO HD BK))
        go_ret
        refine ⟨_, rfl, ?_, HB.out⟩
        have e : n1 ++ [32] ++ d1 ++ [32] ++ bytesOf s ++ [32] ++ z = X2 ++ z := by rw [HX2E.out, HXE.out]
        rw [e]
        exact HA.out
      · have HZ := ak hz
        have HNM := ak hnm
        clear hz hnm
        go_wp2_with (fail)
        refine (spec_l3named.calls ty false _ HNM.out).mono ?_
        rintro e w3 ⟨rfl, ⟨nd, rfl⟩⟩
        replace HO := ak (Kd.R_drewN HO.out nd)
        replace BK := ak (blk_drewN BK.out nd)
        replace HB := ak (pw_below_drewN HB.out nd)
        generalize wc.drewN nd = w3 at HO BK HB ⊢
        have hc5 : w3.cell? ⟨w.heap.size, 5, none⟩ = some (.slice A5 tx.length c5) := (blk_cell BK.out 5).trans rfl
        clear hc1
        go_wp2_with (fail)
        refine (spec_l3hex.calls k A5 c5 tx z _ (cw HR5.out HB.out) HC5.out HZ.out).mono ?_
        rintro e w4 ⟨v29, rfl, ho, hb⟩
        obtain ⟨A29, c29, eo⟩ := Kd.R_slice ho
        subst eo
        replace HO := ak (Kd.R_below HO.out hb)
        have HD := ak ho
        replace HB := b2s HB.out hb
        clear ho hb hc5
        go_wp2_with (((with_reducible refine gate_builtin (b := .append) (xs := #[.tmp 66, .tmp 69]) rfl ?_);at_builtin;refine Kd.R_append_rows (Kd.int .u8) (w0 := w) w.heap.size rfl (.tmp 66) (.tmp 69) 22 5 (.int .u8 0) 1 rfl Tryd.underlying22 info5 rfl (by decide) (by omega) _ X2 z _ _ _ (fun _ => True) (fun _ => False) rfl rfl (rw_ HO.out) (Kd.R_reads' (rw_ HD.out)).2.2 (fun _ _ h => h) (fun _ h => h.elim) (fun _ _ => trivial) (bw HB.out) (below_size (bw HB.out)) (by have := HX2.out; have := L4.out; omega) ?_;intro v30 w5 ho hb hg hat;replace HB := ak hb;have HA := ak ho;clear ho hb hg hat HO HD BK))
        go_ret
        refine ⟨_, rfl, ?_, HB.out⟩
        have e : n1 ++ [32] ++ d1 ++ [32] ++ bytesOf s ++ [32] ++ z = X2 ++ z := by rw [HX2E.out, HXE.out]
        rw [e]
        exact HA.out

/-! ### spec_LabelOk: function 110 -/
mutual
def spec_LabelOk.j0 : Nat → List Int → Bool → Option (Bool)
 | 0, _, _ => none
 | k + 1, x0, x11 => if x11 = true then (some false) else (spec_LabelOk.l0 k x0 0)
def spec_LabelOk.l0 : Nat → List Int → Int → Option (Bool)
 | 0, _, _ => none
 | k + 1, x0, x3 => if x3 < (x0.length : Int) then (if 0 ≤ x3 then (if (rd x0 x3) ≥ 97 then (if ((rd x0 x3) ≤ 122) then (spec_LabelOk.l0 k x0 (wrap64 (x3 + 1))) else (if (rd x0 x3) ≥ 48 then (if ((rd x0 x3) ≤ 57) then (spec_LabelOk.l0 k x0 (wrap64 (x3 + 1))) else (if (rd x0 x3) = 45 then (spec_LabelOk.l0 k x0 (wrap64 (x3 + 1))) else (some false))) else (if (rd x0 x3) = 45 then (spec_LabelOk.l0 k x0 (wrap64 (x3 + 1))) else (some false)))) else (if (rd x0 x3) ≥ 48 then (if ((rd x0 x3) ≤ 57) then (spec_LabelOk.l0 k x0 (wrap64 (x3 + 1))) else (if (rd x0 x3) = 45 then (spec_LabelOk.l0 k x0 (wrap64 (x3 + 1))) else (some false))) else (if (rd x0 x3) = 45 then (spec_LabelOk.l0 k x0 (wrap64 (x3 + 1))) else (some false)))) else (none)) else (some true)
end
def spec_LabelOk.f (k : Nat) (l0 : List Int) : Option (Bool) := if (l0.length : Int) < 1 then (spec_LabelOk.j0 k l0 true) else (spec_LabelOk.j0 k l0 (decide ((l0.length : Int) > 15)))
set_option maxHeartbeats 8000000 in
set_option maxRecDepth 100000 in
theorem spec_LabelOk.calls (k : Nat) (A0 : Option Addr) (c0 : Nat) (l0 : List Int) (r : Bool) (w : World) (hr0 : Kd.C (Kd.int .u8) w A0 l0.length l0) (hc0 : l0.length ≤ c0) (h : spec_LabelOk.f k l0 = some r) :
  Calls Tryd.prog 110 #[.slice A0 l0.length c0] w fun e w' => e = .returned (.bool r) ∧ Drawn0 w w' := by
 have HR0 := ak hr0
 have HC0 := ak hc0
 clear hr0 hc0
 have H : (if (l0.length : Int) < 1 then (spec_LabelOk.j0 k l0 true) else (spec_LabelOk.j0 k l0 (decide ((l0.length : Int) > 15)))) = some r := h
 clear h
 have HC2 := ak H
 clear H
 go_enter Tryd.func110, Tryd.ntmps110
 go_upto_region 1 with (fail)
 go_cut [11] (fun v11 wc => ∃ (kq : Nat) (x11_1 : Bool), v11 = .bool x11_1 ∧ Aside0 (spec_LabelOk.j0 kq l0 x11_1 = some r) ∧ Aside0 (kq ≤ k) ∧ Drawn0 w wc)
 case first =>
  have H := HC2.out
  clear HC2
  replace H := ip H
  obtain ⟨c3b0, H⟩ | ⟨c3b0, H⟩ := H
  ·have c3b1 : decide (l0.length < 1) = true := decide_eq_true (by have := of_decide_eq_true c3b0; omega)
   (first | rw [c3b0] | (simp only [i64_w, i32_w]; rw [c3b0]) | skip)
   have H' := ak H
   clear H
   go_wp2
   go_meet
   case rel => exact ⟨_, (true), o2, H', ⟨o3⟩, od⟩
  ·have c3b1 : decide (l0.length < 1) = false := decide_eq_false (by have := of_decide_eq_false c3b0; omega)
   (first | rw [c3b0] | (simp only [i64_w, i32_w]; rw [c3b0]) | skip)
   have H' := ak H
   clear H
   go_wp2
   go_meet
   case rel => exact ⟨_, (decide ((l0.length : Int) > 15)), o2, H', ⟨o3⟩, od⟩
 case rest =>
  clear HC2
  obtain ⟨kq, x11_1, rfl, HA, HJ1, ⟨mc1, rfl⟩⟩ := hcut
  cases kq with
  | zero => exact absurd HA.out (by simp [spec_LabelOk.j0])
  | succ kj1 =>
   have H := HA.out
   clear HA
   simp only [spec_LabelOk.j0] at H
   replace H := ib H
   obtain ⟨rfl, H⟩ | ⟨rfl, H⟩ := H
   ·obtain rfl := Option.some.inj H
    go_wp2
    go_ret
    exact ⟨o2, od⟩
   ·have H' := ak H
    clear H
    go_wp2
    go_loopg [3] kj1 (fun kq v3 w' => ∃ (x3_2 : Int), v3 = .int .i64 x3_2 ∧ Aside0 (spec_LabelOk.l0 kq l0 x3_2 = some r) ∧ Aside0 (kq ≤ kj1) ∧ Drawn0 w w')
    case atStart => exact ⟨(0), o2, H', ⟨Nat.le_refl _⟩, od⟩
    case round =>
     clear H'
     obtain ⟨x3_2, rfl, HA, HK2, ⟨m2, rfl⟩⟩ := hrel
     cases gk with
     | zero => exact absurd HA.out (by simp [spec_LabelOk.l0])
     | succ k2 =>
      have H := HA.out
      clear HA
      simp only [spec_LabelOk.l0] at H
      replace H := ip H
      obtain ⟨c5b0, H⟩ | ⟨c5b0, H⟩ := H
      ·replace H := ipN H
       obtain ⟨c6b0, H⟩ := H
       replace H := ih H
       obtain ⟨c7b0, H⟩ | ⟨c7b0, H⟩ := H
       ·replace H := ip H
        obtain ⟨c8b0, H⟩ | ⟨c8b0, H⟩ := H
        ·have H' := ak H
         clear H
         obtain ⟨ad101, rfl, hx101_0, p101, q101⟩ := el0_int HR0 x3_2
         obtain ⟨hx102_0, p102, q102⟩ := el20_int HR0 x3_2
         go_wp2
         go_roundg k2
         case measure => have := HJ1.out; have := HK2.out; omega
         case rel => exact ⟨(wrap64 (x3_2 + 1)), o2, H', ⟨by have := HJ1.out; have := HK2.out; omega⟩, od⟩
        ·replace H := ih H
         obtain ⟨c9b0, H⟩ | ⟨c9b0, H⟩ := H
         ·replace H := ip H
          obtain ⟨c10b0, H⟩ | ⟨c10b0, H⟩ := H
          ·have H' := ak H
           clear H
           obtain ⟨ad101, rfl, hx101_0, p101, q101⟩ := el0_int HR0 x3_2
           obtain ⟨hx102_0, p102, q102⟩ := el20_int HR0 x3_2
           obtain ⟨hx103_0, p103, q103⟩ := el20_int HR0 x3_2
           obtain ⟨hx104_0, p104, q104⟩ := el20_int HR0 x3_2
           go_wp2
           go_roundg k2
           case measure => have := HJ1.out; have := HK2.out; omega
           case rel => exact ⟨(wrap64 (x3_2 + 1)), o2, H', ⟨by have := HJ1.out; have := HK2.out; omega⟩, od⟩
          ·replace H := ie H
           obtain ⟨c11b0, c11b1, H⟩ | ⟨c11b0, c11b1, H⟩ := H
           ·have H' := ak H
            clear H
            obtain ⟨ad101, rfl, hx101_0, p101, q101⟩ := el0_int HR0 x3_2
            obtain ⟨hx102_0, p102, q102⟩ := el20_int HR0 x3_2
            obtain ⟨hx103_0, p103, q103⟩ := el20_int HR0 x3_2
            obtain ⟨hx104_0, p104, q104⟩ := el20_int HR0 x3_2
            obtain ⟨hx105_0, p105, q105⟩ := el20_int HR0 x3_2
            go_wp2
            go_roundg k2
            case measure => have := HJ1.out; have := HK2.out; omega
            case rel => exact ⟨(wrap64 (x3_2 + 1)), o2, H', ⟨by have := HJ1.out; have := HK2.out; omega⟩, od⟩
           ·obtain rfl := Option.some.inj H
            obtain ⟨ad101, rfl, hx101_0, p101, q101⟩ := el0_int HR0 x3_2
            obtain ⟨hx102_0, p102, q102⟩ := el20_int HR0 x3_2
            obtain ⟨hx103_0, p103, q103⟩ := el20_int HR0 x3_2
            obtain ⟨hx104_0, p104, q104⟩ := el20_int HR0 x3_2
            obtain ⟨hx105_0, p105, q105⟩ := el20_int HR0 x3_2
            go_wp2
            go_ret
            exact ⟨o2, od⟩
         ·replace H := ie H
          obtain ⟨c12b0, c12b1, H⟩ | ⟨c12b0, c12b1, H⟩ := H
          ·have H' := ak H
           clear H
           obtain ⟨ad101, rfl, hx101_0, p101, q101⟩ := el0_int HR0 x3_2
           obtain ⟨hx102_0, p102, q102⟩ := el20_int HR0 x3_2
           obtain ⟨hx103_0, p103, q103⟩ := el20_int HR0 x3_2
           obtain ⟨hx106_0, p106, q106⟩ := el20_int HR0 x3_2
           go_wp2
           go_roundg k2
           case measure => have := HJ1.out; have := HK2.out; omega
           case rel => exact ⟨(wrap64 (x3_2 + 1)), o2, H', ⟨by have := HJ1.out; have := HK2.out; omega⟩, od⟩
          ·obtain rfl := Option.some.inj H
           obtain ⟨ad101, rfl, hx101_0, p101, q101⟩ := el0_int HR0 x3_2
           obtain ⟨hx102_0, p102, q102⟩ := el20_int HR0 x3_2
           obtain ⟨hx103_0, p103, q103⟩ := el20_int HR0 x3_2
           obtain ⟨hx106_0, p106, q106⟩ := el20_int HR0 x3_2
           go_wp2
           go_ret
           exact ⟨o2, od⟩
       ·replace H := ih H
        obtain ⟨c13b0, H⟩ | ⟨c13b0, H⟩ := H
        ·replace H := ip H
         obtain ⟨c14b0, H⟩ | ⟨c14b0, H⟩ := H
         ·have H' := ak H
          clear H
          obtain ⟨ad101, rfl, hx101_0, p101, q101⟩ := el0_int HR0 x3_2
          obtain ⟨hx107_0, p107, q107⟩ := el20_int HR0 x3_2
          obtain ⟨hx108_0, p108, q108⟩ := el20_int HR0 x3_2
          go_wp2
          go_roundg k2
          case measure => have := HJ1.out; have := HK2.out; omega
          case rel => exact ⟨(wrap64 (x3_2 + 1)), o2, H', ⟨by have := HJ1.out; have := HK2.out; omega⟩, od⟩
         ·replace H := ie H
          obtain ⟨c15b0, c15b1, H⟩ | ⟨c15b0, c15b1, H⟩ := H
          ·have H' := ak H
           clear H
           obtain ⟨ad101, rfl, hx101_0, p101, q101⟩ := el0_int HR0 x3_2
           obtain ⟨hx107_0, p107, q107⟩ := el20_int HR0 x3_2
           obtain ⟨hx108_0, p108, q108⟩ := el20_int HR0 x3_2
           obtain ⟨hx109_0, p109, q109⟩ := el20_int HR0 x3_2
           go_wp2
           go_roundg k2
           case measure => have := HJ1.out; have := HK2.out; omega
           case rel => exact ⟨(wrap64 (x3_2 + 1)), o2, H', ⟨by have := HJ1.out; have := HK2.out; omega⟩, od⟩
          ·obtain rfl := Option.some.inj H
           obtain ⟨ad101, rfl, hx101_0, p101, q101⟩ := el0_int HR0 x3_2
           obtain ⟨hx107_0, p107, q107⟩ := el20_int HR0 x3_2
           obtain ⟨hx108_0, p108, q108⟩ := el20_int HR0 x3_2
           obtain ⟨hx109_0, p109, q109⟩ := el20_int HR0 x3_2
           go_wp2
           go_ret
           exact ⟨o2, od⟩
        ·replace H := ie H
         obtain ⟨c16b0, c16b1, H⟩ | ⟨c16b0, c16b1, H⟩ := H
         ·have H' := ak H
          clear H
          obtain ⟨ad101, rfl, hx101_0, p101, q101⟩ := el0_int HR0 x3_2
          obtain ⟨hx107_0, p107, q107⟩ := el20_int HR0 x3_2
          obtain ⟨hx110_0, p110, q110⟩ := el20_int HR0 x3_2
          go_wp2
          go_roundg k2
          case measure => have := HJ1.out; have := HK2.out; omega
          case rel => exact ⟨(wrap64 (x3_2 + 1)), o2, H', ⟨by have := HJ1.out; have := HK2.out; omega⟩, od⟩
         ·obtain rfl := Option.some.inj H
          obtain ⟨ad101, rfl, hx101_0, p101, q101⟩ := el0_int HR0 x3_2
          obtain ⟨hx107_0, p107, q107⟩ := el20_int HR0 x3_2
          obtain ⟨hx110_0, p110, q110⟩ := el20_int HR0 x3_2
          go_wp2
          go_ret
          exact ⟨o2, od⟩
      ·obtain rfl := Option.some.inj H
       go_wp2
       go_ret
       exact ⟨o2, od⟩

/-! ### spec_NameOk: function 84 -/
def spec_NameOk.l0 : Nat → Int → List (List Int) → Option (Bool)
 | 0, _, _ => none
 | k + 1, x3, x102000 => if x3 < (x102000.length : Int) then (if 0 ≤ x3 then ((spec_LabelOk.f k (rd_L10 x102000 x3)).bind fun t103 => (if t103 = true then (spec_NameOk.l0 k (wrap64 (x3 + 1)) x102000) else (some false))) else (none)) else (some true)
def spec_NameOk.f (k : Nat) (l0_0 : List (List Int)) : Option (Bool) := if (l0_0.length : Int) > 6 then (some false) else (spec_NameOk.l0 k 0 l0_0)
set_option maxHeartbeats 8000000 in
set_option maxRecDepth 100000 in
theorem spec_NameOk.calls (k : Nat) (A0_0 : Option Addr) (c0_0 : Nat) (l0_0 : List (List Int)) (r : Bool) (w : World) (hr0_0 : Kd.C (Kd.slice 5 (Kd.int .u8)) w A0_0 l0_0.length l0_0) (hc0_0 : l0_0.length ≤ c0_0) (h : spec_NameOk.f k l0_0 = some r) :
  Calls Tryd.prog 84 #[.agg #[.slice A0_0 l0_0.length c0_0]] w fun e w' => e = .returned (.bool r) ∧ Below w.heap.size w w' := by
 have hu29 := Tryd.underlying29
 have HR0_0 := ak hr0_0
 have HC0_0 := ak hc0_0
 clear hr0_0 hc0_0
 have HB := ak (Below.refl w.heap.size w)
 have H : (if (l0_0.length : Int) > 6 then (some false) else (spec_NameOk.l0 k 0 l0_0)) = some r := h
 clear h
 replace H := ig H
 obtain ⟨c2b0, H⟩ | ⟨c2b0, H⟩ := H
 ·have c2b1 : decide (6 < l0_0.length) = true := decide_eq_true (by have := of_decide_eq_true c2b0; omega)
  obtain rfl := Option.some.inj H
  go_enter Tryd.func84, Tryd.ntmps84
  go_wp2_with (((with_reducible refine gate_dst (N := 1) rfl ?_);refine bxd (N := 1) rfl HB ?_;clear HB;intro gb101 w3 hg HB BK101 GE101 hb;have GW101 := GE101;clear hb hg;obtain ⟨hcz4_0, hfz4_0⟩ := cells1 BK101.out))
  go_ret
  exact ⟨o1, bs⟩
 ·have c2b1 : decide (6 < l0_0.length) = false := decide_eq_false (by have := of_decide_eq_false c2b0; omega)
  have H' := ak H
  clear H
  go_enter Tryd.func84, Tryd.ntmps84
  go_wp2_with (((with_reducible refine gate_dst (N := 1) rfl ?_);refine bxd (N := 1) rfl HB ?_;clear HB;intro gb101 w5 hg HB BK101 GE101 hb;have GW101 := GE101;clear hb hg;obtain ⟨hcz6_0, hfz6_0⟩ := cells1 BK101.out))
  go_loopg [3] k (fun kq v3 w' => ∃ (x3_1 : Int), v3 = .int .i64 x3_1 ∧ Aside0 (spec_NameOk.l0 kq x3_1 l0_0 = some r) ∧ Aside0 (kq ≤ k) ∧ Aside0 (w'.heap[gb101]? = some (.cells #[(.slice A0_0 l0_0.length c0_0)] 29 (0, 0))) ∧ Aside0 (Below w.heap.size w w'))
  case atStart => exact ⟨(0), o2, H', ⟨Nat.le_refl _⟩, ⟨bk BK101.out⟩, ⟨bs⟩⟩
  case round =>
   clear H'
   (try clear c2b0)
   (try clear c2b1)
   (try clear hcz6_0)
   (try clear hfz6_0)
   obtain ⟨x3_1, rfl, HA, HK1, BK101, HB⟩ := hrel
   cases gk with
   | zero => exact absurd HA.out (by simp [spec_NameOk.l0])
   | succ k1 =>
    have H := HA.out
    clear HA
    simp only [spec_NameOk.l0] at H
    replace H := ip H
    obtain ⟨c7b0, H⟩ | ⟨c7b0, H⟩ := H
    ·replace H := ipN H
     obtain ⟨c8b0, H⟩ := H
     replace H := bnd H
     obtain ⟨t103, A9, H⟩ := H
     replace H := ib H
     obtain ⟨rfl, H⟩ | ⟨rfl, H⟩ := H
     ·have H' := ak H
      clear H
      obtain ⟨hcz11_0, hfz11_0⟩ := cells1 BK101.out
      obtain ⟨ad102, A102_0, c102_0, rfl, hx102_0, HC102_0, HR102_0, p102, q102⟩ := el_L10 HR0_0 HB x3_1
      go_wp2_with (((with_reducible refine gate_callee (f := 110) rfl ?_);refine glD 20 rfl rfl Tryd.func110 (spec_LabelOk.calls k1 _ _ (rd_L10 l0_0 x3_1) true _ (cv HR102_0 HB) HC102_0.out A9.out) (fun nd => ?_)))
      go_roundg k1
      case measure => have := HK1.out; omega
      case rel => exact ⟨(wrap64 (x3_1 + 1)), o2, H', ⟨by have := HK1.out; omega⟩, ⟨bk BK101.out⟩, ⟨bs⟩⟩
     ·obtain rfl := Option.some.inj H
      obtain ⟨hcz12_0, hfz12_0⟩ := cells1 BK101.out
      obtain ⟨ad102, A102_0, c102_0, rfl, hx102_0, HC102_0, HR102_0, p102, q102⟩ := el_L10 HR0_0 HB x3_1
      go_wp2_with (((with_reducible refine gate_callee (f := 110) rfl ?_);refine glD 20 rfl rfl Tryd.func110 (spec_LabelOk.calls k1 _ _ (rd_L10 l0_0 x3_1) false _ (cv HR102_0 HB) HC102_0.out A9.out) (fun nd => ?_)))
      go_ret
      exact ⟨o1, bs⟩
    ·obtain rfl := Option.some.inj H
     obtain ⟨hcz13_0, hfz13_0⟩ := cells1 BK101.out
     go_wp2
     go_ret
     exact ⟨o1, bs⟩

/-! ### spec_TypeOk: function 85 -/
def spec_TypeOk.f (a0 : Int) : Option (Bool) := if a0 = 1 then (some true) else (if a0 = 2 then (some true) else (if a0 = 5 then (some true) else (if a0 = 6 then (some true) else (if a0 = 12 then (some true) else (if a0 = 16 then (some true) else (if a0 = 49 then (some true) else (some false)))))))
set_option maxHeartbeats 8000000 in
set_option maxRecDepth 100000 in
theorem spec_TypeOk.calls (a0 : Int) (r : Bool) (w : World) (h : spec_TypeOk.f a0 = some r) :
  Calls Tryd.prog 85 #[.int .i64 a0] w fun e w' => e = .returned (.bool r) ∧ Drawn0 w w' := by
 have H : (if a0 = 1 then (some true) else (if a0 = 2 then (some true) else (if a0 = 5 then (some true) else (if a0 = 6 then (some true) else (if a0 = 12 then (some true) else (if a0 = 16 then (some true) else (if a0 = 49 then (some true) else (some false)))))))) = some r := h
 clear h
 replace H := ie H
 obtain ⟨c2b0, c2b1, H⟩ | ⟨c2b0, c2b1, H⟩ := H
 ·obtain rfl := Option.some.inj H
  go_enter Tryd.func85, Tryd.ntmps85
  go_wp2
  go_ret
  exact ⟨o2, od⟩
 ·replace H := ie H
  obtain ⟨c3b0, c3b1, H⟩ | ⟨c3b0, c3b1, H⟩ := H
  ·obtain rfl := Option.some.inj H
   go_enter Tryd.func85, Tryd.ntmps85
   go_wp2
   go_ret
   exact ⟨o2, od⟩
  ·replace H := ie H
   obtain ⟨c4b0, c4b1, H⟩ | ⟨c4b0, c4b1, H⟩ := H
   ·obtain rfl := Option.some.inj H
    go_enter Tryd.func85, Tryd.ntmps85
    go_wp2
    go_ret
    exact ⟨o2, od⟩
   ·replace H := ie H
    obtain ⟨c5b0, c5b1, H⟩ | ⟨c5b0, c5b1, H⟩ := H
    ·obtain rfl := Option.some.inj H
     go_enter Tryd.func85, Tryd.ntmps85
     go_wp2
     go_ret
     exact ⟨o2, od⟩
    ·replace H := ie H
     obtain ⟨c6b0, c6b1, H⟩ | ⟨c6b0, c6b1, H⟩ := H
     ·obtain rfl := Option.some.inj H
      go_enter Tryd.func85, Tryd.ntmps85
      go_wp2
      go_ret
      exact ⟨o2, od⟩
     ·replace H := ie H
      obtain ⟨c7b0, c7b1, H⟩ | ⟨c7b0, c7b1, H⟩ := H
      ·obtain rfl := Option.some.inj H
       go_enter Tryd.func85, Tryd.ntmps85
       go_wp2
       go_ret
       exact ⟨o2, od⟩
      ·replace H := ie H
       obtain ⟨c8b0, c8b1, H⟩ | ⟨c8b0, c8b1, H⟩ := H
       ·obtain rfl := Option.some.inj H
        go_enter Tryd.func85, Tryd.ntmps85
        go_wp2
        go_ret
        exact ⟨o2, od⟩
       ·obtain rfl := Option.some.inj H
        go_enter Tryd.func85, Tryd.ntmps85
        go_wp2
        go_ret
        exact ⟨o2, od⟩

/-! ### spec_l3texted: function 111 -/
def spec_l3texted.f (a0 : Int) : Option (Bool) := if a0 = 16 then (some true) else (some (a0 == 49))
set_option maxHeartbeats 8000000 in
set_option maxRecDepth 100000 in
theorem spec_l3texted.calls (a0 : Int) (r : Bool) (w : World) (h : spec_l3texted.f a0 = some r) :
  Calls Tryd.prog 111 #[.int .i64 a0] w fun e w' => e = .returned (.bool r) ∧ Drawn0 w w' := by
 have H : (if a0 = 16 then (some true) else (some (a0 == 49))) = some r := h
 clear h
 replace H := ie H
 obtain ⟨c2b0, c2b1, H⟩ | ⟨c2b0, c2b1, H⟩ := H
 ·obtain rfl := Option.some.inj H
  go_enter Tryd.func111, Tryd.ntmps111
  go_wp2
  go_ret
  exact ⟨o2, od⟩
 ·obtain rfl := Option.some.inj H
  go_enter Tryd.func111, Tryd.ntmps111
  go_wp2
  go_ret
  exact ⟨o2, od⟩

/-! ### spec_l3data: function 86 -/
mutual
def spec_l3data.j0 : Nat → List (List Int) → Int → Int → Int → List (List Int) → List Int → List Int → Option (Bool)
 | 0, _, _, _, _, _, _, _ => none
 | k + 1, x102000, x102001, x102002, x102003, x102004, x102005, x102006 => (spec_l3named.f x102001).bind fun t102 => (if t102 = true then ((spec_NameOk.f k x102004).bind fun t103 => (if t103 = true then (spec_l3data.j1 k x102000 x102001 x102002 x102003 x102004 x102005 x102006) else (some false))) else (if (x102004.length : Int) > 0 then (some false) else (spec_l3data.j1 k x102000 x102001 x102002 x102003 x102004 x102005 x102006)))
def spec_l3data.j1 : Nat → List (List Int) → Int → Int → Int → List (List Int) → List Int → List Int → Option (Bool)
 | 0, _, _, _, _, _, _, _ => none
 | k + 1, x102000, x102001, x102002, x102003, x102004, x102005, x102006 => (spec_l3texted.f x102001).bind fun t104 => (if t104 = true then (if (x102005.length : Int) > 40 then (some false) else (spec_l3data.j2 k x102000 x102001 x102002 x102003 x102004 x102005 x102006)) else (if (x102005.length : Int) > 0 then (some false) else (spec_l3data.j2 k x102000 x102001 x102002 x102003 x102004 x102005 x102006)))
def spec_l3data.j2 : Nat → List (List Int) → Int → Int → Int → List (List Int) → List Int → List Int → Option (Bool)
 | 0, _, _, _, _, _, _, _ => none
 | k + 1, x102000, x102001, x102002, x102003, x102004, x102005, x102006 => if x102001 = 6 then (if (x102006.length : Int) = 2 then (if 0 < (x102006.length : Int) then (if (rd x102006 0) < 0 then (some false) else (if (rd x102006 0) ≥ 4294967296 then (some false) else (if 1 < (x102006.length : Int) then (if (rd x102006 1) ≥ 0 then (some (decide ((rd x102006 1) ≤ 100000))) else (some false)) else (none)))) else (none)) else (some false)) else (some ((x102006.length : Int) == 0))
end
def spec_l3data.f (k : Nat) (l0_0 : List (List Int)) (a0_1 : Int) (a0_2 : Int) (a0_3 : Int) (l0_4 : List (List Int)) (l0_5 : List Int) (l0_6 : List Int) : Option (Bool) := if a0_1 = 1 then (if a0_3 < 0 then (some false) else (if a0_3 ≥ 4294967296 then (some false) else (spec_l3data.j0 k l0_0 a0_1 a0_2 a0_3 l0_4 l0_5 l0_6))) else (if a0_3 = 0 then (spec_l3data.j0 k l0_0 a0_1 a0_2 a0_3 l0_4 l0_5 l0_6) else (some false))
set_option maxHeartbeats 8000000 in
set_option maxRecDepth 100000 in
theorem spec_l3data.calls (k : Nat) (A0_0 : Option Addr) (c0_0 : Nat) (l0_0 : List (List Int)) (a0_1 : Int) (a0_2 : Int) (a0_3 : Int) (A0_4 : Option Addr) (c0_4 : Nat) (l0_4 : List (List Int)) (A0_5 : Option Addr) (c0_5 : Nat) (l0_5 : List Int) (A0_6 : Option Addr) (c0_6 : Nat) (l0_6 : List Int) (r : Bool) (w : World) (hr0_0 : Kd.C (Kd.slice 5 (Kd.int .u8)) w A0_0 l0_0.length l0_0) (hc0_0 : l0_0.length ≤ c0_0) (hr0_4 : Kd.C (Kd.slice 5 (Kd.int .u8)) w A0_4 l0_4.length l0_4) (hc0_4 : l0_4.length ≤ c0_4) (hr0_5 : Kd.C (Kd.int .u8) w A0_5 l0_5.length l0_5) (hc0_5 : l0_5.length ≤ c0_5) (hr0_6 : Kd.C (Kd.int .i64) w A0_6 l0_6.length l0_6) (hc0_6 : l0_6.length ≤ c0_6) (h : spec_l3data.f k l0_0 a0_1 a0_2 a0_3 l0_4 l0_5 l0_6 = some r) :
  Calls Tryd.prog 86 #[.agg #[.slice A0_0 l0_0.length c0_0, .int .i64 a0_1, .int .i64 a0_2, .int .i64 a0_3, .slice A0_4 l0_4.length c0_4, .slice A0_5 l0_5.length c0_5, .slice A0_6 l0_6.length c0_6]] w fun e w' => e = .returned (.bool r) ∧ Below w.heap.size w w' := by
 have hu51 := Tryd.underlying51
 have hu29 := Tryd.underlying29
 have HR0_0 := ak hr0_0
 have HC0_0 := ak hc0_0
 clear hr0_0 hc0_0
 have HR0_4 := ak hr0_4
 have HC0_4 := ak hc0_4
 clear hr0_4 hc0_4
 have HR0_5 := ak hr0_5
 have HC0_5 := ak hc0_5
 clear hr0_5 hc0_5
 have HR0_6 := ak hr0_6
 have HC0_6 := ak hc0_6
 clear hr0_6 hc0_6
 have HB := ak (Below.refl w.heap.size w)
 have H : (if a0_1 = 1 then (if a0_3 < 0 then (some false) else (if a0_3 ≥ 4294967296 then (some false) else (spec_l3data.j0 k l0_0 a0_1 a0_2 a0_3 l0_4 l0_5 l0_6))) else (if a0_3 = 0 then (spec_l3data.j0 k l0_0 a0_1 a0_2 a0_3 l0_4 l0_5 l0_6) else (some false))) = some r := h
 clear h
 have HC2 := ak H
 clear H
 go_enter Tryd.func86, Tryd.ntmps86
 go_upto_if 5 with (((with_reducible refine gate_dst (N := 1) rfl ?_);refine bxd (N := 1) rfl HB ?_;clear HB;intro gb101 w3 hg HB BK101 GE101 hb;have GW101 := GE101;clear hb hg;obtain ⟨hcz4_0, hcz4_1, hcz4_2, hcz4_3, hcz4_4, hcz4_5, hcz4_6, hfz4_0, hfz4_1, hfz4_2, hfz4_3, hfz4_4, hfz4_5, hfz4_6⟩ := cells7 BK101.out))
 (try simp only [Act.put, List.setIfInBounds_toArray, List.set_cons_zero, List.set_cons_succ])
 go_cut [] (fun wc => ∃ (kq : Nat), Aside0 (spec_l3data.j0 kq l0_0 a0_1 a0_2 a0_3 l0_4 l0_5 l0_6 = some r) ∧ Aside0 (kq ≤ k) ∧ Aside0 (wc.heap[gb101]? = some (.cells #[(.slice A0_0 l0_0.length c0_0), .int .i64 a0_1, .int .i64 a0_2, .int .i64 a0_3, (.slice A0_4 l0_4.length c0_4), (.slice A0_5 l0_5.length c0_5), (.slice A0_6 l0_6.length c0_6)] 51 (0, 0))) ∧ Aside0 (Below w.heap.size w wc))
 case first =>
  have H := HC2.out
  clear HC2
  replace H := ie H
  obtain ⟨c5b0, c5b1, H⟩ | ⟨c5b0, c5b1, H⟩ := H
  ·(first | rw [c5b0] | (simp only [i64_w, i32_w]; rw [c5b0]) | skip)
   replace H := ip H
   obtain ⟨c6b0, H⟩ | ⟨c6b0, H⟩ := H
   ·obtain rfl := Option.some.inj H
    obtain ⟨hcz7_0, hcz7_1, hcz7_2, hcz7_3, hcz7_4, hcz7_5, hcz7_6, hfz7_0, hfz7_1, hfz7_2, hfz7_3, hfz7_4, hfz7_5, hfz7_6⟩ := cells7 BK101.out
    go_wp2
    go_ret
    exact ⟨o1, bs⟩
   ·replace H := ih H
    obtain ⟨c8b0, H⟩ | ⟨c8b0, H⟩ := H
    ·obtain rfl := Option.some.inj H
     obtain ⟨hcz9_0, hcz9_1, hcz9_2, hcz9_3, hcz9_4, hcz9_5, hcz9_6, hfz9_0, hfz9_1, hfz9_2, hfz9_3, hfz9_4, hfz9_5, hfz9_6⟩ := cells7 BK101.out
     go_wp2
     go_ret
     exact ⟨o1, bs⟩
    ·have H' := ak H
     clear H
     obtain ⟨hcz10_0, hcz10_1, hcz10_2, hcz10_3, hcz10_4, hcz10_5, hcz10_6, hfz10_0, hfz10_1, hfz10_2, hfz10_3, hfz10_4, hfz10_5, hfz10_6⟩ := cells7 BK101.out
     go_wp2
     go_meet
     case rel => exact ⟨_, H', ⟨o3⟩, ⟨bk BK101.out⟩, ⟨bs⟩⟩
  ·(first | rw [c5b0] | (simp only [i64_w, i32_w]; rw [c5b0]) | skip)
   replace H := ie H
   obtain ⟨c11b0, c11b1, H⟩ | ⟨c11b0, c11b1, H⟩ := H
   ·have H' := ak H
    clear H
    obtain ⟨hcz12_0, hcz12_1, hcz12_2, hcz12_3, hcz12_4, hcz12_5, hcz12_6, hfz12_0, hfz12_1, hfz12_2, hfz12_3, hfz12_4, hfz12_5, hfz12_6⟩ := cells7 BK101.out
    go_wp2
    go_meet
    case rel => exact ⟨_, H', ⟨o3⟩, ⟨bk BK101.out⟩, ⟨bs⟩⟩
   ·obtain rfl := Option.some.inj H
    obtain ⟨hcz13_0, hcz13_1, hcz13_2, hcz13_3, hcz13_4, hcz13_5, hcz13_6, hfz13_0, hfz13_1, hfz13_2, hfz13_3, hfz13_4, hfz13_5, hfz13_6⟩ := cells7 BK101.out
    go_wp2
    go_ret
    exact ⟨o1, bs⟩
 case rest =>
  clear HC2
  (try clear hcz4_0)
  (try clear hcz4_1)
  (try clear hcz4_2)
  (try clear hcz4_3)
  (try clear hcz4_4)
  (try clear hcz4_5)
  (try clear hcz4_6)
  (try clear hfz4_0)
  (try clear hfz4_1)
  (try clear hfz4_2)
  (try clear hfz4_3)
  (try clear hfz4_4)
  (try clear hfz4_5)
  (try clear hfz4_6)
  obtain ⟨kq, HA, HJ1, BK101, HB⟩ := hcut
  cases kq with
  | zero => exact absurd HA.out (by simp [spec_l3data.j0])
  | succ kj1 =>
   have H := HA.out
   clear HA
   simp only [spec_l3data.j0] at H
   replace H := bnd H
   obtain ⟨t102, A14, H⟩ := H
   have HC15 := ak H
   clear H
   obtain ⟨hcz16_0, hcz16_1, hcz16_2, hcz16_3, hcz16_4, hcz16_5, hcz16_6, hfz16_0, hfz16_1, hfz16_2, hfz16_3, hfz16_4, hfz16_5, hfz16_6⟩ := cells7 BK101.out
   go_upto_if 19 with (((with_reducible refine gate_callee (f := 89) rfl ?_);refine glD 19 rfl rfl Tryd.func89 (spec_l3named.calls a0_1 t102 _ A14.out) (fun nd => ?_)))
   (try simp only [Act.put, List.setIfInBounds_toArray, List.set_cons_zero, List.set_cons_succ])
   go_cut [] (fun wc => ∃ (kq : Nat), Aside0 (spec_l3data.j1 kq l0_0 a0_1 a0_2 a0_3 l0_4 l0_5 l0_6 = some r) ∧ Aside0 (kq ≤ kj1) ∧ Aside0 (wc.heap[gb101]? = some (.cells #[(.slice A0_0 l0_0.length c0_0), .int .i64 a0_1, .int .i64 a0_2, .int .i64 a0_3, (.slice A0_4 l0_4.length c0_4), (.slice A0_5 l0_5.length c0_5), (.slice A0_6 l0_6.length c0_6)] 51 (0, 0))) ∧ Aside0 (Below w.heap.size w wc))
   case first =>
    have H := HC15.out
    clear HC15
    replace H := ib H
    obtain ⟨rfl, H⟩ | ⟨rfl, H⟩ := H
    ·replace H := bnd H
     obtain ⟨t103, A18, H⟩ := H
     replace H := ib H
     obtain ⟨rfl, H⟩ | ⟨rfl, H⟩ := H
     ·have H' := ak H
      clear H
      obtain ⟨hcz20_0, hcz20_1, hcz20_2, hcz20_3, hcz20_4, hcz20_5, hcz20_6, hfz20_0, hfz20_1, hfz20_2, hfz20_3, hfz20_4, hfz20_5, hfz20_6⟩ := cells7 BK101.out
      go_wp2_with (((with_reducible refine gate_callee (f := 84) rfl ?_);refine glB 22 rfl rfl Tryd.func84 (spec_NameOk.calls kj1 _ _ l0_4 true _ (cv HR0_4 HB) HC0_4.out A18.out) (fun w21 hb => ?_);replace BK101 := b1 BK101 hb;replace HB := b2s bs hb;(try clear hb)))
      go_meet
      case rel => exact ⟨_, H', ⟨by have := HJ1.out; first | omega | exact Nat.le_refl _⟩, ⟨bk BK101.out⟩, ⟨bs⟩⟩
     ·obtain rfl := Option.some.inj H
      obtain ⟨hcz22_0, hcz22_1, hcz22_2, hcz22_3, hcz22_4, hcz22_5, hcz22_6, hfz22_0, hfz22_1, hfz22_2, hfz22_3, hfz22_4, hfz22_5, hfz22_6⟩ := cells7 BK101.out
      go_wp2_with (((with_reducible refine gate_callee (f := 84) rfl ?_);refine glB 22 rfl rfl Tryd.func84 (spec_NameOk.calls kj1 _ _ l0_4 false _ (cv HR0_4 HB) HC0_4.out A18.out) (fun w23 hb => ?_);replace BK101 := b1 BK101 hb;replace HB := b2s bs hb;(try clear hb)))
      go_ret
      exact ⟨o1, bs⟩
    ·replace H := ig H
     obtain ⟨c24b0, H⟩ | ⟨c24b0, H⟩ := H
     ·have c24b1 : decide (0 < l0_4.length) = true := decide_eq_true (by have := of_decide_eq_true c24b0; omega)
      (first | rw [c24b0] | (simp only [i64_w, i32_w]; rw [c24b0]) | skip)
      obtain rfl := Option.some.inj H
      obtain ⟨hcz25_0, hcz25_1, hcz25_2, hcz25_3, hcz25_4, hcz25_5, hcz25_6, hfz25_0, hfz25_1, hfz25_2, hfz25_3, hfz25_4, hfz25_5, hfz25_6⟩ := cells7 BK101.out
      go_wp2
      go_ret
      exact ⟨o1, bs⟩
     ·have c24b1 : decide (0 < l0_4.length) = false := decide_eq_false (by have := of_decide_eq_false c24b0; omega)
      (first | rw [c24b0] | (simp only [i64_w, i32_w]; rw [c24b0]) | skip)
      have H' := ak H
      clear H
      obtain ⟨hcz26_0, hcz26_1, hcz26_2, hcz26_3, hcz26_4, hcz26_5, hcz26_6, hfz26_0, hfz26_1, hfz26_2, hfz26_3, hfz26_4, hfz26_5, hfz26_6⟩ := cells7 BK101.out
      go_wp2
      go_meet
      case rel => exact ⟨_, H', ⟨by have := HJ1.out; first | omega | exact Nat.le_refl _⟩, ⟨bk BK101.out⟩, ⟨bs⟩⟩
   case rest =>
    clear HC15
    (try clear hcz16_0)
    (try clear hcz16_1)
    (try clear hcz16_2)
    (try clear hcz16_3)
    (try clear hcz16_4)
    (try clear hcz16_5)
    (try clear hcz16_6)
    (try clear hcz4_0)
    (try clear hcz4_1)
    (try clear hcz4_2)
    (try clear hcz4_3)
    (try clear hcz4_4)
    (try clear hcz4_5)
    (try clear hcz4_6)
    (try clear hfz16_0)
    (try clear hfz16_1)
    (try clear hfz16_2)
    (try clear hfz16_3)
    (try clear hfz16_4)
    (try clear hfz16_5)
    (try clear hfz16_6)
    (try clear hfz4_0)
    (try clear hfz4_1)
    (try clear hfz4_2)
    (try clear hfz4_3)
    (try clear hfz4_4)
    (try clear hfz4_5)
    (try clear hfz4_6)
    obtain ⟨kq, HA, HJ14, BK101, HB⟩ := hcut
    cases kq with
    | zero => exact absurd HA.out (by simp [spec_l3data.j1])
    | succ kj14 =>
     have H := HA.out
     clear HA
     simp only [spec_l3data.j1] at H
     replace H := bnd H
     obtain ⟨t104, A27, H⟩ := H
     have HC28 := ak H
     clear H
     obtain ⟨hcz29_0, hcz29_1, hcz29_2, hcz29_3, hcz29_4, hcz29_5, hcz29_6, hfz29_0, hfz29_1, hfz29_2, hfz29_3, hfz29_4, hfz29_5, hfz29_6⟩ := cells7 BK101.out
     go_upto_if 31 with (((with_reducible refine gate_callee (f := 111) rfl ?_);refine glD 31 rfl rfl Tryd.func111 (spec_l3texted.calls a0_1 t104 _ A27.out) (fun nd => ?_)))
     (try simp only [Act.put, List.setIfInBounds_toArray, List.set_cons_zero, List.set_cons_succ])
     go_cut [] (fun wc => ∃ (kq : Nat), Aside0 (spec_l3data.j2 kq l0_0 a0_1 a0_2 a0_3 l0_4 l0_5 l0_6 = some r) ∧ Aside0 (kq ≤ kj14) ∧ Aside0 (wc.heap[gb101]? = some (.cells #[(.slice A0_0 l0_0.length c0_0), .int .i64 a0_1, .int .i64 a0_2, .int .i64 a0_3, (.slice A0_4 l0_4.length c0_4), (.slice A0_5 l0_5.length c0_5), (.slice A0_6 l0_6.length c0_6)] 51 (0, 0))) ∧ Aside0 (Below w.heap.size w wc))
     case first =>
      have H := HC28.out
      clear HC28
      replace H := ib H
      obtain ⟨rfl, H⟩ | ⟨rfl, H⟩ := H
      ·replace H := ig H
       obtain ⟨c31b0, H⟩ | ⟨c31b0, H⟩ := H
       ·have c31b1 : decide (40 < l0_5.length) = true := decide_eq_true (by have := of_decide_eq_true c31b0; omega)
        (first | rw [c31b0] | (simp only [i64_w, i32_w]; rw [c31b0]) | skip)
        obtain rfl := Option.some.inj H
        obtain ⟨hcz32_0, hcz32_1, hcz32_2, hcz32_3, hcz32_4, hcz32_5, hcz32_6, hfz32_0, hfz32_1, hfz32_2, hfz32_3, hfz32_4, hfz32_5, hfz32_6⟩ := cells7 BK101.out
        go_wp2
        go_ret
        exact ⟨o1, bs⟩
       ·have c31b1 : decide (40 < l0_5.length) = false := decide_eq_false (by have := of_decide_eq_false c31b0; omega)
        (first | rw [c31b0] | (simp only [i64_w, i32_w]; rw [c31b0]) | skip)
        have H' := ak H
        clear H
        obtain ⟨hcz33_0, hcz33_1, hcz33_2, hcz33_3, hcz33_4, hcz33_5, hcz33_6, hfz33_0, hfz33_1, hfz33_2, hfz33_3, hfz33_4, hfz33_5, hfz33_6⟩ := cells7 BK101.out
        go_wp2
        go_meet
        case rel => exact ⟨_, H', ⟨by have := HJ1.out; have := HJ14.out; first | omega | exact Nat.le_refl _⟩, ⟨bk BK101.out⟩, ⟨bs⟩⟩
      ·replace H := ig H
       obtain ⟨c34b0, H⟩ | ⟨c34b0, H⟩ := H
       ·have c34b1 : decide (0 < l0_5.length) = true := decide_eq_true (by have := of_decide_eq_true c34b0; omega)
        obtain rfl := Option.some.inj H
        obtain ⟨hcz35_0, hcz35_1, hcz35_2, hcz35_3, hcz35_4, hcz35_5, hcz35_6, hfz35_0, hfz35_1, hfz35_2, hfz35_3, hfz35_4, hfz35_5, hfz35_6⟩ := cells7 BK101.out
        go_wp2
        go_ret
        exact ⟨o1, bs⟩
       ·have c34b1 : decide (0 < l0_5.length) = false := decide_eq_false (by have := of_decide_eq_false c34b0; omega)
        have H' := ak H
        clear H
        obtain ⟨hcz36_0, hcz36_1, hcz36_2, hcz36_3, hcz36_4, hcz36_5, hcz36_6, hfz36_0, hfz36_1, hfz36_2, hfz36_3, hfz36_4, hfz36_5, hfz36_6⟩ := cells7 BK101.out
        go_wp2
        go_meet
        case rel => exact ⟨_, H', ⟨by have := HJ1.out; have := HJ14.out; first | omega | exact Nat.le_refl _⟩, ⟨bk BK101.out⟩, ⟨bs⟩⟩
     case rest =>
      clear HC28
      (try clear hcz16_0)
      (try clear hcz16_1)
      (try clear hcz16_2)
      (try clear hcz16_3)
      (try clear hcz16_4)
      (try clear hcz16_5)
      (try clear hcz16_6)
      (try clear hcz29_0)
      (try clear hcz29_1)
      (try clear hcz29_2)
      (try clear hcz29_3)
      (try clear hcz29_4)
      (try clear hcz29_5)
      (try clear hcz29_6)
      (try clear hcz4_0)
      (try clear hcz4_1)
      (try clear hcz4_2)
      (try clear hcz4_3)
      (try clear hcz4_4)
      (try clear hcz4_5)
      (try clear hcz4_6)
      (try clear hfz16_0)
      (try clear hfz16_1)
      (try clear hfz16_2)
      (try clear hfz16_3)
      (try clear hfz16_4)
      (try clear hfz16_5)
      (try clear hfz16_6)
      (try clear hfz29_0)
      (try clear hfz29_1)
      (try clear hfz29_2)
      (try clear hfz29_3)
      (try clear hfz29_4)
      (try clear hfz29_5)
      (try clear hfz29_6)
      (try clear hfz4_0)
      (try clear hfz4_1)
      (try clear hfz4_2)
      (try clear hfz4_3)
      (try clear hfz4_4)
      (try clear hfz4_5)
      (try clear hfz4_6)
      obtain ⟨kq, HA, HJ27, BK101, HB⟩ := hcut
      cases kq with
      | zero => exact absurd HA.out (by simp [spec_l3data.j2])
      | succ kj27 =>
       have H := HA.out
       clear HA
       simp only [spec_l3data.j2] at H
       replace H := ie H
       obtain ⟨c37b0, c37b1, H⟩ | ⟨c37b0, c37b1, H⟩ := H
       ·replace H := ie H
        obtain ⟨c38b0, c38b1, H⟩ | ⟨c38b0, c38b1, H⟩ := H
        ·replace H := ipN H
         obtain ⟨c39b0, H⟩ := H
         have c39b1 : decide (0 < l0_6.length) = true := decide_eq_true (by have := of_decide_eq_true c39b0; omega)
         replace H := ip H
         obtain ⟨c40b0, H⟩ | ⟨c40b0, H⟩ := H
         ·obtain rfl := Option.some.inj H
          obtain ⟨hcz41_0, hcz41_1, hcz41_2, hcz41_3, hcz41_4, hcz41_5, hcz41_6, hfz41_0, hfz41_1, hfz41_2, hfz41_3, hfz41_4, hfz41_5, hfz41_6⟩ := cells7 BK101.out
          obtain ⟨ad105, rfl, hx105_0, p105, q105⟩ := el0_int HR0_6 0 (h0 := by decide)
          replace p105 := of_eq_true p105
          replace q105 := of_eq_true q105
          have qi105 : (0 < l0_6.length) = True := eq_true (by omega)
          (try rw [show ((0 : Int)).toNat = 0 from rfl] at hx105_0)
          (try rw [Addr.add_zero'] at hx105_0)
          replace hx105_0 := pw_cell_below HB.out hx105_0
          replace p105 := eq_true p105
          replace q105 := eq_true q105
          go_wp2
          go_ret
          exact ⟨o1, bs⟩
         ·replace H := ih H
          obtain ⟨c42b0, H⟩ | ⟨c42b0, H⟩ := H
          ·obtain rfl := Option.some.inj H
           obtain ⟨hcz43_0, hcz43_1, hcz43_2, hcz43_3, hcz43_4, hcz43_5, hcz43_6, hfz43_0, hfz43_1, hfz43_2, hfz43_3, hfz43_4, hfz43_5, hfz43_6⟩ := cells7 BK101.out
           obtain ⟨ad105, rfl, hx105_0, p105, q105⟩ := el0_int HR0_6 0 (h0 := by decide)
           replace p105 := of_eq_true p105
           replace q105 := of_eq_true q105
           have qi105 : (0 < l0_6.length) = True := eq_true (by omega)
           (try rw [show ((0 : Int)).toNat = 0 from rfl] at hx105_0)
           (try rw [Addr.add_zero'] at hx105_0)
           replace hx105_0 := pw_cell_below HB.out hx105_0
           replace p105 := eq_true p105
           replace q105 := eq_true q105
           obtain ⟨hx106_0, p106, q106⟩ := el20_int HR0_6 0 (h0 := by decide)
           replace p106 := of_eq_true p106
           replace q106 := of_eq_true q106
           have qi106 : (0 < l0_6.length) = True := eq_true (by omega)
           (try rw [show ((0 : Int)).toNat = 0 from rfl] at hx106_0)
           (try rw [Addr.add_zero'] at hx106_0)
           replace hx106_0 := pw_cell_below HB.out hx106_0
           replace p106 := eq_true p106
           replace q106 := eq_true q106
           go_wp2
           go_ret
           exact ⟨o1, bs⟩
          ·replace H := ipN H
           obtain ⟨c44b0, H⟩ := H
           have c44b1 : decide (1 < l0_6.length) = true := decide_eq_true (by have := of_decide_eq_true c44b0; omega)
           replace H := ih H
           obtain ⟨c45b0, H⟩ | ⟨c45b0, H⟩ := H
           ·obtain rfl := Option.some.inj H
            obtain ⟨hcz46_0, hcz46_1, hcz46_2, hcz46_3, hcz46_4, hcz46_5, hcz46_6, hfz46_0, hfz46_1, hfz46_2, hfz46_3, hfz46_4, hfz46_5, hfz46_6⟩ := cells7 BK101.out
            obtain ⟨ad105, rfl, hx105_0, p105, q105⟩ := el0_int HR0_6 0 (h0 := by decide)
            replace p105 := of_eq_true p105
            replace q105 := of_eq_true q105
            have qi105 : (0 < l0_6.length) = True := eq_true (by omega)
            (try rw [show ((0 : Int)).toNat = 0 from rfl] at hx105_0)
            (try rw [Addr.add_zero'] at hx105_0)
            replace hx105_0 := pw_cell_below HB.out hx105_0
            replace p105 := eq_true p105
            replace q105 := eq_true q105
            obtain ⟨hx106_0, p106, q106⟩ := el20_int HR0_6 0 (h0 := by decide)
            replace p106 := of_eq_true p106
            replace q106 := of_eq_true q106
            have qi106 : (0 < l0_6.length) = True := eq_true (by omega)
            (try rw [show ((0 : Int)).toNat = 0 from rfl] at hx106_0)
            (try rw [Addr.add_zero'] at hx106_0)
            replace hx106_0 := pw_cell_below HB.out hx106_0
            replace p106 := eq_true p106
            replace q106 := eq_true q106
            obtain ⟨hx107_0, p107, q107⟩ := el20_int HR0_6 1 (h0 := by decide)
            replace p107 := of_eq_true p107
            replace q107 := of_eq_true q107
            (try simp only [show (1 : Int).toNat = 1 from rfl, Nat.reduceMul, Nat.reduceEqDiff, Go.Addr.add, ↓reduceIte] at hx107_0)
            have qi107 : (1 < l0_6.length) = True := eq_true (by omega)
            (try rw [show ((1 : Int)).toNat = 1 from rfl] at hx107_0)
            replace hx107_0 := pw_cell_below HB.out hx107_0
            replace p107 := eq_true p107
            replace q107 := eq_true q107
            obtain ⟨hx108_0, p108, q108⟩ := el20_int HR0_6 1 (h0 := by decide)
            replace p108 := of_eq_true p108
            replace q108 := of_eq_true q108
            (try simp only [show (1 : Int).toNat = 1 from rfl, Nat.reduceMul, Nat.reduceEqDiff, Go.Addr.add, ↓reduceIte] at hx108_0)
            have qi108 : (1 < l0_6.length) = True := eq_true (by omega)
            (try rw [show ((1 : Int)).toNat = 1 from rfl] at hx108_0)
            replace hx108_0 := pw_cell_below HB.out hx108_0
            replace p108 := eq_true p108
            replace q108 := eq_true q108
            go_wp2
            go_ret
            exact ⟨o1, bs⟩
           ·obtain rfl := Option.some.inj H
            obtain ⟨hcz47_0, hcz47_1, hcz47_2, hcz47_3, hcz47_4, hcz47_5, hcz47_6, hfz47_0, hfz47_1, hfz47_2, hfz47_3, hfz47_4, hfz47_5, hfz47_6⟩ := cells7 BK101.out
            obtain ⟨ad105, rfl, hx105_0, p105, q105⟩ := el0_int HR0_6 0 (h0 := by decide)
            replace p105 := of_eq_true p105
            replace q105 := of_eq_true q105
            have qi105 : (0 < l0_6.length) = True := eq_true (by omega)
            (try rw [show ((0 : Int)).toNat = 0 from rfl] at hx105_0)
            (try rw [Addr.add_zero'] at hx105_0)
            replace hx105_0 := pw_cell_below HB.out hx105_0
            replace p105 := eq_true p105
            replace q105 := eq_true q105
            obtain ⟨hx106_0, p106, q106⟩ := el20_int HR0_6 0 (h0 := by decide)
            replace p106 := of_eq_true p106
            replace q106 := of_eq_true q106
            have qi106 : (0 < l0_6.length) = True := eq_true (by omega)
            (try rw [show ((0 : Int)).toNat = 0 from rfl] at hx106_0)
            (try rw [Addr.add_zero'] at hx106_0)
            replace hx106_0 := pw_cell_below HB.out hx106_0
            replace p106 := eq_true p106
            replace q106 := eq_true q106
            obtain ⟨hx107_0, p107, q107⟩ := el20_int HR0_6 1 (h0 := by decide)
            replace p107 := of_eq_true p107
            replace q107 := of_eq_true q107
            (try simp only [show (1 : Int).toNat = 1 from rfl, Nat.reduceMul, Nat.reduceEqDiff, Go.Addr.add, ↓reduceIte] at hx107_0)
            have qi107 : (1 < l0_6.length) = True := eq_true (by omega)
            (try rw [show ((1 : Int)).toNat = 1 from rfl] at hx107_0)
            replace hx107_0 := pw_cell_below HB.out hx107_0
            replace p107 := eq_true p107
            replace q107 := eq_true q107
            go_wp2
            go_ret
            exact ⟨o1, bs⟩
        ·obtain rfl := Option.some.inj H
         obtain ⟨hcz48_0, hcz48_1, hcz48_2, hcz48_3, hcz48_4, hcz48_5, hcz48_6, hfz48_0, hfz48_1, hfz48_2, hfz48_3, hfz48_4, hfz48_5, hfz48_6⟩ := cells7 BK101.out
         go_wp2
         go_ret
         exact ⟨o1, bs⟩
       ·obtain rfl := Option.some.inj H
        obtain ⟨hcz49_0, hcz49_1, hcz49_2, hcz49_3, hcz49_4, hcz49_5, hcz49_6, hfz49_0, hfz49_1, hfz49_2, hfz49_3, hfz49_4, hfz49_5, hfz49_6⟩ := cells7 BK101.out
        go_wp2
        go_ret
        exact ⟨o1, bs⟩

/-! ### spec_RrOk: function 62 -/
def spec_RrOk.f (k : Nat) (l0_0 : List (List Int)) (a0_1 : Int) (a0_2 : Int) (a0_3 : Int) (l0_4 : List (List Int)) (l0_5 : List Int) (l0_6 : List Int) : Option (Bool) := (spec_NameOk.f k l0_0).bind fun t102 => (if t102 = true then ((spec_TypeOk.f a0_1).bind fun t103 => (if t103 = true then (if a0_2 ≥ 0 then (if a0_2 ≤ 100000 then ((spec_l3data.f k l0_0 a0_1 a0_2 a0_3 l0_4 l0_5 l0_6).bind fun t104 => (some t104)) else (some false)) else (some false)) else (some false))) else (some false))
set_option maxHeartbeats 8000000 in
set_option maxRecDepth 100000 in
theorem spec_RrOk.calls (k : Nat) (A0_0 : Option Addr) (c0_0 : Nat) (l0_0 : List (List Int)) (a0_1 : Int) (a0_2 : Int) (a0_3 : Int) (A0_4 : Option Addr) (c0_4 : Nat) (l0_4 : List (List Int)) (A0_5 : Option Addr) (c0_5 : Nat) (l0_5 : List Int) (A0_6 : Option Addr) (c0_6 : Nat) (l0_6 : List Int) (r : Bool) (w : World) (hr0_0 : Kd.C (Kd.slice 5 (Kd.int .u8)) w A0_0 l0_0.length l0_0) (hc0_0 : l0_0.length ≤ c0_0) (hr0_4 : Kd.C (Kd.slice 5 (Kd.int .u8)) w A0_4 l0_4.length l0_4) (hc0_4 : l0_4.length ≤ c0_4) (hr0_5 : Kd.C (Kd.int .u8) w A0_5 l0_5.length l0_5) (hc0_5 : l0_5.length ≤ c0_5) (hr0_6 : Kd.C (Kd.int .i64) w A0_6 l0_6.length l0_6) (hc0_6 : l0_6.length ≤ c0_6) (h : spec_RrOk.f k l0_0 a0_1 a0_2 a0_3 l0_4 l0_5 l0_6 = some r) :
  Calls Tryd.prog 62 #[.agg #[.slice A0_0 l0_0.length c0_0, .int .i64 a0_1, .int .i64 a0_2, .int .i64 a0_3, .slice A0_4 l0_4.length c0_4, .slice A0_5 l0_5.length c0_5, .slice A0_6 l0_6.length c0_6]] w fun e w' => e = .returned (.bool r) ∧ Below w.heap.size w w' := by
 have hu51 := Tryd.underlying51
 have hu29 := Tryd.underlying29
 have HR0_0 := ak hr0_0
 have HC0_0 := ak hc0_0
 clear hr0_0 hc0_0
 have HR0_4 := ak hr0_4
 have HC0_4 := ak hc0_4
 clear hr0_4 hc0_4
 have HR0_5 := ak hr0_5
 have HC0_5 := ak hc0_5
 clear hr0_5 hc0_5
 have HR0_6 := ak hr0_6
 have HC0_6 := ak hc0_6
 clear hr0_6 hc0_6
 have HB := ak (Below.refl w.heap.size w)
 have H : ((spec_NameOk.f k l0_0).bind fun t102 => (if t102 = true then ((spec_TypeOk.f a0_1).bind fun t103 => (if t103 = true then (if a0_2 ≥ 0 then (if a0_2 ≤ 100000 then ((spec_l3data.f k l0_0 a0_1 a0_2 a0_3 l0_4 l0_5 l0_6).bind fun t104 => (some t104)) else (some false)) else (some false)) else (some false))) else (some false))) = some r := h
 clear h
 replace H := bnd H
 obtain ⟨t102, A2, H⟩ := H
 replace H := ib H
 obtain ⟨rfl, H⟩ | ⟨rfl, H⟩ := H
 ·replace H := bnd H
  obtain ⟨t103, A4, H⟩ := H
  replace H := ib H
  obtain ⟨rfl, H⟩ | ⟨rfl, H⟩ := H
  ·replace H := ih H
   obtain ⟨c6b0, H⟩ | ⟨c6b0, H⟩ := H
   ·replace H := ip H
    obtain ⟨c7b0, H⟩ | ⟨c7b0, H⟩ := H
    ·replace H := bnd H
     obtain ⟨t104, A8, H⟩ := H
     obtain rfl := Option.some.inj H
     go_enter Tryd.func62, Tryd.ntmps62
     go_wp2_with (first | ((with_reducible refine gate_dst (N := 1) rfl ?_);refine bxd (N := 1) rfl HB ?_;clear HB;intro gb101 w9 hg HB BK101 GE101 hb;have GW101 := GE101;clear hb hg;obtain ⟨hcz10_0, hcz10_1, hcz10_2, hcz10_3, hcz10_4, hcz10_5, hcz10_6, hfz10_0, hfz10_1, hfz10_2, hfz10_3, hfz10_4, hfz10_5, hfz10_6⟩ := cells7 BK101.out) | ((with_reducible refine gate_callee (f := 84) rfl ?_);refine glB 5 rfl rfl Tryd.func84 (spec_NameOk.calls k _ _ l0_0 true _ (cv HR0_0 HB) HC0_0.out A2.out) (fun w11 hb => ?_);replace BK101 := b1 BK101 hb;replace HB := b2s bs hb;(try clear hb);obtain ⟨hcz12_0, hcz12_1, hcz12_2, hcz12_3, hcz12_4, hcz12_5, hcz12_6, hfz12_0, hfz12_1, hfz12_2, hfz12_3, hfz12_4, hfz12_5, hfz12_6⟩ := cells7 BK101.out) | (go_at_call 85;(with_reducible refine (spec_TypeOk.calls a0_1 true _ A4.out).mono ?_);rintro e w' ⟨rfl, ⟨nd, rfl⟩⟩) | (go_at_call 86;(with_reducible refine (spec_l3data.calls k _ _ l0_0 a0_1 a0_2 a0_3 _ _ l0_4 _ _ l0_5 _ _ l0_6 t104 _ ?side1 HC0_0.out ?side3 HC0_4.out ?side5 HC0_5.out ?side7 HC0_6.out A8.out).mono ?_);(case side1 => repeat (first | exact (Kd.C_below HR0_0.out bs) | (with_reducible refine Kd.C_alloc ?_ _) | (with_reducible refine Kd.C_drewN ?_ _) | (with_reducible refine Kd.C_drew ?_)));(case side3 => repeat (first | exact (Kd.C_below HR0_4.out bs) | (with_reducible refine Kd.C_alloc ?_ _) | (with_reducible refine Kd.C_drewN ?_ _) | (with_reducible refine Kd.C_drew ?_)));(case side5 => repeat (first | exact (Kd.C_below HR0_5.out bs) | (with_reducible refine Kd.C_alloc ?_ _) | (with_reducible refine Kd.C_drewN ?_ _) | (with_reducible refine Kd.C_drew ?_)));(case side7 => repeat (first | exact (Kd.C_below HR0_6.out bs) | (with_reducible refine Kd.C_alloc ?_ _) | (with_reducible refine Kd.C_drewN ?_ _) | (with_reducible refine Kd.C_drew ?_)));rintro e w13 ⟨rfl, hb⟩;replace BK101 := b1 BK101 hb;replace HB := b2s bs hb;(try clear hb)))
     go_ret
     exact ⟨o1, bs⟩
    ·obtain rfl := Option.some.inj H
     go_enter Tryd.func62, Tryd.ntmps62
     go_wp2_with (first | ((with_reducible refine gate_dst (N := 1) rfl ?_);refine bxd (N := 1) rfl HB ?_;clear HB;intro gb101 w14 hg HB BK101 GE101 hb;have GW101 := GE101;clear hb hg;obtain ⟨hcz15_0, hcz15_1, hcz15_2, hcz15_3, hcz15_4, hcz15_5, hcz15_6, hfz15_0, hfz15_1, hfz15_2, hfz15_3, hfz15_4, hfz15_5, hfz15_6⟩ := cells7 BK101.out) | ((with_reducible refine gate_callee (f := 84) rfl ?_);refine glB 5 rfl rfl Tryd.func84 (spec_NameOk.calls k _ _ l0_0 true _ (cv HR0_0 HB) HC0_0.out A2.out) (fun w16 hb => ?_);replace BK101 := b1 BK101 hb;replace HB := b2s bs hb;(try clear hb);obtain ⟨hcz17_0, hcz17_1, hcz17_2, hcz17_3, hcz17_4, hcz17_5, hcz17_6, hfz17_0, hfz17_1, hfz17_2, hfz17_3, hfz17_4, hfz17_5, hfz17_6⟩ := cells7 BK101.out) | (go_at_call 85;(with_reducible refine (spec_TypeOk.calls a0_1 true _ A4.out).mono ?_);rintro e w' ⟨rfl, ⟨nd, rfl⟩⟩))
     go_ret
     exact ⟨o1, bs⟩
   ·obtain rfl := Option.some.inj H
    go_enter Tryd.func62, Tryd.ntmps62
    go_wp2_with (first | ((with_reducible refine gate_dst (N := 1) rfl ?_);refine bxd (N := 1) rfl HB ?_;clear HB;intro gb101 w18 hg HB BK101 GE101 hb;have GW101 := GE101;clear hb hg;obtain ⟨hcz19_0, hcz19_1, hcz19_2, hcz19_3, hcz19_4, hcz19_5, hcz19_6, hfz19_0, hfz19_1, hfz19_2, hfz19_3, hfz19_4, hfz19_5, hfz19_6⟩ := cells7 BK101.out) | ((with_reducible refine gate_callee (f := 84) rfl ?_);refine glB 5 rfl rfl Tryd.func84 (spec_NameOk.calls k _ _ l0_0 true _ (cv HR0_0 HB) HC0_0.out A2.out) (fun w20 hb => ?_);replace BK101 := b1 BK101 hb;replace HB := b2s bs hb;(try clear hb);obtain ⟨hcz21_0, hcz21_1, hcz21_2, hcz21_3, hcz21_4, hcz21_5, hcz21_6, hfz21_0, hfz21_1, hfz21_2, hfz21_3, hfz21_4, hfz21_5, hfz21_6⟩ := cells7 BK101.out) | (go_at_call 85;(with_reducible refine (spec_TypeOk.calls a0_1 true _ A4.out).mono ?_);rintro e w' ⟨rfl, ⟨nd, rfl⟩⟩))
    go_ret
    exact ⟨o1, bs⟩
  ·obtain rfl := Option.some.inj H
   go_enter Tryd.func62, Tryd.ntmps62
   go_wp2_with (first | ((with_reducible refine gate_dst (N := 1) rfl ?_);refine bxd (N := 1) rfl HB ?_;clear HB;intro gb101 w22 hg HB BK101 GE101 hb;have GW101 := GE101;clear hb hg;obtain ⟨hcz23_0, hcz23_1, hcz23_2, hcz23_3, hcz23_4, hcz23_5, hcz23_6, hfz23_0, hfz23_1, hfz23_2, hfz23_3, hfz23_4, hfz23_5, hfz23_6⟩ := cells7 BK101.out) | ((with_reducible refine gate_callee (f := 84) rfl ?_);refine glB 5 rfl rfl Tryd.func84 (spec_NameOk.calls k _ _ l0_0 true _ (cv HR0_0 HB) HC0_0.out A2.out) (fun w24 hb => ?_);replace BK101 := b1 BK101 hb;replace HB := b2s bs hb;(try clear hb);obtain ⟨hcz25_0, hcz25_1, hcz25_2, hcz25_3, hcz25_4, hcz25_5, hcz25_6, hfz25_0, hfz25_1, hfz25_2, hfz25_3, hfz25_4, hfz25_5, hfz25_6⟩ := cells7 BK101.out) | (go_at_call 85;(with_reducible refine (spec_TypeOk.calls a0_1 false _ A4.out).mono ?_);rintro e w' ⟨rfl, ⟨nd, rfl⟩⟩))
   go_ret
   exact ⟨o1, bs⟩
 ·obtain rfl := Option.some.inj H
  go_enter Tryd.func62, Tryd.ntmps62
  go_wp2_with (first | ((with_reducible refine gate_dst (N := 1) rfl ?_);refine bxd (N := 1) rfl HB ?_;clear HB;intro gb101 w26 hg HB BK101 GE101 hb;have GW101 := GE101;clear hb hg;obtain ⟨hcz27_0, hcz27_1, hcz27_2, hcz27_3, hcz27_4, hcz27_5, hcz27_6, hfz27_0, hfz27_1, hfz27_2, hfz27_3, hfz27_4, hfz27_5, hfz27_6⟩ := cells7 BK101.out) | ((with_reducible refine gate_callee (f := 84) rfl ?_);refine glB 5 rfl rfl Tryd.func84 (spec_NameOk.calls k _ _ l0_0 false _ (cv HR0_0 HB) HC0_0.out A2.out) (fun w28 hb => ?_);replace BK101 := b1 BK101 hb;replace HB := b2s bs hb;(try clear hb)))
  go_ret
  exact ⟨o1, bs⟩

/-- What the reference's text of a record is. -/
def Rr3 (k : Nat) (nm : List (List Int)) (ty ttl addr : Int) (tn : List (List Int)) (tx nu : List Int) (r : List Int) : Prop :=
  (spec_RrOk.f k nm ty ttl addr tn tx nu = some false ∧ r = []) ∨
  (spec_RrOk.f k nm ty ttl addr tn tx nu = some true ∧ ∃ n1 d1 s z, spec_l2text.f k nm = some n1 ∧ spec_l1digits.f k ttl = some d1 ∧ spec_l3type.f ty = some s ∧ n1.length ≤ 1000000 ∧ d1.length ≤ 1000000 ∧ s.size ≤ 1000000 ∧ Tail3 k ty addr tn tx nu z ∧ z.length ≤ 5000000 ∧ r = n1 ++ [32] ++ d1 ++ [32] ++ bytesOf s ++ [32] ++ z)
set_option maxHeartbeats 4000000 in
set_option maxRecDepth 100000 in
theorem rrtext_any (k : Nat) (A0 : Option Addr) (c0 : Nat) (nm : List (List Int)) (ty ttl addr : Int) (A4 : Option Addr) (c4 : Nat) (tn : List (List Int)) (A5 : Option Addr) (c5 : Nat) (tx : List Int) (A6 : Option Addr) (c6 : Nat) (nu : List Int) (r : List Int) (w : World)
    (hr0 : Kd.C (Kd.slice 5 (Kd.int .u8)) w A0 nm.length nm) (hc0 : nm.length ≤ c0) (hr4 : Kd.C (Kd.slice 5 (Kd.int .u8)) w A4 tn.length tn) (hc4 : tn.length ≤ c4) (hr5 : Kd.C (Kd.int .u8) w A5 tx.length tx) (hc5 : tx.length ≤ c5) (hr6 : Kd.C (Kd.int .i64) w A6 nu.length nu) (hc6 : nu.length ≤ c6)
    (h : Rr3 k nm ty ttl addr tn tx nu r) :
    Calls Tryd.prog 31 #[.agg #[.slice A0 nm.length c0, .int .i64 ty, .int .i64 ttl, .int .i64 addr, .slice A4 tn.length c4, .slice A5 tx.length c5, .slice A6 nu.length c6]] w fun e w' => ∃ v : Value, e = .returned v ∧ Kd.R (Kd.int .u8) 5 w' w.heap.size (fun _ => True) v r ∧ Below w.heap.size w w' := by
  have HR0 := ak hr0
  have HC0 := ak hc0
  have HR4 := ak hr4
  have HC4 := ak hc4
  have HR5 := ak hr5
  have HC5 := ak hc5
  have HR6 := ak hr6
  have HC6 := ak hc6
  clear hr0 hc0 hr4 hc4 hr5 hc5 hr6 hc6
  rcases h with ⟨hok, rfl⟩ | ⟨hok, n1, d1, s, z, h1, h2, h3, l1, l2, l3, hz, l4, rfl⟩
  · have HOK := ak hok
    clear hok
    go_enter Tryd.func31, Tryd.ntmps31
    go_wp2_with (fail)
    have HB := ak (below_alloc (Below.refl w.heap.size w) (.cells #[.slice A0 nm.length c0, .int .i64 ty, .int .i64 ttl, .int .i64 addr, .slice A4 tn.length c4, .slice A5 tx.length c5, .slice A6 nu.length c6] 51))
    refine (spec_RrOk.calls k A0 c0 nm ty ttl addr A4 c4 tn A5 c5 tx A6 c6 nu false _ (Kd.C_alloc HR0.out _) HC0.out (Kd.C_alloc HR4.out _) HC4.out (Kd.C_alloc HR5.out _) HC5.out (Kd.C_alloc HR6.out _) HC6.out HOK.out).mono ?_
    rintro e w2 ⟨rfl, hb⟩
    replace HB := b2s HB.out hb
    clear hb
    go_wp2
    go_ret
    exact ⟨_, rfl, Kd.R_nil _ _ _ _ _, HB.out⟩
  · have HOK := ak hok
    have H1 := ak h1
    have H2 := ak h2
    have H3 := ak h3
    have L1 := ak l1
    have L2 := ak l2
    have L3 := ak l3
    have HZ := ak hz
    have L4 := ak l4
    clear hok h1 h2 h3 l1 l2 l3 hz l4
    go_enter Tryd.func31, Tryd.ntmps31
    go_wp2_with (fail)
    obtain ⟨W1, hW1⟩ : ∃ W, W = w.alloc (.cells #[.slice A0 nm.length c0, .int .i64 ty, .int .i64 ttl, .int .i64 addr, .slice A4 tn.length c4, .slice A5 tx.length c5, .slice A6 nu.length c6] 51) := ⟨_, rfl⟩
    have BK := ak (show W1.heap[w.heap.size]? = some (.cells #[.slice A0 nm.length c0, .int .i64 ty, .int .i64 ttl, .int .i64 addr, .slice A4 tn.length c4, .slice A5 tx.length c5, .slice A6 nu.length c6] 51 (0, 0)) by rw [hW1]; exact heap_alloc_new w _)
    have HB := ak (show Below w.heap.size w W1 by rw [hW1]; exact below_alloc (Below.refl _ _) _)
    rw [← hW1]
    clear hW1
    refine (spec_RrOk.calls k A0 c0 nm ty ttl addr A4 c4 tn A5 c5 tx A6 c6 nu true _ (Kd.C_below HR0.out HB.out) HC0.out (Kd.C_below HR4.out HB.out) HC4.out (Kd.C_below HR5.out HB.out) HC5.out (Kd.C_below HR6.out HB.out) HC6.out HOK.out).mono ?_
    rintro e w2 ⟨rfl, hb⟩
    replace BK := ak (blk_below BK.out hb)
    replace HB := b2s HB.out hb
    have h0 := (blk_cell BK.out 0).trans rfl
    have h1 := (blk_cell BK.out 1).trans rfl
    have h2 := (blk_cell BK.out 2).trans rfl
    have h3 := (blk_cell BK.out 3).trans rfl
    have h4 := (blk_cell BK.out 4).trans rfl
    have h5 := (blk_cell BK.out 5).trans rfl
    have h6 := (blk_cell BK.out 6).trans rfl
    clear hb
    go_wp2_with (fail)
    refine (l3text_any k A0 c0 nm ty ttl addr A4 c4 tn A5 c5 tx A6 c6 nu w2 (Kd.C_below HR0.out HB.out) HC0.out (Kd.C_below HR4.out HB.out) HC4.out (Kd.C_below HR5.out HB.out) HC5.out (Kd.C_below HR6.out HB.out) HC6.out n1 d1 s H1.out H2.out H3.out L1.out L2.out L3.out z HZ.out L4.out).mono ?_
    rintro e w3 ⟨v, rfl, ho, hb⟩
    have HS := ak HB.out.size
    replace HB := b2s HB.out hb
    have HO := ak (Kd.R_lower ho HS.out)
    clear ho hb
    go_wp2
    go_ret
    exact ⟨_, rfl, HO.out, HB.out⟩

/-! ### impl_within: function 47 -/
def impl_within.f (a0 : Int) (a1 : Int) (a2 : Int) : Option (Bool) := if a1 ≤ a0 then (some (decide (a0 ≤ a2))) else (some false)
set_option maxHeartbeats 8000000 in
set_option maxRecDepth 100000 in
theorem impl_within.calls (a0 : Int) (a1 : Int) (a2 : Int) (r : Bool) (w : World) (h : impl_within.f a0 a1 a2 = some r) :
  Calls Tryd.prog 47 #[.int .i64 a0, .int .i64 a1, .int .i64 a2] w fun e w' => e = .returned (.bool r) ∧ Drawn0 w w' := by
 have H : (if a1 ≤ a0 then (some (decide (a0 ≤ a2))) else (some false)) = some r := h
 clear h
 replace H := ip H
 obtain ⟨c4b0, H⟩ | ⟨c4b0, H⟩ := H
 ·obtain rfl := Option.some.inj H
  go_enter Tryd.func47, Tryd.ntmps47
  go_wp2
  go_ret
  exact ⟨o2, od⟩
 ·obtain rfl := Option.some.inj H
  go_enter Tryd.func47, Tryd.ntmps47
  go_wp2
  go_ret
  exact ⟨o2, od⟩

/-! ### impl_isWord: function 37 -/
def impl_isWord.f (a0 : Int) : Option (Bool) := (impl_within.f a0 0 4294967295).bind fun t101 => (some t101)
set_option maxHeartbeats 8000000 in
set_option maxRecDepth 100000 in
theorem impl_isWord.calls (a0 : Int) (r : Bool) (w : World) (h : impl_isWord.f a0 = some r) :
  Calls Tryd.prog 37 #[.int .i64 a0] w fun e w' => e = .returned (.bool r) ∧ Drawn0 w w' := by
 have H : ((impl_within.f a0 0 4294967295).bind fun t101 => (some t101)) = some r := h
 clear h
 replace H := bnd H
 obtain ⟨t101, A2, H⟩ := H
 obtain rfl := Option.some.inj H
 go_enter Tryd.func37, Tryd.ntmps37
 go_wp2_with (((with_reducible refine gate_callee (f := 47) rfl ?_);refine glD 4 rfl rfl Tryd.func47 (impl_within.calls a0 0 4294967295 t101 _ A2.out) (fun nd => ?_)))
 go_ret
 exact ⟨o2, od⟩

/-! ### impl_two: function 54 -/
def impl_two.f (a0 : Int) : Option (List Int) := some (([(a0 / 256) % 256, (a0) % 256] : List Int))
set_option maxHeartbeats 8000000 in
set_option maxRecDepth 100000 in
theorem impl_two.calls (a0 : Int) (r : List Int) (w : World) (h : impl_two.f a0 = some r) :
  Calls Tryd.prog 54 #[.int .i64 a0] w fun e w' => ∃ v0_ : Value, e = .returned (v0_) ∧ Kd.R (Kd.int .u8) 5 w' w.heap.size (fun _ => True) v0_ r ∧ Below w.heap.size w w' := by
 have HB := ak (Below.refl w.heap.size w)
 have H : (some (([(a0 / 256) % 256, (a0) % 256] : List Int))) = some r := h
 clear h
 obtain ⟨y101, hy101⟩ : ∃ y_ : List Int, y_ = (([(a0 / 256) % 256, (a0) % 256] : List Int)) := ⟨_, rfl⟩
 (try with_reducible replace H := bnS H)
 (try rw [← hy101] at H)
 have Ny101 := ak hy101
 clear hy101
 obtain rfl := Option.some.inj H
 go_enter Tryd.func54, Tryd.ntmps54
 go_wp2_with (((with_reducible refine gate_dst (N := 8) rfl ?_);refine Kd.R_lit (Kd.int .u8) _ 5 ?hg (N := 8) ?hd (xs := ([(a0 / 256) % 256, (a0) % 256] : List Int)) (inner := [.int .u8 ((a0 / 256) % 256), .int .u8 ((a0) % 256)]) (ok := fun _ => True) (okp := fun _ => True) ?hr ?hp (fun _ hk => hk) trivial (Below.refl _ _) (Nat.le_refl _) (by simp) ?_;(case hd => rfl);(case hg => rfl);(case hr => first | (go_simp; done) | (go_simp; rfl));(case hp => exact (Reps.one (show Kd.M (Kd.int .u8) _ _ _ ((a0 / 256) % 256) [.int .u8 ((a0 / 256) % 256)] from rfl) (Reps.one (show Kd.M (Kd.int .u8) _ _ _ ((a0) % 256) [.int .u8 ((a0) % 256)] from rfl) (Reps.none _ _))));intro v102 w2 ho3 hb hg_ hnew_;clear hg_ hnew_;(first | rw [← Ny101.out] at ho3 | (simp only [Int.reduceToNat] at ho3; rw [← Ny101.out] at ho3));have HO103 := ak (Kd.R_lower ho3 (below_size (bw HB.out)));replace HB := b2 HB hb;clear hb ho3))
 go_ret
 exact ⟨_, o1, rw_ HO103.out, bw HB.out⟩

/-! ### impl_four: function 56 -/
def impl_four.f (a0 : Int) : Option (List Int) := (impl_two.f (a0 / 65536)).bind fun t101 => ((impl_two.f a0).bind fun t104 => (if t101.length + t104.length < 140737488355328 then (some (t101 ++ t104)) else (none)))
set_option maxHeartbeats 8000000 in
set_option maxRecDepth 100000 in
theorem impl_four.calls (a0 : Int) (r : List Int) (w : World) (h : impl_four.f a0 = some r) :
  Calls Tryd.prog 56 #[.int .i64 a0] w fun e w' => ∃ v0_ : Value, e = .returned (v0_) ∧ Kd.R (Kd.int .u8) 5 w' w.heap.size (fun _ => True) v0_ r ∧ Below w.heap.size w w' := by
 have HB := ak (Below.refl w.heap.size w)
 have H : ((impl_two.f (a0 / 65536)).bind fun t101 => ((impl_two.f a0).bind fun t104 => (if t101.length + t104.length < 140737488355328 then (some (t101 ++ t104)) else (none)))) = some r := h
 clear h
 replace H := bnd H
 obtain ⟨t101, A2, H⟩ := H
 replace H := bnd H
 obtain ⟨t104, A3, H⟩ := H
 by_cases c4 : t101.length + t104.length < 140737488355328
 ·rw [if_pos c4] at H
  have LMc4 := ak c4
  clear c4
  obtain ⟨y107, hy107⟩ : ∃ y_ : List Int, y_ = (t101 ++ t104) := ⟨_, rfl⟩
  (try with_reducible replace H := bnS H)
  (try rw [← hy107] at H)
  have Ny107 := ak hy107
  clear hy107
  obtain rfl := Option.some.inj H
  go_enter Tryd.func56, Tryd.ntmps56
  go_wp2_with (first | ((with_reducible refine gate_callee (f := 54) rfl ?_);refine glG 5 rfl rfl Tryd.func54 (impl_two.calls (a0 / 65536) t101 _ A2.out) ?_;rintro e w5 ⟨v102, rfl, ho0, hb⟩;refine ⟨_, rfl, ?_⟩;have HO103 := ak (Kd.R_lower ho0 (below_size (bw HB.out)));replace HB := b2 HB hb;(try clear hb);(try clear ho0)) | ((with_reducible refine gate_callee (f := 54) rfl ?_);refine glG 7 rfl rfl Tryd.func54 (impl_two.calls a0 t104 _ A3.out) ?_;rintro e w6 ⟨v105, rfl, ho0, hb⟩;refine ⟨_, rfl, ?_⟩;have HO106 := ak (Kd.R_lower (Kd.R_new' ho0 (Kd.R_lt (rw_ HO103.out))) (below_size (bw HB.out)));replace HO103 := ak (Kd.R_elder' (rw_ HO103.out) (Kd.R_base ho0) hb);replace HB := b2 HB hb;(try clear hb);(try clear ho0);obtain ⟨Ao8, co8, eo8⟩ := Kd.R_slice HO106.out;subst eo8) | ((with_reducible refine gate_builtin (b := .append) (xs := #[.tmp 5, .tmp 7]) rfl ?_);at_builtin;refine Kd.R_append_rows (Kd.int .u8) (w0 := w) w.heap.size rfl (.tmp 5) (.tmp 7) 22 5 (.int .u8 0) 1 rfl Tryd.underlying22 info5 rfl (by decide) (by omega) v102 t101 t104 _ _ _ (fun k_ => some k_ ≠ (.slice Ao8 t104.length co8 : Value).ownBlock) (fun _ => False) rfl rfl ?aO ?aR (fun _ _ h => h) (fun _ h => h.elim) ?aF ?aB ?aS ?aL ?_;(case aR => repeat (first | exact (Kd.R_reads' HO106.out).2.2 | (with_reducible refine Kd.C_alloc ?_ _) | (with_reducible refine Kd.C_drewN ?_ _) | (with_reducible refine Kd.C_drew ?_)));(case aB => exact (bw HB.out));(case aF => exact (fun k_ hk => Kd.fresh' (Kd.R_lt (rw_ HO106.out)) k_ hk));(case aO => exact (rw_ (Kd.R_mono HO103.out (fun _ hk => hk.2))));(case aS => exact (below_size (bw HB.out)));(case aL => have := LMc4.out; omega);intro v108 w7 ho hb hg hat;rw [← Ny107.out] at ho;replace HO106 := ak (Kd.R_after (ok := (fun _ => True)) (rw_ HO106.out) hg hat);replace HB := ak (hb);have HO109 := ak (ho);clear HO103;clear ho hb hg hat))
  go_ret
  exact ⟨_, o1, by (with_reducible repeat (first | apply Kd.R_alloc | apply Kd.R_drewN | apply Kd.R_drew)); exact Kd.R_mono HO109.out (fun _ hk => trivial), bw HB.out⟩
 ·rw [if_neg c4] at H
  exact absurd H (by simp)

def laysM171_ren : Go.Shelf.Ren := ⟨fun | 171 => 74 | 243 => 101 | 246 => 116 | 283 => 128 | 284 => 129 | 285 => 130 | 286 => 131 | 129 => 143 | 317 => 142 | 318 => 144 | 319 => 145 | 320 => 146 | 337 => 150 | 338 => 151 | n => n, fun | 3 => 3 | 9 => 9 | 2 => 2 | 4 => 4 | 171 => 127 | 0 => 0 | 53 => 118 | 37 => 22 | 5 => 5 | 173 => 130 | 212 => 140 | 51 => 141 | 20 => 20 | 213 => 142 | 46 => 68 | 232 => 152 | 233 => 153 | n => n, fun | 17 => 3 | 18 => 6 | 19 => 7 | n => n⟩
theorem laysM171 : Go.Proofs.LaysM.n171 Tryd.prog laysM171_ren := {
  mixed := (by kernel_rfl),
  f129 := Tryd.func143.trans (congrArg some (by kernel_rfl)),
  f171 := Tryd.func74.trans (congrArg some (by kernel_rfl)),
  f243 := Tryd.func101.trans (congrArg some (by kernel_rfl)),
  f246 := Tryd.func116.trans (congrArg some (by kernel_rfl)),
  f283 := Tryd.func128.trans (congrArg some (by kernel_rfl)),
  f284 := Tryd.func129.trans (congrArg some (by kernel_rfl)),
  f285 := Tryd.func130.trans (congrArg some (by kernel_rfl)),
  f286 := Tryd.func131.trans (congrArg some (by kernel_rfl)),
  f317 := Tryd.func142.trans (congrArg some (by kernel_rfl)),
  f318 := Tryd.func144.trans (congrArg some (by kernel_rfl)),
  f319 := Tryd.func145.trans (congrArg some (by kernel_rfl)),
  f320 := Tryd.func146.trans (congrArg some (by kernel_rfl)),
  f337 := Tryd.func150.trans (congrArg some (by kernel_rfl)),
  f338 := Tryd.func151.trans (congrArg some (by kernel_rfl)),
  t0 := Tryd.underlying0,
  a0 := Tryd.isAgg0,
  z0 := Tryd.sizeOf0,
  v0 := Tryd.zeroValue0,
  t2 := Tryd.underlying2,
  a2 := Tryd.isAgg2,
  z2 := Tryd.sizeOf2,
  v2 := Tryd.zeroValue2,
  t3 := Tryd.underlying3,
  a3 := Tryd.isAgg3,
  z3 := Tryd.sizeOf3,
  v3 := Tryd.zeroValue3,
  t4 := Tryd.underlying4,
  a4 := Tryd.isAgg4,
  z4 := Tryd.sizeOf4,
  v4 := Tryd.zeroValue4,
  t5 := Tryd.underlying5,
  a5 := Tryd.isAgg5,
  z5 := Tryd.sizeOf5,
  v5 := Tryd.zeroValue5,
  t9 := Tryd.underlying9,
  a9 := Tryd.isAgg9,
  z9 := Tryd.sizeOf9,
  v9 := Tryd.zeroValue9,
  t20 := Tryd.underlying20,
  a20 := Tryd.isAgg20,
  z20 := Tryd.sizeOf20,
  v20 := Tryd.zeroValue20,
  t37 := Tryd.underlying22,
  a37 := Tryd.isAgg22,
  z37 := Tryd.sizeOf22,
  v37 := Tryd.zeroValue22,
  t46 := Tryd.underlying68,
  a46 := Tryd.isAgg68,
  z46 := Tryd.sizeOf68,
  v46 := Tryd.zeroValue68,
  t51 := Tryd.underlying141,
  a51 := Tryd.isAgg141,
  z51 := Tryd.sizeOf141,
  v51 := Tryd.zeroValue141,
  t53 := Tryd.underlying118,
  a53 := Tryd.isAgg118,
  z53 := Tryd.sizeOf118,
  v53 := Tryd.zeroValue118,
  t171 := Tryd.underlying127,
  a171 := Tryd.isAgg127,
  z171 := Tryd.sizeOf127,
  v171 := Tryd.zeroValue127,
  t173 := Tryd.underlying130,
  a173 := Tryd.isAgg130,
  z173 := Tryd.sizeOf130,
  v173 := Tryd.zeroValue130,
  t212 := Tryd.underlying140,
  a212 := Tryd.isAgg140,
  z212 := Tryd.sizeOf140,
  v212 := Tryd.zeroValue140,
  t213 := Tryd.underlying142,
  a213 := Tryd.isAgg142,
  z213 := Tryd.sizeOf142,
  t232 := Tryd.underlying152,
  a232 := Tryd.isAgg152,
  z232 := Tryd.sizeOf152,
  v232 := Tryd.zeroValue152,
  t233 := Tryd.underlying153,
  a233 := Tryd.isAgg153,
  z233 := Tryd.sizeOf153,
  v233 := Tryd.zeroValue153,
  g17 := (by kernel_rfl),
  g18 := (by kernel_rfl),
  g19 := (by kernel_rfl),
  i0 := (by kernel_rfl),
  i2 := (by kernel_rfl),
  i3 := (by kernel_rfl),
  i4 := (by kernel_rfl),
  i5 := (by kernel_rfl),
  i9 := (by kernel_rfl),
  i20 := (by kernel_rfl),
  i37 := (by kernel_rfl),
  i46 := (by kernel_rfl),
  i51 := (by kernel_rfl),
  i53 := (by kernel_rfl),
  i171 := (by kernel_rfl),
  i173 := (by kernel_rfl),
  i212 := (by kernel_rfl),
  i232 := (by kernel_rfl),
  i233 := (by kernel_rfl),
  m17 := (by kernel_rfl),
  m18 := (by kernel_rfl),
  m19 := (by kernel_rfl) }
def lays156_ren : Go.Shelf.Ren := ⟨fun | 156 => 38 | 165 => 71 | 166 => 72 | 169 => 73 | 240 => 99 | 241 => 100 | 276 => 114 | 277 => 115 | n => n, fun | 31 => 57 | 9 => 9 | 3 => 3 | 4 => 4 | 0 => 0 | 20 => 20 | 72 => 86 | 76 => 65 | 70 => 84 | 37 => 22 | 75 => 64 | 127 => 100 | 164 => 111 | 5 => 5 | 80 => 82 | n => n, fun | n => n⟩
theorem lays156 : Go.Proofs.Lays.n156 Tryd.prog lays156_ren := {
  mixed := (by kernel_rfl),
  f156 := Tryd.func38.trans (congrArg some (by kernel_rfl)),
  f165 := Tryd.func71.trans (congrArg some (by kernel_rfl)),
  f166 := Tryd.func72.trans (congrArg some (by kernel_rfl)),
  f169 := Tryd.func73.trans (congrArg some (by kernel_rfl)),
  f240 := Tryd.func99.trans (congrArg some (by kernel_rfl)),
  f241 := Tryd.func100.trans (congrArg some (by kernel_rfl)),
  f276 := Tryd.func114.trans (congrArg some (by kernel_rfl)),
  f277 := Tryd.func115.trans (congrArg some (by kernel_rfl)),
  t0 := Tryd.underlying0,
  a0 := Tryd.isAgg0,
  z0 := Tryd.sizeOf0,
  v0 := Tryd.zeroValue0,
  t3 := Tryd.underlying3,
  a3 := Tryd.isAgg3,
  z3 := Tryd.sizeOf3,
  v3 := Tryd.zeroValue3,
  t4 := Tryd.underlying4,
  a4 := Tryd.isAgg4,
  z4 := Tryd.sizeOf4,
  v4 := Tryd.zeroValue4,
  t9 := Tryd.underlying9,
  a9 := Tryd.isAgg9,
  z9 := Tryd.sizeOf9,
  v9 := Tryd.zeroValue9,
  t20 := Tryd.underlying20,
  a20 := Tryd.isAgg20,
  z20 := Tryd.sizeOf20,
  v20 := Tryd.zeroValue20,
  t31 := Tryd.underlying57,
  a31 := Tryd.isAgg57,
  z31 := Tryd.sizeOf57,
  v31 := Tryd.zeroValue57,
  t37 := Tryd.underlying22,
  a37 := Tryd.isAgg22,
  z37 := Tryd.sizeOf22,
  v37 := Tryd.zeroValue22,
  t70 := Tryd.underlying84,
  a70 := Tryd.isAgg84,
  z70 := Tryd.sizeOf84,
  v70 := Tryd.zeroValue84,
  t72 := Tryd.underlying86,
  a72 := Tryd.isAgg86,
  z72 := Tryd.sizeOf86,
  v72 := Tryd.zeroValue86,
  t75 := Tryd.underlying64,
  a75 := Tryd.isAgg64,
  z75 := Tryd.sizeOf64,
  v75 := Tryd.zeroValue64,
  t76 := Tryd.underlying65,
  a76 := Tryd.isAgg65,
  z76 := Tryd.sizeOf65,
  v76 := Tryd.zeroValue65,
  t127 := Tryd.underlying100,
  a127 := Tryd.isAgg100,
  z127 := Tryd.sizeOf100,
  v127 := Tryd.zeroValue100,
  t164 := Tryd.underlying111,
  a164 := Tryd.isAgg111,
  z164 := Tryd.sizeOf111,
  v164 := Tryd.zeroValue111 }
theorem Builder_Extra_156 : Builder.Extra Tryd.prog lays156_ren := {
  sizeBuilder := (by kernel_rfl),
  liesBuilder := (by kernel_rfl),
  t5 := Tryd.underlying5,
  a5 := Tryd.isAgg5,
  z5 := Tryd.sizeOf5,
  v5 := Tryd.zeroValue5,
  infoByte := (by kernel_rfl),
  cellsByte := (by kernel_rfl),
  sizeByte := (by kernel_rfl),
  neB5 := (by decide) }
/-- strconv.Itoa, at every int. -/
theorem itoa_any (n : Int) (h0 : -9223372036854775808 ≤ n) (h1 : n ≤ 9223372036854775807) (w : World) (htab : Lib.TabIs Tryd.prog w "internal/strconv.uint64pow10" .u64 Lib.pow10Tab) :
    Calls Tryd.prog 74 #[.int .i64 n] w fun e w' => e = .returned (.string ⟨(Lib.itoa n).toArray⟩) ∧ Below w.heap.size w w' := (Any.strconv_Itoa laysM171 n h0 h1 w htab).mono fun e w' h => ⟨h.1, by obtain ⟨k, os, rfl⟩ := h.2; exact Lib.below_grow _ w (Nat.le_refl _) k os⟩
theorem join_any (bk o c : Nat) (xs : List ByteArray) (sep : ByteArray) (w : World) (hcells : ∀ (j : Nat) x, xs[j]? = some x → w.cell? ⟨bk, o + j, none⟩ = some (.string x))
    (hbk : bk < w.heap.size) (hN : xs.length ≤ 140737488355328) (hcap : xs.length ≤ c) (hlen : (Lib.join (xs.map (·.data.toList)) sep.data.toList).length ≤ 140737488355328) :
    Calls Tryd.prog 38 #[.slice (some ⟨bk, o, none⟩) xs.length c, .string sep] w fun e w' => e = .returned (.string ⟨(Lib.join (xs.map (·.data.toList)) sep.data.toList).toArray⟩) ∧ Below w.heap.size w w' :=
  Any.strings_Join lays156 Builder_Extra_156 bk o c xs sep w hcells hbk hN hcap hlen

/-- The table of powers reads as the library lays it. -/
def TabA (w : World) : Prop := Lib.TabIs Tryd.prog w "internal/strconv.uint64pow10" .u64 Lib.pow10Tab
theorem tab_below {w W : World} (h : TabA w) (hb : Below w.heap.size w W) : TabA W := Lib.tabBelow_of_tabIs h W hb
def digS (c : Int) : ByteArray := ⟨(Lib.itoa c).toArray⟩
def qd4 (x : Int) : List Int := [x / 16777216 % 256, x / 65536 % 256, x / 256 % 256, x % 256]
theorem four_eq (x : Int) (h0 : 0 ≤ x) (h1 : x < 4294967296) : impl_four.f x = some (qd4 x) := by
  unfold impl_four.f impl_two.f qd4
  simp only [Option.bind_some]
  rw [if_pos (by simp)]
  simp only [List.cons_append, List.nil_append, Option.some.injEq, List.cons.injEq, and_true]
  omega
theorem rd_atN (l : List Int) (n : Nat) (h : n < l.length) : rd l ((n : Nat) : Int) = l[n] := by simp [rd, List.getD_eq_getElem?_getD, h]
def decS (x : Int) : List ByteArray := (qd4 x).map digS
set_option maxHeartbeats 2000000 in
set_option maxRecDepth 100000 in
theorem decimals_any (a0 : Int) (h0 : 0 ≤ a0) (h1 : a0 < 4294967296) (w : World) (hT : TabA w) :
    Calls Tryd.prog 39 #[.int .i64 a0] w fun e w' => ∃ v0_ : Value, e = .returned v0_ ∧ Kd.R Kd.string 9 w' w.heap.size (fun _ => True) v0_ (decS a0) ∧ Below w.heap.size w w' := by
  have HT := ak hT
  have HB := ak (Below.refl w.heap.size w)
  clear hT
  go_enter Tryd.func39, Tryd.ntmps39
  go_wp2_with (((with_reducible refine gate_dst (N := 6) rfl ?_);refine Kd.R_lit Kd.string _ 9 ?hg (N := 6) ?hd (xs := ([] : List ByteArray)) (inner := []) (ok := fun _ => True) (okp := fun _ => True) ?hr ?hp (fun _ hk => hk) trivial (Below.refl _ _) (Nat.le_refl _) (by simp) ?_;(case hd => rfl);(case hg => rfl);(case hr => first | (go_simp; done) | (go_simp; rfl));(case hp => exact (Reps.none _ _));intro v6 w3 ho4 hb hg_ hnew_;clear hg_ hnew_;have HO := ak (Kd.R_lower ho4 (below_size HB.out));replace HB := ak (below_step HB.out hb);clear hb ho4))
  refine (impl_four.calls a0 (qd4 a0) _ (four_eq a0 h0 h1)).mono ?_
  rintro e w4 ⟨v8, rfl, ho, hb⟩
  replace HO := ak (Kd.R_below HO.out hb)
  have HS3 := ak HB.out.size
  replace HB := b2s HB.out hb
  obtain ⟨B, HBE⟩ : ∃ B, Aside0 (qd4 a0 = B) := ⟨_, ⟨rfl⟩⟩
  have HBL := ak (show B.length = 4 by rw [← HBE.out]; rfl)
  have HBB := ak (show ∀ x ∈ B, 0 ≤ x ∧ x ≤ 255 by rw [← HBE.out]; unfold qd4; intro x hx; simp only [List.mem_cons, List.not_mem_nil, or_false] at hx; rcases hx with rfl | rfl | rfl | rfl <;> omega)
  rw [HBE.out] at ho
  obtain ⟨A8, c8, eo⟩ := Kd.R_slice ho
  subst eo
  have HW := ak (Kd.R_lower ho HS3.out)
  clear ho hb
  go_wp2
  go_loopg [3, 5, 10] 5 (fun gq v3 v5 v10 W => ∃ i : Nat, i ≤ 4 ∧ 5 - i ≤ gq ∧ v10 = .int .i64 (i : Int) ∧ Aside0 (Kd.R Kd.string 9 W w.heap.size (fun _ => True) v3 ((B.take i).map digS)) ∧ Aside0 (Below w.heap.size w W) ∧ Aside0 (Kd.R (Kd.int .u8) 5 W w.heap.size (fun _ => True) (.slice A8 B.length c8) B))
  case atStart => exact ⟨0, by omega, by omega, rfl, HO, HB, HW⟩
  case round =>
    clear HO HB HW
    obtain ⟨i, hi, hg, rfl, HO, HB, HW⟩ := hrel
    have hbl := HBL.out
    by_cases hlt : i < 4
    · have hlz : (i : Int) < (B.length : Int) := by omega
      obtain ⟨ad, hA, hck⟩ := Kd.at_int (Kd.R_reads' HW.out).2.2 (i : Int) (by omega) (by omega)
      subst hA
      rw [show ((i : Int)).toNat = i from by omega] at hck
      have hx := HBB.out (rd B (i : Int)) (by rw [rd_atN B i (by omega)]; exact List.getElem_mem _)
      have HTK := ak (show (B.take i).map digS ++ [digS (rd B (i : Int))] = (B.take (i + 1)).map digS by rw [List.take_succ_eq_append_getElem (by omega), List.map_append, rd_atN B i (by omega)]; rfl)
      obtain ⟨x, HX⟩ : ∃ x, Aside0 (rd B (i : Int) = x) := ⟨_, ⟨rfl⟩⟩
      rw [HX.out] at hck hx HTK
      obtain ⟨hx0, hx1⟩ := hx
      have HLT := ak (show ((B.take i).map digS).length ≤ 4 by rw [List.length_map, List.length_take]; omega)
      obtain ⟨ds, HDS⟩ : ∃ d, Aside0 ((B.take i).map digS = d) := ⟨_, ⟨rfl⟩⟩
      rw [HDS.out] at HO HTK HLT
      obtain ⟨dg, HDG⟩ : ∃ d, Aside0 (digS x = d) := ⟨_, ⟨rfl⟩⟩
      rw [HDG.out] at HTK
      clear hbl
      go_wp2_with (fail)
      refine (itoa_any x (by omega) (by omega) _ (tab_below HT.out HB.out)).mono ?_
      rintro e w5 ⟨rfl, hb⟩
      rw [show (⟨(Lib.itoa x).toArray⟩ : ByteArray) = dg from HDG.out]
      replace HO := ak (Kd.R_below HO.out hb)
      replace HB := b2s HB.out hb
      replace HW := ak (Kd.R_below HW.out hb)
      clear hb hck
      go_wp2_with ((with_reducible refine gate_builtin (b := .append) (xs := #[.tmp 14, .tmp 18]) rfl ?_);at_builtin;refine Kd.R_append Kd.string (w0 := w) w.heap.size rfl (.tmp 14) (.tmp 18) 57 9 (.string ⟨#[]⟩) 16 rfl Tryd.underlying57 info9 rfl (by decide) (by omega) _ ds dg [.string dg] (fun _ => True) (fun _ => False) rfl rfl ?aP (fun _ hk => hk.elim) ?aF ?aO ?aB ?aS ?aL ?_;(case aP => exact rfl);(case aB => exact HB.out);(case aF => exact (fun _ _ => trivial));(case aO => exact HO.out);(case aS => exact HB.out.size);(case aL => have := HLT.out; omega);intro v19 w6 ho hb hg hat;replace HB := ak hb;replace HW := ak (Kd.R_mono (ok' := fun _ => True) (Kd.R_grown (Kd.R_apartR HW.out HO.out (by decide)) hg (fun k hk => hk.2)) (fun _ _ => trivial));replace HO := ak ho;clear ho hb hat hg)
      go_roundg (5 - (i + 1))
      case measure => omega
      case rel => exact ⟨i + 1, by omega, by omega, by go_num, ⟨by rw [← HTK.out]; exact HO.out⟩, HB, HW⟩
    · have hlz : ¬ (i : Int) < (B.length : Int) := by omega
      obtain rfl : i = 4 := by omega
      rw [List.take_of_length_le (by omega)] at HO
      clear hi hg hlt hbl
      go_wp2
      go_ret
      exact ⟨_, rfl, by unfold decS; rw [HBE.out]; exact HO.out, HB.out⟩

def strBytes (s : ByteArray) : List Int := s.data.toList.map fun b => (b.toNat : Int)
theorem strBytes_len (s : ByteArray) : (strBytes s).length = s.size := by
  unfold strBytes
  rw [List.length_map, Array.length_toList]
  rfl
theorem conv_s (s : ByteArray) (W : World) : (convert 9 22 (.string s)).run Tryd.prog W = .ok (.slice (some ⟨W.heap.size, 0, none⟩) (strBytes s).length (grownCap W s.size 0 5))
      (W.drew.alloc (.cells (bytesRow s (grownCap W s.size 0 5)) 5 ((bytesRow s (grownCap W s.size 0 5)).size, (bytesRow s (grownCap W s.size 0 5)).size + 1))) := by
  rw [strBytes_len]
  exact run_bytes_of_string W 9 22 5 s Tryd.underlying9 Tryd.underlying22 Tryd.underlying5
theorem Zs_str (W : World) (s : ByteArray) (n base : Nat) (hs : s.size ≤ 9223372036854775807) (hn : s.size ≤ n) (hb : base ≤ W.heap.size) :
    Zs 5 ((W.alloc (.cells (bytesRow s n) 5 ((bytesRow s n).size, (bytesRow s n).size + 1))).drew) base (fun _ => True) (.slice (some ⟨W.heap.size, 0, none⟩) (strBytes s).length n) (strBytes s) := by
  have hl : (bytesRow s n).size = n := by
    have : s.data.size ≤ n := hn
    have e : s.size = s.data.size := rfl
    unfold bytesRow
    rw [Array.size_append, Array.size_map, Array.size_replicate]
    omega
  refine ⟨W.heap.size, n, bytesRow s n, rfl, by rw [strBytes_len]; exact hn, trivial, hb, heap_alloc_new _ _, by rw [strBytes_len, hl]; exact hn, by rw [strBytes_len]; omega, fun j hj => ?_⟩
  have hj2 : j < s.data.size := by rw [strBytes_len] at hj; exact hj
  have hj3 : j < s.size := hj2
  simp [bytesRow, strBytes, Array.getElem?_append, rd, List.getD_eq_getElem?_getD]
  rw [if_pos hj3, Array.getElem?_eq_getElem hj2]
  rfl
/-- An address in dots. -/
def dotS (x : Int) : ByteArray := ⟨(Lib.join ((decS x).map (·.data.toList)) [46]).toArray⟩
def dotV (x : Int) : List Int := if 0 ≤ x ∧ x < 4294967296 then strBytes (dotS x) else []
theorem dot_list (x : Int) : (dotS x).data.toList = Lib.itoa (x / 16777216 % 256) ++ 46 :: (Lib.itoa (x / 65536 % 256) ++ 46 :: (Lib.itoa (x / 256 % 256) ++ 46 :: Lib.itoa (x % 256))) := by
  simp [dotS, decS, qd4, digS, Lib.join, List.intercalate]
theorem dot_size (x : Int) (h0 : 0 ≤ x) (h1 : x < 4294967296) : (dotS x).size ≤ 100 := by
  have e : (dotS x).size = (dotS x).data.toList.length := by rw [Array.length_toList]; rfl
  have a := Lib.itoa_length_le (x / 16777216 % 256) (by omega) (by omega)
  have b := Lib.itoa_length_le (x / 65536 % 256) (by omega) (by omega)
  have c := Lib.itoa_length_le (x / 256 % 256) (by omega) (by omega)
  have d := Lib.itoa_length_le (x % 256) (by omega) (by omega)
  rw [e, dot_list]
  simp only [List.length_append, List.length_cons]
  omega
set_option maxHeartbeats 2000000 in
set_option maxRecDepth 100000 in
theorem dotted_any (a0 : Int) (w : World) (hT : TabA w) :
    Calls Tryd.prog 9 #[.int .i64 a0] w fun e w' => ∃ v0_ : Value, e = .returned (v0_) ∧ Zr 5 w' w.heap.size (fun _ => True) v0_ (dotV a0) ∧ Below w.heap.size w w' := by
  have HT := ak hT
  clear hT
  by_cases hw : 0 ≤ a0 ∧ a0 < 4294967296
  · have hv : dotV a0 = strBytes (dotS a0) := by unfold dotV; rw [if_pos hw]
    have HV := ak hv
    have HWD := ak hw
    have HIS := ak (show impl_isWord.f a0 = some true by unfold impl_isWord.f impl_within.f; rw [if_pos hw.1, decide_eq_true (show a0 ≤ 4294967295 by omega)]; rfl)
    clear hv hw
    go_enter Tryd.func9, Tryd.ntmps9
    go_wp2_with (fail)
    refine (impl_isWord.calls a0 true _ HIS.out).mono ?_
    rintro e w1 ⟨rfl, ⟨nd, rfl⟩⟩
    have HB := ak (pw_below_drewN (Below.refl w.heap.size w) nd)
    generalize w.drewN nd = w1 at HB ⊢
    go_wp2_with (fail)
    refine (decimals_any a0 HWD.out.1 HWD.out.2 w1 (tab_below HT.out HB.out)).mono ?_
    rintro e w2 ⟨v7, rfl, ho, hb⟩
    replace HB := b2s HB.out hb
    obtain ⟨ds, HDS⟩ : ∃ d, Aside0 (decS a0 = d) := ⟨_, ⟨rfl⟩⟩
    have HDL := ak (show ds.length = 4 by rw [← HDS.out]; rfl)
    rw [HDS.out] at ho
    obtain ⟨g, cap, rfl, hgb, hgl, cur, hgc⟩ := Kd.R_form ho (by rw [HDL.out]; omega)
    have hcap := (Kd.R_reads' ho).2.1
    have hcells : ∀ (j : Nat) x, ds[j]? = some x → w2.cell? ⟨g, 0 + j, none⟩ = some (.string x) := fun j x hx => by
      have hj := (List.getElem?_eq_some_iff.1 hx).1
      have := (Kd.R_celln (enc := Value.string) (h1 := fun _ => rfl) ByteArray.empty ho (j : Int) (by omega) (by omega)).1
      rw [show ((j : Int)).toNat = j by omega] at this
      rw [Nat.zero_add, this]
      simp [rdOf, List.getD_eq_getElem?_getD, hx]
    have HCALL := ak (join_any g 0 cap ds ⟨#[46]⟩ w2 hcells hgl (by rw [HDL.out]; omega) hcap (by
      have h1 := dot_size a0 HWD.out.1 HWD.out.2
      have e : (dotS a0).size = (dotS a0).data.toList.length := by rw [Array.length_toList]; rfl
      rw [← HDS.out]
      have h2 : (dotS a0).data.toList = Lib.join ((decS a0).map (·.data.toList)) [46] := rfl
      rw [e, h2] at h1
      show (Lib.join ((decS a0).map (·.data.toList)) [46]).length ≤ _
      omega))
    clear ho hb hcells hgb hgl hgc hcap
    go_wp2_with (fail)
    refine HCALL.out.mono ?_
    rintro e w3 ⟨rfl, hb⟩
    replace HB := b2s HB.out hb
    rw [show (⟨(Lib.join (ds.map (·.data.toList)) (⟨#[46]⟩ : ByteArray).data.toList).toArray⟩ : ByteArray) = dotS a0 by rw [← HDS.out]; rfl]
    have HSZ := ak (dot_size a0 HWD.out.1 HWD.out.2)
    obtain ⟨s, HS⟩ : ∃ s, Aside0 (dotS a0 = s) := ⟨_, ⟨rfl⟩⟩
    rw [HS.out] at HSZ HV
    rw [HS.out]
    have hcv := conv_s s
    clear hb HCALL
    go_wp2
    have hcap := grownCap_ge w3 s.size 0 5
    generalize grownCap w3 s.size 0 5 = cap3 at hcap ⊢
    clear hcv
    go_ret
    exact ⟨_, rfl, by rw [HV.out]; exact .inr (Zs_str w3 s cap3 _ (by have := HSZ.out; omega) hcap HB.out.size), below_drew1 (below_alloc HB.out _)⟩
  · have hv : dotV a0 = [] := by unfold dotV; rw [if_neg hw]
    have HV := ak hv
    have HIS := ak (show impl_isWord.f a0 = some false by
      unfold impl_isWord.f impl_within.f
      by_cases h0 : 0 ≤ a0
      · rw [if_pos h0, decide_eq_false (show ¬ a0 ≤ 4294967295 by omega)]; rfl
      · rw [if_neg h0]; rfl)
    clear hv hw
    go_enter Tryd.func9, Tryd.ntmps9
    go_wp2_with (fail)
    refine (impl_isWord.calls a0 false _ HIS.out).mono ?_
    rintro e w1 ⟨rfl, ⟨nd, rfl⟩⟩
    have HB := ak (pw_below_drewN (Below.refl w.heap.size w) nd)
    generalize w.drewN nd = w1 at HB ⊢
    go_wp2
    go_ret
    exact ⟨_, rfl, by rw [HV.out]; exact .inl (Kd.R_nil _ _ _ _ _), HB.out⟩
/-! ### impl_Dotted: function 9 -/
/-! ### impl_hasTo: function 94 -/
def impl_hasTo.f (a0 : Int) : Option (Bool) := if a0 = 2 then (some true) else (if a0 = 5 then (some true) else (if a0 = 6 then (some true) else (some (a0 == 12))))
set_option maxHeartbeats 8000000 in
set_option maxRecDepth 100000 in
theorem impl_hasTo.calls (a0 : Int) (r : Bool) (w : World) (h : impl_hasTo.f a0 = some r) :
  Calls Tryd.prog 94 #[.int .i64 a0] w fun e w' => e = .returned (.bool r) ∧ Drawn0 w w' := by
 have H : (if a0 = 2 then (some true) else (if a0 = 5 then (some true) else (if a0 = 6 then (some true) else (some (a0 == 12))))) = some r := h
 clear h
 replace H := ie H
 obtain ⟨c2b0, c2b1, H⟩ | ⟨c2b0, c2b1, H⟩ := H
 ·obtain rfl := Option.some.inj H
  go_enter Tryd.func94, Tryd.ntmps94
  go_wp2
  go_ret
  exact ⟨o2, od⟩
 ·replace H := ie H
  obtain ⟨c3b0, c3b1, H⟩ | ⟨c3b0, c3b1, H⟩ := H
  ·obtain rfl := Option.some.inj H
   go_enter Tryd.func94, Tryd.ntmps94
   go_wp2
   go_ret
   exact ⟨o2, od⟩
  ·replace H := ie H
   obtain ⟨c4b0, c4b1, H⟩ | ⟨c4b0, c4b1, H⟩ := H
   ·obtain rfl := Option.some.inj H
    go_enter Tryd.func94, Tryd.ntmps94
    go_wp2
    go_ret
    exact ⟨o2, od⟩
   ·obtain rfl := Option.some.inj H
    go_enter Tryd.func94, Tryd.ntmps94
    go_wp2
    go_ret
    exact ⟨o2, od⟩

/-! ### slices_IndexFunc_byte_byte_139: function 139 -/

set_option maxHeartbeats 2000000 in
theorem slices_IndexFunc_byte_byte_139.calls (g : Nat) (lb : Array Value) (eg : ∀ args w, (callFunc g args).run Tryd.prog w = .ok (.enter g args) w) (p : List Int → Bool) (A0 : Option Addr) (c0 : Nat) (l0 : List (List Int)) (w : World) (hr0 : Kd.C (Kd.slice 5 (Kd.int .u8)) w A0 l0.length l0)
  (hp : ∀ (W : World) (A : Option Addr) (c : Nat) (x : List Int), Below w.heap.size w W → Kd.C (Kd.int .u8) W A x.length x → x.length ≤ c → Calls Tryd.prog g (#[.slice A x.length c] ++ lb) W fun e w' => e = .returned (.bool (p x)) ∧ Below w.heap.size w w') :
  Calls Tryd.prog 139 #[.slice A0 l0.length c0, .func (.func g) #[] lb] w fun e w' => (∃ r : Int, e = .returned (.int .i64 r) ∧ decide (0 ≤ r) = l0.any p) ∧ Below w.heap.size w w' := by
 have HR0 := ak hr0
 have hbig : l0.length ≤ 9223372036854775807 := hr0.2.1
 have HP := ak hp
 clear hr0 hp
 go_enter Tryd.func139, Tryd.ntmps139
 go_wp2
 go_loopg [5, 8] l0.length (fun gg _ s8 wr => ∃ kk : Nat, kk ≤ l0.length ∧ l0.length - kk ≤ gg ∧ s8 = .int .i64 kk ∧ Aside0 (Below w.heap.size w wr) ∧ Aside0 ((l0.take kk).any p = false))
 case atStart => exact ⟨0, Nat.zero_le _, by omega, rfl, ⟨Below.refl _ w⟩, ⟨by simp⟩⟩
 case round =>
  obtain ⟨kk, hkk, hg, rfl, BW, AF⟩ := hrel
  by_cases hlt : kk < l0.length
  ·obtain ⟨ad, A1, c1, rfl, hcell, hc1, hC1⟩ := at_L10 HR0.out (kk : Int) (by omega) (by omega)
   replace hcell := pw_cell_below BW.out hcell
   have hcall := HP.out wr A1 c1 (rd_L10 l0 (kk : Int)) BW.out (Kd.C_below hC1 BW.out) hc1
   have hx : Aside0 (l0.take (kk + 1) = l0.take kk ++ [rd_L10 l0 (kk : Int)]) := ⟨by
    rw [List.take_succ_eq_append_getElem hlt]; simp [rd_L10, List.getD_eq_getElem?_getD, hlt]⟩
   clear hC1 hc1
   generalize rd_L10 l0 (kk : Int) = y at hcell hcall hx
   have hltz : (kk : Int) < (l0.length : Int) := by omega
   rw [show ((kk : Int)).toNat = kk from by omega] at hcell
   cases hq : p y with
   | true =>
    rw [hq] at hcall
    go_wp2_with (go_at_fn g; refine hcall.mono ?_; rintro e w' ⟨rfl, hb'⟩)
    go_ret
    refine ⟨⟨_, rfl, ?_⟩, hb'⟩
    have : l0.any p = true := by
     rw [← List.take_append_drop (kk + 1) l0, hx.out]; simp [hq]
    rw [this]; simp
   | false =>
    rw [hq] at hcall
    go_wp2_with (go_at_fn g; refine hcall.mono ?_; rintro e w' ⟨rfl, hb'⟩)
    go_roundg (l0.length - (kk + 1))
    case measure => omega
    case rel => exact ⟨kk + 1, by omega, by omega, by go_num, ⟨hb'⟩, ⟨by rw [hx.out, List.any_append, AF.out]; simp [hq]⟩⟩
  ·have hltz : ¬ (kk : Int) < (l0.length : Int) := by omega
   go_wp2
   go_ret
   refine ⟨⟨_, rfl, ?_⟩, BW.out⟩
   have := AF.out
   rw [List.take_of_length_le (by omega)] at this
   rw [this]; rfl

/-! ### slices_ContainsFunc_byte_byte_124: function 124 -/

set_option maxHeartbeats 2000000 in
theorem slices_ContainsFunc_byte_byte_124.calls (g : Nat) (lb : Array Value) (eg : ∀ args w, (callFunc g args).run Tryd.prog w = .ok (.enter g args) w) (p : List Int → Bool) (A0 : Option Addr) (c0 : Nat) (l0 : List (List Int)) (w : World) (hr0 : Kd.C (Kd.slice 5 (Kd.int .u8)) w A0 l0.length l0)
  (hp : ∀ (W : World) (A : Option Addr) (c : Nat) (x : List Int), Below w.heap.size w W → Kd.C (Kd.int .u8) W A x.length x → x.length ≤ c → Calls Tryd.prog g (#[.slice A x.length c] ++ lb) W fun e w' => e = .returned (.bool (p x)) ∧ Below w.heap.size w w') :
  Calls Tryd.prog 124 #[.slice A0 l0.length c0, .func (.func g) #[] lb] w fun e w' => e = .returned (.bool (l0.any p)) ∧ Below w.heap.size w w' := by
 have hc := slices_IndexFunc_byte_byte_139.calls g lb eg p A0 c0 l0 w hr0 hp
 generalize l0.any p = q at hc ⊢
 clear hp hr0
 go_enter Tryd.func124, Tryd.ntmps124
 go_wp2_with (go_at_call 139; refine hc.mono ?_; rintro e w' ⟨⟨r, rfl, rfl⟩, hb'⟩)
 go_ret
 exact ⟨rfl, hb'⟩

/-! ### impl_all_byte_1_125: function 125 -/

set_option maxHeartbeats 2000000 in
/-- What is handed to ContainsFunc: the predicate's contrary; the predicate lies in a variable. -/
theorem impl_all_byte_1_125.calls (g : Nat) (lb : Array Value) (eg : ∀ args w, (callFunc g args).run Tryd.prog w = .ok (.enter g args) w) (q : Bool) (A : Option Addr) (n c : Nat) (B : Nat) (w w0 : World) (hv : w.cell? ⟨B, 0, none⟩ = some (.func (.func g) #[] lb))
  (hp : Calls Tryd.prog g (#[.slice A n c] ++ lb) w fun e w' => e = .returned (.bool q) ∧ Below w0.heap.size w0 w') :
  Calls Tryd.prog 125 #[.slice A n c, .pointer (some ⟨B, 0, none⟩)] w fun e w' => e = .returned (.bool (!q)) ∧ Below w0.heap.size w0 w' := by
 go_enter Tryd.func125, Tryd.ntmps125
 go_wp2_with (go_at_fn g; refine hp.mono ?_; rintro e w' ⟨rfl, hb'⟩)
 go_ret
 exact ⟨rfl, hb'⟩

/-! ### impl_all_byte_112: function 112 -/

set_option maxHeartbeats 2000000 in
theorem impl_all_byte_112.calls (g : Nat) (lb : Array Value) (eg : ∀ args w, (callFunc g args).run Tryd.prog w = .ok (.enter g args) w) (p : List Int → Bool) (A0 : Option Addr) (c0 : Nat) (l0 : List (List Int)) (w : World) (hr0 : Kd.C (Kd.slice 5 (Kd.int .u8)) w A0 l0.length l0)
  (hp : ∀ (W : World) (A : Option Addr) (c : Nat) (x : List Int), Below w.heap.size w W → Kd.C (Kd.int .u8) W A x.length x → x.length ≤ c → Calls Tryd.prog g (#[.slice A x.length c] ++ lb) W fun e w' => e = .returned (.bool (p x)) ∧ Below W.heap.size W w') :
  Calls Tryd.prog 112 #[.slice A0 l0.length c0, .func (.func g) #[] lb] w fun e w' => e = .returned (.bool (l0.all p)) ∧ Below w.heap.size w w' := by
 have eg2 : ∀ args w, (callFunc 125 args).run Tryd.prog w = .ok (.enter 125 args) w := enters_of Tryd.func125 (by kernel_rfl) rfl
 have hb0 : Below w.heap.size w (w.alloc (.cells #[.func (.func g) #[] lb] 37)) := below_alloc (Below.refl _ _) _
 have hc := slices_ContainsFunc_byte_byte_124.calls 125 #[.pointer (some ⟨w.heap.size, 0, none⟩)] eg2 (fun x => !p x) A0 c0 l0 (w.alloc (.cells #[.func (.func g) #[] lb] 37)) (Kd.C_below hr0 hb0) (fun W A c x hW hC hc =>
  impl_all_byte_1_125.calls g lb eg (p x) A x.length c w.heap.size W _ ((hW.cell (p := ⟨w.heap.size, 0, none⟩) (by simp)).trans (by simp)) ((hp W A c x (hb0.trans (hW.mono (by simp))) hC hc).mono fun e w' ⟨he, hb⟩ => ⟨he, hW.trans (hb.mono hW.size)⟩))
 have e1 : (l0.any fun x => !p x) = !(l0.all p) := by rw [List.all_eq_not_any_not]; simp
 rw [e1] at hc
 generalize l0.all p = q at hc ⊢
 clear hp hr0 e1
 go_enter Tryd.func112, Tryd.ntmps112
 go_wp2_with (go_at_call 124; refine hc.mono ?_; rintro e w' ⟨rfl, hb'⟩)
 go_ret
 exact ⟨by simp, hb0.trans (hb'.mono (by simp))⟩

/-! ### slices_IndexFunc_byte_byte_149: function 149 -/

set_option maxHeartbeats 2000000 in
theorem slices_IndexFunc_byte_byte_149.calls (g : Nat) (lb : Array Value) (eg : ∀ args w, (callFunc g args).run Tryd.prog w = .ok (.enter g args) w) (p : Int → Bool) (A0 : Option Addr) (c0 : Nat) (l0 : List Int) (w : World) (hr0 : Kd.C (Kd.int .u8) w A0 l0.length l0)
  (hp : ∀ (W : World) (x : Int), Below w.heap.size w W → Calls Tryd.prog g (#[.int .u8 x] ++ lb) W fun e w' => e = .returned (.bool (p x)) ∧ Below w.heap.size w w') :
  Calls Tryd.prog 149 #[.slice A0 l0.length c0, .func (.func g) #[] lb] w fun e w' => (∃ r : Int, e = .returned (.int .i64 r) ∧ decide (0 ≤ r) = l0.any p) ∧ Below w.heap.size w w' := by
 have HR0 := ak hr0
 have hbig : l0.length ≤ 9223372036854775807 := hr0.2.1
 have HP := ak hp
 clear hr0 hp
 go_enter Tryd.func149, Tryd.ntmps149
 go_wp2
 go_loopg [5, 8] l0.length (fun gg _ s8 wr => ∃ kk : Nat, kk ≤ l0.length ∧ l0.length - kk ≤ gg ∧ s8 = .int .i64 kk ∧ Aside0 (Below w.heap.size w wr) ∧ Aside0 ((l0.take kk).any p = false))
 case atStart => exact ⟨0, Nat.zero_le _, by omega, rfl, ⟨Below.refl _ w⟩, ⟨by simp⟩⟩
 case round =>
  obtain ⟨kk, hkk, hg, rfl, BW, AF⟩ := hrel
  by_cases hlt : kk < l0.length
  ·obtain ⟨ad, rfl, hcell⟩ := Kd.at_int HR0.out (kk : Int) (by omega) (by omega)
   replace hcell := pw_cell_below BW.out hcell
   have hcall := HP.out wr (rd l0 (kk : Int)) BW.out
   have hx : Aside0 (l0.take (kk + 1) = l0.take kk ++ [rd l0 (kk : Int)]) := ⟨by
    rw [List.take_succ_eq_append_getElem hlt]; simp [rd, List.getD_eq_getElem?_getD, hlt]⟩
   generalize rd l0 (kk : Int) = y at hcell hcall hx
   have hltz : (kk : Int) < (l0.length : Int) := by omega
   rw [show ((kk : Int)).toNat = kk from by omega] at hcell
   cases hq : p y with
   | true =>
    rw [hq] at hcall
    go_wp2_with (go_at_fn g; refine hcall.mono ?_; rintro e w' ⟨rfl, hb'⟩)
    go_ret
    refine ⟨⟨_, rfl, ?_⟩, hb'⟩
    have : l0.any p = true := by
     rw [← List.take_append_drop (kk + 1) l0, hx.out]; simp [hq]
    rw [this]; simp
   | false =>
    rw [hq] at hcall
    go_wp2_with (go_at_fn g; refine hcall.mono ?_; rintro e w' ⟨rfl, hb'⟩)
    go_roundg (l0.length - (kk + 1))
    case measure => omega
    case rel => exact ⟨kk + 1, by omega, by omega, by go_num, ⟨hb'⟩, ⟨by rw [hx.out, List.any_append, AF.out]; simp [hq]⟩⟩
  ·have hltz : ¬ (kk : Int) < (l0.length : Int) := by omega
   go_wp2
   go_ret
   refine ⟨⟨_, rfl, ?_⟩, BW.out⟩
   have := AF.out
   rw [List.take_of_length_le (by omega)] at this
   rw [this]; rfl

/-! ### slices_ContainsFunc_byte_byte_140: function 140 -/

set_option maxHeartbeats 2000000 in
theorem slices_ContainsFunc_byte_byte_140.calls (g : Nat) (lb : Array Value) (eg : ∀ args w, (callFunc g args).run Tryd.prog w = .ok (.enter g args) w) (p : Int → Bool) (A0 : Option Addr) (c0 : Nat) (l0 : List Int) (w : World) (hr0 : Kd.C (Kd.int .u8) w A0 l0.length l0)
  (hp : ∀ (W : World) (x : Int), Below w.heap.size w W → Calls Tryd.prog g (#[.int .u8 x] ++ lb) W fun e w' => e = .returned (.bool (p x)) ∧ Below w.heap.size w w') :
  Calls Tryd.prog 140 #[.slice A0 l0.length c0, .func (.func g) #[] lb] w fun e w' => e = .returned (.bool (l0.any p)) ∧ Below w.heap.size w w' := by
 have hc := slices_IndexFunc_byte_byte_149.calls g lb eg p A0 c0 l0 w hr0 hp
 generalize l0.any p = q at hc ⊢
 clear hp hr0
 go_enter Tryd.func140, Tryd.ntmps140
 go_wp2_with (go_at_call 149; refine hc.mono ?_; rintro e w' ⟨⟨r, rfl, rfl⟩, hb'⟩)
 go_ret
 exact ⟨rfl, hb'⟩

/-! ### impl_all_byte_1_141: function 141 -/

set_option maxHeartbeats 2000000 in
/-- What is handed to ContainsFunc: the predicate's contrary; the predicate lies in a variable. -/
theorem impl_all_byte_1_141.calls (g : Nat) (lb : Array Value) (eg : ∀ args w, (callFunc g args).run Tryd.prog w = .ok (.enter g args) w) (q : Bool) (x : Int) (B : Nat) (w w0 : World) (hv : w.cell? ⟨B, 0, none⟩ = some (.func (.func g) #[] lb))
  (hp : Calls Tryd.prog g (#[.int .u8 x] ++ lb) w fun e w' => e = .returned (.bool q) ∧ Below w0.heap.size w0 w') :
  Calls Tryd.prog 141 #[.int .u8 x, .pointer (some ⟨B, 0, none⟩)] w fun e w' => e = .returned (.bool (!q)) ∧ Below w0.heap.size w0 w' := by
 go_enter Tryd.func141, Tryd.ntmps141
 go_wp2_with (go_at_fn g; refine hp.mono ?_; rintro e w' ⟨rfl, hb'⟩)
 go_ret
 exact ⟨rfl, hb'⟩

/-! ### impl_all_byte_126: function 126 -/

set_option maxHeartbeats 2000000 in
theorem impl_all_byte_126.calls (g : Nat) (lb : Array Value) (eg : ∀ args w, (callFunc g args).run Tryd.prog w = .ok (.enter g args) w) (p : Int → Bool) (A0 : Option Addr) (c0 : Nat) (l0 : List Int) (w : World) (hr0 : Kd.C (Kd.int .u8) w A0 l0.length l0)
  (hp : ∀ (W : World) (x : Int), Below w.heap.size w W → Calls Tryd.prog g (#[.int .u8 x] ++ lb) W fun e w' => e = .returned (.bool (p x)) ∧ Below W.heap.size W w') :
  Calls Tryd.prog 126 #[.slice A0 l0.length c0, .func (.func g) #[] lb] w fun e w' => e = .returned (.bool (l0.all p)) ∧ Below w.heap.size w w' := by
 have eg2 : ∀ args w, (callFunc 141 args).run Tryd.prog w = .ok (.enter 141 args) w := enters_of Tryd.func141 (by kernel_rfl) rfl
 have hb0 : Below w.heap.size w (w.alloc (.cells #[.func (.func g) #[] lb] 126)) := below_alloc (Below.refl _ _) _
 have hc := slices_ContainsFunc_byte_byte_140.calls 141 #[.pointer (some ⟨w.heap.size, 0, none⟩)] eg2 (fun x => !p x) A0 c0 l0 (w.alloc (.cells #[.func (.func g) #[] lb] 126)) (Kd.C_below hr0 hb0) (fun W x hW =>
  impl_all_byte_1_141.calls g lb eg (p x) x w.heap.size W _ ((hW.cell (p := ⟨w.heap.size, 0, none⟩) (by simp)).trans (by simp)) ((hp W x (hb0.trans (hW.mono (by simp)))).mono fun e w' ⟨he, hb⟩ => ⟨he, hW.trans (hb.mono hW.size)⟩))
 have e1 : (l0.any fun x => !p x) = !(l0.all p) := by rw [List.all_eq_not_any_not]; simp
 rw [e1] at hc
 generalize l0.all p = q at hc ⊢
 clear hp hr0 e1
 go_enter Tryd.func126, Tryd.ntmps126
 go_wp2_with (go_at_call 140; refine hc.mono ?_; rintro e w' ⟨rfl, hb'⟩)
 go_ret
 exact ⟨by simp, hb0.trans (hb'.mono (by simp))⟩

/-! ### impl_LabelOk_1: function 127 -/
def impl_LabelOk_1.f (a0 : Int) : Option (Bool) := if a0 ≥ 97 then (if a0 ≤ 122 then (some true) else (if a0 ≥ 48 then (if a0 ≤ 57 then (some true) else (some (a0 == 45))) else (some (a0 == 45)))) else (if a0 ≥ 48 then (if a0 ≤ 57 then (some true) else (some (a0 == 45))) else (some (a0 == 45)))
set_option maxHeartbeats 8000000 in
set_option maxRecDepth 100000 in
theorem impl_LabelOk_1.calls (a0 : Int) (r : Bool) (w : World) (h : impl_LabelOk_1.f a0 = some r) :
  Calls Tryd.prog 127 #[.int .u8 a0] w fun e w' => e = .returned (.bool r) ∧ Drawn0 w w' := by
 have H : (if a0 ≥ 97 then (if a0 ≤ 122 then (some true) else (if a0 ≥ 48 then (if a0 ≤ 57 then (some true) else (some (a0 == 45))) else (some (a0 == 45)))) else (if a0 ≥ 48 then (if a0 ≤ 57 then (some true) else (some (a0 == 45))) else (some (a0 == 45)))) = some r := h
 clear h
 replace H := ih H
 obtain ⟨c2b0, H⟩ | ⟨c2b0, H⟩ := H
 ·replace H := ip H
  obtain ⟨c3b0, H⟩ | ⟨c3b0, H⟩ := H
  ·obtain rfl := Option.some.inj H
   go_enter Tryd.func127, Tryd.ntmps127
   go_wp2
   go_ret
   exact ⟨o2, od⟩
  ·replace H := ih H
   obtain ⟨c4b0, H⟩ | ⟨c4b0, H⟩ := H
   ·replace H := ip H
    obtain ⟨c5b0, H⟩ | ⟨c5b0, H⟩ := H
    ·obtain rfl := Option.some.inj H
     go_enter Tryd.func127, Tryd.ntmps127
     go_wp2
     go_ret
     exact ⟨o2, od⟩
    ·obtain rfl := Option.some.inj H
     go_enter Tryd.func127, Tryd.ntmps127
     go_wp2
     go_ret
     exact ⟨o2, od⟩
   ·obtain rfl := Option.some.inj H
    go_enter Tryd.func127, Tryd.ntmps127
    go_wp2
    go_ret
    exact ⟨o2, od⟩
 ·replace H := ih H
  obtain ⟨c6b0, H⟩ | ⟨c6b0, H⟩ := H
  ·replace H := ip H
   obtain ⟨c7b0, H⟩ | ⟨c7b0, H⟩ := H
   ·obtain rfl := Option.some.inj H
    go_enter Tryd.func127, Tryd.ntmps127
    go_wp2
    go_ret
    exact ⟨o2, od⟩
   ·obtain rfl := Option.some.inj H
    go_enter Tryd.func127, Tryd.ntmps127
    go_wp2
    go_ret
    exact ⟨o2, od⟩
  ·obtain rfl := Option.some.inj H
   go_enter Tryd.func127, Tryd.ntmps127
   go_wp2
   go_ret
   exact ⟨o2, od⟩

/-! ### impl_LabelOk: function 113 -/

def impl_LabelOk.byte (x : Int) : Bool := (decide (97 ≤ x) && decide (x ≤ 122)) || (decide (48 ≤ x) && decide (x ≤ 57)) || x == 45
theorem impl_LabelOk.byte_f (x : Int) : impl_LabelOk_1.f x = some (impl_LabelOk.byte x) := by
 unfold impl_LabelOk_1.f impl_LabelOk.byte
 by_cases h1 : 97 ≤ x <;> by_cases h2 : x ≤ 122 <;> by_cases h3 : 48 ≤ x <;> by_cases h4 : x ≤ 57 <;> by_cases h5 : x = 45 <;> simp [*] <;> omega
def impl_LabelOk.v (l0 : List Int) : Bool := decide (1 ≤ l0.length) && decide (l0.length ≤ 15) && l0.all impl_LabelOk.byte
def impl_LabelOk.f (l0 : List Int) : Option Bool := some (impl_LabelOk.v l0)
set_option maxHeartbeats 8000000 in
set_option maxRecDepth 100000 in
theorem impl_LabelOk.calls (A0 : Option Addr) (c0 : Nat) (l0 : List Int) (r : Bool) (w : World) (hr0 : Kd.C (Kd.int .u8) w A0 l0.length l0) (hc0 : l0.length ≤ c0) (h : impl_LabelOk.f l0 = some r) :
  Calls Tryd.prog 113 #[.slice A0 l0.length c0] w fun e w' => e = .returned (.bool r) ∧ Below w.heap.size w w' := by
 have eg : ∀ args w, (callFunc 127 args).run Tryd.prog w = .ok (.enter 127 args) w := enters_of Tryd.func127 (by kernel_rfl) rfl
 have ha := impl_all_byte_126.calls 127 #[] eg impl_LabelOk.byte A0 c0 l0 w hr0 (fun W x hW => (impl_LabelOk_1.calls x _ W (impl_LabelOk.byte_f x)).mono fun e w' ⟨he, hd⟩ => ⟨he, hd.below⟩)
 have hbig : l0.length ≤ 9223372036854775807 := hr0.2.1
 have hrv : r = impl_LabelOk.v l0 := (Option.some.inj h).symm
 subst hrv
 unfold impl_LabelOk.v
 clear h hr0
 generalize l0.all impl_LabelOk.byte = q at ha ⊢
 by_cases h1 : 1 ≤ l0.length
 ·by_cases h2 : l0.length ≤ 15
  ·rw [decide_eq_true h1, decide_eq_true h2]
   simp only [Bool.true_and]
   go_enter Tryd.func113, Tryd.ntmps113
   go_wp2_with (first | (go_at_call 126;refine ha.mono ?_;rintro e w' ⟨rfl, hb'⟩) | (go_at_call 47;go_in))
   go_ret
   exact ⟨rfl, hb'⟩
  ·rw [decide_eq_true h1, decide_eq_false h2]
   simp only [Bool.and_false, Bool.false_and]
   go_enter Tryd.func113, Tryd.ntmps113
   go_wp2
   go_ret
   exact ⟨rfl, Below.refl _ _⟩
 ·rw [decide_eq_false h1]
  simp only [Bool.false_and]
  go_enter Tryd.func113, Tryd.ntmps113
  go_wp2
  go_ret
  exact ⟨rfl, Below.refl _ _⟩

/-! ### impl_NameOk: function 92 -/

def impl_NameOk.v (l : List (List Int)) : Bool := decide (l.length ≤ 6) && l.all impl_LabelOk.v
def impl_NameOk.f (l : List (List Int)) : Option Bool := some (impl_NameOk.v l)
set_option maxHeartbeats 8000000 in
set_option maxRecDepth 100000 in
theorem impl_NameOk.calls (A0_0 : Option Addr) (c0_0 : Nat) (l0_0 : List (List Int)) (r : Bool) (w : World) (hr0_0 : Kd.C (Kd.slice 5 (Kd.int .u8)) w A0_0 l0_0.length l0_0) (hc0_0 : l0_0.length ≤ c0_0) (h : impl_NameOk.f l0_0 = some r) :
  Calls Tryd.prog 92 #[.agg #[.slice A0_0 l0_0.length c0_0]] w fun e w' => e = .returned (.bool r) ∧ Below w.heap.size w w' := by
 have hu := Tryd.underlying29
 have eg : ∀ args w, (callFunc 113 args).run Tryd.prog w = .ok (.enter 113 args) w := enters_of Tryd.func113 (by kernel_rfl) rfl
 have hb0 : Below w.heap.size w (w.alloc (.cells #[.slice A0_0 l0_0.length c0_0] 29)) := below_alloc (Below.refl _ _) _
 have ha := fun (W : World) (hW : Below w.heap.size w W) => impl_all_byte_112.calls 113 #[] eg impl_LabelOk.v A0_0 c0_0 l0_0 W (Kd.C_below hr0_0 hW) (fun W2 A c x hW2 hC hc => (impl_LabelOk.calls A c x _ W2 hC hc rfl))
 have hbig : l0_0.length ≤ 9223372036854775807 := hr0_0.2.1
 have hrv : r = impl_NameOk.v l0_0 := (Option.some.inj h).symm
 subst hrv
 unfold impl_NameOk.v
 clear h hr0_0
 have HA := ak ha
 clear ha
 generalize l0_0.all impl_LabelOk.v = q at HA ⊢
 by_cases h2 : l0_0.length ≤ 6
 ·rw [decide_eq_true h2]
  simp only [Bool.true_and]
  go_enter Tryd.func92, Tryd.ntmps92
  go_wp2_with (go_at_call 112; refine (HA.out _ hb0).mono ?_; rintro e w' ⟨rfl, hb'⟩)
  go_ret
  exact ⟨rfl, hb0.trans (hb'.mono (by simp))⟩
 ·rw [decide_eq_false h2]
  simp only [Bool.false_and]
  go_enter Tryd.func92, Tryd.ntmps92
  go_wp2
  go_ret
  exact ⟨rfl, hb0⟩

/-! ### impl_NameText: function 96 -/
def impl_NameText.l0 : Nat → List Int → List (List Int) → Int → Int → Option (List Int)
 | 0, _, _, _, _ => none
 | k + 1, x3, x19, x20, x21 => if x21 < x20 then (if 0 ≤ x21 then (if x21 < (x19.length : Int) then (if x3.length + (rd_L10 x19 x21).length < 140737488355328 then ((some (x3 ++ (rd_L10 x19 x21) : List Int)).bind fun y110 => (if y110.length < 140737488355328 then (impl_NameText.l0 k (y110 ++ [46]) x19 x20 (wrap64 (x21 + 1))) else (none))) else (none)) else (none)) else (none)) else (some x3)
def impl_NameText.f (k : Nat) (l0_0 : List (List Int)) : Option (List Int) := (impl_NameOk.f l0_0).bind fun t102 => (if t102 = true then (if (l0_0.length : Int) = 0 then (some (([46] : List Int))) else (impl_NameText.l0 k (([] : List Int)) l0_0 (l0_0.length : Int) 0)) else (some ([] : List Int)))
set_option maxHeartbeats 8000000 in
set_option maxRecDepth 100000 in
theorem impl_NameText.calls (k : Nat) (A0_0 : Option Addr) (c0_0 : Nat) (l0_0 : List (List Int)) (r : List Int) (w : World) (hr0_0 : Kd.C (Kd.slice 5 (Kd.int .u8)) w A0_0 l0_0.length l0_0) (hc0_0 : l0_0.length ≤ c0_0) (h : impl_NameText.f k l0_0 = some r) :
  Calls Tryd.prog 96 #[.agg #[.slice A0_0 l0_0.length c0_0]] w fun e w' => ∃ v0_ : Value, e = .returned (v0_) ∧ Zr 5 w' w.heap.size (fun _ => True) v0_ r ∧ Below w.heap.size w w' := by
 have hu29 := Tryd.underlying29
 have HR0_0 := ak hr0_0
 have HC0_0 := ak hc0_0
 clear hr0_0 hc0_0
 have HB := ak (Below.refl w.heap.size w)
 have H : ((impl_NameOk.f l0_0).bind fun t102 => (if t102 = true then (if (l0_0.length : Int) = 0 then (some (([46] : List Int))) else (impl_NameText.l0 k (([] : List Int)) l0_0 (l0_0.length : Int) 0)) else (some ([] : List Int)))) = some r := h
 clear h
 replace H := bnd H
 obtain ⟨t102, A2, H⟩ := H
 replace H := ib H
 obtain ⟨rfl, H⟩ | ⟨rfl, H⟩ := H
 ·replace H := ie H
  obtain ⟨c4b0, c4b1, H⟩ | ⟨c4b0, c4b1, H⟩ := H
  ·obtain ⟨y103, hy103⟩ : ∃ y_ : List Int, y_ = (([46] : List Int)) := ⟨_, rfl⟩
   (try with_reducible replace H := bnS H)
   (try rw [← hy103] at H)
   have Ny103 := ak hy103
   clear hy103
   obtain rfl := Option.some.inj H
   go_enter Tryd.func96, Tryd.ntmps96
   go_wp2_with (first | ((with_reducible refine gate_dst (N := 1) rfl ?_);refine bxd (N := 1) rfl HB ?_;clear HB;intro gb101 w5 hg HB BK101 GE101 hb;have GW101 := GE101;clear hb hg;obtain ⟨hcz6_0, hfz6_0⟩ := cells1 BK101.out) | ((with_reducible refine gate_callee (f := 92) rfl ?_);refine glB 8 rfl rfl Tryd.func92 (impl_NameOk.calls _ _ l0_0 true _ (cv HR0_0 HB) HC0_0.out A2.out) (fun w7 hb => ?_);replace BK101 := b1 BK101 hb;replace HB := b2s bs hb;(try clear hb);obtain ⟨hcz8_0, hfz8_0⟩ := cells1 BK101.out) | ((with_reducible refine gate_dst (N := 15) rfl ?_);refine Kd.R_lit (Kd.int .u8) _ 5 ?hg (N := 15) ?hd (xs := ([46] : List Int)) (inner := [.int .u8 46]) (ok := fun _ => True) (okp := fun _ => True) ?hr ?hp (fun _ hk => hk) trivial (Below.refl _ _) (Nat.le_refl _) (by simp) ?_;(case hd => rfl);(case hg => rfl);(case hr => first | (go_simp; done) | (go_simp; rfl));(case hp => exact (Reps.one (show Kd.M (Kd.int .u8) _ _ _ 46 [.int .u8 46] from rfl) (Reps.none _ _)));intro v104 w9 ho10 hb hg_ hnew_;clear hg_ hnew_;(first | rw [← Ny103.out] at ho10 | (simp only [Int.reduceToNat] at ho10; rw [← Ny103.out] at ho10));have HO105 := ak (Kd.R_lower ho10 (below_size bs));replace BK101 := b1 BK101 hb;replace HB := b2s bs hb;clear hb ho10) | ((with_reducible refine gate_dst (N := 16) rfl ?_);refine Z_conv (N := 16) rfl rfl (.tmp 15) rfl Tryd.underlying22 Tryd.underlying5 rfl HO105.out (by rw [Ny103.out]; decide) bs ?_;intro w10_ hz_ hb_ hg_;replace BK101 := ak (blk_grown BK101.out hg_ (Kd.R_ne HO105.out BK101.out (by decide)));replace HB := ak hb_;have HZHO105 := ak hz_;clear hz_ hb_ hg_))
   go_ret
   exact ⟨_, o1, zw_ HZHO105.out, bs⟩
  ·have c4b2 : ¬ (l0_0 = []) := fun h_ => bne_iff_ne.mp c4b1 (by rw [h_]; rfl)
   replace H : ∃ y106 : List Int, y106 = (([] : List Int)) ∧ (impl_NameText.l0 k y106 l0_0 (l0_0.length : Int) 0) = some r := ⟨_, rfl, H⟩
   obtain ⟨y106, hy106, H⟩ := H
   have Ny106 := ak hy106
   clear hy106
   have H' := ak H
   clear H
   go_enter Tryd.func96, Tryd.ntmps96
   go_wp2_with (first | ((with_reducible refine gate_dst (N := 1) rfl ?_);refine bxd (N := 1) rfl HB ?_;clear HB;intro gb101 w11 hg HB BK101 GE101 hb;have GW101 := GE101;clear hb hg;obtain ⟨hcz12_0, hfz12_0⟩ := cells1 BK101.out) | ((with_reducible refine gate_callee (f := 92) rfl ?_);refine glB 8 rfl rfl Tryd.func92 (impl_NameOk.calls _ _ l0_0 true _ (cv HR0_0 HB) HC0_0.out A2.out) (fun w13 hb => ?_);replace BK101 := b1 BK101 hb;replace HB := b2s bs hb;(try clear hb);obtain ⟨hcz14_0, hfz14_0⟩ := cells1 BK101.out) | ((with_reducible refine gate_dst (N := 17) rfl ?_);refine Kd.R_lit (Kd.int .u8) _ 5 ?hg (N := 17) ?hd (xs := ([] : List Int)) (inner := []) (ok := fun _ => True) (okp := fun _ => True) ?hr ?hp (fun _ hk => hk) trivial (Below.refl _ _) (Nat.le_refl _) (by simp) ?_;(case hd => rfl);(case hg => rfl);(case hr => first | (go_simp; done) | (go_simp; rfl));(case hp => exact (Reps.none _ _));intro v107 w15 ho16 hb hg_ hnew_;clear hg_ hnew_;(first | rw [← Ny106.out] at ho16 | (simp only [Int.reduceToNat] at ho16; rw [← Ny106.out] at ho16));have HO108 := ak (Kd.R_lower ho16 (below_size bs));replace BK101 := b1 BK101 hb;replace HB := b2s bs hb;clear hb ho16;obtain ⟨hcz17_0, hfz17_0⟩ := cells1 BK101.out))
   go_loopg [3, 21] k (fun kq v3 v21 w' => ∃ (x3_1 : List Int) (x21_1 : Int), v21 = .int .i64 x21_1 ∧ Aside0 (impl_NameText.l0 kq x3_1 l0_0 (l0_0.length : Int) x21_1 = some r) ∧ Aside0 (kq ≤ k) ∧ Aside0 (Kd.R (Kd.int .u8) 5 w' w.heap.size (fun _ => True) v3 x3_1) ∧ Aside0 (w'.heap[gb101]? = some (.cells #[(.slice A0_0 l0_0.length c0_0)] 29 (0, 0))) ∧ Aside0 (Below w.heap.size w w'))
   case atStart => exact ⟨(y106), (0), o2, H', ⟨Nat.le_refl _⟩, ⟨rw_ HO108.out⟩, ⟨bk BK101.out⟩, ⟨bs⟩⟩
   case round =>
    clear H'
    (try clear c4b0)
    (try clear c4b1)
    (try clear c4b2)
    (try clear hcz12_0)
    (try clear hcz14_0)
    (try clear hcz17_0)
    (try clear hfz12_0)
    (try clear hfz14_0)
    (try clear hfz17_0)
    obtain ⟨x3_1, x21_1, rfl, HA, HK1, HO_3, BK101, HB⟩ := hrel
    cases gk with
    | zero => exact absurd HA.out (by simp [impl_NameText.l0])
    | succ k1 =>
     have H := HA.out
     clear HA
     simp only [impl_NameText.l0] at H
     replace H := ip H
     obtain ⟨c18b0, H⟩ | ⟨c18b0, H⟩ := H
     ·replace H := ipN H
      obtain ⟨c19b0, H⟩ := H
      replace H := ipN H
      obtain ⟨c20b0, H⟩ := H
      by_cases c21 : x3_1.length + (rd_L10 l0_0 x21_1).length < 140737488355328
      ·rw [if_pos c21] at H
       have LMc21 := ak c21
       clear c21
       obtain ⟨y110, hy110⟩ : ∃ y_ : List Int, y_ = (x3_1 ++ (rd_L10 l0_0 x21_1)) := ⟨_, rfl⟩
       (try with_reducible replace H := bnS H)
       (try rw [← hy110] at H)
       have Ny110 := ak hy110
       clear hy110
       by_cases c22 : y110.length < 140737488355328
       ·rw [if_pos c22] at H
        have LMc22 := ak c22
        clear c22
        obtain ⟨y113, hy113⟩ : ∃ y_ : List Int, y_ = (y110 ++ [46]) := ⟨_, rfl⟩
        (try with_reducible replace H := bnS H)
        (try rw [← hy113] at H)
        have Ny113 := ak hy113
        clear hy113
        have H' := ak H
        clear H
        obtain ⟨ad109, A109_0, c109_0, rfl, hx109_0, HC109_0, HR109_0, p109, q109⟩ := el_L10 HR0_0 HB x21_1
        go_wp2_with (first | ((with_reducible refine gate_builtin (b := .append) (xs := #[.tmp 25, .tmp 26]) rfl ?_);at_builtin;refine Kd.R_append_rows (Kd.int .u8) (w0 := w) w.heap.size rfl (.tmp 25) (.tmp 26) 22 5 (.int .u8 0) 1 rfl Tryd.underlying22 info5 rfl (by decide) (by omega) u3 x3_1 (rd_L10 l0_0 x21_1) _ _ _ (fun _ => True) (fun _ => False) rfl rfl ?aO ?aR (fun _ _ h => h) (fun _ h => h.elim) ?aF ?aB ?aS ?aL ?_;(case aR => exact cw HR109_0.out HB.out);(case aB => exact bs);(case aF => exact (fun _ _ => trivial));(case aO => exact (rw_ HO_3.out));(case aS => exact (below_size bs));(case aL => have := LMc21.out; omega);intro v111 w23 ho hb hg hat;rw [← Ny110.out] at ho;replace BK101 := ak (blk_grown (bk BK101.out) hg (Kd.R_ne HO_3.out BK101.out (by decide)));replace HB := ak (hb);have HO112 := ak (ho);clear HO_3;clear ho hb hg hat) | ((with_reducible refine gate_builtin (b := .append) (xs := #[.tmp 27, .tmp 28]) rfl ?_);at_builtin;refine Kd.R_append (Kd.int .u8) (w0 := w) w.heap.size rfl (.tmp 27) (.tmp 28) 22 5 (.int .u8 0) 1 rfl Tryd.underlying22 info5 rfl (by decide) (by omega) v111 y110 46 [.int .u8 46] (fun _ => True) (fun _ => False) rfl rfl ?aP (fun _ hk => hk.elim) ?aF ?aO ?aB ?aS ?aL ?_;(case aP => exact rfl);(case aB => exact bs);(case aF => exact (fun _ _ => trivial));(case aO => exact (rw_ HO112.out));(case aS => exact (below_size bs));(case aL => have := LMc22.out; omega);intro v114 w24 ho hb hg hat;rw [← Ny113.out] at ho;replace BK101 := ak (blk_grown (bk BK101.out) hg (Kd.R_ne HO112.out BK101.out (by decide)));replace HB := ak (hb);have HO115 := ak (ho);clear HO112;clear ho hb hg hat))
        go_roundg k1
        case measure => have := HK1.out; omega
        case rel => exact ⟨(y113), (wrap64 (x21_1 + 1)), o2, H', ⟨by have := HK1.out; omega⟩, ⟨rw_ HO115.out⟩, ⟨bk BK101.out⟩, ⟨bs⟩⟩
       ·rw [if_neg c22] at H
        exact absurd H (by simp)
      ·rw [if_neg c21] at H
       exact absurd H (by simp)
     ·obtain rfl := Option.some.inj H
      go_wp2
      go_ret
      exact ⟨_, o1, Z_of (rw_ HO_3.out), bs⟩
 ·obtain rfl := Option.some.inj H
  go_enter Tryd.func96, Tryd.ntmps96
  go_wp2_with (first | ((with_reducible refine gate_dst (N := 1) rfl ?_);refine bxd (N := 1) rfl HB ?_;clear HB;intro gb101 w25 hg HB BK101 GE101 hb;have GW101 := GE101;clear hb hg;obtain ⟨hcz26_0, hfz26_0⟩ := cells1 BK101.out) | ((with_reducible refine gate_callee (f := 92) rfl ?_);refine glB 8 rfl rfl Tryd.func92 (impl_NameOk.calls _ _ l0_0 false _ (cv HR0_0 HB) HC0_0.out A2.out) (fun w27 hb => ?_);replace BK101 := b1 BK101 hb;replace HB := b2s bs hb;(try clear hb)))
  go_ret
  exact ⟨_, o1, Z_of (Kd.R_nil _ _ _ _ _), bs⟩

/-! ### impl_words: function 97 -/
def impl_words.l0 : Nat → ByteArray → List ByteArray → Int → Int → Option (ByteArray)
 | 0, _, _, _, _ => none
 | k + 1, x3, x6, x7, x8 => if x8 < x7 then (if 0 ≤ x8 then (if x8 < (x6.length : Int) then (if x8 > 0 then (if x3.size + 1 ≤ 9223372036854775807 then (if (x3 ++ (⟨#[32]⟩ : ByteArray)).size + (rdOf ByteArray.empty x6 x8).size ≤ 9223372036854775807 then (impl_words.l0 k ((x3 ++ (⟨#[32]⟩ : ByteArray)) ++ (rdOf ByteArray.empty x6 x8)) x6 x7 (wrap64 (x8 + 1))) else (none)) else (none)) else (if x3.size + (rdOf ByteArray.empty x6 x8).size ≤ 9223372036854775807 then (impl_words.l0 k (x3 ++ (rdOf ByteArray.empty x6 x8)) x6 x7 (wrap64 (x8 + 1))) else (none))) else (none)) else (none)) else (some x3)
def impl_words.f (k : Nat) (l0 : List ByteArray) : Option (ByteArray) := impl_words.l0 k (⟨#[]⟩ : ByteArray) l0 (l0.length : Int) 0
set_option maxHeartbeats 8000000 in
set_option maxRecDepth 100000 in
theorem impl_words.calls (k : Nat) (A0 : Option Addr) (c0 : Nat) (l0 : List ByteArray) (r : ByteArray) (w : World) (hr0 : Kd.C Kd.string w A0 l0.length l0) (hc0 : l0.length ≤ c0) (h : impl_words.f k l0 = some r) :
  Calls Tryd.prog 97 #[.slice A0 l0.length c0] w fun e w' => e = .returned (.string r) ∧ Drawn0 w w' := by
 have HR0 := ak hr0
 have HC0 := ak hc0
 clear hr0 hc0
 have H : (impl_words.l0 k (⟨#[]⟩ : ByteArray) l0 (l0.length : Int) 0) = some r := h
 clear h
 have H' := ak H
 clear H
 go_enter Tryd.func97, Tryd.ntmps97
 go_wp2
 go_loopg [3, 8] k (fun kq v3 v8 w' => ∃ (x3_1 : ByteArray) (x8_1 : Int), v3 = .string x3_1 ∧ v8 = .int .i64 x8_1 ∧ Aside0 (impl_words.l0 kq x3_1 l0 (l0.length : Int) x8_1 = some r) ∧ Aside0 (kq ≤ k) ∧ Drawn0 w w')
 case atStart => exact ⟨((⟨#[]⟩ : ByteArray)), (0), o2, o2, H', ⟨Nat.le_refl _⟩, od⟩
 case round =>
  clear H'
  obtain ⟨x3_1, x8_1, rfl, rfl, HA, HK1, ⟨m1, rfl⟩⟩ := hrel
  cases gk with
  | zero => exact absurd HA.out (by simp [impl_words.l0])
  | succ k1 =>
   have H := HA.out
   clear HA
   simp only [impl_words.l0] at H
   replace H := ip H
   obtain ⟨c2b0, H⟩ | ⟨c2b0, H⟩ := H
   ·replace H := ipN H
    obtain ⟨c3b0, H⟩ := H
    replace H := ipN H
    obtain ⟨c4b0, H⟩ := H
    replace H := ig H
    obtain ⟨c5b0, H⟩ | ⟨c5b0, H⟩ := H
    ·by_cases c6 : x3_1.size + 1 ≤ 9223372036854775807
     ·rw [if_pos c6] at H
      have c6b0 := eq_true c6
      have c6b1 : decide (x3_1.size + 1 ≤ 9223372036854775807) = true := decide_eq_true c6
      try have c6b2 : (9223372036854775807 < x3_1.size + 1) = False := eq_false (Nat.not_lt.2 c6)
      by_cases c7 : (x3_1 ++ (⟨#[32]⟩ : ByteArray)).size + (rdOf ByteArray.empty l0 x8_1).size ≤ 9223372036854775807
      ·rw [if_pos c7] at H
       have c7b0 := eq_true c7
       have c7b1 : decide ((x3_1 ++ (⟨#[32]⟩ : ByteArray)).size + (rdOf ByteArray.empty l0 x8_1).size ≤ 9223372036854775807) = true := decide_eq_true c7
       try have c7b2 : (9223372036854775807 < (x3_1 ++ (⟨#[32]⟩ : ByteArray)).size + (rdOf ByteArray.empty l0 x8_1).size) = False := eq_false (Nat.not_lt.2 c7)
       have H' := ak H
       clear H
       have p101 : 0 ≤ (x8_1 : Int) := of_decide_eq_true (by first | (with_reducible assumption) | assumption)
       have q101 : x8_1 < (l0.length : Int) := of_decide_eq_true (by first | (with_reducible assumption) | assumption)
       obtain ⟨ad101, e101, hx101_0⟩ := Kd.at_string HR0.out x8_1 p101 q101
       cases e101
       replace p101 := eq_true p101
       replace q101 := eq_true q101
       go_wp2
       go_roundg k1
       case measure => have := HK1.out; omega
       case rel => exact ⟨((x3_1 ++ (⟨#[32]⟩ : ByteArray)) ++ (rdOf ByteArray.empty l0 x8_1)), (wrap64 (x8_1 + 1)), o2, o2, H', ⟨by have := HK1.out; omega⟩, od⟩
      ·rw [if_neg c7] at H
       exact absurd H (by simp)
     ·rw [if_neg c6] at H
      exact absurd H (by simp)
    ·by_cases c8 : x3_1.size + (rdOf ByteArray.empty l0 x8_1).size ≤ 9223372036854775807
     ·rw [if_pos c8] at H
      have c8b0 := eq_true c8
      have c8b1 : decide (x3_1.size + (rdOf ByteArray.empty l0 x8_1).size ≤ 9223372036854775807) = true := decide_eq_true c8
      try have c8b2 : (9223372036854775807 < x3_1.size + (rdOf ByteArray.empty l0 x8_1).size) = False := eq_false (Nat.not_lt.2 c8)
      have H' := ak H
      clear H
      have p101 : 0 ≤ (x8_1 : Int) := of_decide_eq_true (by first | (with_reducible assumption) | assumption)
      have q101 : x8_1 < (l0.length : Int) := of_decide_eq_true (by first | (with_reducible assumption) | assumption)
      obtain ⟨ad101, e101, hx101_0⟩ := Kd.at_string HR0.out x8_1 p101 q101
      cases e101
      replace p101 := eq_true p101
      replace q101 := eq_true q101
      go_wp2
      go_roundg k1
      case measure => have := HK1.out; omega
      case rel => exact ⟨(x3_1 ++ (rdOf ByteArray.empty l0 x8_1)), (wrap64 (x8_1 + 1)), o2, o2, H', ⟨by have := HK1.out; omega⟩, od⟩
     ·rw [if_neg c8] at H
      exact absurd H (by simp)
   ·obtain rfl := Option.some.inj H
    go_wp2
    go_ret
    exact ⟨o2, od⟩

/-! ### impl_typeName: function 98 -/

def impl_typeName.v (t : Int) : ByteArray := if t = 1 then ⟨#[65]⟩ else if t = 2 then ⟨#[78, 83]⟩ else if t = 5 then ⟨#[67, 78, 65, 77, 69]⟩ else if t = 6 then ⟨#[83, 79, 65]⟩ else if t = 12 then ⟨#[80, 84, 82]⟩ else if t = 16 then ⟨#[84, 88, 84]⟩ else if t = 49 then ⟨#[68, 72, 67, 73, 68]⟩ else ⟨#[]⟩
def impl_typeName.f (t : Int) : Option ByteArray := if -9223372036854775808 ≤ t ∧ t ≤ 9223372036854775807 then some (impl_typeName.v t) else none
theorem impl_typeName.inv {e : TypeId} (he : Tryd.prog.underlying e = some .string) {v : Value} {z : DataW Unit × List MemPlace} (h : plainElem Tryd.prog e v = some z) : ∃ s : ByteArray, v = .string s ∧ z = (.lit (.string s.data.toList), []) ∧ s.size ≤ maxLen := by
 unfold plainElem at h
 rw [he] at h
 cases v <;> simp at h
 exact ⟨_, rfl, h.2.symm, h.1⟩
theorem impl_typeName.ne {a b : Int} (h : ¬ a = b) : (Lit.int .i64 a) ≠ Lit.int .i64 b := fun e => h (by injection e)
set_option maxHeartbeats 8000000 in
set_option maxRecDepth 100000 in
theorem impl_typeName.calls (a0 : Int) (r : ByteArray) (w : World) (h : impl_typeName.f a0 = some r) :
  Calls Tryd.prog 98 #[.int .i64 a0] w fun e w' => e = .returned (.string r) ∧ Below w.heap.size w w' := by
 have hw : (Lit.int .i64 a0).wf = true := by
  unfold impl_typeName.f at h; split at h
  ·exact WalkArith.wf_i64 (by assumption)
  ·cases h
 have hr : impl_typeName.v a0 = r := by
  unfold impl_typeName.f at h; split at h
  ·exact Option.some.inj h
  ·cases h
 clear h
 have law : Go.Maps.Keyed Tryd.prog 3 := Go.Maps.int_keyed Tryd.underlying3
 have um := Tryd.underlying110
 have us := Tryd.underlying9
 have key : ∀ n : Int, (Lit.int .i64 n).wf = true → keyOf Tryd.prog 3 (.int .i64 n) = some (.int .i64 n) := fun n hn => Go.Maps.keyOf_int_mk Tryd.underlying3 hn
 have el : ∀ s : ByteArray, s.size ≤ maxLen → plainElem (H := Unit) Tryd.prog 9 (.string s) = some (.lit (.string s.data.toList), []) := fun s hs => plainElem_string us hs
 have o0 := World.ownsMap_made (H := Unit) w Tryd.prog 3 (plainElem Tryd.prog 9)
 obtain ⟨w1, r1, o1, g1⟩ := o0.update law um (by unfold maxLen; omega) (key 1 (by decide)) (el ⟨#[65]⟩ (by decide))
 obtain ⟨w2, r2, o2, g2⟩ := o1.update law um (by unfold maxLen; omega) (key 2 (by decide)) (el ⟨#[78, 83]⟩ (by decide))
 obtain ⟨w3, r3, o3, g3⟩ := o2.update law um (by unfold maxLen; omega) (key 5 (by decide)) (el ⟨#[67, 78, 65, 77, 69]⟩ (by decide))
 obtain ⟨w4, r4, o4, g4⟩ := o3.update law um (by unfold maxLen; omega) (key 6 (by decide)) (el ⟨#[83, 79, 65]⟩ (by decide))
 obtain ⟨w5, r5, o5, g5⟩ := o4.update law um (by unfold maxLen; omega) (key 12 (by decide)) (el ⟨#[80, 84, 82]⟩ (by decide))
 obtain ⟨w6, r6, o6, g6⟩ := o5.update law um (by unfold maxLen; omega) (key 16 (by decide)) (el ⟨#[84, 88, 84]⟩ (by decide))
 obtain ⟨w7, r7, o7, g7⟩ := o6.update law um (by unfold maxLen; omega) (key 49 (by decide)) (el ⟨#[68, 72, 67, 73, 68]⟩ (by decide))
 obtain ⟨v, ps, rl, hv⟩ := o7.lookup law um (z := .string ⟨#[]⟩) (by kernel_rfl) (el ⟨#[]⟩ (by decide)) (key a0 hw)
 obtain ⟨s, rfl, hs, _⟩ := impl_typeName.inv us hv
 have hB : Below w.heap.size w w7 := by
  have b0 := below_alloc (Below.refl w.heap.size w) (.map #[] 0)
  refine Below.grown (Below.grown (Below.grown (Below.grown (Below.grown (Below.grown (Below.grown b0 g1 ?_ ?_) g2 ?_ ?_) g3 ?_ ?_) g4 ?_ ?_) g5 ?_ ?_) g6 ?_ ?_) g7 ?_ ?_
  all_goals first
   | (intro j hj; cases hj; exact Nat.le_refl _)
   | (have := b0.size; have := g1.size; have := g2.size; have := g3.size; have := g4.size; have := g5.size; have := g6.size; omega)
 have e : s = impl_typeName.v a0 := by
  simp only [Prod.mk.injEq] at hs
  have hat := hs.1
  have fin : ∀ {l : ByteArray}, (DataW.lit (.string l.data.toList) : DataW Unit) = .lit (.string s.data.toList) → s = l := fun {l} he => by
   simp at he
   cases s; cases l; simp at he; rw [he]
  have im : ∀ {D : DataW Unit} {k d}, Go.Maps.IsMap D → Go.Maps.IsMap (D.put k d) := fun {D k d} ⟨es, he⟩ => by subst he; exact ⟨_, rfl⟩
  have i0 : Go.Maps.IsMap (DataW.map [] : DataW Unit) := ⟨_, rfl⟩
  unfold impl_typeName.v
  by_cases h7 : a0 = 49
  ·subst h7
   rw [Go.Maps.atKey_put_same (im (im (im (im (im (im i0)))))) (by trivial)] at hat
   exact fin hat
  rw [Go.Maps.atKey_put_other (impl_typeName.ne h7)] at hat
  by_cases h6 : a0 = 16
  ·subst h6
   rw [Go.Maps.atKey_put_same (im (im (im (im (im i0))))) (by trivial)] at hat
   exact fin hat
  rw [Go.Maps.atKey_put_other (impl_typeName.ne h6)] at hat
  by_cases h5 : a0 = 12
  ·subst h5
   rw [Go.Maps.atKey_put_same (im (im (im (im i0)))) (by trivial)] at hat
   exact fin hat
  rw [Go.Maps.atKey_put_other (impl_typeName.ne h5)] at hat
  by_cases h4 : a0 = 6
  ·subst h4
   rw [Go.Maps.atKey_put_same (im (im (im i0))) (by trivial)] at hat
   exact fin hat
  rw [Go.Maps.atKey_put_other (impl_typeName.ne h4)] at hat
  by_cases h3 : a0 = 5
  ·subst h3
   rw [Go.Maps.atKey_put_same (im (im i0)) (by trivial)] at hat
   exact fin hat
  rw [Go.Maps.atKey_put_other (impl_typeName.ne h3)] at hat
  by_cases h2 : a0 = 2
  ·subst h2
   rw [Go.Maps.atKey_put_same (im i0) (by trivial)] at hat
   exact fin hat
  rw [Go.Maps.atKey_put_other (impl_typeName.ne h2)] at hat
  by_cases h1 : a0 = 1
  ·subst h1
   rw [Go.Maps.atKey_put_same i0 (by trivial)] at hat
   exact fin hat
  rw [Go.Maps.atKey_put_other (impl_typeName.ne h1)] at hat
  rw [if_neg h1, if_neg h2, if_neg h3, if_neg h4, if_neg h5, if_neg h6, if_neg h7]
  exact fin hat
 have HB := ak hB
 subst e
 clear o0 o1 o2 o3 o4 o5 o6 o7 g1 g2 g3 g4 g5 g6 g7 hB hs hv key el law hw
 subst hr
 generalize impl_typeName.v a0 = s at rl ⊢
 have hmm := @run_makeMap Tryd.prog
 go_enter Tryd.func98, Tryd.ntmps98
 go_wp2
 go_ret
 exact ⟨rfl, HB.out⟩

theorem C_str4 {W : World} {g : Nat} {a b c d : ByteArray} (h : W.heap[g]? = some (.cells #[.string a, .string b, .string c, .string d] 9 (0, 0))) : Kd.C Kd.string W (some ⟨g, 0, none⟩) [a, b, c, d].length [a, b, c, d] :=
  Kd.C_of_reads (enc := Value.string) (d := ByteArray.empty) ⟨rfl, by simp, fun _ => ⟨_, rfl, fun j hj => match j, hj with
    | 0, _ => (blk_cell h 0).trans rfl
    | 1, _ => (blk_cell h 1).trans rfl
    | 2, _ => (blk_cell h 2).trans rfl
    | 3, _ => (blk_cell h 3).trans rfl⟩⟩
theorem C_str2 {W : World} {g : Nat} {a b : ByteArray} (h : W.heap[g]? = some (.cells #[.string a, .string b] 9 (0, 0))) : Kd.C Kd.string W (some ⟨g, 0, none⟩) [a, b].length [a, b] :=
  Kd.C_of_reads (enc := Value.string) (d := ByteArray.empty) ⟨rfl, by simp, fun _ => ⟨_, rfl, fun j hj => match j, hj with
    | 0, _ => (blk_cell h 0).trans rfl
    | 1, _ => (blk_cell h 1).trans rfl⟩⟩
def itoaS (x : Int) : ByteArray := ⟨(Lib.itoa x).toArray⟩
theorem conv2 (W : World) (a b : Int) : (convert 22 9 (.slice (some ⟨W.heap.size, 0, none⟩) 2 2)).run Tryd.prog ((W.alloc (.cells #[.int .u8 a, .int .u8 b] 5)).drew) = .ok (.string (strOfNums [a, b])) ((W.alloc (.cells #[.int .u8 a, .int .u8 b] 5)).drew) := by
  have h : (W.alloc (.cells #[.int .u8 a, .int .u8 b] 5)).drew.heap[W.heap.size]? = some (.cells #[.int .u8 a, .int .u8 b] 5 (0, 0)) := blk_drew (heap_alloc_new _ _)
  exact Kd.C_string (dst := 9) Tryd.underlying22 Tryd.underlying5 Tryd.underlying9 (Kd.C_of_reads (enc := Value.int .u8) (d := (0 : Int)) (h1 := fun _ => rfl) (xs := [a, b]) ⟨rfl, by simp, fun _ => ⟨_, rfl, fun j hj => match j, hj with
    | 0, _ => (blk_cell h 0).trans rfl
    | 1, _ => (blk_cell h 1).trans rfl⟩⟩)
theorem and15 (n : Int) (h0 : 0 ≤ n) (h1 : n ≤ 255) : Go.bits .and .u8 n 15 = n % 16 := by
  have h15 : (BitVec.ofInt 8 15).toNat = 2 ^ 4 - 1 := by decide
  have key : (BitVec.ofInt 8 n &&& BitVec.ofInt 8 15).toNat = (n % ((2 ^ 8 : Nat) : Int)).toNat % 2 ^ 4 := by
    rw [BitVec.toNat_and, BitVec.toNat_ofInt, h15, Nat.and_two_pow_sub_one_eq_mod]
  show IntKind.u8.wrap ((BitVec.ofInt 8 n &&& BitVec.ofInt 8 15).toNat : Nat) = n % 16
  rw [key, IntKind.wrap_u8]
  omega
/-- words(words(d, n0), n1) .. -/
def numsI (k : Nat) (d : ByteArray) : List Int → Option ByteArray
  | [] => some d
  | x :: l => (impl_words.f k [d, itoaS x]).bind fun d' => numsI k d' l
def digs16 : ByteArray := ⟨#[48, 49, 50, 51, 52, 53, 54, 55, 56, 57, 97, 98, 99, 100, 101, 102]⟩
def hexI (d : ByteArray) : List Int → ByteArray
  | [] => d
  | c :: l => hexI (d ++ strOfNums [bt digs16 (c / 16), bt digs16 (c % 16)]) l
def DataI (k : Nat) (ty addr : Int) (tn : List (List Int)) (tx nu : List Int) (dt : ByteArray) : Prop :=
  (ty = 1 ∧ dt = strOfNums (dotV addr)) ∨
  (ty ≠ 1 ∧ impl_hasTo.f ty = some true ∧ nu.length ≤ 2 ∧ (∀ x ∈ nu, -9223372036854775808 ≤ x ∧ x ≤ 9223372036854775807) ∧ ∃ n2, impl_NameText.f k tn = some n2 ∧ numsI k (strOfNums n2) nu = some dt) ∨
  (ty ≠ 1 ∧ impl_hasTo.f ty = some false ∧ tx.length ≤ 65535 ∧ (∀ x ∈ tx, 0 ≤ x ∧ x ≤ 255) ∧ dt = hexI ⟨#[]⟩ tx)
set_option maxHeartbeats 8000000 in
set_option maxRecDepth 100000 in
theorem text_any (k : Nat) (A0 : Option Addr) (c0 : Nat) (nm : List (List Int)) (ty ttl addr : Int) (A4 : Option Addr) (c4 : Nat) (tn : List (List Int)) (A5 : Option Addr) (c5 : Nat) (tx : List Int) (A6 : Option Addr) (c6 : Nat) (nu : List Int) (w : World) (hT : TabA w)
    (hr0 : Kd.C (Kd.slice 5 (Kd.int .u8)) w A0 nm.length nm) (hc0 : nm.length ≤ c0) (hr4 : Kd.C (Kd.slice 5 (Kd.int .u8)) w A4 tn.length tn) (hc4 : tn.length ≤ c4) (hr5 : Kd.C (Kd.int .u8) w A5 tx.length tx) (hc5 : tx.length ≤ c5) (hr6 : Kd.C (Kd.int .i64) w A6 nu.length nu) (hc6 : nu.length ≤ c6)
    (n1 : List Int) (s dt out : ByteArray) (h1 : impl_NameText.f k nm = some n1) (h2 : -9223372036854775808 ≤ ttl ∧ ttl ≤ 9223372036854775807) (h3 : impl_typeName.f ty = some s) (h4 : impl_words.f k [strOfNums n1, itoaS ttl, s, dt] = some out) (hd : DataI k ty addr tn tx nu dt) :
    Calls Tryd.prog 67 #[.agg #[.slice A0 nm.length c0, .int .i64 ty, .int .i64 ttl, .int .i64 addr, .slice A4 tn.length c4, .slice A5 tx.length c5, .slice A6 nu.length c6]] w fun e w' => e = .returned (.string out) ∧ Below w.heap.size w w' := by
  have HT := ak hT
  have HR0 := ak hr0
  have HC0 := ak hc0
  have H1 := ak h1
  have H2 := ak h2
  have H3 := ak h3
  have H4 := ak h4
  have HR4 := ak hr4
  have HC4 := ak hc4
  have HR5 := ak hr5
  have HC5 := ak hc5
  have HR6 := ak hr6
  have HC6 := ak hc6
  have HD := ak hd
  clear hr4 hc4 hr5 hc5 hr6 hc6 hd hr0 hc0 h1 h2 h3 h4 hT
  go_enter Tryd.func67, Tryd.ntmps67
  go_upto_block 0 with (fail)
  obtain ⟨W1, hW1⟩ : ∃ W, W = w.alloc (.cells #[.slice A0 nm.length c0, .int .i64 ty, .int .i64 ttl, .int .i64 addr, .slice A4 tn.length c4, .slice A5 tx.length c5, .slice A6 nu.length c6] 51) := ⟨_, rfl⟩
  have BK := ak (show W1.heap[w.heap.size]? = some (.cells #[.slice A0 nm.length c0, .int .i64 ty, .int .i64 ttl, .int .i64 addr, .slice A4 tn.length c4, .slice A5 tx.length c5, .slice A6 nu.length c6] 51 (0, 0)) by rw [hW1]; exact heap_alloc_new w _)
  have HB := ak (show Below w.heap.size w W1 by rw [hW1]; exact below_alloc (Below.refl _ _) _)
  rw [← hW1]
  clear hW1
  go_cut [3] (fun s3 wx => s3 = .string dt ∧ Aside0 (wx.heap[w.heap.size]? = some (.cells #[.slice A0 nm.length c0, .int .i64 ty, .int .i64 ttl, .int .i64 addr, .slice A4 tn.length c4, .slice A5 tx.length c5, .slice A6 nu.length c6] 51 (0, 0))) ∧ Aside0 (Below w.heap.size w wx))
  case first =>
    have h1 : W1.cell? ⟨w.heap.size, 1, none⟩ = some (.int .i64 ty) := (blk_cell BK.out 1).trans rfl
    rcases HD.out with ⟨hty, hdt⟩ | ⟨hty, hto, hnl, hnr, n2, hn2, hnd⟩ | ⟨hty, hto, htl, htr, hdt⟩
    · have HDT := ak hdt
      have hte : ((ty : Int) == 1) = true := by rw [hty]; rfl
      have h3 : W1.cell? ⟨w.heap.size, 3, none⟩ = some (.int .i64 addr) := (blk_cell BK.out 3).trans rfl
      clear hdt HD hty
      go_wp2_with (fail)
      refine (dotted_any addr _ (tab_below HT.out HB.out)).mono ?_
      rintro e w2 ⟨v32, rfl, hz, hb⟩
      obtain ⟨A32, c32, eo⟩ := Z_slice hz
      subst eo
      have hcv := Kd.C_string (dst := 9) Tryd.underlying22 Tryd.underlying5 Tryd.underlying9 (c := c32) (Z_reads' hz).2.2
      rw [← HDT.out] at hcv
      replace BK := b1 BK hb
      replace HB := b2s HB.out hb
      clear hz hb h1 h3
      go_wp2_with (fail)
      go_meet
      exact ⟨rfl, BK, HB⟩
    · have HTO := ak hto
      have HNL := ak hnl
      have HNR := ak hnr
      have HN2 := ak hn2
      have HND := ak hnd
      have hte : ((ty : Int) == 1) = false := by simpa using hty
      clear hto hnl hnr hn2 hnd HD
      go_wp2_with (fail)
      refine (impl_hasTo.calls ty true _ HTO.out).mono ?_
      rintro e w2 ⟨rfl, ⟨nd, rfl⟩⟩
      replace BK := ak (blk_drewN BK.out nd)
      replace HB := ak (pw_below_drewN HB.out nd)
      generalize W1.drewN nd = w2 at BK HB ⊢
      have h4 : w2.cell? ⟨w.heap.size, 4, none⟩ = some (.slice A4 tn.length c4) := (blk_cell BK.out 4).trans rfl
      clear h1
      go_wp2_with (fail)
      refine (impl_NameText.calls k A4 c4 tn n2 _ (cw HR4.out HB.out) HC4.out HN2.out).mono ?_
      rintro e w3 ⟨v40, rfl, hz, hb⟩
      obtain ⟨A40, c40, eo⟩ := Z_slice hz
      subst eo
      have hcv := Kd.C_string (dst := 9) Tryd.underlying22 Tryd.underlying5 Tryd.underlying9 (c := c40) (Z_reads' hz).2.2
      replace BK := b1 BK hb
      replace HB := b2s HB.out hb
      have h6 : w3.cell? ⟨w.heap.size, 6, none⟩ = some (.slice A6 nu.length c6) := (blk_cell BK.out 6).trans rfl
      clear hz hb h4
      go_wp2_with (fail)
      clear h6 hcv
      go_loopg [3, 5, 45] (nu.length + 1) (fun gq v3 v5 v45 W => ∃ (i : Nat) (d : ByteArray), i ≤ nu.length ∧ nu.length + 1 - i ≤ gq ∧ v3 = .string d ∧ v45 = .int .i64 (i : Int) ∧ Aside0 (numsI k d (nu.drop i) = some dt) ∧ Aside0 (W.heap[w.heap.size]? = some (.cells #[.slice A0 nm.length c0, .int .i64 ty, .int .i64 ttl, .int .i64 addr, .slice A4 tn.length c4, .slice A5 tx.length c5, .slice A6 nu.length c6] 51 (0, 0))) ∧ Aside0 (Below w.heap.size w W))
      case atStart => exact ⟨0, _, by omega, by omega, rfl, rfl, HND, BK, HB⟩
      case round =>
        clear HND BK HB
        obtain ⟨i, d, hi, hg, rfl, rfl, HND, BK, HB⟩ := hrel
        have hn2 := HNL.out
        by_cases hlt : i < nu.length
        · have hlz : (i : Int) < (nu.length : Int) := by omega
          have hnd := HND.out
          rw [List.drop_eq_getElem_cons hlt] at hnd
          simp only [numsI] at hnd
          obtain ⟨d', hw', hnd'⟩ := Option.bind_eq_some_iff.1 hnd
          have HND' := ak hnd'
          obtain ⟨ad, hA, hck⟩ := Kd.at_int (Kd.C_below HR6.out HB.out) (i : Int) (by omega) (by omega)
          subst hA
          rw [show ((i : Int)).toNat = i from by omega] at hck
          have hr := HNR.out nu[i] (List.getElem_mem _)
          rw [show rd nu (i : Int) = nu[i] by simp [rd, List.getD_eq_getElem?_getD, hlt]] at hck
          have HW' := ak hw'
          have HRG := ak hr
          clear hnd hnd' hw' hr HND
          generalize nu[i] = x at hck HW' HRG
          go_wp2_with (fail)
          refine (itoa_any x HRG.out.1 HRG.out.2 _ (tab_below HT.out HB.out)).mono ?_
          rintro e w5 ⟨rfl, hb⟩
          replace BK := b1 BK hb
          replace HB := b2s HB.out hb
          clear hb hck
          go_wp2_with (fail)
          refine (impl_words.calls k _ _ [d, itoaS x] d' _ (by first | exact C_str2 (heap_alloc_new _ _) | exact C_str2 (blk_drew (heap_alloc_new _ _)) | exact C_str2 (blk_drewN (heap_alloc_new _ _) _)) (Nat.le_refl _) HW'.out).mono ?_
          rintro e w6 ⟨rfl, ⟨nd, rfl⟩⟩
          go_wp2_with (fail)
          go_roundg (nu.length + 1 - (i + 1))
          case measure => omega
          case rel => exact ⟨i + 1, d', by omega, by omega, rfl, (by have hw : wrap64 ((i : Int) + 1) = ((i + 1 : Nat) : Int) := (by unfold wrap64; omega); first | rw [hw] | (simp [hw]; done) | (simp only [hw]; rfl)), HND', ⟨bk BK.out⟩, ⟨bw HB.out⟩⟩
        · have hlz : ¬ (i : Int) < (nu.length : Int) := by omega
          obtain rfl : i = nu.length := by omega
          have hnd := HND.out
          rw [List.drop_of_length_le (Nat.le_refl _)] at hnd
          obtain rfl := Option.some.inj hnd
          clear hi hg hlt hn2 hnd
          go_wp2_with (fail)
          go_meet
          exact ⟨rfl, BK, HB⟩
    · have HTO := ak hto
      have HTL := ak htl
      have HTR := ak htr
      have HDT := ak hdt
      have hte : ((ty : Int) == 1) = false := by simpa using hty
      clear hto htl htr hdt HD
      go_wp2_with (fail)
      refine (impl_hasTo.calls ty false _ HTO.out).mono ?_
      rintro e w2 ⟨rfl, ⟨nd, rfl⟩⟩
      replace BK := ak (blk_drewN BK.out nd)
      replace HB := ak (pw_below_drewN HB.out nd)
      generalize W1.drewN nd = w2 at BK HB ⊢
      have h5 : w2.cell? ⟨w.heap.size, 5, none⟩ = some (.slice A5 tx.length c5) := (blk_cell BK.out 5).trans rfl
      clear h1
      go_wp2_with (fail)
      clear h5
      go_loopg [3, 7, 11] (tx.length + 1) (fun gq v3 v7 v11 W => ∃ (i : Nat) (d : ByteArray), i ≤ tx.length ∧ tx.length + 1 - i ≤ gq ∧ v3 = .string d ∧ v11 = .int .i64 (i : Int) ∧ Aside0 (hexI d (tx.drop i) = dt) ∧ Aside0 (d.size ≤ 2 * i) ∧ Aside0 (W.heap[w.heap.size]? = some (.cells #[.slice A0 nm.length c0, .int .i64 ty, .int .i64 ttl, .int .i64 addr, .slice A4 tn.length c4, .slice A5 tx.length c5, .slice A6 nu.length c6] 51 (0, 0))) ∧ Aside0 (Below w.heap.size w W))
      case atStart => exact ⟨0, _, by omega, by omega, rfl, rfl, ⟨HDT.out.symm⟩, ⟨by decide⟩, BK, HB⟩
      case round =>
        clear HDT BK HB
        obtain ⟨i, d, hi, hg, rfl, rfl, HDT, HDZ, BK, HB⟩ := hrel
        have hn2 := HTL.out
        by_cases hlt : i < tx.length
        · have hlz : (i : Int) < (tx.length : Int) := by omega
          have hnd := HDT.out
          rw [List.drop_eq_getElem_cons hlt] at hnd
          simp only [hexI] at hnd
          have HND' := ak hnd
          obtain ⟨ad, hA, hck⟩ := Kd.at_int (Kd.C_below HR5.out HB.out) (i : Int) (by omega) (by omega)
          subst hA
          rw [show ((i : Int)).toNat = i from by omega] at hck
          have hr := HTR.out tx[i] (List.getElem_mem _)
          rw [show rd tx (i : Int) = tx[i] by simp [rd, List.getD_eq_getElem?_getD, hlt]] at hck
          have HRG := ak hr
          clear hnd hr HDT
          generalize tx[i] = x at hck HND' HRG
          go_upto_region 5 with (fail)
          have hx0 : 0 ≤ x / 16 := by have := HRG.out; omega
          have hx1 : x / 16 < 16 := by have := HRG.out; omega
          have hb15 : Go.bits .and .u8 x 15 = x % 16 := and15 x HRG.out.1 HRG.out.2
          have hx2 : 0 ≤ x % 16 := by omega
          have hx3 : x % 16 < 16 := by omega
          have hcv := conv2 wr
          have hsz : ∀ a b : Int, d.size + (strOfNums [a, b]).size ≤ 9223372036854775807 := fun a b => by
            have h2 : (strOfNums [a, b]).size = 2 := rfl
            have := HDZ.out
            omega
          have hsz2 : d.size + 2 ≤ 9223372036854775807 := by have := HDZ.out; omega
          have hsn : ∀ a b : Int, (strOfNums [a, b]).size = 2 := fun _ _ => rfl
          have hsz3 : ¬ 9223372036854775807 < d.size + 2 := by omega
          go_region_law (fail)
          all_goals
            go_wp2_with (fail)
            go_roundg (tx.length + 1 - (i + 1))
            case measure => omega
            case rel => exact ⟨i + 1, d ++ strOfNums [bt digs16 (x / 16), bt digs16 (x % 16)], by omega, by omega, (by rw [← bt_at digs16 (x / 16) (by show (x / 16).toNat < 16; omega), ← bt_at digs16 (x % 16) (by show (x % 16).toNat < 16; omega)]; rfl), (by have hw : wrap64 ((i : Int) + 1) = ((i + 1 : Nat) : Int) := (by unfold wrap64; omega); first | rw [hw] | (simp [hw]; done) | (simp only [hw]; rfl)), HND', ⟨by have := HDZ.out; have h2 : (strOfNums [bt digs16 (x / 16), bt digs16 (x % 16)]).size = 2 := rfl; rw [ByteArray.size_append, h2]; omega⟩, ⟨bk BK.out⟩, ⟨bw HB.out⟩⟩
        · have hlz : ¬ (i : Int) < (tx.length : Int) := by omega
          obtain rfl : i = tx.length := by omega
          have hnd := HDT.out
          rw [List.drop_of_length_le (Nat.le_refl _)] at hnd
          have hnd : d = dt := hnd
          subst hnd
          clear hi hg hlt hn2
          go_wp2_with (fail)
          go_meet
          exact ⟨rfl, BK, HB⟩
  case rest =>
    obtain ⟨rfl, BK, HB⟩ := hcut
    go_upto_region 16 with (fail)
    have h0 := (blk_cell BK.out 0).trans rfl
    have h1 := (blk_cell BK.out 1).trans rfl
    have h2 := (blk_cell BK.out 2).trans rfl
    go_region_law
      (first
        | (go_simp; go_at_call 96; refine (impl_NameText.calls k A0 c0 nm n1 _ (cw HR0.out HB.out) HC0.out H1.out).mono ?_; rintro e w2 ⟨v57, rfl, hz, hb⟩; obtain ⟨A57, c57, eo⟩ := Z_slice hz; subst eo; have hcv := Kd.C_string (dst := 9) Tryd.underlying22 Tryd.underlying5 Tryd.underlying9 (c := c57) (Z_reads' hz).2.2; have HZ := ak hz; replace BK := b1 BK hb; replace HB := b2s (bw HB.out) hb; clear h0 h1 h2; have h0 := (blk_cell BK.out 0).trans rfl; have h1 := (blk_cell BK.out 1).trans rfl; have h2 := (blk_cell BK.out 2).trans rfl; clear hz hb)
        | (go_simp; go_at_call 74; refine (itoa_any ttl H2.out.1 H2.out.2 _ (tab_below HT.out (bw HB.out))).mono ?_; rintro e w3 ⟨rfl, hb⟩; replace HZ := ak (Z_below (zw_ HZ.out) hb); have hcv := Kd.C_string (dst := 9) Tryd.underlying22 Tryd.underlying5 Tryd.underlying9 (c := c57) (Z_reads' HZ.out).2.2; replace BK := b1 BK hb; replace HB := b2s (bw HB.out) hb; clear h0 h1 h2; have h0 := (blk_cell BK.out 0).trans rfl; have h1 := (blk_cell BK.out 1).trans rfl; have h2 := (blk_cell BK.out 2).trans rfl; clear hb)
        | (go_simp; go_at_call 98; refine (impl_typeName.calls ty s _ H3.out).mono ?_; rintro e w4 ⟨rfl, hb⟩; replace HZ := ak (Z_below (zw_ HZ.out) hb); have hcv := Kd.C_string (dst := 9) Tryd.underlying22 Tryd.underlying5 Tryd.underlying9 (c := c57) (Z_reads' HZ.out).2.2; replace BK := b1 BK hb; replace HB := b2s (bw HB.out) hb; clear h0 h1 h2; have h0 := (blk_cell BK.out 0).trans rfl; have h1 := (blk_cell BK.out 1).trans rfl; have h2 := (blk_cell BK.out 2).trans rfl; clear hb)
        | (go_simp; go_at_call 97; refine (impl_words.calls k _ _ [strOfNums n1, itoaS ttl, s, dt] out _ (by first | exact C_str4 (heap_alloc_new _ _) | exact C_str4 (blk_drew (heap_alloc_new _ _)) | exact C_str4 (blk_drewN (heap_alloc_new _ _) _)) (Nat.le_refl _) H4.out).mono ?_; rintro e w5 ⟨rfl, ⟨nd, rfl⟩⟩)
        | fail)
    all_goals
      go_wp2_with (fail)
      go_ret
      exact ⟨rfl, bw HB.out⟩

/-! ### impl_TypeOk: function 93 -/

def impl_TypeOk.f (a0 : Int) : Option Bool := (impl_typeName.f a0).bind fun t => some (!t.toList.isEmpty)
set_option maxHeartbeats 8000000 in
set_option maxRecDepth 100000 in
theorem impl_TypeOk.calls (a0 : Int) (r : Bool) (w : World) (h : impl_TypeOk.f a0 = some r) :
  Calls Tryd.prog 93 #[.int .i64 a0] w fun e w' => e = .returned (.bool r) ∧ Below w.heap.size w w' := by
 obtain ⟨s, hs, hr⟩ := Option.bind_eq_some_iff.mp h
 have hr := Option.some.inj hr
 subst hr
 have HC := ak hs
 clear h hs
 go_enter Tryd.func93, Tryd.ntmps93
 go_wp2_with (go_at_call 98; refine (impl_typeName.calls a0 s _ HC.out).mono ?_; rintro e w' ⟨rfl, hb⟩)
 go_ret
 exact ⟨by first | rfl | simp, hb⟩

end Go.Proofs.YtkmchjdioplfjaaDoor.Q
