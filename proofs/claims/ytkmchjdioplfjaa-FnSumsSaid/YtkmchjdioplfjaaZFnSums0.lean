/- Printed by a program of this session (wip/myprint.py), which drives the kit's printer: functions and what their calls do. -/
import Derived.Test.YtkmchjdioplfjaaProg
import Derived.Below
import Derived.Deep.Draws
import Derived.Deep.AppendLies
import Derived.Maps.AppendAt
import Derived.OwnWalk
import Derived.Laws.BytesArg
import Derived.Laws.MakeOwn
import Derived.Laws.OwnMore
import Derived.Deep.OwnRows
import Derived.Tactics
import Derived.Lib.ConvBytes
import Derived.Laws.Slices
import Derived.WalkKit
import Derived.KernelRfl
import Derived.RowKit3
import Derived.Deep.LoopGhost
import Derived.Deep.QuietTactic
import Derived.BigQuiet
import Derived.WideLaws
import Derived.Deep.DeepCutAuto
import Derived.Deep.CutBlock
import Derived.Deep.RegionHeld3
import Derived.Laws.Rows
import Derived.Lib.AppendStr
import Derived.ArgAppend
import Derived.Laws.IdiomCopy
import Derived.OrdersHeld
import Derived.Laws.BitsLemmas
import Derived.RowKit
import Derived.WalkSpells
import Derived.WalkLawsBesides
import Derived.Shelf.Abstract
import Derived.Test.YtkmchjdioplfjaaVFnSums
import Derived.Deep.DrawnRows
import Derived.Great.BuildSlice
import Derived.Great.Walk
import Derived.Deep.WholeRow
import Derived.IntWalk
import Derived.StillTailTactics
import Derived.Laws.Externs
import Derived.Deep.RegionLaw
namespace Go.Proofs.Ytkmchjdioplfjaa.Q
open Go.RowKit Go Go.Proofs.YtkmchjdioplfjaaW.PrintWords Go.Proofs.YtkmchjdioplfjaaW.PrintLast Go.Proofs.YtkmchjdioplfjaaW.PrintMore

set_option linter.unusedVariables false
set_option linter.unusedSimpArgs false

theorem info5 : (Try.prog.info? 5).map (fun i => (i.zero, i.size, i.bytes)) = some (some (.int .u8 0), 1, 1) := by kernel_rfl
theorem info26 : (Try.prog.info? 26).map (fun i => (i.zero, i.size, i.bytes)) = some (some (.slice none 0 0), 1, 24) := by kernel_rfl
theorem info57 : (Try.prog.info? 57).map (fun i => (i.zero, i.size, i.bytes)) = some (some (.int .u32 0), 1, 4) := by kernel_rfl
theorem info68 : (Try.prog.info? 68).map (fun i => (i.zero, i.size, i.bytes)) = some (some (.int .u64 0), 1, 8) := by kernel_rfl
-- the values' own types
/-! #### struct type 7 -/
/-! #### struct type 8 -/
/-! #### struct type 13 -/
/-! #### struct type 14 -/
def rd_L10 (xs : List (List Int)) (i : Int) : (List Int) := xs.getD i.toNat ([] : List Int)
theorem at_L10 {w : World} {A : Option Addr} {n : Nat} {xs : List (List Int)} (h : Kd.C (Kd.slice 5 (Kd.int .u8)) w A n xs) (i : Int) (h0 : 0 ≤ i) (h1 : i < n) : ∃ ad A0 c0, A = some ad ∧ w.cell? (ad.add i.toNat) = some (.slice A0 (rd_L10 xs i).length c0) ∧ (rd_L10 xs i).length ≤ c0 ∧ (Kd.int .u8).C w A0 (rd_L10 xs i).length (rd_L10 xs i) := by
  obtain ⟨ad, c, e, _, hK, hc0⟩ := Kd.C_get h ([] : List Int) i h0 h1
  have hc : ∀ j u, c[j]? = some u → w.cell? (ad.add (i.toNat * 1 + j)) = some u := hc0
  obtain ⟨A0, c0, rfl, l0, g0⟩ := hK
  exact ⟨ad, A0, c0, e, by have hq := hc 0 _ rfl; rwa [Nat.mul_one, Nat.add_zero] at hq, l0, g0⟩

/-! #### struct type 23 -/
/-! #### struct type 24 -/
/-! #### struct type 28 -/
/-! #### struct type 75 -/
/-! #### struct type 76 -/
/-- One world is another one with blocks made and draws taken. -/
def Gr (A W : World) : Prop := Below A.heap.size A W
instance Gr.refl_ (A : World) : Nonempty (Gr A A) := ⟨Below.refl _ _⟩
instance Gr.alloc_ (A W : World) (o : Obj) [h : Nonempty (Gr A W)] : Nonempty (Gr A (W.alloc o)) := h.elim fun h => ⟨below_alloc h o⟩
instance Gr.drew_ (A W : World) [h : Nonempty (Gr A W)] : Nonempty (Gr A W.drew) := h.elim fun h => ⟨below_drew h⟩
instance Gr.drewN_ (A W : World) (n : Nat) [h : Nonempty (Gr A W)] : Nonempty (Gr A (W.drewN n)) := h.elim fun h => ⟨pw_below_drewN h n⟩
section
variable {α : Type} {d : Kd α} {e base n : Nat} {ok : Nat → Prop} {w W W' : World} {v : Value} {xs : List α} {A : Option Addr}
theorem bw (h : Below w.heap.size w W) [g : Nonempty (Gr W W')] : Below w.heap.size w W' := g.elim fun g => below_step h g
theorem bk {g : Nat} {o : Obj} (h : W.heap[g]? = some o) [k : Nonempty (Gr W W')] : W'.heap[g]? = some o := k.elim fun k => blk_below h k
theorem cw (h : d.C w A n xs) (hb : Below w.heap.size w W) [g : Nonempty (Gr W W')] : d.C W' A n xs := Kd.C_below h (bw hb)
theorem rw_ (h : d.R e W base ok v xs) [g : Nonempty (Gr W W')] : d.R e W' base ok v xs := g.elim fun g => Kd.R_below h g
theorem sw (h : d.S e W base ok v xs) [g : Nonempty (Gr W W')] : d.S e W' base ok v xs := g.elim fun g => Kd.S_below h g
end
section
variable {W : World} {g t : Nat} {a b c d e f x y z : Value}
theorem cells1 (h : W.heap[g]? = some (.cells #[a] t (0, 0))) : W.cell? ⟨g, 0, none⟩ = some a ∧ W.frozen? ⟨g, 0, none⟩ = false := ⟨(blk_cell h 0).trans rfl, blk_frozen h 0⟩
end
section
variable {P : Program} {ops : Array Oper} {rest : List Oper} {o : Oper} {a : Act} {Q : Exit → Act → World → Prop}
/-- A struct's variable is made. -/
theorem boxed {w W0 W : World} {N : Tmp} (_hN : o.dst = some N) (hgd : o.guard = none) {cs : Array Value} {t : TypeId} (hB : Below w.heap.size w W0) [gr : Nonempty (Gr W0 W)]
    (hrun : (execOp a.eval o).run P W = .ok (.value (.pointer (some ⟨W.heap.size, 0, none⟩))) (W.alloc (.cells cs t (0, 0))))
    (h : ∀ g, ∀ w1, g = W.heap.size → Aside0 (Below w.heap.size w w1) → Aside0 (w1.heap[g]? = some (.cells cs t (0, 0))) → Aside0 (w.heap.size ≤ g) → Below W.heap.size W w1 → wpList P ops Q rest (a.put o.dst (.pointer (some ⟨g, 0, none⟩))) w1) : wpList P ops Q (o :: rest) a W := by
  have hB' : Below w.heap.size w W := bw hB
  exact box_event hgd _hN hrun (fun g hg w1 hbox hb => h g w1 hg ⟨below_step hB' hb⟩ ⟨hbox⟩ ⟨by rw [hg]; exact hB'.size⟩ hb)
end
section
variable {α : Type} {d : Kd α} {e base g k t : Nat} {ok : Nat → Prop} {W : World} {v : Value} {xs : List α} {cs : Array Value} {l : List Nat}
end
/-- Which operations of a region are done: n places, told by a number's bits. -/
def bA (n m : Nat) : Array Bool := ((List.range n).map fun i => m.testBit i).toArray
section
variable {α : Type} {d : Kd α} {e base g g' t : Nat} {ok : Nat → Prop} {W W1 : World} {v : Value} {xs : List α} {cs : Array Value} {fr : Nat × Nat}
theorem bfar1 {v0 : Value} (hn : g ≠ g') (h : W.heap[g]? = some (.cells cs t (0, 0))) [k : Nonempty (Gr W W1)] : (W1.setCell ⟨g', 0, none⟩ v0).heap[g]? = some (.cells cs t (0, 0)) := (blk_far (bk h) hn _)
theorem bput1 {v0 z0 : Value} (h : W.heap[g]? = some (.cells #[z0] t (0, 0))) [k : Nonempty (Gr W W1)] : (W1.setCell ⟨g, 0, none⟩ v0).heap[g]? = some (.cells #[v0] t (0, 0)) := (blk_put (cs' := #[v0]) (bk h) 0 v0 rfl)
theorem bput8 {v0 v1 v2 v3 v4 v5 v6 v7 z0 z1 z2 z3 z4 z5 z6 z7 : Value} (h : W.heap[g]? = some (.cells #[z0, z1, z2, z3, z4, z5, z6, z7] t (0, 0))) [k : Nonempty (Gr W W1)] : ((((((((W1.setCell ⟨g, 0, none⟩ v0).setCell ⟨g, 1, none⟩ v1).setCell ⟨g, 2, none⟩ v2).setCell ⟨g, 3, none⟩ v3).setCell ⟨g, 4, none⟩ v4).setCell ⟨g, 5, none⟩ v5).setCell ⟨g, 6, none⟩ v6).setCell ⟨g, 7, none⟩ v7).heap[g]? = some (.cells #[v0, v1, v2, v3, v4, v5, v6, v7] t (0, 0)) := (blk_put (cs' := #[v0, v1, v2, v3, v4, v5, v6, v7]) (blk_put (cs' := #[v0, v1, v2, v3, v4, v5, v6, z7]) (blk_put (cs' := #[v0, v1, v2, v3, v4, v5, z6, z7]) (blk_put (cs' := #[v0, v1, v2, v3, v4, z5, z6, z7]) (blk_put (cs' := #[v0, v1, v2, v3, z4, z5, z6, z7]) (blk_put (cs' := #[v0, v1, v2, z3, z4, z5, z6, z7]) (blk_put (cs' := #[v0, v1, z2, z3, z4, z5, z6, z7]) (blk_put (cs' := #[v0, z1, z2, z3, z4, z5, z6, z7]) (bk h) 0 v0 rfl) 1 v1 rfl) 2 v2 rfl) 3 v3 rfl) 4 v4 rfl) 5 v5 rfl) 6 v6 rfl) 7 v7 rfl)
end

section
variable {α β : Type} {A B r : Option α}
theorem bnd {o : Option β} {f : β → Option α} {r : α} (h : o.bind f = some r) : ∃ x, Aside0 (o = some x) ∧ f x = some r := (Option.bind_eq_some_iff.mp h).elim fun x h => ⟨x, ⟨h.1⟩, h.2⟩
theorem bnS {x : β} {f : β → Option α} (h : (some x).bind f = r) : f x = r := h
theorem ib {t : Bool} (h : (if t = true then A else B) = r) : (t = true ∧ A = r) ∨ (t = false ∧ B = r) := by cases t; exact .inr ⟨rfl, h⟩; exact .inl ⟨rfl, h⟩
section
variable {p : Prop} [Decidable p]
theorem iq (h : (if p then A else B) = r) : (p ∧ A = r) ∨ (¬ p ∧ B = r) := by
  by_cases c : p
  · exact .inl ⟨c, by rwa [if_pos c] at h⟩
  · exact .inr ⟨c, by rwa [if_neg c] at h⟩
theorem iqN {r : α} (h : (if p then A else none) = some r) : p ∧ A = some r := by
  obtain h | h := iq h
  · exact h
  · cases h.2
theorem ip (h : (if p then A else B) = r) : (decide p = true ∧ A = r) ∨ (decide p = false ∧ B = r) := (iq h).imp (fun h => ⟨decide_eq_true h.1, h.2⟩) (fun h => ⟨decide_eq_false h.1, h.2⟩)
theorem ipN {r : α} (h : (if p then A else none) = some r) : decide p = true ∧ A = some r := ⟨decide_eq_true (iqN h).1, (iqN h).2⟩
theorem ipE {r : α} (h : (if p then A else none) = some r) : p = True ∧ decide p = true ∧ A = some r := ⟨eq_true (iqN h).1, decide_eq_true (iqN h).1, (iqN h).2⟩
end
section
variable {a b : Int}
theorem ig (h : (if a > b then A else B) = r) : (decide (b < a) = true ∧ A = r) ∨ (decide (b < a) = false ∧ B = r) := ip h
theorem ih (h : (if a ≥ b then A else B) = r) : (decide (b ≤ a) = true ∧ A = r) ∨ (decide (b ≤ a) = false ∧ B = r) := ip h
end
section
variable {τ : Type} [BEq τ] [LawfulBEq τ] {a b : τ} [Decidable (a = b)]
theorem ie (h : (if a = b then A else B) = r) : ((a == b) = true ∧ (a != b) = false ∧ A = r) ∨ ((a == b) = false ∧ (a != b) = true ∧ B = r) := (iq h).imp (fun h => ⟨beq_iff_eq.mpr h.1, bne_eq_false_iff_eq.mpr h.1, h.2⟩) (fun h => ⟨beq_eq_false_iff_ne.mpr h.1, bne_iff_ne.mpr h.1, h.2⟩)
end
end
section
variable {α : Type} {d : Kd α} {e base n g t : Nat} {ok : Nat → Prop} {w W W' W2 : World} {v : Value} {xs : List α} {A : Option Addr} {o : Obj}
theorem ak {p : Prop} (h : p) : Aside0 p := ⟨h⟩
theorem cv (h : Aside0 (d.C w A n xs)) (hb : Aside0 (Below w.heap.size w W)) [Nonempty (Gr W W')] : d.C W' A n xs := cw h.out hb.out
theorem cd (h : Aside0 (d.C w A n xs)) [g : Nonempty (Gr w W')] : d.C W' A n xs := g.elim fun g => Kd.C_below h.out g
theorem nw (h : d.N e W base ok v xs) [g : Nonempty (Gr W W')] : d.N e W' base ok v xs := g.elim fun g => Kd.N_below h g
theorem vw (h : d.V e W base ok v xs) [g : Nonempty (Gr W W')] : d.V e W' base ok v xs := g.elim fun g => Kd.V_below h g
theorem b1 (h : Aside0 (W.heap[g]? = some o)) [Nonempty (Gr W W')] (hb : Below W'.heap.size W' W2) : Aside0 (W2.heap[g]? = some o) := ⟨blk_below (bk h.out) hb⟩
theorem b2 (h : Aside0 (Below w.heap.size w W)) [Nonempty (Gr W W')] (hb : Below W'.heap.size W' W2) : Aside0 (Below w.heap.size w W2) := ⟨below_step (bw h.out) hb⟩
theorem b2s (h : Below w.heap.size w W) (hb : Below W.heap.size W W2) : Aside0 (Below w.heap.size w W2) := ⟨below_step h hb⟩
theorem b3 (hg : g = W'.heap.size) (h : Aside0 (Below w.heap.size w W)) [Nonempty (Gr W W')] : Aside0 (w.heap.size ≤ g) := ⟨by rw [hg]; exact below_size (bw h.out)⟩
theorem b3s (hg : g = W.heap.size) (h : Below w.heap.size w W) : Aside0 (w.heap.size ≤ g) := ⟨by rw [hg]; exact below_size h⟩
theorem b4 {g1 : Nat} (hg : g = W'.heap.size) (h : Aside0 (W.heap[g1]? = some o)) [Nonempty (Gr W W')] : Aside0 (g1 ≠ g) := ⟨by rw [hg]; exact Nat.ne_of_lt (blk_lt (bk h.out))⟩
theorem b5 {g1 : Nat} (hg : g = W'.heap.size) (h : Aside0 (W.heap[g1]? = some o)) [Nonempty (Gr W W')] : Aside0 (g ≠ g1) := ⟨by rw [hg]; exact Nat.ne_of_gt (blk_lt (bk h.out))⟩
end
/-- What was is still as it was: through stores into blocks that were made since. -/
theorem bs {p : Prop} (h : p := by repeat (first | (with_reducible refine below_set ?_ (Aside0.out (by with_reducible assumption))) | exact bw HB.out)) : p := h
theorem o1 {p : Prop} (h : p := by first | rfl | (simp [errW_none, errW_some] <;> rfl) | (simp [*, errW_none, errW_some] <;> rfl)) : p := h
theorem o2 {p : Prop} (h : p := by first | rfl | (simp; done) | (simp [*]; done)) : p := h
theorem od {p : Prop} (h : p := by repeat (first | exact Drawn0.refl _ | apply Drawn0.step)) : p := h
theorem o3 {p : Prop} (h : p := by first | omega | exact Nat.le_refl _) : p := h
section
variable {P : Program} {ops : Array Oper} {rest : List Oper} {oi : Oper} {a : Act} {Q : Exit → Act → World → Prop}
/-- A call. -/
theorem glG {w : World} (N : Tmp) (hd : oi.dst = some N) {f : FuncId} {fn : Func} {zs : Array Operand} {ts : Array TypeId} (hop : oi.op = .call { callee := .value (.func f), args := zs, argTypes := ts }) (hf : P.funcs[f]? = some fn) {args : Array Value} {R : Ending → World → Prop} (hc : Calls P f args w R)
    (h : ∀ e w', R e w' → ∃ v, e = .returned v ∧ wpList P ops Q rest (a.put (some N) v) w') (hg : oi.guard = none := by rfl)
    (hname : (fn.name == "runtime.NumGoroutine") = false := by kernel_rfl) (hb : fn.body.isSome = true := by rfl)
    (hargs : zs.map a.eval = args := by (try simp only [List.map_toArray, List.map_cons, List.map_nil]); first | done | rfl | (simp only [List.length_drop, List.length_take]; rfl)) : wpList P ops Q (oi :: rest) a w :=
  goesL_ (some N) hd hg hf hname hb args hop hargs (hc.mono h)
theorem glD {w : World} (N : Tmp) (hd : oi.dst = some N) {f : FuncId} {fn : Func} {zs : Array Operand} {ts : Array TypeId} (hop : oi.op = .call { callee := .value (.func f), args := zs, argTypes := ts }) (hf : P.funcs[f]? = some fn) {args : Array Value} {v : Value} (hc : Calls P f args w fun e w' => e = .returned v ∧ Drawn0 w w')
    (h : ∀ nd, wpList P ops Q rest (a.put (some N) v) (w.drewN nd)) (hg : oi.guard = none := by rfl)
    (hname : (fn.name == "runtime.NumGoroutine") = false := by kernel_rfl) (hb : fn.body.isSome = true := by rfl)
    (hargs : zs.map a.eval = args := by (try simp only [List.map_toArray, List.map_cons, List.map_nil]); first | done | rfl | (simp only [List.length_drop, List.length_take]; rfl)) : wpList P ops Q (oi :: rest) a w :=
  goesL_ (some N) hd hg hf hname hb args hop hargs (hc.mono fun e w' h2 => ⟨v, h2.1, by obtain ⟨nd, rfl⟩ := h2.2; exact h nd⟩)
theorem glB {w : World} (N : Tmp) (hd : oi.dst = some N) {f : FuncId} {fn : Func} {zs : Array Operand} {ts : Array TypeId} (hop : oi.op = .call { callee := .value (.func f), args := zs, argTypes := ts }) (hf : P.funcs[f]? = some fn) {args : Array Value} {v : Value} (hc : Calls P f args w fun e w' => e = .returned v ∧ Below w.heap.size w w')
    (h : ∀ w', Below w.heap.size w w' → wpList P ops Q rest (a.put (some N) v) w') (hg : oi.guard = none := by rfl)
    (hname : (fn.name == "runtime.NumGoroutine") = false := by kernel_rfl) (hb : fn.body.isSome = true := by rfl)
    (hargs : zs.map a.eval = args := by (try simp only [List.map_toArray, List.map_cons, List.map_nil]); first | done | rfl | (simp only [List.length_drop, List.length_take]; rfl)) : wpList P ops Q (oi :: rest) a w :=
  goesL_ (some N) hd hg hf hname hb args hop hargs (hc.mono fun e w' h2 => ⟨v, h2.1, h w' h2.2⟩)
end
section
variable {P : Program} {ops : Array Oper} {oi : Oper} {Q : Exit → Act → World → Prop} {md : Region.Mode} {S : World → Prop} {ds : List Nat} {T : Bool × List (List Nat × List Nat)} {n m fuel : Nat} {a a' : Act} {w : World}
/-- Steps of a region: one that yields a value; one that is not wanted; a load; a call. -/
theorem pu (hT : Aside0 (rtab md ops = T)) (i : Nat) {N : Nat} {v : Value} (h : wpAnyLast P md ops Q S ds fuel (bA n (m + 2 ^ i)) a' w) (hi : ops[i]? = some oi := by rfl) (hN : oi.dst = some N := by rfl)
    (hc : anyT T (bA n m).toList (bA n (m + 2 ^ i)).toList i = true := by kernel_rfl) (hw : Region.wanted oi (yielded ops a.tmps) = true := by rfl)
    (hy : ∀ w, (execOp a.eval oi).run P w = .ok (.value v) w := by intro w'; go_simp; with_reducible rfl) (ha : a.put (some N) v = a' := by go_simp; rfl)
    (hQ : ∀ c a w, Q (.panic c) (a.put oi.dst v) w → Q (.panic c) a w := by exact fun _ _ _ h => h) : wpAnyLast P md ops Q S ds (fuel + 1) (bA n m) a w :=
  pure_ (i := i) _ hi hN (any_of hT.out hc) hQ (.inl ⟨hw, hy⟩) ha h
theorem on (hT : Aside0 (rtab md ops = T)) (i : Nat) {N : Option Tmp}
    (h : ∀ K : Act → World → Prop, Shut (∀ a' w', S w' → (S w' → wpAnyLast P md ops Q S ds fuel (bA n (m + 2 ^ i)) a' w') → K a' w') → if Region.wanted oi (yielded ops a.tmps) = true then Oper.wp P oi a w K Q else K (a.put N undef) w)
    (hi : ops[i]? = some oi := by rfl) (hN : oi.dst = N := by rfl) (hc : (readyT T.2 (bA n m).toList == [i] && (bA n m).toList.set i true == (bA n (m + 2 ^ i)).toList) = true := by kernel_rfl) (hd : i ∉ ds := by decide) : wpAnyLast P md ops Q S ds (fuel + 1) (bA n m) a w :=
  one_ (i := i) _ hi hN (one_of hT.out hc) hd h
theorem gsG {K : Act → World → Prop} {f : FuncId} {fn : Func} (hf : P.funcs[f]? = some fn) {zs : Array Operand} {ts : Array TypeId} {args : Array Value} {N : Option Tmp} {R : Ending → World → Prop} (hc : Calls P f args w R)
    (h : ∀ e w', R e w' → ∃ v, e = .returned v ∧ K (a.put N v) w') (hop : oi.op = .call { callee := .value (.func f), args := zs, argTypes := ts } := by rfl) (hN : oi.dst = N := by rfl) (hw : Region.wanted oi (yielded ops a.tmps) = true := by rfl)
    (hname : (fn.name == "runtime.NumGoroutine") = false := by kernel_rfl) (hb : fn.body.isSome = true := by rfl)
    (hargs : zs.map a.eval = args := by (try simp only [List.map_toArray, List.map_cons, List.map_nil]); first | done | rfl | (simp only [List.length_drop, List.length_take]; rfl)) : if Region.wanted oi (yielded ops a.tmps) = true then Oper.wp P oi a w K Q else K (a.put N undef) w :=
  goes_ hf hname hb args hw hN hop hargs (hc.mono h)
end
section
variable {P : Program} {ops : Array Oper} {rest : List Oper} {o : Oper} {a : Act} {Q : Exit → Act → World → Prop}
/-- A struct's variable is made. -/
theorem bxe {W : World} {N : Tmp} (hd : o.dst = some N) {cs : Array Value} {t : TypeId}
    (h : ∀ g, g = W.heap.size → ∀ w1, w1.heap[g]? = some (.cells cs t (0, 0)) → Below W.heap.size W w1 → wpList P ops Q rest (a.put o.dst (.pointer (some ⟨g, 0, none⟩))) w1) (hgd : o.guard = none := by rfl)
    (hrun : (execOp a.eval o).run P W = .ok (.value (.pointer (some ⟨W.heap.size, 0, none⟩))) (W.alloc (.cells cs t (0, 0))) := by first | (go_simp; done) | (go_simp; rfl)) : wpList P ops Q (o :: rest) a W := box_event hgd hd hrun h
theorem bxd {w W0 W : World} {N : Tmp} (hd : o.dst = some N) {cs : Array Value} {t : TypeId} (hB : Aside0 (Below w.heap.size w W0)) [gr : Nonempty (Gr W0 W)]
    (h : ∀ g, ∀ w1, g = W.heap.size → Aside0 (Below w.heap.size w w1) → Aside0 (w1.heap[g]? = some (.cells cs t (0, 0))) → Aside0 (w.heap.size ≤ g) → Below W.heap.size W w1 → wpList P ops Q rest (a.put o.dst (.pointer (some ⟨g, 0, none⟩))) w1) (hgd : o.guard = none := by rfl)
    (hrun : (execOp a.eval o).run P W = .ok (.value (.pointer (some ⟨W.heap.size, 0, none⟩))) (W.alloc (.cells cs t (0, 0))) := by first | (go_simp; done) | (go_simp; rfl)) : wpList P ops Q (o :: rest) a W := boxed hd hgd hB.out hrun h
end
theorem el_int {k : IntKind} {xs : List Int} {w W : World} {A : Option Addr} {n : Nat} (h : Aside0 (Kd.C (Kd.int k) w A n xs)) (hb : Aside0 (Below w.heap.size w W)) (i : Int) (h0 : decide (0 ≤ i) = true := by first | (with_reducible assumption) | assumption) (h1 : decide (i < n) = true := by first | (with_reducible assumption) | assumption) : ∃ ad, A = some ad ∧ W.cell? (ad.add i.toNat) = some (.int k (rd xs i)) ∧ (0 ≤ i) = True ∧ (i < n) = True := by
  obtain ⟨ad, e, x0⟩ := Kd.at_int h.out i (of_decide_eq_true h0) (of_decide_eq_true h1)
  exact ⟨ad, e, pw_cell_below hb.out x0, eq_true (of_decide_eq_true h0), eq_true (of_decide_eq_true h1)⟩
theorem el0_int {k : IntKind} {xs : List Int} {w : World} {A : Option Addr} {n : Nat} (h : Aside0 (Kd.C (Kd.int k) w A n xs)) (i : Int) (h0 : decide (0 ≤ i) = true := by first | (with_reducible assumption) | assumption) (h1 : decide (i < n) = true := by first | (with_reducible assumption) | assumption) : ∃ ad, A = some ad ∧ w.cell? (ad.add i.toNat) = some (.int k (rd xs i)) ∧ (0 ≤ i) = True ∧ (i < n) = True := by
  obtain ⟨ad, e, x0⟩ := Kd.at_int h.out i (of_decide_eq_true h0) (of_decide_eq_true h1)
  exact ⟨ad, e, x0, eq_true (of_decide_eq_true h0), eq_true (of_decide_eq_true h1)⟩
theorem el20_int {k : IntKind} {xs : List Int} {w : World} {ad : Addr} {n : Nat} (h : Aside0 (Kd.C (Kd.int k) w (some ad) n xs)) (i : Int) (h0 : decide (0 ≤ i) = true := by first | (with_reducible assumption) | assumption) (h1 : decide (i < n) = true := by first | (with_reducible assumption) | assumption) : w.cell? (ad.add i.toNat) = some (.int k (rd xs i)) ∧ (0 ≤ i) = True ∧ (i < n) = True := by
  obtain ⟨ad', e, x0⟩ := Kd.at_int h.out i (of_decide_eq_true h0) (of_decide_eq_true h1)
  obtain rfl := Option.some.inj e
  exact ⟨x0, eq_true (of_decide_eq_true h0), eq_true (of_decide_eq_true h1)⟩
theorem el_L10 {xs : List (List Int)} {w W : World} {A : Option Addr} {n : Nat} (h : Aside0 (Kd.C (Kd.slice 5 (Kd.int .u8)) w A n xs)) (hb : Aside0 (Below w.heap.size w W)) (i : Int) (h0 : decide (0 ≤ i) = true := by first | (with_reducible assumption) | assumption) (h1 : decide (i < n) = true := by first | (with_reducible assumption) | assumption) : ∃ ad A0 c0, A = some ad ∧ W.cell? (ad.add i.toNat) = some (.slice A0 (rd_L10 xs i).length c0) ∧ Aside0 ((rd_L10 xs i).length ≤ c0) ∧ Aside0 ((Kd.int .u8).C w A0 (rd_L10 xs i).length (rd_L10 xs i)) ∧ (0 ≤ i) = True ∧ (i < n) = True := by
  obtain ⟨ad, A0, c0, e, x0, y0, y1⟩ := at_L10 h.out i (of_decide_eq_true h0) (of_decide_eq_true h1)
  exact ⟨ad, A0, c0, e, pw_cell_below hb.out x0, ⟨y0⟩, ⟨y1⟩, eq_true (of_decide_eq_true h0), eq_true (of_decide_eq_true h1)⟩
/-! ### laws_eqByteS: function 11 -/
/-! ### laws_toByteS: function 17 -/
/-! ### impl_get: function 72 -/
mutual
def impl_get.j0 : Nat → List Int → Int → Int → Bool → Option (Int × Int)
 | 0, _, _, _, _ => none
 | k + 1, x0, x1, x2, x20 => if x20 = true then (some (0, (-1))) else (if 0 ≤ x1 then (if x1 ≤ (wrap64 (x1 + x2)) then (if (wrap64 (x1 + x2)) ≤ (x0.length : Int) then ((some ((x0.take ((wrap64 (x1 + x2)) : Int).toNat).drop (x1 : Int).toNat : List Int)).bind fun y101 => (impl_get.l0 k x1 x2 0 y101 (y101.length : Int) 0)) else (none)) else (none)) else (none))
def impl_get.l0 : Nat → Int → Int → Int → List Int → Int → Int → Option (Int × Int)
 | 0, _, _, _, _, _, _ => none
 | k + 1, x1, x2, x8, x26, x27, x28 => if x28 < x27 then (if 0 ≤ x28 then (if x28 < (x26.length : Int) then (impl_get.l0 k x1 x2 (Go.bits .or .i64 (wrap64 (x8 * 256)) (wrap64 (rd x26 x28))) x26 x27 (wrap64 (x28 + 1))) else (none)) else (none)) else (some (x8, wrap64 (x1 + x2)))
end
def impl_get.f (k : Nat) (l0 : List Int) (a1 : Int) (a2 : Int) : Option (Int × Int) := if a1 < 0 then (impl_get.j0 k l0 a1 a2 true) else (impl_get.j0 k l0 a1 a2 (decide (a2 > (wrap64 ((l0.length : Int) - a1)))))
set_option maxHeartbeats 8000000 in
set_option maxRecDepth 100000 in
theorem impl_get.calls (k : Nat) (A0 : Option Addr) (c0 : Nat) (l0 : List Int) (a1 : Int) (a2 : Int) (r1 : Int) (r2 : Int) (w : World) (hr0 : Kd.C (Kd.int .u8) w A0 l0.length l0) (hc0 : l0.length ≤ c0) (h : impl_get.f k l0 a1 a2 = some (r1, r2)) :
  Calls Try.prog 72 #[.slice A0 l0.length c0, .int .i64 a1, .int .i64 a2] w fun e w' => e = .returned (.tuple #[.int .i64 r1, .int .i64 r2]) ∧ Drawn0 w w' := by
 have HR0 := ak hr0
 have HC0 := ak hc0
 clear hr0 hc0
 have H : (if a1 < 0 then (impl_get.j0 k l0 a1 a2 true) else (impl_get.j0 k l0 a1 a2 (decide (a2 > (wrap64 ((l0.length : Int) - a1)))))) = some (r1, r2) := h
 clear h
 have HC4 := ak H
 clear H
 go_enter Try.func72, Try.ntmps72
 go_upto_region 1 with (fail)
 go_cut [20] (fun v20 wc => ∃ (kq : Nat) (x20_3 : Bool), v20 = .bool x20_3 ∧ Aside0 (impl_get.j0 kq l0 a1 a2 x20_3 = some (r1, r2)) ∧ Aside0 (kq ≤ k) ∧ Drawn0 w wc)
 case first =>
  have H := HC4.out
  clear HC4
  replace H := ip H
  obtain ⟨c5b0, H⟩ | ⟨c5b0, H⟩ := H
  ·(first | rw [c5b0] | (simp only [i64_w, i32_w]; rw [c5b0]) | skip)
   have H' := ak H
   clear H
   go_wp2
   go_meet
   case rel => exact ⟨_, (true), o2, H', ⟨o3⟩, od⟩
  ·(first | rw [c5b0] | (simp only [i64_w, i32_w]; rw [c5b0]) | skip)
   have H' := ak H
   clear H
   go_wp2
   go_meet
   case rel => exact ⟨_, (decide (a2 > (wrap64 ((l0.length : Int) - a1)))), o2, H', ⟨o3⟩, od⟩
 case rest =>
  clear HC4
  obtain ⟨kq, x20_3, rfl, HA, HJ3, ⟨mc3, rfl⟩⟩ := hcut
  cases kq with
  | zero => exact absurd HA.out (by simp [impl_get.j0])
  | succ kj3 =>
   have H := HA.out
   clear HA
   simp only [impl_get.j0] at H
   replace H := ib H
   obtain ⟨rfl, H⟩ | ⟨rfl, H⟩ := H
   ·simp only [Option.some.injEq, Prod.mk.injEq] at H
    obtain ⟨rfl, rfl⟩ := H
    go_wp2
    go_ret2
    exact ⟨o2, od⟩
   ·replace H := ipE H
    obtain ⟨c7b0, c7b1, H⟩ := H
    by_cases c8 : a1 ≤ (wrap64 (a1 + a2))
    ·rw [if_pos c8] at H
     have c8b0 := eq_true c8
     have c8b1 : decide (a1 ≤ (wrap64 (a1 + a2))) = true := decide_eq_true c8
     by_cases c9 : (wrap64 (a1 + a2)) ≤ (l0.length : Int)
     ·rw [if_pos c9] at H
      have c9b0 := eq_true c9
      have c9b1 : decide ((wrap64 (a1 + a2)) ≤ (l0.length : Int)) = true := decide_eq_true c9
      obtain ⟨y101, hy101⟩ : ∃ y_ : List Int, y_ = ((l0.take ((wrap64 (a1 + a2)) : Int).toNat).drop (a1 : Int).toNat) := ⟨_, rfl⟩
      (try with_reducible replace H := bnS H)
      (try rw [← hy101] at H)
      have Ny101 := ak hy101
      clear hy101
      have H' := ak H
      clear H
      have q10 : ((wrap64 (a1 + a2)) : Int) ≤ ((l0.length : Int) : Int) := of_decide_eq_true (by first | (with_reducible assumption) | assumption)
      obtain ⟨i010, hi010, _, hsz10, _⟩ := info_parts info5
      have hroom10 : l0.length ≤ c0 := HC0.out
      have hC10 : Kd.C (Kd.int .u8) _ A0 l0.length l0 := HR0.out
      have ql10 : (a1 : Int) ≤ ((wrap64 (a1 + a2)) : Int) := of_decide_eq_true (by first | (with_reducible assumption) | assumption)
      have q010 : (0 : Int) ≤ (a1 : Int) := of_decide_eq_true (by first | (with_reducible assumption) | assumption)
      have hcut10 := cut_mid (P := Try.prog) 26 5 .i64 .i64 Try.underlying26 hi010 1 hsz10 A0 l0.length c0 a1 (wrap64 (a1 + a2)) q010 ql10 q10 hroom10
      have hr10 := Kd.C_mid (lo := (a1 : Int).toNat) (hi := ((wrap64 (a1 + a2)) : Int).toNat) (c := c0) hC10 (by omega) (by omega) hroom10
      obtain ⟨A10, hA10⟩ : ∃ A1, A1 = (if c0 = (a1 : Int).toNat then A0 else (A0 : Option Addr).map (·.add ((a1 : Int).toNat * 1))) := ⟨_, rfl⟩
      obtain ⟨c10, hc10⟩ : ∃ c1, c1 = c0 - (a1 : Int).toNat := ⟨_, rfl⟩
      have hy10 : y101.length = ((wrap64 (a1 + a2)) : Int).toNat - (a1 : Int).toNat := (by rw [Ny101.out, List.length_drop, List.length_take] <;> omega)
      rw [show ((l0).take ((wrap64 (a1 + a2)) : Int).toNat).drop (a1 : Int).toNat = y101 from Ny101.out.symm] at hr10
      replace hr10 : Kd.C (Kd.int .u8) _ A10 y101.length y101 := (by rw [hA10]; exact hr10)
      rw [← hy10, ← hA10, ← hc10] at hcut10
      have HR104 := ak hr10
      have HC104 := ak (show y101.length ≤ c10 from by rw [hy10, hc10]; exact Nat.sub_le_sub_right (Nat.le_trans (by omega) hroom10) _)
      clear hr10 hC10 hroom10 hi010 hsz10 hc10
      have KY10 := ak hy10
      have KA10 := ak hA10
      clear hy10 hA10
      replace q10 := eq_true q10
      go_wp2
      go_loopg [8, 28] kj3 (fun kq v8 v28 w' => ∃ (x8_2 : Int) (x28_2 : Int), v8 = .int .i64 x8_2 ∧ v28 = .int .i64 x28_2 ∧ Aside0 (impl_get.l0 kq a1 a2 x8_2 y101 (y101.length : Int) x28_2 = some (r1, r2)) ∧ Aside0 (kq ≤ kj3) ∧ Drawn0 w w')
      case atStart => exact ⟨(0), (0), o2, o2, H', ⟨Nat.le_refl _⟩, od⟩
      case round =>
       clear H'
       (try clear c1)
       (try clear c7b0)
       (try clear c7b1)
       (try clear c8)
       (try clear c8b0)
       (try clear c8b1)
       (try clear c9)
       (try clear c9b0)
       (try clear c9b1)
       (try clear c10)
       (try clear q10)
       (try clear q010)
       (try clear q10)
       obtain ⟨x8_2, x28_2, rfl, rfl, HA, HK2, ⟨m2, rfl⟩⟩ := hrel
       cases gk with
       | zero => exact absurd HA.out (by simp [impl_get.l0])
       | succ k2 =>
        have H := HA.out
        clear HA
        simp only [impl_get.l0] at H
        replace H := ip H
        obtain ⟨c11b0, H⟩ | ⟨c11b0, H⟩ := H
        ·replace H := ipN H
         obtain ⟨c12b0, H⟩ := H
         replace H := ipN H
         obtain ⟨c13b0, H⟩ := H
         have H' := ak H
         clear H
         obtain ⟨ad105, rfl, hx105_0, p105, q105⟩ := el0_int HR104 x28_2
         go_wp2
         go_roundg k2
         case measure => have := HJ3.out; have := HK2.out; omega
         case rel => exact ⟨(Go.bits .or .i64 (wrap64 (x8_2 * 256)) (wrap64 (rd y101 x28_2))), (wrap64 (x28_2 + 1)), o2, o2, H', ⟨by have := HJ3.out; have := HK2.out; omega⟩, od⟩
        ·simp only [Option.some.injEq, Prod.mk.injEq] at H
         obtain ⟨rfl, rfl⟩ := H
         go_wp2
         go_ret2
         exact ⟨o2, od⟩
     ·rw [if_neg c9] at H
      exact absurd H (by simp)
    ·rw [if_neg c8] at H
     exact absurd H (by simp)

/-! ### laws_markByteS: function 14 -/
/-! ### laws_heldByteS: function 15 -/
/-! ### laws_eqByteSS: function 30 -/
/-! ### laws_eqName: function 12 -/
/-! ### laws_szByteS: function 46 -/
/-! ### laws_szByteSS: function 25 -/
/-! ### laws_toByteSS: function 28 -/
/-! ### laws_szName: function 7 -/
/-! ### laws_toName: function 9 -/
/-! ### spec_LabelOk: function 47 -/
mutual
def spec_LabelOk.j0 : Nat → List Int → Bool → Option (Bool)
 | 0, _, _ => none
 | k + 1, x0, x11 => if x11 = true then (some false) else (spec_LabelOk.l0 k x0 0)
def spec_LabelOk.l0 : Nat → List Int → Int → Option (Bool)
 | 0, _, _ => none
 | k + 1, x0, x3 => if x3 < (x0.length : Int) then (if 0 ≤ x3 then (if (rd x0 x3) ≥ 97 then (if ((rd x0 x3) ≤ 122) then (spec_LabelOk.l0 k x0 (wrap64 (x3 + 1))) else (if (rd x0 x3) ≥ 48 then (if ((rd x0 x3) ≤ 57) then (spec_LabelOk.l0 k x0 (wrap64 (x3 + 1))) else (if (rd x0 x3) = 45 then (spec_LabelOk.l0 k x0 (wrap64 (x3 + 1))) else (some false))) else (if (rd x0 x3) = 45 then (spec_LabelOk.l0 k x0 (wrap64 (x3 + 1))) else (some false)))) else (if (rd x0 x3) ≥ 48 then (if ((rd x0 x3) ≤ 57) then (spec_LabelOk.l0 k x0 (wrap64 (x3 + 1))) else (if (rd x0 x3) = 45 then (spec_LabelOk.l0 k x0 (wrap64 (x3 + 1))) else (some false))) else (if (rd x0 x3) = 45 then (spec_LabelOk.l0 k x0 (wrap64 (x3 + 1))) else (some false)))) else (none)) else (some true)
end
def spec_LabelOk.f (k : Nat) (l0 : List Int) : Option (Bool) := if (l0.length : Int) < 1 then (spec_LabelOk.j0 k l0 true) else (spec_LabelOk.j0 k l0 (decide ((l0.length : Int) > 15)))
set_option maxHeartbeats 8000000 in
set_option maxRecDepth 100000 in
theorem spec_LabelOk.calls (k : Nat) (A0 : Option Addr) (c0 : Nat) (l0 : List Int) (r : Bool) (w : World) (hr0 : Kd.C (Kd.int .u8) w A0 l0.length l0) (hc0 : l0.length ≤ c0) (h : spec_LabelOk.f k l0 = some r) :
  Calls Try.prog 47 #[.slice A0 l0.length c0] w fun e w' => e = .returned (.bool r) ∧ Drawn0 w w' := by
 have HR0 := ak hr0
 have HC0 := ak hc0
 clear hr0 hc0
 have H : (if (l0.length : Int) < 1 then (spec_LabelOk.j0 k l0 true) else (spec_LabelOk.j0 k l0 (decide ((l0.length : Int) > 15)))) = some r := h
 clear h
 have HC2 := ak H
 clear H
 go_enter Try.func47, Try.ntmps47
 go_upto_region 1 with (fail)
 go_cut [11] (fun v11 wc => ∃ (kq : Nat) (x11_1 : Bool), v11 = .bool x11_1 ∧ Aside0 (spec_LabelOk.j0 kq l0 x11_1 = some r) ∧ Aside0 (kq ≤ k) ∧ Drawn0 w wc)
 case first =>
  have H := HC2.out
  clear HC2
  replace H := ip H
  obtain ⟨c3b0, H⟩ | ⟨c3b0, H⟩ := H
  ·have c3b1 : decide (l0.length < 1) = true := decide_eq_true (by have := of_decide_eq_true c3b0; omega)
   (first | rw [c3b0] | (simp only [i64_w, i32_w]; rw [c3b0]) | skip)
   have H' := ak H
   clear H
   go_wp2
   go_meet
   case rel => exact ⟨_, (true), o2, H', ⟨o3⟩, od⟩
  ·have c3b1 : decide (l0.length < 1) = false := decide_eq_false (by have := of_decide_eq_false c3b0; omega)
   (first | rw [c3b0] | (simp only [i64_w, i32_w]; rw [c3b0]) | skip)
   have H' := ak H
   clear H
   go_wp2
   go_meet
   case rel => exact ⟨_, (decide ((l0.length : Int) > 15)), o2, H', ⟨o3⟩, od⟩
 case rest =>
  clear HC2
  obtain ⟨kq, x11_1, rfl, HA, HJ1, ⟨mc1, rfl⟩⟩ := hcut
  cases kq with
  | zero => exact absurd HA.out (by simp [spec_LabelOk.j0])
  | succ kj1 =>
   have H := HA.out
   clear HA
   simp only [spec_LabelOk.j0] at H
   replace H := ib H
   obtain ⟨rfl, H⟩ | ⟨rfl, H⟩ := H
   ·obtain rfl := Option.some.inj H
    go_wp2
    go_ret
    exact ⟨o2, od⟩
   ·have H' := ak H
    clear H
    go_wp2
    go_loopg [3] kj1 (fun kq v3 w' => ∃ (x3_2 : Int), v3 = .int .i64 x3_2 ∧ Aside0 (spec_LabelOk.l0 kq l0 x3_2 = some r) ∧ Aside0 (kq ≤ kj1) ∧ Drawn0 w w')
    case atStart => exact ⟨(0), o2, H', ⟨Nat.le_refl _⟩, od⟩
    case round =>
     clear H'
     obtain ⟨x3_2, rfl, HA, HK2, ⟨m2, rfl⟩⟩ := hrel
     cases gk with
     | zero => exact absurd HA.out (by simp [spec_LabelOk.l0])
     | succ k2 =>
      have H := HA.out
      clear HA
      simp only [spec_LabelOk.l0] at H
      replace H := ip H
      obtain ⟨c5b0, H⟩ | ⟨c5b0, H⟩ := H
      ·replace H := ipN H
       obtain ⟨c6b0, H⟩ := H
       replace H := ih H
       obtain ⟨c7b0, H⟩ | ⟨c7b0, H⟩ := H
       ·replace H := ip H
        obtain ⟨c8b0, H⟩ | ⟨c8b0, H⟩ := H
        ·have H' := ak H
         clear H
         obtain ⟨ad101, rfl, hx101_0, p101, q101⟩ := el0_int HR0 x3_2
         obtain ⟨hx102_0, p102, q102⟩ := el20_int HR0 x3_2
         go_wp2
         go_roundg k2
         case measure => have := HJ1.out; have := HK2.out; omega
         case rel => exact ⟨(wrap64 (x3_2 + 1)), o2, H', ⟨by have := HJ1.out; have := HK2.out; omega⟩, od⟩
        ·replace H := ih H
         obtain ⟨c9b0, H⟩ | ⟨c9b0, H⟩ := H
         ·replace H := ip H
          obtain ⟨c10b0, H⟩ | ⟨c10b0, H⟩ := H
          ·have H' := ak H
           clear H
           obtain ⟨ad101, rfl, hx101_0, p101, q101⟩ := el0_int HR0 x3_2
           obtain ⟨hx102_0, p102, q102⟩ := el20_int HR0 x3_2
           obtain ⟨hx103_0, p103, q103⟩ := el20_int HR0 x3_2
           obtain ⟨hx104_0, p104, q104⟩ := el20_int HR0 x3_2
           go_wp2
           go_roundg k2
           case measure => have := HJ1.out; have := HK2.out; omega
           case rel => exact ⟨(wrap64 (x3_2 + 1)), o2, H', ⟨by have := HJ1.out; have := HK2.out; omega⟩, od⟩
          ·replace H := ie H
           obtain ⟨c11b0, c11b1, H⟩ | ⟨c11b0, c11b1, H⟩ := H
           ·have H' := ak H
            clear H
            obtain ⟨ad101, rfl, hx101_0, p101, q101⟩ := el0_int HR0 x3_2
            obtain ⟨hx102_0, p102, q102⟩ := el20_int HR0 x3_2
            obtain ⟨hx103_0, p103, q103⟩ := el20_int HR0 x3_2
            obtain ⟨hx104_0, p104, q104⟩ := el20_int HR0 x3_2
            obtain ⟨hx105_0, p105, q105⟩ := el20_int HR0 x3_2
            go_wp2
            go_roundg k2
            case measure => have := HJ1.out; have := HK2.out; omega
            case rel => exact ⟨(wrap64 (x3_2 + 1)), o2, H', ⟨by have := HJ1.out; have := HK2.out; omega⟩, od⟩
           ·obtain rfl := Option.some.inj H
            obtain ⟨ad101, rfl, hx101_0, p101, q101⟩ := el0_int HR0 x3_2
            obtain ⟨hx102_0, p102, q102⟩ := el20_int HR0 x3_2
            obtain ⟨hx103_0, p103, q103⟩ := el20_int HR0 x3_2
            obtain ⟨hx104_0, p104, q104⟩ := el20_int HR0 x3_2
            obtain ⟨hx105_0, p105, q105⟩ := el20_int HR0 x3_2
            go_wp2
            go_ret
            exact ⟨o2, od⟩
         ·replace H := ie H
          obtain ⟨c12b0, c12b1, H⟩ | ⟨c12b0, c12b1, H⟩ := H
          ·have H' := ak H
           clear H
           obtain ⟨ad101, rfl, hx101_0, p101, q101⟩ := el0_int HR0 x3_2
           obtain ⟨hx102_0, p102, q102⟩ := el20_int HR0 x3_2
           obtain ⟨hx103_0, p103, q103⟩ := el20_int HR0 x3_2
           obtain ⟨hx106_0, p106, q106⟩ := el20_int HR0 x3_2
           go_wp2
           go_roundg k2
           case measure => have := HJ1.out; have := HK2.out; omega
           case rel => exact ⟨(wrap64 (x3_2 + 1)), o2, H', ⟨by have := HJ1.out; have := HK2.out; omega⟩, od⟩
          ·obtain rfl := Option.some.inj H
           obtain ⟨ad101, rfl, hx101_0, p101, q101⟩ := el0_int HR0 x3_2
           obtain ⟨hx102_0, p102, q102⟩ := el20_int HR0 x3_2
           obtain ⟨hx103_0, p103, q103⟩ := el20_int HR0 x3_2
           obtain ⟨hx106_0, p106, q106⟩ := el20_int HR0 x3_2
           go_wp2
           go_ret
           exact ⟨o2, od⟩
       ·replace H := ih H
        obtain ⟨c13b0, H⟩ | ⟨c13b0, H⟩ := H
        ·replace H := ip H
         obtain ⟨c14b0, H⟩ | ⟨c14b0, H⟩ := H
         ·have H' := ak H
          clear H
          obtain ⟨ad101, rfl, hx101_0, p101, q101⟩ := el0_int HR0 x3_2
          obtain ⟨hx107_0, p107, q107⟩ := el20_int HR0 x3_2
          obtain ⟨hx108_0, p108, q108⟩ := el20_int HR0 x3_2
          go_wp2
          go_roundg k2
          case measure => have := HJ1.out; have := HK2.out; omega
          case rel => exact ⟨(wrap64 (x3_2 + 1)), o2, H', ⟨by have := HJ1.out; have := HK2.out; omega⟩, od⟩
         ·replace H := ie H
          obtain ⟨c15b0, c15b1, H⟩ | ⟨c15b0, c15b1, H⟩ := H
          ·have H' := ak H
           clear H
           obtain ⟨ad101, rfl, hx101_0, p101, q101⟩ := el0_int HR0 x3_2
           obtain ⟨hx107_0, p107, q107⟩ := el20_int HR0 x3_2
           obtain ⟨hx108_0, p108, q108⟩ := el20_int HR0 x3_2
           obtain ⟨hx109_0, p109, q109⟩ := el20_int HR0 x3_2
           go_wp2
           go_roundg k2
           case measure => have := HJ1.out; have := HK2.out; omega
           case rel => exact ⟨(wrap64 (x3_2 + 1)), o2, H', ⟨by have := HJ1.out; have := HK2.out; omega⟩, od⟩
          ·obtain rfl := Option.some.inj H
           obtain ⟨ad101, rfl, hx101_0, p101, q101⟩ := el0_int HR0 x3_2
           obtain ⟨hx107_0, p107, q107⟩ := el20_int HR0 x3_2
           obtain ⟨hx108_0, p108, q108⟩ := el20_int HR0 x3_2
           obtain ⟨hx109_0, p109, q109⟩ := el20_int HR0 x3_2
           go_wp2
           go_ret
           exact ⟨o2, od⟩
        ·replace H := ie H
         obtain ⟨c16b0, c16b1, H⟩ | ⟨c16b0, c16b1, H⟩ := H
         ·have H' := ak H
          clear H
          obtain ⟨ad101, rfl, hx101_0, p101, q101⟩ := el0_int HR0 x3_2
          obtain ⟨hx107_0, p107, q107⟩ := el20_int HR0 x3_2
          obtain ⟨hx110_0, p110, q110⟩ := el20_int HR0 x3_2
          go_wp2
          go_roundg k2
          case measure => have := HJ1.out; have := HK2.out; omega
          case rel => exact ⟨(wrap64 (x3_2 + 1)), o2, H', ⟨by have := HJ1.out; have := HK2.out; omega⟩, od⟩
         ·obtain rfl := Option.some.inj H
          obtain ⟨ad101, rfl, hx101_0, p101, q101⟩ := el0_int HR0 x3_2
          obtain ⟨hx107_0, p107, q107⟩ := el20_int HR0 x3_2
          obtain ⟨hx110_0, p110, q110⟩ := el20_int HR0 x3_2
          go_wp2
          go_ret
          exact ⟨o2, od⟩
      ·obtain rfl := Option.some.inj H
       go_wp2
       go_ret
       exact ⟨o2, od⟩

/-! ### spec_NameOk: function 26 -/
def spec_NameOk.l0 : Nat → Int → List (List Int) → Option (Bool)
 | 0, _, _ => none
 | k + 1, x3, x102000 => if x3 < (x102000.length : Int) then (if 0 ≤ x3 then ((spec_LabelOk.f k (rd_L10 x102000 x3)).bind fun t103 => (if t103 = true then (spec_NameOk.l0 k (wrap64 (x3 + 1)) x102000) else (some false))) else (none)) else (some true)
def spec_NameOk.f (k : Nat) (l0_0 : List (List Int)) : Option (Bool) := if (l0_0.length : Int) > 6 then (some false) else (spec_NameOk.l0 k 0 l0_0)
set_option maxHeartbeats 8000000 in
set_option maxRecDepth 100000 in
theorem spec_NameOk.calls (k : Nat) (A0_0 : Option Addr) (c0_0 : Nat) (l0_0 : List (List Int)) (r : Bool) (w : World) (hr0_0 : Kd.C (Kd.slice 5 (Kd.int .u8)) w A0_0 l0_0.length l0_0) (hc0_0 : l0_0.length ≤ c0_0) (h : spec_NameOk.f k l0_0 = some r) :
  Calls Try.prog 26 #[.agg #[.slice A0_0 l0_0.length c0_0]] w fun e w' => e = .returned (.bool r) ∧ Below w.heap.size w w' := by
 have hu28 := Try.underlying28
 have HR0_0 := ak hr0_0
 have HC0_0 := ak hc0_0
 clear hr0_0 hc0_0
 have HB := ak (Below.refl w.heap.size w)
 have H : (if (l0_0.length : Int) > 6 then (some false) else (spec_NameOk.l0 k 0 l0_0)) = some r := h
 clear h
 replace H := ig H
 obtain ⟨c2b0, H⟩ | ⟨c2b0, H⟩ := H
 ·have c2b1 : decide (6 < l0_0.length) = true := decide_eq_true (by have := of_decide_eq_true c2b0; omega)
  obtain rfl := Option.some.inj H
  go_enter Try.func26, Try.ntmps26
  go_wp2_with (((with_reducible refine gate_dst (N := 1) rfl ?_);refine bxd (N := 1) rfl HB ?_;clear HB;intro gb101 w3 hg HB BK101 GE101 hb;have GW101 := GE101;clear hb hg;obtain ⟨hcz4_0, hfz4_0⟩ := cells1 BK101.out))
  go_ret
  exact ⟨o1, bs⟩
 ·have c2b1 : decide (6 < l0_0.length) = false := decide_eq_false (by have := of_decide_eq_false c2b0; omega)
  have H' := ak H
  clear H
  go_enter Try.func26, Try.ntmps26
  go_wp2_with (((with_reducible refine gate_dst (N := 1) rfl ?_);refine bxd (N := 1) rfl HB ?_;clear HB;intro gb101 w5 hg HB BK101 GE101 hb;have GW101 := GE101;clear hb hg;obtain ⟨hcz6_0, hfz6_0⟩ := cells1 BK101.out))
  go_loopg [3] k (fun kq v3 w' => ∃ (x3_1 : Int), v3 = .int .i64 x3_1 ∧ Aside0 (spec_NameOk.l0 kq x3_1 l0_0 = some r) ∧ Aside0 (kq ≤ k) ∧ Aside0 (w'.heap[gb101]? = some (.cells #[(.slice A0_0 l0_0.length c0_0)] 28 (0, 0))) ∧ Aside0 (Below w.heap.size w w'))
  case atStart => exact ⟨(0), o2, H', ⟨Nat.le_refl _⟩, ⟨bk BK101.out⟩, ⟨bs⟩⟩
  case round =>
   clear H'
   (try clear c2b0)
   (try clear c2b1)
   (try clear hcz6_0)
   (try clear hfz6_0)
   obtain ⟨x3_1, rfl, HA, HK1, BK101, HB⟩ := hrel
   cases gk with
   | zero => exact absurd HA.out (by simp [spec_NameOk.l0])
   | succ k1 =>
    have H := HA.out
    clear HA
    simp only [spec_NameOk.l0] at H
    replace H := ip H
    obtain ⟨c7b0, H⟩ | ⟨c7b0, H⟩ := H
    ·replace H := ipN H
     obtain ⟨c8b0, H⟩ := H
     replace H := bnd H
     obtain ⟨t103, A9, H⟩ := H
     replace H := ib H
     obtain ⟨rfl, H⟩ | ⟨rfl, H⟩ := H
     ·have H' := ak H
      clear H
      obtain ⟨hcz11_0, hfz11_0⟩ := cells1 BK101.out
      obtain ⟨ad102, A102_0, c102_0, rfl, hx102_0, HC102_0, HR102_0, p102, q102⟩ := el_L10 HR0_0 HB x3_1
      go_wp2_with (((with_reducible refine gate_callee (f := 47) rfl ?_);refine glD 20 rfl rfl Try.func47 (spec_LabelOk.calls k1 _ _ (rd_L10 l0_0 x3_1) true _ (cv HR102_0 HB) HC102_0.out A9.out) (fun nd => ?_)))
      go_roundg k1
      case measure => have := HK1.out; omega
      case rel => exact ⟨(wrap64 (x3_1 + 1)), o2, H', ⟨by have := HK1.out; omega⟩, ⟨bk BK101.out⟩, ⟨bs⟩⟩
     ·obtain rfl := Option.some.inj H
      obtain ⟨hcz12_0, hfz12_0⟩ := cells1 BK101.out
      obtain ⟨ad102, A102_0, c102_0, rfl, hx102_0, HC102_0, HR102_0, p102, q102⟩ := el_L10 HR0_0 HB x3_1
      go_wp2_with (((with_reducible refine gate_callee (f := 47) rfl ?_);refine glD 20 rfl rfl Try.func47 (spec_LabelOk.calls k1 _ _ (rd_L10 l0_0 x3_1) false _ (cv HR102_0 HB) HC102_0.out A9.out) (fun nd => ?_)))
      go_ret
      exact ⟨o1, bs⟩
    ·obtain rfl := Option.some.inj H
     obtain ⟨hcz13_0, hfz13_0⟩ := cells1 BK101.out
     go_wp2
     go_ret
     exact ⟨o1, bs⟩

/-! ### slices_IndexFunc_byte_byte_76: function 76 -/

set_option maxHeartbeats 2000000 in
theorem slices_IndexFunc_byte_byte_76.calls (g : Nat) (lb : Array Value) (eg : ∀ args w, (callFunc g args).run Try.prog w = .ok (.enter g args) w) (p : List Int → Bool) (A0 : Option Addr) (c0 : Nat) (l0 : List (List Int)) (w : World) (hr0 : Kd.C (Kd.slice 5 (Kd.int .u8)) w A0 l0.length l0)
  (hp : ∀ (W : World) (A : Option Addr) (c : Nat) (x : List Int), Below w.heap.size w W → Kd.C (Kd.int .u8) W A x.length x → x.length ≤ c → Calls Try.prog g (#[.slice A x.length c] ++ lb) W fun e w' => e = .returned (.bool (p x)) ∧ Below w.heap.size w w') :
  Calls Try.prog 76 #[.slice A0 l0.length c0, .func (.func g) #[] lb] w fun e w' => (∃ r : Int, e = .returned (.int .i64 r) ∧ decide (0 ≤ r) = l0.any p) ∧ Below w.heap.size w w' := by
 have HR0 := ak hr0
 have hbig : l0.length ≤ 9223372036854775807 := hr0.2.1
 have HP := ak hp
 clear hr0 hp
 go_enter Try.func76, Try.ntmps76
 go_wp2
 go_loopg [5, 8] l0.length (fun gg _ s8 wr => ∃ kk : Nat, kk ≤ l0.length ∧ l0.length - kk ≤ gg ∧ s8 = .int .i64 kk ∧ Aside0 (Below w.heap.size w wr) ∧ Aside0 ((l0.take kk).any p = false))
 case atStart => exact ⟨0, Nat.zero_le _, by omega, rfl, ⟨Below.refl _ w⟩, ⟨by simp⟩⟩
 case round =>
  obtain ⟨kk, hkk, hg, rfl, BW, AF⟩ := hrel
  by_cases hlt : kk < l0.length
  ·obtain ⟨ad, A1, c1, rfl, hcell, hc1, hC1⟩ := at_L10 HR0.out (kk : Int) (by omega) (by omega)
   replace hcell := pw_cell_below BW.out hcell
   have hcall := HP.out wr A1 c1 (rd_L10 l0 (kk : Int)) BW.out (Kd.C_below hC1 BW.out) hc1
   have hx : Aside0 (l0.take (kk + 1) = l0.take kk ++ [rd_L10 l0 (kk : Int)]) := ⟨by
    rw [List.take_succ_eq_append_getElem hlt]; simp [rd_L10, List.getD_eq_getElem?_getD, hlt]⟩
   clear hC1 hc1
   generalize rd_L10 l0 (kk : Int) = y at hcell hcall hx
   have hltz : (kk : Int) < (l0.length : Int) := by omega
   rw [show ((kk : Int)).toNat = kk from by omega] at hcell
   cases hq : p y with
   | true =>
    rw [hq] at hcall
    go_wp2_with (go_at_fn g; refine hcall.mono ?_; rintro e w' ⟨rfl, hb'⟩)
    go_ret
    refine ⟨⟨_, rfl, ?_⟩, hb'⟩
    have : l0.any p = true := by
     rw [← List.take_append_drop (kk + 1) l0, hx.out]; simp [hq]
    rw [this]; simp
   | false =>
    rw [hq] at hcall
    go_wp2_with (go_at_fn g; refine hcall.mono ?_; rintro e w' ⟨rfl, hb'⟩)
    go_roundg (l0.length - (kk + 1))
    case measure => omega
    case rel => exact ⟨kk + 1, by omega, by omega, by go_num, ⟨hb'⟩, ⟨by rw [hx.out, List.any_append, AF.out]; simp [hq]⟩⟩
  ·have hltz : ¬ (kk : Int) < (l0.length : Int) := by omega
   go_wp2
   go_ret
   refine ⟨⟨_, rfl, ?_⟩, BW.out⟩
   have := AF.out
   rw [List.take_of_length_le (by omega)] at this
   rw [this]; rfl

/-! ### slices_ContainsFunc_byte_byte_61: function 61 -/

set_option maxHeartbeats 2000000 in
theorem slices_ContainsFunc_byte_byte_61.calls (g : Nat) (lb : Array Value) (eg : ∀ args w, (callFunc g args).run Try.prog w = .ok (.enter g args) w) (p : List Int → Bool) (A0 : Option Addr) (c0 : Nat) (l0 : List (List Int)) (w : World) (hr0 : Kd.C (Kd.slice 5 (Kd.int .u8)) w A0 l0.length l0)
  (hp : ∀ (W : World) (A : Option Addr) (c : Nat) (x : List Int), Below w.heap.size w W → Kd.C (Kd.int .u8) W A x.length x → x.length ≤ c → Calls Try.prog g (#[.slice A x.length c] ++ lb) W fun e w' => e = .returned (.bool (p x)) ∧ Below w.heap.size w w') :
  Calls Try.prog 61 #[.slice A0 l0.length c0, .func (.func g) #[] lb] w fun e w' => e = .returned (.bool (l0.any p)) ∧ Below w.heap.size w w' := by
 have hc := slices_IndexFunc_byte_byte_76.calls g lb eg p A0 c0 l0 w hr0 hp
 generalize l0.any p = q at hc ⊢
 clear hp hr0
 go_enter Try.func61, Try.ntmps61
 go_wp2_with (go_at_call 76; refine hc.mono ?_; rintro e w' ⟨⟨r, rfl, rfl⟩, hb'⟩)
 go_ret
 exact ⟨rfl, hb'⟩

/-! ### impl_all_byte_1_62: function 62 -/

set_option maxHeartbeats 2000000 in
/-- What is handed to ContainsFunc: the predicate's contrary; the predicate lies in a variable. -/
theorem impl_all_byte_1_62.calls (g : Nat) (lb : Array Value) (eg : ∀ args w, (callFunc g args).run Try.prog w = .ok (.enter g args) w) (q : Bool) (A : Option Addr) (n c : Nat) (B : Nat) (w w0 : World) (hv : w.cell? ⟨B, 0, none⟩ = some (.func (.func g) #[] lb))
  (hp : Calls Try.prog g (#[.slice A n c] ++ lb) w fun e w' => e = .returned (.bool q) ∧ Below w0.heap.size w0 w') :
  Calls Try.prog 62 #[.slice A n c, .pointer (some ⟨B, 0, none⟩)] w fun e w' => e = .returned (.bool (!q)) ∧ Below w0.heap.size w0 w' := by
 go_enter Try.func62, Try.ntmps62
 go_wp2_with (go_at_fn g; refine hp.mono ?_; rintro e w' ⟨rfl, hb'⟩)
 go_ret
 exact ⟨rfl, hb'⟩

/-! ### impl_all_byte_48: function 48 -/

set_option maxHeartbeats 2000000 in
theorem impl_all_byte_48.calls (g : Nat) (lb : Array Value) (eg : ∀ args w, (callFunc g args).run Try.prog w = .ok (.enter g args) w) (p : List Int → Bool) (A0 : Option Addr) (c0 : Nat) (l0 : List (List Int)) (w : World) (hr0 : Kd.C (Kd.slice 5 (Kd.int .u8)) w A0 l0.length l0)
  (hp : ∀ (W : World) (A : Option Addr) (c : Nat) (x : List Int), Below w.heap.size w W → Kd.C (Kd.int .u8) W A x.length x → x.length ≤ c → Calls Try.prog g (#[.slice A x.length c] ++ lb) W fun e w' => e = .returned (.bool (p x)) ∧ Below W.heap.size W w') :
  Calls Try.prog 48 #[.slice A0 l0.length c0, .func (.func g) #[] lb] w fun e w' => e = .returned (.bool (l0.all p)) ∧ Below w.heap.size w w' := by
 have eg2 : ∀ args w, (callFunc 62 args).run Try.prog w = .ok (.enter 62 args) w := enters_of Try.func62 (by kernel_rfl) rfl
 have hb0 : Below w.heap.size w (w.alloc (.cells #[.func (.func g) #[] lb] 36)) := below_alloc (Below.refl _ _) _
 have hc := slices_ContainsFunc_byte_byte_61.calls 62 #[.pointer (some ⟨w.heap.size, 0, none⟩)] eg2 (fun x => !p x) A0 c0 l0 (w.alloc (.cells #[.func (.func g) #[] lb] 36)) (Kd.C_below hr0 hb0) (fun W A c x hW hC hc =>
  impl_all_byte_1_62.calls g lb eg (p x) A x.length c w.heap.size W _ ((hW.cell (p := ⟨w.heap.size, 0, none⟩) (by simp)).trans (by simp)) ((hp W A c x (hb0.trans (hW.mono (by simp))) hC hc).mono fun e w' ⟨he, hb⟩ => ⟨he, hW.trans (hb.mono hW.size)⟩))
 have e1 : (l0.any fun x => !p x) = !(l0.all p) := by rw [List.all_eq_not_any_not]; simp
 rw [e1] at hc
 generalize l0.all p = q at hc ⊢
 clear hp hr0 e1
 go_enter Try.func48, Try.ntmps48
 go_wp2_with (go_at_call 61; refine hc.mono ?_; rintro e w' ⟨rfl, hb'⟩)
 go_ret
 exact ⟨by simp, hb0.trans (hb'.mono (by simp))⟩

/-! ### slices_IndexFunc_byte_byte_83: function 83 -/

set_option maxHeartbeats 2000000 in
theorem slices_IndexFunc_byte_byte_83.calls (g : Nat) (lb : Array Value) (eg : ∀ args w, (callFunc g args).run Try.prog w = .ok (.enter g args) w) (p : Int → Bool) (A0 : Option Addr) (c0 : Nat) (l0 : List Int) (w : World) (hr0 : Kd.C (Kd.int .u8) w A0 l0.length l0)
  (hp : ∀ (W : World) (x : Int), Below w.heap.size w W → Calls Try.prog g (#[.int .u8 x] ++ lb) W fun e w' => e = .returned (.bool (p x)) ∧ Below w.heap.size w w') :
  Calls Try.prog 83 #[.slice A0 l0.length c0, .func (.func g) #[] lb] w fun e w' => (∃ r : Int, e = .returned (.int .i64 r) ∧ decide (0 ≤ r) = l0.any p) ∧ Below w.heap.size w w' := by
 have HR0 := ak hr0
 have hbig : l0.length ≤ 9223372036854775807 := hr0.2.1
 have HP := ak hp
 clear hr0 hp
 go_enter Try.func83, Try.ntmps83
 go_wp2
 go_loopg [5, 8] l0.length (fun gg _ s8 wr => ∃ kk : Nat, kk ≤ l0.length ∧ l0.length - kk ≤ gg ∧ s8 = .int .i64 kk ∧ Aside0 (Below w.heap.size w wr) ∧ Aside0 ((l0.take kk).any p = false))
 case atStart => exact ⟨0, Nat.zero_le _, by omega, rfl, ⟨Below.refl _ w⟩, ⟨by simp⟩⟩
 case round =>
  obtain ⟨kk, hkk, hg, rfl, BW, AF⟩ := hrel
  by_cases hlt : kk < l0.length
  ·obtain ⟨ad, rfl, hcell⟩ := Kd.at_int HR0.out (kk : Int) (by omega) (by omega)
   replace hcell := pw_cell_below BW.out hcell
   have hcall := HP.out wr (rd l0 (kk : Int)) BW.out
   have hx : Aside0 (l0.take (kk + 1) = l0.take kk ++ [rd l0 (kk : Int)]) := ⟨by
    rw [List.take_succ_eq_append_getElem hlt]; simp [rd, List.getD_eq_getElem?_getD, hlt]⟩
   generalize rd l0 (kk : Int) = y at hcell hcall hx
   have hltz : (kk : Int) < (l0.length : Int) := by omega
   rw [show ((kk : Int)).toNat = kk from by omega] at hcell
   cases hq : p y with
   | true =>
    rw [hq] at hcall
    go_wp2_with (go_at_fn g; refine hcall.mono ?_; rintro e w' ⟨rfl, hb'⟩)
    go_ret
    refine ⟨⟨_, rfl, ?_⟩, hb'⟩
    have : l0.any p = true := by
     rw [← List.take_append_drop (kk + 1) l0, hx.out]; simp [hq]
    rw [this]; simp
   | false =>
    rw [hq] at hcall
    go_wp2_with (go_at_fn g; refine hcall.mono ?_; rintro e w' ⟨rfl, hb'⟩)
    go_roundg (l0.length - (kk + 1))
    case measure => omega
    case rel => exact ⟨kk + 1, by omega, by omega, by go_num, ⟨hb'⟩, ⟨by rw [hx.out, List.any_append, AF.out]; simp [hq]⟩⟩
  ·have hltz : ¬ (kk : Int) < (l0.length : Int) := by omega
   go_wp2
   go_ret
   refine ⟨⟨_, rfl, ?_⟩, BW.out⟩
   have := AF.out
   rw [List.take_of_length_le (by omega)] at this
   rw [this]; rfl

/-! ### slices_ContainsFunc_byte_byte_77: function 77 -/

set_option maxHeartbeats 2000000 in
theorem slices_ContainsFunc_byte_byte_77.calls (g : Nat) (lb : Array Value) (eg : ∀ args w, (callFunc g args).run Try.prog w = .ok (.enter g args) w) (p : Int → Bool) (A0 : Option Addr) (c0 : Nat) (l0 : List Int) (w : World) (hr0 : Kd.C (Kd.int .u8) w A0 l0.length l0)
  (hp : ∀ (W : World) (x : Int), Below w.heap.size w W → Calls Try.prog g (#[.int .u8 x] ++ lb) W fun e w' => e = .returned (.bool (p x)) ∧ Below w.heap.size w w') :
  Calls Try.prog 77 #[.slice A0 l0.length c0, .func (.func g) #[] lb] w fun e w' => e = .returned (.bool (l0.any p)) ∧ Below w.heap.size w w' := by
 have hc := slices_IndexFunc_byte_byte_83.calls g lb eg p A0 c0 l0 w hr0 hp
 generalize l0.any p = q at hc ⊢
 clear hp hr0
 go_enter Try.func77, Try.ntmps77
 go_wp2_with (go_at_call 83; refine hc.mono ?_; rintro e w' ⟨⟨r, rfl, rfl⟩, hb'⟩)
 go_ret
 exact ⟨rfl, hb'⟩

/-! ### impl_all_byte_1_78: function 78 -/

set_option maxHeartbeats 2000000 in
/-- What is handed to ContainsFunc: the predicate's contrary; the predicate lies in a variable. -/
theorem impl_all_byte_1_78.calls (g : Nat) (lb : Array Value) (eg : ∀ args w, (callFunc g args).run Try.prog w = .ok (.enter g args) w) (q : Bool) (x : Int) (B : Nat) (w w0 : World) (hv : w.cell? ⟨B, 0, none⟩ = some (.func (.func g) #[] lb))
  (hp : Calls Try.prog g (#[.int .u8 x] ++ lb) w fun e w' => e = .returned (.bool q) ∧ Below w0.heap.size w0 w') :
  Calls Try.prog 78 #[.int .u8 x, .pointer (some ⟨B, 0, none⟩)] w fun e w' => e = .returned (.bool (!q)) ∧ Below w0.heap.size w0 w' := by
 go_enter Try.func78, Try.ntmps78
 go_wp2_with (go_at_fn g; refine hp.mono ?_; rintro e w' ⟨rfl, hb'⟩)
 go_ret
 exact ⟨rfl, hb'⟩

/-! ### impl_all_byte_63: function 63 -/

set_option maxHeartbeats 2000000 in
theorem impl_all_byte_63.calls (g : Nat) (lb : Array Value) (eg : ∀ args w, (callFunc g args).run Try.prog w = .ok (.enter g args) w) (p : Int → Bool) (A0 : Option Addr) (c0 : Nat) (l0 : List Int) (w : World) (hr0 : Kd.C (Kd.int .u8) w A0 l0.length l0)
  (hp : ∀ (W : World) (x : Int), Below w.heap.size w W → Calls Try.prog g (#[.int .u8 x] ++ lb) W fun e w' => e = .returned (.bool (p x)) ∧ Below W.heap.size W w') :
  Calls Try.prog 63 #[.slice A0 l0.length c0, .func (.func g) #[] lb] w fun e w' => e = .returned (.bool (l0.all p)) ∧ Below w.heap.size w w' := by
 have eg2 : ∀ args w, (callFunc 78 args).run Try.prog w = .ok (.enter 78 args) w := enters_of Try.func78 (by kernel_rfl) rfl
 have hb0 : Below w.heap.size w (w.alloc (.cells #[.func (.func g) #[] lb] 79)) := below_alloc (Below.refl _ _) _
 have hc := slices_ContainsFunc_byte_byte_77.calls 78 #[.pointer (some ⟨w.heap.size, 0, none⟩)] eg2 (fun x => !p x) A0 c0 l0 (w.alloc (.cells #[.func (.func g) #[] lb] 79)) (Kd.C_below hr0 hb0) (fun W x hW =>
  impl_all_byte_1_78.calls g lb eg (p x) x w.heap.size W _ ((hW.cell (p := ⟨w.heap.size, 0, none⟩) (by simp)).trans (by simp)) ((hp W x (hb0.trans (hW.mono (by simp)))).mono fun e w' ⟨he, hb⟩ => ⟨he, hW.trans (hb.mono hW.size)⟩))
 have e1 : (l0.any fun x => !p x) = !(l0.all p) := by rw [List.all_eq_not_any_not]; simp
 rw [e1] at hc
 generalize l0.all p = q at hc ⊢
 clear hp hr0 e1
 go_enter Try.func63, Try.ntmps63
 go_wp2_with (go_at_call 77; refine hc.mono ?_; rintro e w' ⟨rfl, hb'⟩)
 go_ret
 exact ⟨by simp, hb0.trans (hb'.mono (by simp))⟩

/-! ### impl_LabelOk_1: function 64 -/
def impl_LabelOk_1.f (a0 : Int) : Option (Bool) := if a0 ≥ 97 then (if a0 ≤ 122 then (some true) else (if a0 ≥ 48 then (if a0 ≤ 57 then (some true) else (some (a0 == 45))) else (some (a0 == 45)))) else (if a0 ≥ 48 then (if a0 ≤ 57 then (some true) else (some (a0 == 45))) else (some (a0 == 45)))
set_option maxHeartbeats 8000000 in
set_option maxRecDepth 100000 in
theorem impl_LabelOk_1.calls (a0 : Int) (r : Bool) (w : World) (h : impl_LabelOk_1.f a0 = some r) :
  Calls Try.prog 64 #[.int .u8 a0] w fun e w' => e = .returned (.bool r) ∧ Drawn0 w w' := by
 have H : (if a0 ≥ 97 then (if a0 ≤ 122 then (some true) else (if a0 ≥ 48 then (if a0 ≤ 57 then (some true) else (some (a0 == 45))) else (some (a0 == 45)))) else (if a0 ≥ 48 then (if a0 ≤ 57 then (some true) else (some (a0 == 45))) else (some (a0 == 45)))) = some r := h
 clear h
 replace H := ih H
 obtain ⟨c2b0, H⟩ | ⟨c2b0, H⟩ := H
 ·replace H := ip H
  obtain ⟨c3b0, H⟩ | ⟨c3b0, H⟩ := H
  ·obtain rfl := Option.some.inj H
   go_enter Try.func64, Try.ntmps64
   go_wp2
   go_ret
   exact ⟨o2, od⟩
  ·replace H := ih H
   obtain ⟨c4b0, H⟩ | ⟨c4b0, H⟩ := H
   ·replace H := ip H
    obtain ⟨c5b0, H⟩ | ⟨c5b0, H⟩ := H
    ·obtain rfl := Option.some.inj H
     go_enter Try.func64, Try.ntmps64
     go_wp2
     go_ret
     exact ⟨o2, od⟩
    ·obtain rfl := Option.some.inj H
     go_enter Try.func64, Try.ntmps64
     go_wp2
     go_ret
     exact ⟨o2, od⟩
   ·obtain rfl := Option.some.inj H
    go_enter Try.func64, Try.ntmps64
    go_wp2
    go_ret
    exact ⟨o2, od⟩
 ·replace H := ih H
  obtain ⟨c6b0, H⟩ | ⟨c6b0, H⟩ := H
  ·replace H := ip H
   obtain ⟨c7b0, H⟩ | ⟨c7b0, H⟩ := H
   ·obtain rfl := Option.some.inj H
    go_enter Try.func64, Try.ntmps64
    go_wp2
    go_ret
    exact ⟨o2, od⟩
   ·obtain rfl := Option.some.inj H
    go_enter Try.func64, Try.ntmps64
    go_wp2
    go_ret
    exact ⟨o2, od⟩
  ·obtain rfl := Option.some.inj H
   go_enter Try.func64, Try.ntmps64
   go_wp2
   go_ret
   exact ⟨o2, od⟩

/-! ### impl_LabelOk: function 49 -/

def impl_LabelOk.byte (x : Int) : Bool := (decide (97 ≤ x) && decide (x ≤ 122)) || (decide (48 ≤ x) && decide (x ≤ 57)) || x == 45
theorem impl_LabelOk.byte_f (x : Int) : impl_LabelOk_1.f x = some (impl_LabelOk.byte x) := by
 unfold impl_LabelOk_1.f impl_LabelOk.byte
 by_cases h1 : 97 ≤ x <;> by_cases h2 : x ≤ 122 <;> by_cases h3 : 48 ≤ x <;> by_cases h4 : x ≤ 57 <;> by_cases h5 : x = 45 <;> simp [*] <;> omega
def impl_LabelOk.v (l0 : List Int) : Bool := decide (1 ≤ l0.length) && decide (l0.length ≤ 15) && l0.all impl_LabelOk.byte
def impl_LabelOk.f (l0 : List Int) : Option Bool := some (impl_LabelOk.v l0)
set_option maxHeartbeats 8000000 in
set_option maxRecDepth 100000 in
theorem impl_LabelOk.calls (A0 : Option Addr) (c0 : Nat) (l0 : List Int) (r : Bool) (w : World) (hr0 : Kd.C (Kd.int .u8) w A0 l0.length l0) (hc0 : l0.length ≤ c0) (h : impl_LabelOk.f l0 = some r) :
  Calls Try.prog 49 #[.slice A0 l0.length c0] w fun e w' => e = .returned (.bool r) ∧ Below w.heap.size w w' := by
 have eg : ∀ args w, (callFunc 64 args).run Try.prog w = .ok (.enter 64 args) w := enters_of Try.func64 (by kernel_rfl) rfl
 have ha := impl_all_byte_63.calls 64 #[] eg impl_LabelOk.byte A0 c0 l0 w hr0 (fun W x hW => (impl_LabelOk_1.calls x _ W (impl_LabelOk.byte_f x)).mono fun e w' ⟨he, hd⟩ => ⟨he, hd.below⟩)
 have hbig : l0.length ≤ 9223372036854775807 := hr0.2.1
 have hrv : r = impl_LabelOk.v l0 := (Option.some.inj h).symm
 subst hrv
 unfold impl_LabelOk.v
 clear h hr0
 generalize l0.all impl_LabelOk.byte = q at ha ⊢
 by_cases h1 : 1 ≤ l0.length
 ·by_cases h2 : l0.length ≤ 15
  ·rw [decide_eq_true h1, decide_eq_true h2]
   simp only [Bool.true_and]
   go_enter Try.func49, Try.ntmps49
   go_wp2_with (first | (go_at_call 63;refine ha.mono ?_;rintro e w' ⟨rfl, hb'⟩) | (go_at_call 58;go_in))
   go_ret
   exact ⟨rfl, hb'⟩
  ·rw [decide_eq_true h1, decide_eq_false h2]
   simp only [Bool.and_false, Bool.false_and]
   go_enter Try.func49, Try.ntmps49
   go_wp2
   go_ret
   exact ⟨rfl, Below.refl _ _⟩
 ·rw [decide_eq_false h1]
  simp only [Bool.false_and]
  go_enter Try.func49, Try.ntmps49
  go_wp2
  go_ret
  exact ⟨rfl, Below.refl _ _⟩

/-! ### impl_NameOk: function 29 -/

def impl_NameOk.v (l : List (List Int)) : Bool := decide (l.length ≤ 6) && l.all impl_LabelOk.v
def impl_NameOk.f (l : List (List Int)) : Option Bool := some (impl_NameOk.v l)
set_option maxHeartbeats 8000000 in
set_option maxRecDepth 100000 in
theorem impl_NameOk.calls (A0_0 : Option Addr) (c0_0 : Nat) (l0_0 : List (List Int)) (r : Bool) (w : World) (hr0_0 : Kd.C (Kd.slice 5 (Kd.int .u8)) w A0_0 l0_0.length l0_0) (hc0_0 : l0_0.length ≤ c0_0) (h : impl_NameOk.f l0_0 = some r) :
  Calls Try.prog 29 #[.agg #[.slice A0_0 l0_0.length c0_0]] w fun e w' => e = .returned (.bool r) ∧ Below w.heap.size w w' := by
 have hu := Try.underlying28
 have eg : ∀ args w, (callFunc 49 args).run Try.prog w = .ok (.enter 49 args) w := enters_of Try.func49 (by kernel_rfl) rfl
 have hb0 : Below w.heap.size w (w.alloc (.cells #[.slice A0_0 l0_0.length c0_0] 28)) := below_alloc (Below.refl _ _) _
 have ha := fun (W : World) (hW : Below w.heap.size w W) => impl_all_byte_48.calls 49 #[] eg impl_LabelOk.v A0_0 c0_0 l0_0 W (Kd.C_below hr0_0 hW) (fun W2 A c x hW2 hC hc => (impl_LabelOk.calls A c x _ W2 hC hc rfl))
 have hbig : l0_0.length ≤ 9223372036854775807 := hr0_0.2.1
 have hrv : r = impl_NameOk.v l0_0 := (Option.some.inj h).symm
 subst hrv
 unfold impl_NameOk.v
 clear h hr0_0
 have HA := ak ha
 clear ha
 generalize l0_0.all impl_LabelOk.v = q at HA ⊢
 by_cases h2 : l0_0.length ≤ 6
 ·rw [decide_eq_true h2]
  simp only [Bool.true_and]
  go_enter Try.func29, Try.ntmps29
  go_wp2_with (go_at_call 48; refine (HA.out _ hb0).mono ?_; rintro e w' ⟨rfl, hb'⟩)
  go_ret
  exact ⟨rfl, hb0.trans (hb'.mono (by simp))⟩
 ·rw [decide_eq_false h2]
  simp only [Bool.false_and]
  go_enter Try.func29, Try.ntmps29
  go_wp2
  go_ret
  exact ⟨rfl, hb0⟩

/-! ### impl_within: function 58 -/
def impl_within.f (a0 : Int) (a1 : Int) (a2 : Int) : Option (Bool) := if a1 ≤ a0 then (some (decide (a0 ≤ a2))) else (some false)
set_option maxHeartbeats 8000000 in
set_option maxRecDepth 100000 in
theorem impl_within.calls (a0 : Int) (a1 : Int) (a2 : Int) (r : Bool) (w : World) (h : impl_within.f a0 a1 a2 = some r) :
  Calls Try.prog 58 #[.int .i64 a0, .int .i64 a1, .int .i64 a2] w fun e w' => e = .returned (.bool r) ∧ Drawn0 w w' := by
 have H : (if a1 ≤ a0 then (some (decide (a0 ≤ a2))) else (some false)) = some r := h
 clear h
 replace H := ip H
 obtain ⟨c4b0, H⟩ | ⟨c4b0, H⟩ := H
 ·obtain rfl := Option.some.inj H
  go_enter Try.func58, Try.ntmps58
  go_wp2
  go_ret
  exact ⟨o2, od⟩
 ·obtain rfl := Option.some.inj H
  go_enter Try.func58, Try.ntmps58
  go_wp2
  go_ret
  exact ⟨o2, od⟩

section
variable {P P' : Nat → Prop} {w w' w2 : World} {base : Nat}
end
section
variable {α : Type} {d : Kd α} {e base a b a' b' g : Nat} {ok P : Nat → Prop} {w w' : World} {v : Value} {xs : List α} {o : Obj}
end
/-! ### laws_markByteSS: function 31 -/

/-! ### laws_markName: function 13 -/

/-! ### spec_l2put: function 43 -/

attribute [local go_sem ↓] Go.wp_at_zero Go.wp_at_succ
/-- The labels of a name as they stand in messages, without the end. -/
def spec_l2put.w : List (List Int) → List Int
 | [] => []
 | x :: l => ((x.length : Int) % 256) :: (x ++ spec_l2put.w l)
theorem spec_l2put.w_snoc (l : List (List Int)) (x : List Int) : spec_l2put.w (l ++ [x]) = spec_l2put.w l ++ [(x.length : Int) % 256] ++ x := by
 induction l with
 | nil => simp [spec_l2put.w]
 | cons y l ih => simp [spec_l2put.w, ih]
theorem spec_l2put.w_take (l : List (List Int)) : ∀ k, (spec_l2put.w (l.take k)).length ≤ (spec_l2put.w l).length := by
 induction l with
 | nil => intro k; simp
 | cons y l ih =>
  intro k
  cases k with
  | zero => simp [spec_l2put.w]
  | succ k => have := ih k; simp only [List.take_succ_cons, spec_l2put.w, List.length_cons, List.length_append]; omega
def spec_l2put.f (l0 : List Int) (l1_0 : List (List Int)) : Option (List Int) := if l0.length + (spec_l2put.w l1_0).length + 1 < 140737488355328 then some (l0 ++ spec_l2put.w l1_0 ++ [0]) else none
theorem spec_l2put.inner {w : World} {S : Nat → Prop} {A : Option Addr} {l : List (List Int)} (h : ∀ W', Kept w W' S → Kd.C (Kd.slice 5 (Kd.int .u8)) W' A l.length l) (i : Nat) (hi : i < l.length) :
  ∃ ad A0 c0, A = some ad ∧ (∀ W', Kept w W' S → W'.cell? (ad.add i) = some (.slice A0 (rd_L10 l (i : Int)).length c0)) ∧ (rd_L10 l (i : Int)).length ≤ c0 ∧ ∀ W', Kept w W' S → (Kd.int .u8).C W' A0 (rd_L10 l (i : Int)).length (rd_L10 l (i : Int)) := by
 obtain ⟨ad, A0, c0, rfl, hx, hl, hc⟩ := at_L10 (h w (Kept.refl w S)) (i : Int) (by omega) (by omega)
 rw [show ((i : Int)).toNat = i from by omega] at hx
 have hn := Kd.foot_neS h (by omega) (show 0 < (Kd.slice 5 (Kd.int .u8)).sz from by decide)
 have hcell : ∀ W', Kept w W' S → W'.cell? (ad.add i) = some (.slice A0 (rd_L10 l (i : Int)).length c0) := fun W' hk => cell_kept hx hk (by rw [add_block]; exact hn)
 refine ⟨ad, A0, c0, rfl, hcell, hl, fun W' hk => ?_⟩
 obtain ⟨ad2, A2, c2, e, hx2, _, hc2⟩ := at_L10 (h W' hk) (i : Int) (by omega) (by omega)
 injection e with e
 subst e
 rw [show ((i : Int)).toNat = i from by omega, hcell W' hk] at hx2
 injection hx2 with hx2
 injection hx2 with e1 e2 e3
 subst e1
 exact hc2
theorem spec_l2put.swap (W : World) (o : Obj) : (W.alloc o).drew = (W.drew).alloc o := rfl
theorem spec_l2put.step {c : Prop} [Decidable c] {A B E : Prop} (hc : c) (h : if c then A else B) : if c then A else E := by rw [if_pos hc] at h ⊢; exact h
set_option maxHeartbeats 8000000 in
set_option maxRecDepth 100000 in
theorem spec_l2put.calls (P0_ : Nat → Prop) (u9000_ : Value) (l0 : List Int) (A1_0 : Option Addr) (c1_0 : Nat) (l1_0 : List (List Int)) (r : List Int) (w0 w : World) (hB : Below w0.heap.size w0 w) (ho0 : Kd.R (Kd.int .u8) 5 w w0.heap.size P0_ u9000_ l0) (hr1_0 : ∀ W_, Kept w W_ (fun k_ => P0_ k_) → Kd.C (Kd.slice 5 (Kd.int .u8)) W_ A1_0 l1_0.length l1_0) (hc1_0 : l1_0.length ≤ c1_0) (h : spec_l2put.f l0 l1_0 = some r) :
  Calls Try.prog 43 #[u9000_, .agg #[.slice A1_0 l1_0.length c1_0]] w fun e w' => ∃ v0_ : Value, e = .returned (v0_) ∧ Kd.R (Kd.int .u8) 5 w' w0.heap.size (fun k_ => (P0_ k_ ∨ w.heap.size ≤ k_)) v0_ r ∧ Below w0.heap.size w0 w' ∧ Kept w w' (fun k_ => P0_ k_) := by
 have HO0 := ak (show Kd.R (Kd.int .u8) 5 w w0.heap.size (fun k_ => (P0_ k_ ∨ w.heap.size ≤ k_)) u9000_ l0 from Kd.R_mono ho0 (fun k_ hk => (.inl hk)))
 have HK := ak (Kept.refl w (fun k_ => P0_ k_))
 have HB := ak hB
 have HI := ak (spec_l2put.inner hr1_0)
 have hbig : l1_0.length ≤ 9223372036854775807 := (hr1_0 w (Kept.refl _ _)).2.1
 have HLM : Aside0 (l0.length + (spec_l2put.w l1_0).length + 1 < 140737488355328) := by
  unfold spec_l2put.f at h; split at h
  ·exact ⟨by assumption⟩
  ·cases h
 have hr : l0 ++ spec_l2put.w l1_0 ++ [0] = r := by
  unfold spec_l2put.f at h; rw [if_pos HLM.out] at h; exact Option.some.inj h
 subst hr
 clear hr1_0 hc1_0 h hB ho0
 go_enter Try.func43, Try.ntmps43
 go_wp2_with (((with_reducible refine gate_dst (N := 3) rfl ?_);refine bxe (N := 3) rfl ?_;intro gb101 hg w2 hbox hb;replace HB := b2 HB hb;have BK101 := ak (hbox);replace HK := ak (Kept.below (by repeat (first | (with_reducible first | exact HK.out | apply Kept.alloc | apply Kept.drewN | apply Kept.drew) | exact HK.out)) hb);have HO := ak (Kd.R_below HO0.out hb);clear HO0;clear hb hbox hg))
 go_loopg [0, 5] l1_0.length (fun gg s0 s5 w' => ∃ kk : Nat, kk ≤ l1_0.length ∧ l1_0.length - kk ≤ gg ∧ s5 = .int .i64 kk ∧ Aside0 (Kd.R (Kd.int .u8) 5 w' w0.heap.size (fun k_ => (P0_ k_ ∨ w.heap.size ≤ k_)) s0 (l0 ++ spec_l2put.w (l1_0.take kk))) ∧ Aside0 (w'.heap[gb101]? = some (.cells #[(.slice A1_0 l1_0.length c1_0)] 28 (0, 0))) ∧ Aside0 (Below w0.heap.size w0 w') ∧ Aside0 (Kept w w' (fun k_ => P0_ k_)))
 case atStart => exact ⟨0, Nat.zero_le _, by omega, rfl, ⟨by simpa [spec_l2put.w] using HO.out⟩, BK101, HB, HK⟩
 case round =>
  clear HO BK101 HB HK
  obtain ⟨kk, hkk, hg, rfl, HO, BK, HB, HK⟩ := hrel
  have hcz := ak ((blk_cell BK.out 0).trans rfl : wr.cell? ⟨gb101, 0, none⟩ = some (.slice A1_0 l1_0.length c1_0))
  have hfz := blk_frozen BK.out 0
  by_cases hlt : kk < l1_0.length
  ·obtain ⟨ad, A2, c2, rfl, hcell, hc2, hC⟩ := HI.out kk hlt
   have hx : Aside0 (l0 ++ spec_l2put.w (l1_0.take (kk + 1)) = l0 ++ spec_l2put.w (l1_0.take kk) ++ [((rd_L10 l1_0 (kk : Int)).length : Int) % 256] ++ rd_L10 l1_0 (kk : Int)) := ⟨by
    rw [List.take_succ_eq_append_getElem hlt, spec_l2put.w_snoc]; simp [rd_L10, List.getD_eq_getElem?_getD, hlt]⟩
   have HLL : Aside0 ((l0 ++ spec_l2put.w (l1_0.take kk)).length + 1 + (rd_L10 l1_0 (kk : Int)).length < 140737488355328) := ⟨by
    have h1 := congrArg List.length hx.out
    have h2 := spec_l2put.w_take l1_0 (kk + 1)
    have h3 := HLM.out
    simp only [List.length_append, List.length_singleton] at h1 ⊢
    omega⟩
   have HCE := ak hcell
   have HCC := ak hC
   have hcn := hcell wr HK.out
   have hczn := hcz.out
   clear hcell hC hcz HI
   generalize rd_L10 l1_0 (kk : Int) = x1 at hx HLL HCE HCC hc2 hcn
   generalize l0 ++ spec_l2put.w (l1_0.take kk) = acc at HO hx HLL
   have hltz : (kk : Int) < (l1_0.length : Int) := by omega
   have hkk0 : (0 : Int) ≤ (kk : Int) := by omega
   go_wp2
   go_region_held3 (fun w' => w'.cell? ⟨gb101, 0, none⟩ = some (.slice (some ad) l1_0.length c1_0) ∧ w'.cell? (ad.add kk) = some (.slice A2 x1.length c2)) (first | exact ⟨(blk_cell BK.out 0).trans rfl, HCE.out _ HK.out⟩ | go_keep)
    (first
     | (rw [spec_l2put.swap]; refine spec_l2put.step (by simp [Region.wanted]) (Kd.R_append_step (Kd.int .u8) (w0 := w0) w0.heap.size (by simp [Region.wanted]) (.tmp 13) (.tmp 21) 26 5 (.int .u8 0) 1 (by rfl) Try.underlying26 info5 rfl (by decide) (by omega) _ acc ((x1.length : Int) % 256) [.int .u8 ((x1.length : Int) % 256)] (fun k_ => (P0_ k_ ∨ w.heap.size ≤ k_)) (fun _ => False) (by rfl) (by rfl) rfl (fun _ hk => hk.elim) (fun k hk => .inr (Nat.le_trans HK.out.1 (Nat.le_trans (by simp) hk))) (rw_ HO.out) (bw HB.out) (below_size (bw HB.out)) (by have := HLL.out; omega) ?_); intro v1 w1 ho hb hg hat; have n0_ := ak (blk_grown (bk BK.out) hg (Kd.R_ne HO.out BK.out (by decide))); have n1_ := ak hb; have n2_ := ak ho; have n3_ := ak (Kept.of_grown (w := w) (S := fun k_ => P0_ k_) hg (by repeat (first | (with_reducible first | exact HK.out | apply Kept.alloc | apply Kept.drewN | apply Kept.drew) | exact HK.out)) (fun k hk => HO.out.1 k hk)); clear HB HO HK BK ho hb hg hat; have BK := n0_; have HB := n1_; have HO := n2_; have HK := n3_; clear n0_ n1_ n2_ n3_)
     | (refine spec_l2put.step (by simp [Region.wanted]) (Kd.R_append_rows_step (Kd.int .u8) (w0 := w0) w0.heap.size (by simp [Region.wanted]) (.tmp 22) (.tmp 27) 26 5 (.int .u8 0) 1 (by rfl) Try.underlying26 info5 rfl (by decide) (by omega) _ (acc ++ [(x1.length : Int) % 256]) x1 _ _ _ (fun k_ => (P0_ k_ ∨ w.heap.size ≤ k_)) (fun _ => False) (by rfl) (by rfl) (rw_ HO.out) (HCC.out _ (by repeat (first | (with_reducible first | exact HK.out | apply Kept.alloc | apply Kept.drewN | apply Kept.drew) | exact HK.out))) (fun _ _ h => h) (fun _ h => h.elim) (fun k hk => .inr (Nat.le_trans HK.out.1 (Nat.le_trans (by simp) hk))) (bw HB.out) (below_size (bw HB.out)) (by have := HLL.out; simp only [List.length_append, List.length_singleton]; omega) ?_); intro v1 w1 ho hb hg hat; have n0_ := ak (blk_grown (bk BK.out) hg (Kd.R_ne HO.out BK.out (by decide))); have n1_ := ak hb; have n2_ := ak ho; have n3_ := ak (Kept.of_grown (w := w) (S := fun k_ => P0_ k_) hg (by repeat (first | (with_reducible first | exact HK.out | apply Kept.alloc | apply Kept.drewN | apply Kept.drew) | exact HK.out)) (fun k hk => HO.out.1 k hk)); clear HB HO HK BK ho hb hg hat; have BK := n0_; have HB := n1_; have HO := n2_; have HK := n3_; clear n0_ n1_ n2_ n3_))
   go_wp2
   go_roundg (l1_0.length - (kk + 1))
   case measure => omega
   case rel => exact ⟨kk + 1, by omega, by omega, by go_num, ⟨by rw [hx.out]; exact HO.out⟩, BK, HB, HK⟩
  ·have : kk = l1_0.length := by omega
   subst this
   rw [List.take_of_length_le (Nat.le_refl _)] at HO
   have hczn := hcz.out
   clear hcz
   have hltz : ¬ (l1_0.length : Int) < (l1_0.length : Int) := by omega
   go_wp2_with (((with_reducible refine gate_builtin (b := .append) (xs := #[.tmp 29, .tmp 30]) rfl ?_);at_builtin;refine Kd.R_append (Kd.int .u8) (w0 := w0) w0.heap.size rfl (.tmp 29) (.tmp 30) 26 5 (.int .u8 0) 1 rfl Try.underlying26 info5 rfl (by decide) (by omega) _ (l0 ++ spec_l2put.w l1_0) 0 [.int .u8 0] (fun k_ => (P0_ k_ ∨ w.heap.size ≤ k_)) (fun _ => False) rfl rfl ?aP (fun _ hk => hk.elim) ?aF ?aO ?aB ?aS ?aL ?_;(case aP => exact rfl);(case aB => exact (bw HB.out));(case aF => exact (fun k hk => .inr (Nat.le_trans HK.out.1 (Nat.le_trans (by simp) hk))));(case aO => exact (rw_ HO.out));(case aS => exact (below_size (bw HB.out)));(case aL => have := HLM.out; simp only [List.length_append]; omega);intro v113 w14 ho hb hg hat;have n1_ := ak hb;have n2_ := ak ho;have n3_ := ak (Kept.of_grown (w := w) (S := fun k_ => P0_ k_) hg (by repeat (first | (with_reducible first | exact HK.out | apply Kept.alloc | apply Kept.drewN | apply Kept.drew) | exact HK.out)) (fun k hk => HO.out.1 k hk));clear HB HO HK ho hb hg hat;have HB := n1_;have HO := n2_;have HK := n3_;clear n1_ n2_ n3_))
   go_ret
   exact ⟨v113, rfl, by have := HO.out; simpa only [List.append_assoc] using this, HB.out, HK.out⟩

/-! ### impl_two: function 71 -/
def impl_two.f (a0 : Int) : Option (List Int) := some (([(a0 / 256) % 256, (a0) % 256] : List Int))
set_option maxHeartbeats 8000000 in
set_option maxRecDepth 100000 in
theorem impl_two.calls (a0 : Int) (r : List Int) (w : World) (h : impl_two.f a0 = some r) :
  Calls Try.prog 71 #[.int .i64 a0] w fun e w' => ∃ v0_ : Value, e = .returned (v0_) ∧ Kd.R (Kd.int .u8) 5 w' w.heap.size (fun _ => True) v0_ r ∧ Below w.heap.size w w' := by
 have HB := ak (Below.refl w.heap.size w)
 have H : (some (([(a0 / 256) % 256, (a0) % 256] : List Int))) = some r := h
 clear h
 obtain ⟨y101, hy101⟩ : ∃ y_ : List Int, y_ = (([(a0 / 256) % 256, (a0) % 256] : List Int)) := ⟨_, rfl⟩
 (try with_reducible replace H := bnS H)
 (try rw [← hy101] at H)
 have Ny101 := ak hy101
 clear hy101
 obtain rfl := Option.some.inj H
 go_enter Try.func71, Try.ntmps71
 go_wp2_with (((with_reducible refine gate_dst (N := 8) rfl ?_);refine Kd.R_lit (Kd.int .u8) _ 5 ?hg (N := 8) ?hd (xs := ([(a0 / 256) % 256, (a0) % 256] : List Int)) (inner := [.int .u8 ((a0 / 256) % 256), .int .u8 ((a0) % 256)]) (ok := fun _ => True) (okp := fun _ => True) ?hr ?hp (fun _ hk => hk) trivial (Below.refl _ _) (Nat.le_refl _) (by simp) ?_;(case hd => rfl);(case hg => rfl);(case hr => first | (go_simp; done) | (go_simp; rfl));(case hp => exact (Reps.one (show Kd.M (Kd.int .u8) _ _ _ ((a0 / 256) % 256) [.int .u8 ((a0 / 256) % 256)] from rfl) (Reps.one (show Kd.M (Kd.int .u8) _ _ _ ((a0) % 256) [.int .u8 ((a0) % 256)] from rfl) (Reps.none _ _))));intro v102 w2 ho3 hb hg_ hnew_;clear hg_ hnew_;(first | rw [← Ny101.out] at ho3 | (simp only [Int.reduceToNat] at ho3; rw [← Ny101.out] at ho3));have HO103 := ak (Kd.R_lower ho3 (below_size (bw HB.out)));replace HB := b2 HB hb;clear hb ho3))
 go_ret
 exact ⟨_, o1, rw_ HO103.out, bw HB.out⟩

/-! ### impl_four: function 56 -/
def impl_four.f (a0 : Int) : Option (List Int) := (impl_two.f (a0 / 65536)).bind fun t101 => ((impl_two.f a0).bind fun t104 => (if t101.length + t104.length < 140737488355328 then (some (t101 ++ t104)) else (none)))
set_option maxHeartbeats 8000000 in
set_option maxRecDepth 100000 in
theorem impl_four.calls (a0 : Int) (r : List Int) (w : World) (h : impl_four.f a0 = some r) :
  Calls Try.prog 56 #[.int .i64 a0] w fun e w' => ∃ v0_ : Value, e = .returned (v0_) ∧ Kd.R (Kd.int .u8) 5 w' w.heap.size (fun _ => True) v0_ r ∧ Below w.heap.size w w' := by
 have HB := ak (Below.refl w.heap.size w)
 have H : ((impl_two.f (a0 / 65536)).bind fun t101 => ((impl_two.f a0).bind fun t104 => (if t101.length + t104.length < 140737488355328 then (some (t101 ++ t104)) else (none)))) = some r := h
 clear h
 replace H := bnd H
 obtain ⟨t101, A2, H⟩ := H
 replace H := bnd H
 obtain ⟨t104, A3, H⟩ := H
 by_cases c4 : t101.length + t104.length < 140737488355328
 ·rw [if_pos c4] at H
  have LMc4 := ak c4
  clear c4
  obtain ⟨y107, hy107⟩ : ∃ y_ : List Int, y_ = (t101 ++ t104) := ⟨_, rfl⟩
  (try with_reducible replace H := bnS H)
  (try rw [← hy107] at H)
  have Ny107 := ak hy107
  clear hy107
  obtain rfl := Option.some.inj H
  go_enter Try.func56, Try.ntmps56
  go_wp2_with (first | ((with_reducible refine gate_callee (f := 71) rfl ?_);refine glG 5 rfl rfl Try.func71 (impl_two.calls (a0 / 65536) t101 _ A2.out) ?_;rintro e w5 ⟨v102, rfl, ho0, hb⟩;refine ⟨_, rfl, ?_⟩;have HO103 := ak (Kd.R_lower ho0 (below_size (bw HB.out)));replace HB := b2 HB hb;(try clear hb);(try clear ho0)) | ((with_reducible refine gate_callee (f := 71) rfl ?_);refine glG 7 rfl rfl Try.func71 (impl_two.calls a0 t104 _ A3.out) ?_;rintro e w6 ⟨v105, rfl, ho0, hb⟩;refine ⟨_, rfl, ?_⟩;have HO106 := ak (Kd.R_lower (Kd.R_new' ho0 (Kd.R_lt (rw_ HO103.out))) (below_size (bw HB.out)));replace HO103 := ak (Kd.R_elder' (rw_ HO103.out) (Kd.R_base ho0) hb);replace HB := b2 HB hb;(try clear hb);(try clear ho0);obtain ⟨Ao8, co8, eo8⟩ := Kd.R_slice HO106.out;subst eo8) | ((with_reducible refine gate_builtin (b := .append) (xs := #[.tmp 5, .tmp 7]) rfl ?_);at_builtin;refine Kd.R_append_rows (Kd.int .u8) (w0 := w) w.heap.size rfl (.tmp 5) (.tmp 7) 26 5 (.int .u8 0) 1 rfl Try.underlying26 info5 rfl (by decide) (by omega) v102 t101 t104 _ _ _ (fun k_ => some k_ ≠ (.slice Ao8 t104.length co8 : Value).ownBlock) (fun _ => False) rfl rfl ?aO ?aR (fun _ _ h => h) (fun _ h => h.elim) ?aF ?aB ?aS ?aL ?_;(case aR => repeat (first | exact (Kd.R_reads' HO106.out).2.2 | (with_reducible refine Kd.C_alloc ?_ _) | (with_reducible refine Kd.C_drewN ?_ _) | (with_reducible refine Kd.C_drew ?_)));(case aB => exact (bw HB.out));(case aF => exact (fun k_ hk => Kd.fresh' (Kd.R_lt (rw_ HO106.out)) k_ hk));(case aO => exact (rw_ (Kd.R_mono HO103.out (fun _ hk => hk.2))));(case aS => exact (below_size (bw HB.out)));(case aL => have := LMc4.out; omega);intro v108 w7 ho hb hg hat;rw [← Ny107.out] at ho;replace HO106 := ak (Kd.R_after (ok := (fun _ => True)) (rw_ HO106.out) hg hat);replace HB := ak (hb);have HO109 := ak (ho);clear HO103;clear ho hb hg hat))
  go_ret
  exact ⟨_, o1, by (with_reducible repeat (first | apply Kd.R_alloc | apply Kd.R_drewN | apply Kd.R_drew)); exact Kd.R_mono HO109.out (fun _ hk => trivial), bw HB.out⟩
 ·rw [if_neg c4] at H
  exact absurd H (by simp)

/-! ### impl_Name_wire: function 59 -/
def impl_Name_wire.l0 : Nat → List Int → List (List Int) → Int → Int → Option (List Int)
 | 0, _, _, _, _ => none
 | k + 1, x3, x8, x9, x10 => if x10 < x9 then (if 0 ≤ x10 then (if x10 < (x8.length : Int) then (if x3.length < 140737488355328 then ((some (x3 ++ [(((rd_L10 x8 x10).length : Int)) % 256] : List Int)).bind fun y106 => (if y106.length + (rd_L10 x8 x10).length < 140737488355328 then (impl_Name_wire.l0 k (y106 ++ (rd_L10 x8 x10)) x8 x9 (wrap64 (x10 + 1))) else (none))) else (none)) else (none)) else (none)) else (if x3.length < 140737488355328 then (some (x3 ++ [0])) else (none))
def impl_Name_wire.f (k : Nat) (l0_0 : List (List Int)) : Option (List Int) := impl_Name_wire.l0 k (([] : List Int)) l0_0 (l0_0.length : Int) 0
set_option maxHeartbeats 8000000 in
set_option maxRecDepth 100000 in
theorem impl_Name_wire.calls (k : Nat) (A0_0 : Option Addr) (c0_0 : Nat) (l0_0 : List (List Int)) (r : List Int) (w : World) (hr0_0 : Kd.C (Kd.slice 5 (Kd.int .u8)) w A0_0 l0_0.length l0_0) (hc0_0 : l0_0.length ≤ c0_0) (h : impl_Name_wire.f k l0_0 = some r) :
  Calls Try.prog 59 #[.agg #[.slice A0_0 l0_0.length c0_0]] w fun e w' => ∃ v0_ : Value, e = .returned (v0_) ∧ Kd.R (Kd.int .u8) 5 w' w.heap.size (fun _ => True) v0_ r ∧ Below w.heap.size w w' := by
 have hu28 := Try.underlying28
 have HR0_0 := ak hr0_0
 have HC0_0 := ak hc0_0
 clear hr0_0 hc0_0
 have HB := ak (Below.refl w.heap.size w)
 have H : (impl_Name_wire.l0 k (([] : List Int)) l0_0 (l0_0.length : Int) 0) = some r := h
 clear h
 replace H : ∃ y102 : List Int, y102 = (([] : List Int)) ∧ (impl_Name_wire.l0 k y102 l0_0 (l0_0.length : Int) 0) = some r := ⟨_, rfl, H⟩
 obtain ⟨y102, hy102, H⟩ := H
 have Ny102 := ak hy102
 clear hy102
 have H' := ak H
 clear H
 go_enter Try.func59, Try.ntmps59
 go_wp2_with (first | ((with_reducible refine gate_dst (N := 1) rfl ?_);refine bxd (N := 1) rfl HB ?_;clear HB;intro gb101 w2 hg HB BK101 GE101 hb;have GW101 := GE101;clear hb hg) | ((with_reducible refine gate_dst (N := 6) rfl ?_);refine Kd.R_lit (Kd.int .u8) _ 5 ?hg (N := 6) ?hd (xs := ([] : List Int)) (inner := []) (ok := fun _ => True) (okp := fun _ => True) ?hr ?hp (fun _ hk => hk) trivial (Below.refl _ _) (Nat.le_refl _) (by simp) ?_;(case hd => rfl);(case hg => rfl);(case hr => first | (go_simp; done) | (go_simp; rfl));(case hp => exact (Reps.none _ _));intro v103 w3 ho4 hb hg_ hnew_;clear hg_ hnew_;(first | rw [← Ny102.out] at ho4 | (simp only [Int.reduceToNat] at ho4; rw [← Ny102.out] at ho4));have HO104 := ak (Kd.R_lower ho4 (below_size bs));replace BK101 := b1 BK101 hb;replace HB := b2s bs hb;clear hb ho4;obtain ⟨hcz5_0, hfz5_0⟩ := cells1 BK101.out))
 go_loopg [3, 10] k (fun kq v3 v10 w' => ∃ (x3_1 : List Int) (x10_1 : Int), v10 = .int .i64 x10_1 ∧ Aside0 (impl_Name_wire.l0 kq x3_1 l0_0 (l0_0.length : Int) x10_1 = some r) ∧ Aside0 (kq ≤ k) ∧ Aside0 (Kd.R (Kd.int .u8) 5 w' w.heap.size (fun _ => True) v3 x3_1) ∧ Aside0 (w'.heap[gb101]? = some (.cells #[(.slice A0_0 l0_0.length c0_0)] 28 (0, 0))) ∧ Aside0 (Below w.heap.size w w'))
 case atStart => exact ⟨(y102), (0), o2, H', ⟨Nat.le_refl _⟩, ⟨rw_ HO104.out⟩, ⟨bk BK101.out⟩, ⟨bs⟩⟩
 case round =>
  clear H'
  (try clear hcz5_0)
  (try clear hfz5_0)
  obtain ⟨x3_1, x10_1, rfl, HA, HK1, HO_3, BK101, HB⟩ := hrel
  cases gk with
  | zero => exact absurd HA.out (by simp [impl_Name_wire.l0])
  | succ k1 =>
   have H := HA.out
   clear HA
   simp only [impl_Name_wire.l0] at H
   replace H := ip H
   obtain ⟨c6b0, H⟩ | ⟨c6b0, H⟩ := H
   ·replace H := ipN H
    obtain ⟨c7b0, H⟩ := H
    replace H := ipN H
    obtain ⟨c8b0, H⟩ := H
    by_cases c9 : x3_1.length < 140737488355328
    ·rw [if_pos c9] at H
     have LMc9 := ak c9
     clear c9
     obtain ⟨y106, hy106⟩ : ∃ y_ : List Int, y_ = (x3_1 ++ [(((rd_L10 l0_0 x10_1).length : Int)) % 256]) := ⟨_, rfl⟩
     (try with_reducible replace H := bnS H)
     (try rw [← hy106] at H)
     have Ny106 := ak hy106
     clear hy106
     by_cases c10 : y106.length + (rd_L10 l0_0 x10_1).length < 140737488355328
     ·rw [if_pos c10] at H
      have LMc10 := ak c10
      clear c10
      obtain ⟨y109, hy109⟩ : ∃ y_ : List Int, y_ = (y106 ++ (rd_L10 l0_0 x10_1)) := ⟨_, rfl⟩
      (try with_reducible replace H := bnS H)
      (try rw [← hy109] at H)
      have Ny109 := ak hy109
      clear hy109
      have H' := ak H
      clear H
      obtain ⟨ad105, A105_0, c105_0, rfl, hx105_0, HC105_0, HR105_0, p105, q105⟩ := el_L10 HR0_0 HB x10_1
      go_wp2_with (first | ((with_reducible refine gate_builtin (b := .append) (xs := #[.tmp 14, .tmp 18]) rfl ?_);at_builtin;refine Kd.R_append (Kd.int .u8) (w0 := w) w.heap.size rfl (.tmp 14) (.tmp 18) 26 5 (.int .u8 0) 1 rfl Try.underlying26 info5 rfl (by decide) (by omega) u3 x3_1 ((((rd_L10 l0_0 x10_1).length : Int)) % 256) [.int .u8 ((((rd_L10 l0_0 x10_1).length : Int)) % 256)] (fun _ => True) (fun _ => False) rfl rfl ?aP (fun _ hk => hk.elim) ?aF ?aO ?aB ?aS ?aL ?_;(case aP => exact rfl);(case aB => exact bs);(case aF => exact (fun _ _ => trivial));(case aO => exact (rw_ HO_3.out));(case aS => exact (below_size bs));(case aL => have := LMc9.out; omega);intro v107 w11 ho hb hg hat;rw [← Ny106.out] at ho;replace BK101 := ak (blk_grown (bk BK101.out) hg (Kd.R_ne HO_3.out BK101.out (by decide)));replace HB := ak (hb);have HO108 := ak (ho);clear HO_3;clear ho hb hg hat) | ((with_reducible refine gate_builtin (b := .append) (xs := #[.tmp 19, .tmp 20]) rfl ?_);at_builtin;refine Kd.R_append_rows (Kd.int .u8) (w0 := w) w.heap.size rfl (.tmp 19) (.tmp 20) 26 5 (.int .u8 0) 1 rfl Try.underlying26 info5 rfl (by decide) (by omega) v107 y106 (rd_L10 l0_0 x10_1) _ _ _ (fun _ => True) (fun _ => False) rfl rfl ?aO ?aR (fun _ _ h => h) (fun _ h => h.elim) ?aF ?aB ?aS ?aL ?_;(case aR => exact cw HR105_0.out HB.out);(case aB => exact bs);(case aF => exact (fun _ _ => trivial));(case aO => exact (rw_ HO108.out));(case aS => exact (below_size bs));(case aL => have := LMc10.out; omega);intro v110 w12 ho hb hg hat;rw [← Ny109.out] at ho;replace BK101 := ak (blk_grown (bk BK101.out) hg (Kd.R_ne HO108.out BK101.out (by decide)));replace HB := ak (hb);have HO111 := ak (ho);clear HO108;clear ho hb hg hat))
      go_roundg k1
      case measure => have := HK1.out; omega
      case rel => exact ⟨(y109), (wrap64 (x10_1 + 1)), o2, H', ⟨by have := HK1.out; omega⟩, ⟨rw_ HO111.out⟩, ⟨bk BK101.out⟩, ⟨bs⟩⟩
     ·rw [if_neg c10] at H
      exact absurd H (by simp)
    ·rw [if_neg c9] at H
     exact absurd H (by simp)
   ·by_cases c13 : x3_1.length < 140737488355328
    ·rw [if_pos c13] at H
     have LMc13 := ak c13
     clear c13
     obtain ⟨y112, hy112⟩ : ∃ y_ : List Int, y_ = (x3_1 ++ [0]) := ⟨_, rfl⟩
     (try with_reducible replace H := bnS H)
     (try rw [← hy112] at H)
     have Ny112 := ak hy112
     clear hy112
     obtain rfl := Option.some.inj H
     go_wp2_with (((with_reducible refine gate_builtin (b := .append) (xs := #[.tmp 23, .tmp 24]) rfl ?_);at_builtin;refine Kd.R_append (Kd.int .u8) (w0 := w) w.heap.size rfl (.tmp 23) (.tmp 24) 26 5 (.int .u8 0) 1 rfl Try.underlying26 info5 rfl (by decide) (by omega) u3 x3_1 0 [.int .u8 0] (fun _ => True) (fun _ => False) rfl rfl ?aP (fun _ hk => hk.elim) ?aF ?aO ?aB ?aS ?aL ?_;(case aP => exact rfl);(case aB => exact bs);(case aF => exact (fun _ _ => trivial));(case aO => exact (rw_ HO_3.out));(case aS => exact (below_size bs));(case aL => have := LMc13.out; omega);intro v113 w14 ho hb hg hat;rw [← Ny112.out] at ho;replace BK101 := ak (blk_grown (bk BK101.out) hg (Kd.R_ne HO_3.out BK101.out (by decide)));replace HB := ak (hb);have HO114 := ak (ho);clear HO_3;clear ho hb hg hat))
     go_ret
     exact ⟨_, o1, rw_ HO114.out, bs⟩
    ·rw [if_neg c13] at H
     exact absurd H (by simp)

/-! ### spec_l7client: function 34 -/
/-! ### spec_l7turn: function 65 -/
def spec_l7turn.f (a0 : Int) (a1 : Int) : Option (Int) := if 0 ≤ a1 then (if 0 ≤ (wrap64 (32 - a1)) then (some (Go.bits .or .u32 (shr .u32 a0 a1) (shl .u32 a0 (wrap64 (32 - a1))))) else (none)) else (none)
set_option maxHeartbeats 8000000 in
set_option maxRecDepth 100000 in
theorem spec_l7turn.calls (a0 : Int) (a1 : Int) (r : Int) (w : World) (h : spec_l7turn.f a0 a1 = some r) :
  Calls Try.prog 65 #[.int .u32 a0, .int .i64 a1] w fun e w' => e = .returned (.int .u32 r) ∧ Drawn0 w w' := by
 have H : (if 0 ≤ a1 then (if 0 ≤ (wrap64 (32 - a1)) then (some (Go.bits .or .u32 (shr .u32 a0 a1) (shl .u32 a0 (wrap64 (32 - a1))))) else (none)) else (none)) = some r := h
 clear h
 replace H := ipE H
 obtain ⟨c3b0, c3b1, H⟩ := H
 obtain ⟨ji4, hji4⟩ : ∃ j_ : Int, (shr .u32 a0 a1) = j_ := ⟨_, rfl⟩
 (first | rw [hji4] at H | simp only [hji4] at H)
 have hji4_ : (a0 / 2 ^ min a1.toNat 32) = ji4 := hji4
 have hji4z : a1 ≤ 32 → (a0 / 2 ^ a1.toNat) = ji4 := shr_small hji4
 obtain ⟨ji5, hji5⟩ : ∃ j_ : Int, (wrap64 (32 - a1)) = j_ := ⟨_, rfl⟩
 (first | rw [hji5] at H | simp only [hji5] at H)
 have hji5w : (IntKind.i64.wrap (32 - a1)) = ji5 := (i64_w _).trans hji5
 replace H := ipE H
 obtain ⟨c6b0, c6b1, H⟩ := H
 obtain ⟨ji7, hji7⟩ : ∃ j_ : Int, (shl .u32 a0 (ji5)) = j_ := ⟨_, rfl⟩
 (first | rw [hji7] at H | simp only [hji7] at H)
 have hji7_ : (IntKind.u32.wrap (a0 * 2 ^ min (ji5).toNat 32)) = ji7 := hji7
 have hji7z : (ji5) ≤ 32 → (IntKind.u32.wrap (a0 * 2 ^ (ji5).toNat)) = ji7 := shl_small hji7
 obtain rfl := Option.some.inj H
 go_enter Try.func65, Try.ntmps65
 go_wp2
 repeat (go_quiet (fail); try go_wp2)
 go_ret
 exact ⟨by first | rfl | (simp; done) | (simp only [← hji4, ← hji5, ← hji7] <;> (first | rfl | simp)) | (simp [*]; done), od⟩

def K64 : List Int := [1116352408, 1899447441, 3049323471, 3921009573, 961987163, 1508970993, 2453635748, 2870763221, 3624381080, 310598401, 607225278, 1426881987, 1925078388, 2162078206, 2614888103, 3248222580, 3835390401, 4022224774, 264347078, 604807628, 770255983, 1249150122, 1555081692, 1996064986, 2554220882, 2821834349, 2952996808, 3210313671, 3336571891, 3584528711, 113926993, 338241895, 666307205, 773529912, 1294757372, 1396182291, 1695183700, 1986661051, 2177026350, 2456956037, 2730485921, 2820302411, 3259730800, 3345764771, 3516065817, 3600352804, 4094571909, 275423344, 430227734, 506948616, 659060556, 883997877, 958139571, 1322822218, 1537002063, 1747873779, 1955562222, 2024104815, 2227730452, 2361852424, 2428436474, 2756734187, 3204031479, 3329325298]
def arr32 (l : List Int) : Array Value := (l.map (Value.int .u32)).toArray
theorem arr32_at (L : List Int) (i : Nat) (h : i < L.length) : (arr32 L)[i]? = some (.int .u32 (rd L (i : Int))) := by
  simp [arr32, rd, h, List.getD_eq_getElem?_getD]
set_option maxHeartbeats 2000000 in
set_option maxRecDepth 100000 in
theorem round_any (n : Nat) (hn : n < 64) (w : World) : Calls Try.prog 66 #[.int .i64 n] w fun e w' => e = .returned (.int .u32 (rd K64 (n : Int))) ∧ Below w.heap.size w w' := by
  have HN := ak hn
  clear hn
  go_enter Try.func66, Try.ntmps66
  refine wp_seq_k fun K1 h1 => ?_
  have H1 := ak h1
  clear h1
  go_wp2
  refine H1.out _ _ ?_
  clear H1
  refine wp_seq_k fun K2 h2 => ?_
  have H2 := ak h2
  clear h2
  apply wp_region_lit
  refine wpList_buildTo rfl 80 _ rfl (some 4) rfl (arr32 K64) (by as_aux_lemma => kernel_rfl) ?_
  refine Go.Great.wpList_allocTo rfl (some 3) rfl (.pointer (some ⟨w.heap.size, 0, none⟩)) (.cells (arr32 (List.replicate 64 0)) 80) (by as_aux_lemma => kernel_rfl) ?_
  refine wpList_store_rowTo rfl 80 _ _ rfl rfl w.heap.size (arr32 K64) rfl rfl 80 (arr32 (List.replicate 64 0)) (heap_alloc_new _ _) (by as_aux_lemma => kernel_rfl) (by as_aux_lemma => kernel_rfl) (by as_aux_lemma => kernel_rfl) ?_
  apply wpList_nil
  refine H2.out _ _ ?_
  clear H2
  rw [World.setRow_alloc_new]
  have HB := ak (below_alloc (Below.refl w.heap.size w) (.cells (arr32 K64) 80))
  have BL := ak (heap_alloc_new w (.cells (arr32 K64) 80))
  generalize w.alloc (.cells (arr32 K64) 80) = W1 at HB BL ⊢
  generalize w.heap.size = gs at HB BL ⊢
  generalize (Value.agg _) = ga
  have hc := (blk_cell BL.out n).trans (arr32_at K64 n HN.out)
  have hlz : (n : Int) < 64 := by have := HN.out; omega
  generalize rd K64 (n : Int) = x at hc ⊢
  go_wp2
  refine bodyPost_ret (v := .int .u32 x) (by simp [results, Try.results66, go_sem, *]) rfl ?_
  exact ⟨rfl, HB.out⟩

/-- The word of four bytes from place 4 i on. -/
def word (l : List Int) (i : Nat) : Int := Go.bits .or .u32 (Go.bits .or .u32 (Go.bits .or .u32 (rd l ((4 * i : Nat) : Int) % 4294967296 * 16777216 % 4294967296) (rd l ((4 * i + 1 : Nat) : Int) % 4294967296 * 65536 % 4294967296)) (rd l ((4 * i + 2 : Nat) : Int) % 4294967296 * 256 % 4294967296)) (rd l ((4 * i + 3 : Nat) : Int) % 4294967296)
def W16 (l : List Int) (i : Nat) : List Int := (List.range i).map (word l) ++ List.replicate (64 - i) 0
def tv (x n : Int) : Int := Go.bits .or .u32 (shr .u32 x n) (shl .u32 x (wrap64 (32 - n)))
theorem turn_any (x n : Int) (w : World) (h : 0 ≤ n ∧ 0 ≤ wrap64 (32 - n)) : Calls Try.prog 65 #[.int .u32 x, .int .i64 n] w fun e w' => e = .returned (.int .u32 (tv x n)) ∧ Drawn0 w w' :=
  spec_l7turn.calls x n (tv x n) w (by unfold spec_l7turn.f tv; rw [if_pos h.1, if_pos h.2])
abbrev V8 := Int × Int × Int × Int × Int × Int × Int × Int
def a8 (s : V8) : Array Value := #[.int .u32 s.1, .int .u32 s.2.1, .int .u32 s.2.2.1, .int .u32 s.2.2.2.1, .int .u32 s.2.2.2.2.1, .int .u32 s.2.2.2.2.2.1, .int .u32 s.2.2.2.2.2.2.1, .int .u32 s.2.2.2.2.2.2.2]
/-- One round. -/
def rnd (k wi : Int) (s : V8) : V8 :=
  ((s.2.2.2.2.2.2.2 + Go.bits .xor .u32 (Go.bits .xor .u32 (tv s.2.2.2.2.1 6) (tv s.2.2.2.2.1 11)) (tv s.2.2.2.2.1 25) + Go.bits .xor .u32 (Go.bits .and .u32 s.2.2.2.2.1 s.2.2.2.2.2.1) (Go.bits .and .u32 (Go.bits .xor .u32 IntKind.u32.max s.2.2.2.2.1) s.2.2.2.2.2.2.1) + k + wi + Go.bits .xor .u32 (Go.bits .xor .u32 (tv s.1 2) (tv s.1 13)) (tv s.1 22) + Go.bits .xor .u32 (Go.bits .xor .u32 (Go.bits .and .u32 s.1 s.2.1) (Go.bits .and .u32 s.1 s.2.2.1)) (Go.bits .and .u32 s.2.1 s.2.2.1)) % 4294967296, s.1, s.2.1, s.2.2.1,
   (s.2.2.2.1 + (s.2.2.2.2.2.2.2 + Go.bits .xor .u32 (Go.bits .xor .u32 (tv s.2.2.2.2.1 6) (tv s.2.2.2.2.1 11)) (tv s.2.2.2.2.1 25) + Go.bits .xor .u32 (Go.bits .and .u32 s.2.2.2.2.1 s.2.2.2.2.2.1) (Go.bits .and .u32 (Go.bits .xor .u32 IntKind.u32.max s.2.2.2.2.1) s.2.2.2.2.2.2.1) + k + wi)) % 4294967296, s.2.2.2.2.1, s.2.2.2.2.2.1, s.2.2.2.2.2.2.1)
def RD (K W : List Int) (s : V8) : Nat → V8
  | 0 => s
  | n + 1 => rnd (rd K ((n : Nat) : Int)) (rd W ((n : Nat) : Int)) (RD K W s n)
def l8 (s : V8) : List Int := [s.1, s.2.1, s.2.2.1, s.2.2.2.1, s.2.2.2.2.1, s.2.2.2.2.2.1, s.2.2.2.2.2.2.1, s.2.2.2.2.2.2.2]
theorem a8_l8 (s : V8) : a8 s = arr32 (l8 s) := rfl
def addm (a b : Int) : Int := (a + b) % 4294967296
def HX (hs vs : List Int) (i : Nat) : List Int := (List.zipWith addm hs vs).take i ++ hs.drop i
theorem HX_len (hs vs : List Int) (h : vs.length = hs.length) (i : Nat) (hi : i ≤ hs.length) : (HX hs vs i).length = hs.length := by
  simp [HX, h]; omega
theorem HX_rd (hs vs : List Int) (h : vs.length = hs.length) (i : Nat) (hi : i < hs.length) : rd (HX hs vs i) (i : Int) = rd hs (i : Int) := by
  simp only [rd, HX, List.getD_eq_getElem?_getD, Int.toNat_natCast]
  rw [List.getElem?_append_right (by simp [h]; omega)]
  simp [h, Nat.min_eq_left (Nat.le_of_lt hi)]
theorem HX_set (hs vs : List Int) (h : vs.length = hs.length) (i : Nat) (hi : i < hs.length) : (HX hs vs i).set i (addm (rd hs (i : Int)) (rd vs (i : Int))) = HX hs vs (i + 1) := by
  have hz : (List.zipWith addm hs vs).length = hs.length := by simp [h]
  unfold HX
  rw [List.set_append_right _ _ (by rw [List.length_take]; omega), List.length_take, Nat.min_eq_left (by omega), Nat.sub_self, List.drop_eq_getElem_cons hi, List.set_cons_zero, List.take_succ_eq_append_getElem (by omega), List.append_assoc]
  simp [rd, List.getD_eq_getElem?_getD, hi, h]
theorem turn_q (x n : Int) (w : World) (k : Nat) (h : 0 ≤ n ∧ 0 ≤ wrap64 (32 - n)) : Calls Try.prog 65 #[.int .u32 x, .int .i64 n] (w.drewN k) fun e w' => e = .returned (.int .u32 (tv x n)) ∧ ∃ m, w' = (w.drewN k).drewN m :=
  (turn_any x n (w.drewN k) h).mono fun _ _ h => ⟨h.1, h.2.out⟩
/-- The next word of the schedule, out of those before. -/
def sg0 (x : Int) : Int := Go.bits .xor .u32 (Go.bits .xor .u32 (tv x 7) (tv x 18)) (x / 8)
def sg1 (y : Int) : Int := Go.bits .xor .u32 (Go.bits .xor .u32 (tv y 17) (tv y 19)) (y / 1024)
def nxt (W : List Int) (n : Nat) : Int := (rd W ((n : Nat) : Int) + sg0 (rd W ((n + 1 : Nat) : Int)) + rd W ((n + 9 : Nat) : Int) + sg1 (rd W ((n + 14 : Nat) : Int))) % 4294967296
def WX (l : List Int) : Nat → List Int
  | 0 => W16 l 16
  | n + 1 => (WX l n).set (n + 16) (nxt (WX l n) n)
def sums8 (h s : V8) : V8 := (addm h.1 s.1, addm h.2.1 s.2.1, addm h.2.2.1 s.2.2.1, addm h.2.2.2.1 s.2.2.2.1, addm h.2.2.2.2.1 s.2.2.2.2.1, addm h.2.2.2.2.2.1 s.2.2.2.2.2.1, addm h.2.2.2.2.2.2.1 s.2.2.2.2.2.2.1, addm h.2.2.2.2.2.2.2 s.2.2.2.2.2.2.2)
/-- 64 bytes are worked on. -/
def blockV (l : List Int) (h : V8) : V8 := sums8 h (RD K64 (WX l 48) h 64)
theorem W16_len (l : List Int) (i : Nat) (h : i ≤ 64) : (W16 l i).length = 64 := by rw [W16, List.length_append, List.length_map, List.length_range, List.length_replicate]; omega
theorem WX_len (l : List Int) : ∀ n, (WX l n).length = 64
  | 0 => W16_len l 16 (by omega)
  | n + 1 => by rw [WX, List.length_set, WX_len l n]
theorem arr32_set (L : List Int) (i : Nat) (x : Int) : (arr32 L).setIfInBounds i (.int .u32 x) = arr32 (L.set i x) := by
  simp [arr32, List.map_set]
theorem W16_set (l : List Int) (i : Nat) (h : i < 64) : (W16 l i).set i (word l i) = W16 l (i + 1) := by
  unfold W16
  rw [List.set_append_right _ _ (by simp), List.length_map, List.length_range, Nat.sub_self, show 64 - i = (64 - (i + 1)) + 1 by omega, List.replicate_succ, List.set_cons_zero, List.range_succ, List.map_append, List.append_assoc]
  rfl
set_option maxHeartbeats 2000000 in
set_option maxRecDepth 100000 in
theorem spec_l7block.calls (a0 a1 a2 a3 a4 a5 a6 a7 : Int) (A : Option Addr) (c : Nat) (l : List Int) (w : World) (hl : l.length = 64) (hr : Kd.C (Kd.int .u8) w A l.length l) :
    Calls Try.prog 51 #[.agg #[.int .u32 a0, .int .u32 a1, .int .u32 a2, .int .u32 a3, .int .u32 a4, .int .u32 a5, .int .u32 a6, .int .u32 a7], .slice A l.length c] w fun e w' => e = .returned (.agg (a8 (blockV l (a0, a1, a2, a3, a4, a5, a6, a7)))) ∧ Below w.heap.size w w' := by
  have HR := ak hr
  have HL := ak hl
  clear hr hl
  go_enter Try.func51, Try.ntmps51
  go_wp2
  have HB := ak (below_alloc (below_alloc (below_alloc (Below.refl w.heap.size w) (.cells #[.int .u32 a0, .int .u32 a1, .int .u32 a2, .int .u32 a3, .int .u32 a4, .int .u32 a5, .int .u32 a6, .int .u32 a7] 58)) (.cells #[.int .u32 0, .int .u32 0, .int .u32 0, .int .u32 0, .int .u32 0, .int .u32 0, .int .u32 0, .int .u32 0] 58)) (.cells (arr32 (List.replicate 64 0)) 80))
  have BH : Aside0 ((((w.alloc (.cells #[.int .u32 a0, .int .u32 a1, .int .u32 a2, .int .u32 a3, .int .u32 a4, .int .u32 a5, .int .u32 a6, .int .u32 a7] 58)).alloc (.cells #[.int .u32 0, .int .u32 0, .int .u32 0, .int .u32 0, .int .u32 0, .int .u32 0, .int .u32 0, .int .u32 0] 58)).alloc (.cells (arr32 (List.replicate 64 0)) 80)).heap[w.heap.size]? = some (.cells #[.int .u32 a0, .int .u32 a1, .int .u32 a2, .int .u32 a3, .int .u32 a4, .int .u32 a5, .int .u32 a6, .int .u32 a7] 58 (0, 0))) := ⟨blk_alloc (blk_alloc (heap_alloc_new _ _) _) _⟩
  have BR : Aside0 ((((w.alloc (.cells #[.int .u32 a0, .int .u32 a1, .int .u32 a2, .int .u32 a3, .int .u32 a4, .int .u32 a5, .int .u32 a6, .int .u32 a7] 58)).alloc (.cells #[.int .u32 0, .int .u32 0, .int .u32 0, .int .u32 0, .int .u32 0, .int .u32 0, .int .u32 0, .int .u32 0] 58)).alloc (.cells (arr32 (List.replicate 64 0)) 80)).heap[w.heap.size + 1]? = some (.cells #[.int .u32 0, .int .u32 0, .int .u32 0, .int .u32 0, .int .u32 0, .int .u32 0, .int .u32 0, .int .u32 0] 58 (0, 0))) := ⟨blk_alloc (by have := heap_alloc_new (w.alloc (.cells #[.int .u32 a0, .int .u32 a1, .int .u32 a2, .int .u32 a3, .int .u32 a4, .int .u32 a5, .int .u32 a6, .int .u32 a7] 58)) (.cells #[.int .u32 0, .int .u32 0, .int .u32 0, .int .u32 0, .int .u32 0, .int .u32 0, .int .u32 0, .int .u32 0] 58); simpa using this) _⟩
  have BW : Aside0 ((((w.alloc (.cells #[.int .u32 a0, .int .u32 a1, .int .u32 a2, .int .u32 a3, .int .u32 a4, .int .u32 a5, .int .u32 a6, .int .u32 a7] 58)).alloc (.cells #[.int .u32 0, .int .u32 0, .int .u32 0, .int .u32 0, .int .u32 0, .int .u32 0, .int .u32 0, .int .u32 0] 58)).alloc (.cells (arr32 (List.replicate 64 0)) 80)).heap[w.heap.size + 1 + 1]? = some (.cells (arr32 (List.replicate 64 0)) 80 (0, 0))) := ⟨by have := heap_alloc_new ((w.alloc (.cells #[.int .u32 a0, .int .u32 a1, .int .u32 a2, .int .u32 a3, .int .u32 a4, .int .u32 a5, .int .u32 a6, .int .u32 a7] 58)).alloc (.cells #[.int .u32 0, .int .u32 0, .int .u32 0, .int .u32 0, .int .u32 0, .int .u32 0, .int .u32 0, .int .u32 0] 58)) (.cells (arr32 (List.replicate 64 0)) 80); simpa using this⟩
  change Code.wp _ _ _ _ (((w.alloc (.cells #[.int .u32 a0, .int .u32 a1, .int .u32 a2, .int .u32 a3, .int .u32 a4, .int .u32 a5, .int .u32 a6, .int .u32 a7] 58)).alloc (.cells #[.int .u32 0, .int .u32 0, .int .u32 0, .int .u32 0, .int .u32 0, .int .u32 0, .int .u32 0, .int .u32 0] 58)).alloc (.cells (arr32 (List.replicate 64 0)) 80))
  generalize ((w.alloc (.cells #[.int .u32 a0, .int .u32 a1, .int .u32 a2, .int .u32 a3, .int .u32 a4, .int .u32 a5, .int .u32 a6, .int .u32 a7] 58)).alloc (.cells #[.int .u32 0, .int .u32 0, .int .u32 0, .int .u32 0, .int .u32 0, .int .u32 0, .int .u32 0, .int .u32 0] 58)).alloc (.cells (arr32 (List.replicate 64 0)) 80) = W0 at HB BH BR BW ⊢
  have GH := ak (Nat.le_refl w.heap.size)
  have GR := ak (show w.heap.size ≤ w.heap.size + 1 by omega)
  have GW := ak (show w.heap.size ≤ w.heap.size + 1 + 1 by omega)
  have NHW := ak (show w.heap.size ≠ w.heap.size + 1 + 1 by omega)
  have NRW := ak (show w.heap.size + 1 ≠ w.heap.size + 1 + 1 by omega)
  have NHR := ak (show w.heap.size ≠ w.heap.size + 1 by omega)
  generalize hgw : w.heap.size + 1 + 1 = gw at BW NHW NRW GW ⊢
  generalize hgr : w.heap.size + 1 = gr at BR GR NRW NHR ⊢
  clear hgw hgr
  obtain ⟨gh, BH, GH, NHW, NHR, hgoal⟩ : ∃ gh, Aside0 (W0.heap[gh]? = some (.cells #[.int .u32 a0, .int .u32 a1, .int .u32 a2, .int .u32 a3, .int .u32 a4, .int .u32 a5, .int .u32 a6, .int .u32 a7] 58 (0, 0))) ∧ Aside0 (w.heap.size ≤ gh) ∧ Aside0 (gh ≠ gw) ∧ Aside0 (gh ≠ gr) ∧ Aside0 (gh = w.heap.size) := ⟨_, BH, GH, NHW, NHR, ⟨rfl⟩⟩
  rw [← hgoal.out]
  clear hgoal
  go_loopg [6] 17 (fun gq v6 w' => ∃ i : Nat, i ≤ 16 ∧ 17 - i ≤ gq ∧ v6 = .int .i64 i ∧ Aside0 (w'.heap[gh]? = some (.cells #[.int .u32 a0, .int .u32 a1, .int .u32 a2, .int .u32 a3, .int .u32 a4, .int .u32 a5, .int .u32 a6, .int .u32 a7] 58 (0, 0))) ∧ Aside0 (w'.heap[gr]? = some (.cells #[.int .u32 0, .int .u32 0, .int .u32 0, .int .u32 0, .int .u32 0, .int .u32 0, .int .u32 0, .int .u32 0] 58 (0, 0))) ∧ Aside0 (w'.heap[gw]? = some (.cells (arr32 (W16 l i)) 80 (0, 0))) ∧ Aside0 (Below w.heap.size w w'))
  case atStart => exact ⟨0, by omega, by omega, rfl, BH, BR, BW, HB⟩
  case round =>
    clear HB BH BR BW
    obtain ⟨i, hi, hg, rfl, BH, BR, BW, HB⟩ := hrel
    by_cases hlt : i < 16
    · have hl := HL.out
      obtain ⟨ad, rfl, hc0⟩ := Kd.at_int HR.out ((4 * i : Nat) : Int) (by omega) (by omega)
      obtain ⟨ad', e, hc1⟩ := Kd.at_int HR.out ((4 * i + 1 : Nat) : Int) (by omega) (by omega)
      injection e with e
      subst e
      obtain ⟨ad', e, hc2⟩ := Kd.at_int HR.out ((4 * i + 2 : Nat) : Int) (by omega) (by omega)
      injection e with e
      subst e
      obtain ⟨ad', e, hc3⟩ := Kd.at_int HR.out ((4 * i + 3 : Nat) : Int) (by omega) (by omega)
      injection e with e
      subst e
      replace hc0 := pw_cell_below HB.out hc0
      replace hc1 := pw_cell_below HB.out hc1
      replace hc2 := pw_cell_below HB.out hc2
      replace hc3 := pw_cell_below HB.out hc3
      have hwc := blk_cell BW.out i
      have hwf := blk_frozen BW.out i
      have hlz : (i : Int) < 16 := by omega
      have hlz2 : (i : Int) < 64 := by omega
      have hlz3 : i < 64 := by omega
      rw [show (((4 * i : Nat) : Int)).toNat = 4 * i from by omega] at hc0
      rw [show (((4 * i + 1 : Nat) : Int)).toNat = 4 * i + 1 from by omega] at hc1
      rw [show (((4 * i + 2 : Nat) : Int)).toNat = 4 * i + 2 from by omega] at hc2
      rw [show (((4 * i + 3 : Nat) : Int)).toNat = 4 * i + 3 from by omega] at hc3
      obtain ⟨b0, hb0⟩ : ∃ b, rd l ((4 * i : Nat) : Int) = b := ⟨_, rfl⟩
      obtain ⟨b1, hb1⟩ : ∃ b, rd l ((4 * i + 1 : Nat) : Int) = b := ⟨_, rfl⟩
      obtain ⟨b2, hb2⟩ : ∃ b, rd l ((4 * i + 2 : Nat) : Int) = b := ⟨_, rfl⟩
      obtain ⟨b3, hb3⟩ : ∃ b, rd l ((4 * i + 3 : Nat) : Int) = b := ⟨_, rfl⟩
      rw [hb0] at hc0
      rw [hb1] at hc1
      rw [hb2] at hc2
      rw [hb3] at hc3
      have B0 := ak hb0
      have B1 := ak hb1
      have B2 := ak hb2
      have B3 := ak hb3
      clear hb0 hb1 hb2 hb3
      have hwl : (W16 l i).length = 64 := by rw [W16, List.length_append, List.length_map, List.length_range, List.length_replicate]; omega
      have hwv : (arr32 (W16 l i))[i]? = some (.int .u32 0) := by
        simp only [arr32, List.getElem?_toArray, List.getElem?_map, W16]
        rw [List.getElem?_append_right (by simp)]
        simp only [List.length_map, List.length_range, Nat.sub_self, List.getElem?_replicate]
        rw [if_pos (by omega)]
        rfl
      rw [hwv] at hwc
      clear hwv
      have ea : ∀ m, 0 < m → ad.add m = ⟨ad.block, ad.off + m, none⟩ := fun m hm => by unfold Addr.add; simp [Nat.ne_of_gt hm]
      rw [ea _ (by omega)] at hc1 hc2 hc3
      clear ea
      have q0 : 0 ≤ 4 * (i : Int) := by omega
      have q0' : 4 * (i : Int) < (l.length : Int) := by omega
      have q1 : 0 ≤ 4 * (i : Int) + 1 := by omega
      have q1' : 4 * (i : Int) + 1 < (l.length : Int) := by omega
      have q2 : 0 ≤ 4 * (i : Int) + 2 := by omega
      have q2' : 4 * (i : Int) + 2 < (l.length : Int) := by omega
      have q3 : 0 ≤ 4 * (i : Int) + 3 := by omega
      have q3' : 4 * (i : Int) + 3 < (l.length : Int) := by omega
      have s0 : IntKind.i64.wrap (4 * (i : Int)) = 4 * (i : Int) := IntWalk.i64_in _ (by omega)
      have s1 : IntKind.i64.wrap (4 * (i : Int) + 1) = 4 * (i : Int) + 1 := IntWalk.i64_in _ (by omega)
      have s2 : IntKind.i64.wrap (4 * (i : Int) + 2) = 4 * (i : Int) + 2 := IntWalk.i64_in _ (by omega)
      have s3 : IntKind.i64.wrap (4 * (i : Int) + 3) = 4 * (i : Int) + 3 := IntWalk.i64_in _ (by omega)
      have t0 : (4 * (i : Int)).toNat = 4 * i := by omega
      have t1 : (4 * (i : Int) + 1).toNat = 4 * i + 1 := by omega
      have t2 : (4 * (i : Int) + 2).toNat = 4 * i + 2 := by omega
      have t3 : (4 * (i : Int) + 3).toNat = 4 * i + 3 := by omega
      clear hl
      go_wp2
      go_still_tail 35, (by kernel_rfl)
      change wpList _ _ _ _ _ wr.drew
      go_wp2
      go_roundg (17 - (i + 1))
      case measure => omega
      case rel =>
        exact ⟨i + 1, by omega, by omega, by go_num, ak (blk_drew (blk_far BH.out (p := ⟨gw, i, none⟩) NHW.out _)), ak (blk_drew (blk_far BR.out (p := ⟨gw, i, none⟩) NRW.out _)), ak (blk_drew (blk_put (cs' := arr32 (W16 l (i + 1))) BW.out i _ (by rw [arr32_set, ← W16_set l i (by omega)]; unfold word; rw [B0.out, B1.out, B2.out, B3.out]))), ak (below_drew1 (below_set HB.out GW.out))⟩
    · have hlz : ¬ (i : Int) < 16 := by omega
      obtain rfl : i = 16 := by omega
      clear hi hg hlt hlz
      go_wp2
      go_loopg [7] 49 (fun gq v7 w' => ∃ n : Nat, n ≤ 48 ∧ 49 - n ≤ gq ∧ v7 = .int .i64 ((n : Int) + 16) ∧ Aside0 (w'.heap[gh]? = some (.cells #[.int .u32 a0, .int .u32 a1, .int .u32 a2, .int .u32 a3, .int .u32 a4, .int .u32 a5, .int .u32 a6, .int .u32 a7] 58 (0, 0))) ∧ Aside0 (w'.heap[gr]? = some (.cells #[.int .u32 0, .int .u32 0, .int .u32 0, .int .u32 0, .int .u32 0, .int .u32 0, .int .u32 0, .int .u32 0] 58 (0, 0))) ∧ Aside0 (w'.heap[gw]? = some (.cells (arr32 (WX l n)) 80 (0, 0))) ∧ Aside0 (Below w.heap.size w w'))
      case atStart => exact ⟨0, by omega, by omega, rfl, BH, BR, BW, HB⟩
      case round =>
        clear HB BH BR BW
        obtain ⟨n, hn, hg, rfl, BH, BR, BW, HB⟩ := hrel
        by_cases hlt : n < 48
        · have hW := WX_len l n
          obtain ⟨W, hWe⟩ : ∃ W, WX l n = W := ⟨_, rfl⟩
          rw [hWe] at BW hW
          have HWE := ak hWe
          clear hWe
          have hwf := fun j => blk_frozen BW.out j
          have hx := (blk_cell BW.out (n + 1)).trans (arr32_at W (n + 1) (by omega))
          have hy := (blk_cell BW.out (n + 14)).trans (arr32_at W (n + 14) (by omega))
          have hz := (blk_cell BW.out n).trans (arr32_at W n (by omega))
          have ht := (blk_cell BW.out (n + 9)).trans (arr32_at W (n + 9) (by omega))
          have hs := (blk_cell BW.out (n + 16)).trans (arr32_at W (n + 16) (by omega))
          have hs2 := hwf (n + 16)
          clear hwf hW
          generalize rd W ((n + 16 : Nat) : Int) = xs at hs
          obtain ⟨x, hx'⟩ : ∃ b, rd W ((n + 1 : Nat) : Int) = b := ⟨_, rfl⟩
          obtain ⟨y, hy'⟩ : ∃ b, rd W ((n + 14 : Nat) : Int) = b := ⟨_, rfl⟩
          obtain ⟨z, hz'⟩ : ∃ b, rd W ((n : Nat) : Int) = b := ⟨_, rfl⟩
          obtain ⟨t, ht'⟩ : ∃ b, rd W ((n + 9 : Nat) : Int) = b := ⟨_, rfl⟩
          rw [hx'] at hx
          rw [hy'] at hy
          rw [hz'] at hz
          rw [ht'] at ht
          have HX := ak hx'
          have HY := ak hy'
          have HZ := ak hz'
          have HT := ak ht'
          clear hx' hy' hz' ht'
          have e15 : IntKind.i64.wrap ((n : Int) + 16 - 15) = (n : Int) + 1 := by rw [IntWalk.i64_in _ (by omega)]; omega
          have e2 : IntKind.i64.wrap ((n : Int) + 16 - 2) = (n : Int) + 14 := by rw [IntWalk.i64_in _ (by omega)]; omega
          have e16 : IntKind.i64.wrap ((n : Int) + 16 - 16) = (n : Int) := by rw [IntWalk.i64_in _ (by omega)]; omega
          have e16' : IntKind.i64.wrap (n : Int) = (n : Int) := IntWalk.i64_in _ (by omega)
          have e7 : IntKind.i64.wrap ((n : Int) + 16 - 7) = (n : Int) + 9 := by rw [IntWalk.i64_in _ (by omega)]; omega
          have p1 : 0 ≤ (n : Int) + 1 := by omega
          have p2 : 0 ≤ (n : Int) + 14 := by omega
          have p3 : 0 ≤ (n : Int) + 9 := by omega
          have p4 : 0 ≤ (n : Int) + 16 := by omega
          have r1 : (n : Int) + 1 < 64 := by omega
          have r2 : (n : Int) + 14 < 64 := by omega
          have r3 : (n : Int) + 9 < 64 := by omega
          have r4 : (n : Int) + 16 < 64 := by omega
          have r5 : (n : Int) < 64 := by omega
          have t1 : ((n : Int) + 1).toNat = n + 1 := by omega
          have t2 : ((n : Int) + 14).toNat = n + 14 := by omega
          have t3 : ((n : Int) + 9).toNat = n + 9 := by omega
          have t4 : ((n : Int) + 16).toNat = n + 16 := by omega
          go_wp2
          go_still (by kernel_rfl)
          change Exit.then _ _ Exit.normal _ wr.drew
          replace BH := ak (blk_drew BH.out)
          replace BR := ak (blk_drew BR.out)
          replace BW := ak (blk_drew BW.out)
          replace HB := ak (below_drew1 HB.out)
          replace hz : wr.drew.cell? ⟨gw, n, none⟩ = some (.int .u32 z) := hz
          replace ht : wr.drew.cell? ⟨gw, n + 9, none⟩ = some (.int .u32 t) := ht
          replace hs : wr.drew.cell? ⟨gw, n + 16, none⟩ = some (.int .u32 xs) := hs
          replace hs2 : wr.drew.frozen? ⟨gw, n + 16, none⟩ = false := hs2
          clear hx hy
          generalize wr.drew = w2 at BH BR BW HB hz ht hs hs2 ⊢
          go_wp2_with (go_at_call 65; (with_reducible refine (turn_any _ _ _ ?hn).mono ?_); (case hn => exact ⟨by omega, by unfold wrap64; omega⟩); rintro e w' ⟨rfl, ⟨nd, rfl⟩⟩)
          generalize hq : w2.drewN _ = w3
          replace hz : w3.cell? ⟨gw, n, none⟩ = some (.int .u32 z) := by rw [← hq]; exact hz
          replace ht : w3.cell? ⟨gw, n + 9, none⟩ = some (.int .u32 t) := by rw [← hq]; exact ht
          replace hs : w3.cell? ⟨gw, n + 16, none⟩ = some (.int .u32 xs) := by rw [← hq]; exact hs
          replace hs2 : w3.frozen? ⟨gw, n + 16, none⟩ = false := by rw [← hq]; exact hs2
          replace BH := ak (hq ▸ blk_drewN BH.out _ : w3.heap[gh]? = _)
          replace BR := ak (hq ▸ blk_drewN BR.out _ : w3.heap[gr]? = _)
          replace BW := ak (hq ▸ blk_drewN BW.out _ : w3.heap[gw]? = _)
          replace HB := ak (hq ▸ pw_below_drewN HB.out _ : Below w.heap.size w w3)
          clear hq
          go_still_tail 15, (by kernel_rfl)
          change wpList _ _ _ _ _ w3.drew
          go_wp2
          go_roundg (49 - (n + 1))
          case measure => omega
          case rel =>
            exact ⟨n + 1, by omega, by omega, by go_num, ak (blk_drew (blk_far BH.out (p := ⟨gw, n + 16, none⟩) NHW.out _)), ak (blk_drew (blk_far BR.out (p := ⟨gw, n + 16, none⟩) NRW.out _)), ak (blk_drew (blk_put (cs' := arr32 (WX l (n + 1))) BW.out (n + 16) _ (by rw [arr32_set, WX, HWE.out]; unfold nxt sg0 sg1; rw [HX.out, HY.out, HZ.out, HT.out]))), ak (below_drew1 (below_set HB.out GW.out))⟩
        · have hlz : ¬ (n : Int) + 16 < 64 := by omega
          obtain rfl : n = 48 := by omega
          clear hn hg hlt hlz
          have h0 := (blk_cell BH.out 0).trans rfl
          have h1 := (blk_cell BH.out 1).trans rfl
          have h2 := (blk_cell BH.out 2).trans rfl
          have h3 := (blk_cell BH.out 3).trans rfl
          have h4 := (blk_cell BH.out 4).trans rfl
          have h5 := (blk_cell BH.out 5).trans rfl
          have h6 := (blk_cell BH.out 6).trans rfl
          have h7 := (blk_cell BH.out 7).trans rfl
          go_wp2
          have BV := ak (heap_alloc_new wr (.cells #[.int .u32 a0, .int .u32 a1, .int .u32 a2, .int .u32 a3, .int .u32 a4, .int .u32 a5, .int .u32 a6, .int .u32 a7] 58))
          have NVW := ak (show wr.heap.size ≠ gw from Nat.ne_of_gt (blk_lt BW.out))
          have NVH := ak (show wr.heap.size ≠ gh from Nat.ne_of_gt (blk_lt BH.out))
          have NVR := ak (show wr.heap.size ≠ gr from Nat.ne_of_gt (blk_lt BR.out))
          have GV := ak (show w.heap.size ≤ wr.heap.size from HB.out.size)
          replace BH := ak (blk_alloc BH.out (.cells #[.int .u32 a0, .int .u32 a1, .int .u32 a2, .int .u32 a3, .int .u32 a4, .int .u32 a5, .int .u32 a6, .int .u32 a7] 58))
          replace BR := ak (blk_alloc BR.out (.cells #[.int .u32 a0, .int .u32 a1, .int .u32 a2, .int .u32 a3, .int .u32 a4, .int .u32 a5, .int .u32 a6, .int .u32 a7] 58))
          replace BW := ak (blk_alloc BW.out (.cells #[.int .u32 a0, .int .u32 a1, .int .u32 a2, .int .u32 a3, .int .u32 a4, .int .u32 a5, .int .u32 a6, .int .u32 a7] 58))
          replace HB := ak (below_alloc HB.out (.cells #[.int .u32 a0, .int .u32 a1, .int .u32 a2, .int .u32 a3, .int .u32 a4, .int .u32 a5, .int .u32 a6, .int .u32 a7] 58))
          clear h0 h1 h2 h3 h4 h5 h6 h7
          generalize wr.alloc (.cells #[.int .u32 a0, .int .u32 a1, .int .u32 a2, .int .u32 a3, .int .u32 a4, .int .u32 a5, .int .u32 a6, .int .u32 a7] 58) = W3 at BH BR BW BV HB ⊢
          generalize wr.heap.size = gv at BV NVW NVH NVR GV ⊢
          go_loopg [13] 65 (fun gq v13 w' => ∃ (n : Nat) (s : V8), n ≤ 64 ∧ 65 - n ≤ gq ∧ v13 = .int .i64 (n : Int) ∧ Aside0 (w'.heap[gh]? = some (.cells #[.int .u32 a0, .int .u32 a1, .int .u32 a2, .int .u32 a3, .int .u32 a4, .int .u32 a5, .int .u32 a6, .int .u32 a7] 58 (0, 0))) ∧ Aside0 (w'.heap[gr]? = some (.cells #[.int .u32 0, .int .u32 0, .int .u32 0, .int .u32 0, .int .u32 0, .int .u32 0, .int .u32 0, .int .u32 0] 58 (0, 0))) ∧ Aside0 (w'.heap[gw]? = some (.cells (arr32 (WX l 48)) 80 (0, 0))) ∧ Aside0 (w'.heap[gv]? = some (.cells (a8 s) 58 (0, 0))) ∧ Aside0 (Below w.heap.size w w') ∧ Aside0 (RD K64 (WX l 48) (a0, a1, a2, a3, a4, a5, a6, a7) n = s))
          case atStart => exact ⟨0, (a0, a1, a2, a3, a4, a5, a6, a7), by omega, by omega, rfl, BH, BR, BW, BV, HB, ⟨rfl⟩⟩
          case round =>
            clear HB BH BR BW BV
            obtain ⟨n, ⟨v0, v1, v2, v3, v4, v5, v6, v7⟩, hn, hg, rfl, BH, BR, BW, BV, HB, HRD⟩ := hrel
            simp only [a8] at BV
            by_cases hlt : n < 64
            · have h0 := (blk_cell BV.out 0).trans rfl
              have h1 := (blk_cell BV.out 1).trans rfl
              have h2 := (blk_cell BV.out 2).trans rfl
              have h3 := (blk_cell BV.out 3).trans rfl
              have h4 := (blk_cell BV.out 4).trans rfl
              have h5 := (blk_cell BV.out 5).trans rfl
              have h6 := (blk_cell BV.out 6).trans rfl
              have h7 := (blk_cell BV.out 7).trans rfl
              have hlz : (n : Int) < 64 := by omega
              go_wp2
              go_quiet ((go_at_call 65; exact Calls.quiet_of (turn_q _ _ _ _ ⟨by omega, by unfold wrap64; omega⟩)))
              go_wp2
              have hwl := WX_len l 48
              have hwn := arr32_at (WX l 48) n (by omega)
              clear hwl
              obtain ⟨wn, hwe⟩ : ∃ b, rd (WX l 48) (n : Int) = b := ⟨_, rfl⟩
              rw [hwe] at hwn
              have HWN := ak hwn
              have HWE := ak hwe
              clear hwn hwe
              generalize hq : wr.drewN _ = w4
              replace BH := ak (hq ▸ blk_drewN BH.out _ : w4.heap[gh]? = _)
              replace BR := ak (hq ▸ blk_drewN BR.out _ : w4.heap[gr]? = _)
              replace BW := ak (hq ▸ blk_drewN BW.out _ : w4.heap[gw]? = _)
              replace BV := ak (hq ▸ blk_drewN BV.out _ : w4.heap[gv]? = _)
              replace HB := ak (hq ▸ pw_below_drewN HB.out _ : Below w.heap.size w w4)
              clear hq h0 h1 h2 h3 h4 h5 h6 h7
              have h7 := (blk_cell BV.out 7).trans rfl
              have hc := (blk_cell BW.out n).trans HWN.out
              obtain ⟨rk, hrk⟩ : ∃ b, rd K64 (n : Int) = b := ⟨_, rfl⟩
              have HRK := ak (hrk ▸ round_any n hlt)
              have HRE := ak hrk
              clear hrk
              have hl0 : (0 : Int) ≤ (n : Int) := by omega
              go_region_held3 (fun w' => w'.cell? ⟨gv, 7, none⟩ = some (.int .u32 v7) ∧ w'.cell? ⟨gw, n, none⟩ = some (.int .u32 wn)) (first | exact ⟨(blk_cell BV.out 7).trans rfl, (blk_cell BW.out n).trans HWN.out⟩ | go_keep)
                (first | (go_at_call 66; refine (HRK.out _).mono ?_; rintro e w' ⟨rfl, hb⟩; replace BH := b1 BH hb; replace BR := b1 BR hb; replace BW := b1 BW hb; replace BV := b1 BV hb; replace HB := b2 HB hb))
              clear h7 hc
              have h0 := (blk_cell BV.out 0).trans rfl
              have h1 := (blk_cell BV.out 1).trans rfl
              have h2 := (blk_cell BV.out 2).trans rfl
              have h3 := (blk_cell BV.out 3).trans rfl
              have h4 := (blk_cell BV.out 4).trans rfl
              have h5 := (blk_cell BV.out 5).trans rfl
              have h6 := (blk_cell BV.out 6).trans rfl
              have h7 := (blk_cell BV.out 7).trans rfl
              have hf0 := blk_frozen BV.out 0
              have hf1 := blk_frozen BV.out 1
              have hf2 := blk_frozen BV.out 2
              have hf3 := blk_frozen BV.out 3
              have hf4 := blk_frozen BV.out 4
              have hf5 := blk_frozen BV.out 5
              have hf6 := blk_frozen BV.out 6
              have hf7 := blk_frozen BV.out 7
              go_wp2
              go_quiet ((go_at_call 65; exact Calls.quiet_of (turn_q _ _ _ _ ⟨by omega, by unfold wrap64; omega⟩)))
              go_wp2
              go_roundg (65 - (n + 1))
              case measure => omega
              case rel =>
                exact ⟨n + 1, rnd rk wn (v0, v1, v2, v3, v4, v5, v6, v7), by omega, by omega, by go_num, ⟨by repeat (first | (with_reducible exact blk_drewN BH.out _) | refine blk_far ?_ (Ne.symm NVH.out) _)⟩, ⟨by repeat (first | (with_reducible exact blk_drewN BR.out _) | refine blk_far ?_ (Ne.symm NVR.out) _)⟩, ⟨by repeat (first | (with_reducible exact blk_drewN BW.out _) | refine blk_far ?_ (Ne.symm NVW.out) _)⟩, ⟨by unfold a8 rnd; exact bput8 BV.out⟩, ⟨by repeat (first | (with_reducible exact pw_below_drewN HB.out _) | refine below_set ?_ GV.out)⟩, ⟨by rw [RD, HRD.out, HWE.out, HRE.out]⟩⟩
            · have hlz : ¬ (n : Int) < 64 := by omega
              obtain rfl : n = 64 := by omega
              clear hn hg hlt hlz
              go_wp2
              obtain ⟨s, hs⟩ : ∃ s : V8, (v0, v1, v2, v3, v4, v5, v6, v7) = s := ⟨_, rfl⟩
              rw [hs] at HRD
              have BV2 : Aside0 (wr.heap[gv]? = some (.cells (arr32 (l8 s)) 58 (0, 0))) := ⟨by rw [← hs]; exact BV.out⟩
              clear BV hs
              have BH2 : Aside0 (wr.heap[gh]? = some (.cells (arr32 (HX [a0, a1, a2, a3, a4, a5, a6, a7] (l8 s) 0)) 58 (0, 0))) := ⟨BH.out⟩
              clear BH
              go_loopg [19] 9 (fun gq v19 w' => ∃ i : Nat, i ≤ 8 ∧ 9 - i ≤ gq ∧ v19 = .int .i64 (i : Int) ∧ Aside0 (w'.heap[gh]? = some (.cells (arr32 (HX [a0, a1, a2, a3, a4, a5, a6, a7] (l8 s) i)) 58 (0, 0))) ∧ Aside0 (w'.heap[gr]? = some (.cells #[.int .u32 0, .int .u32 0, .int .u32 0, .int .u32 0, .int .u32 0, .int .u32 0, .int .u32 0, .int .u32 0] 58 (0, 0))) ∧ Aside0 (w'.heap[gv]? = some (.cells (arr32 (l8 s)) 58 (0, 0))) ∧ Aside0 (Below w.heap.size w w'))
              case atStart => exact ⟨0, by omega, by omega, rfl, BH2, BR, BV2, HB⟩
              case round =>
                clear HB BH2 BR BV2 BW
                obtain ⟨i, hi, hg, rfl, BH, BR, BV, HB⟩ := hrel
                by_cases hlt : i < 8
                · have hx := ((blk_cell BH.out i).trans (arr32_at _ i (by rw [HX_len [a0, a1, a2, a3, a4, a5, a6, a7] (l8 s) rfl i (by simp; omega)]; simpa using hlt)))
                  rw [HX_rd [a0, a1, a2, a3, a4, a5, a6, a7] (l8 s) rfl i (by simpa using hlt)] at hx
                  have hy := (blk_cell BV.out i).trans (arr32_at (l8 s) i (by simpa [l8] using hlt))
                  have hset := HX_set [a0, a1, a2, a3, a4, a5, a6, a7] (l8 s) rfl i (by simpa using hlt)
                  have hf := blk_frozen BH.out i
                  obtain ⟨x, hx'⟩ : ∃ b, rd [a0, a1, a2, a3, a4, a5, a6, a7] (i : Int) = b := ⟨_, rfl⟩
                  obtain ⟨y, hy'⟩ : ∃ b, rd (l8 s) (i : Int) = b := ⟨_, rfl⟩
                  rw [hx'] at hx hset
                  rw [hy'] at hy hset
                  have HSET := ak hset
                  clear hset hx' hy'
                  have hl0 : (0 : Int) ≤ (i : Int) := by omega
                  have hl1 : (i : Int) < 8 := by omega
                  go_wp2
                  go_still_tail 9, (by kernel_rfl)
                  change wpList _ _ _ _ _ wr.drew
                  go_wp2
                  go_roundg (9 - (i + 1))
                  case measure => omega
                  case rel =>
                    exact ⟨i + 1, by omega, by omega, by go_num, ak (blk_drew (blk_put (cs' := arr32 (HX [a0, a1, a2, a3, a4, a5, a6, a7] (l8 s) (i + 1))) BH.out i _ (by rw [arr32_set, ← HSET.out]; rfl))), ak (blk_drew (blk_far BR.out (p := ⟨gh, i, none⟩) (Ne.symm NHR.out) _)), ak (blk_drew (blk_far BV.out (p := ⟨gh, i, none⟩) NVH.out _)), ak (below_drew1 (below_set HB.out GH.out))⟩
                · have hlz : ¬ (i : Int) < 8 := by omega
                  obtain rfl : i = 8 := by omega
                  clear hi hg hlt hlz
                  have BH3 : Aside0 (wr.heap[gh]? = some (.cells #[.int .u32 (addm a0 s.1), .int .u32 (addm a1 s.2.1), .int .u32 (addm a2 s.2.2.1), .int .u32 (addm a3 s.2.2.2.1), .int .u32 (addm a4 s.2.2.2.2.1), .int .u32 (addm a5 s.2.2.2.2.2.1), .int .u32 (addm a6 s.2.2.2.2.2.2.1), .int .u32 (addm a7 s.2.2.2.2.2.2.2)] 58 (0, 0))) := ⟨BH.out⟩
                  clear BH
                  have BH := BH3
                  have h0 := (blk_cell BH.out 0).trans rfl
                  have h1 := (blk_cell BH.out 1).trans rfl
                  have h2 := (blk_cell BH.out 2).trans rfl
                  have h3 := (blk_cell BH.out 3).trans rfl
                  have h4 := (blk_cell BH.out 4).trans rfl
                  have h5 := (blk_cell BH.out 5).trans rfl
                  have h6 := (blk_cell BH.out 6).trans rfl
                  have h7 := (blk_cell BH.out 7).trans rfl
                  have g0 := (blk_cell BR.out 0).trans rfl
                  have g1 := (blk_cell BR.out 1).trans rfl
                  have g2 := (blk_cell BR.out 2).trans rfl
                  have g3 := (blk_cell BR.out 3).trans rfl
                  have g4 := (blk_cell BR.out 4).trans rfl
                  have g5 := (blk_cell BR.out 5).trans rfl
                  have g6 := (blk_cell BR.out 6).trans rfl
                  have g7 := (blk_cell BR.out 7).trans rfl
                  have f0 := blk_frozen BR.out 0
                  have f1 := blk_frozen BR.out 1
                  have f2 := blk_frozen BR.out 2
                  have f3 := blk_frozen BR.out 3
                  have f4 := blk_frozen BR.out 4
                  have f5 := blk_frozen BR.out 5
                  have f6 := blk_frozen BR.out 6
                  have f7 := blk_frozen BR.out 7
                  go_wp2
                  refine bodyPost_ret (v := .agg #[.int .u32 (addm a0 s.1), .int .u32 (addm a1 s.2.1), .int .u32 (addm a2 s.2.2.1), .int .u32 (addm a3 s.2.2.2.1), .int .u32 (addm a4 s.2.2.2.2.1), .int .u32 (addm a5 s.2.2.2.2.2.1), .int .u32 (addm a6 s.2.2.2.2.2.2.1), .int .u32 (addm a7 s.2.2.2.2.2.2.2)]) (by simp [results, Try.results51, go_sem, *]) rfl ?_
                  exact ⟨by unfold blockV; rw [HRD.out]; rfl, by repeat (first | (with_reducible exact HB.out) | refine below_set ?_ GR.out)⟩

def first8 : V8 := (1779033703, 3144134277, 1013904242, 2773480762, 1359893119, 2600822924, 528734635, 1541459225)
set_option maxHeartbeats 2000000 in
set_option maxRecDepth 100000 in
theorem first_any (w : World) : Calls Try.prog 50 #[] w fun e w' => e = .returned (.agg (a8 first8)) ∧ Below w.heap.size w w' := by
  go_enter Try.func50, Try.ntmps50
  go_wp2
  have HB := ak (below_alloc (Below.refl w.heap.size w) (.cells (a8 first8) 58))
  have BL := ak (heap_alloc_new w (.cells (a8 first8) 58))
  change bodyPost _ _ _ _ _ (w.alloc (.cells (a8 first8) 58))
  generalize w.alloc (.cells (a8 first8) 58) = W1 at HB BL ⊢
  generalize w.heap.size = gs at HB BL ⊢
  have h0 := (blk_cell BL.out 0).trans rfl
  have h1 := (blk_cell BL.out 1).trans rfl
  have h2 := (blk_cell BL.out 2).trans rfl
  have h3 := (blk_cell BL.out 3).trans rfl
  have h4 := (blk_cell BL.out 4).trans rfl
  have h5 := (blk_cell BL.out 5).trans rfl
  have h6 := (blk_cell BL.out 6).trans rfl
  have h7 := (blk_cell BL.out 7).trans rfl
  refine bodyPost_ret (v := .agg (a8 first8)) (by simp [results, Try.results50, go_sem, a8, first8, *]) rfl ?_
  exact ⟨rfl, HB.out⟩
def lenAt (n t : Nat) : Int := (n : Int) * 8 / 2 ^ (8 * (7 - t)) % 256
def lenB (n j : Nat) : List Int := (List.range j).map (lenAt n)
theorem lenB_succ (n j : Nat) : lenB n (j + 1) = lenB n j ++ [lenAt n j] := by simp [lenB, List.range_succ]
def padTo (a : List Int) : List Int := a ++ List.replicate ((120 - a.length % 64) % 64) 0
def chunk (L : List Int) (k : Nat) : List Int := (L.take (64 * k + 64)).drop (64 * k)
def foldB (L : List Int) : Nat → V8
  | 0 => first8
  | k + 1 => blockV (chunk L k) (foldB L k)
def bytes4 (x : Int) : List Int := [x / 16777216 % 256, x / 65536 % 256, x / 256 % 256, x % 256]
def outB (H : List Int) (m : Nat) : List Int := ((List.range m).map fun t => bytes4 (rd H ((t : Nat) : Int))).flatten
theorem outB_succ (H : List Int) (m : Nat) : outB H (m + 1) = outB H m ++ bytes4 (rd H ((m : Nat) : Int)) := by simp [outB, List.range_succ]
theorem outB_len (H : List Int) (m : Nat) : (outB H m).length = 4 * m := by
  induction m with
  | zero => rfl
  | succ m ih => rw [outB_succ, List.length_append, ih]; simp [bytes4]; omega
/-- The message, filled up. -/
def fullL (l : List Int) : List Int := padTo (l ++ [128]) ++ lenB l.length 8
def sumL (l : List Int) : List Int := outB (l8 (foldB (fullL l) ((fullL l).length / 64))) 8
theorem spec_l7sum.swap (W : World) (o : Obj) : (W.alloc o).drew = (W.drew).alloc o := rfl
theorem spec_l7sum.step {c : Prop} [Decidable c] {A B E : Prop} (hc : c) (h : if c then A else B) : if c then A else E := by rw [if_pos hc] at h ⊢; exact h
theorem C_lit4 (W : World) (g : Nat) (a b c d : Int) (h : W.heap[g]? = some (.cells #[.int .u8 a, .int .u8 b, .int .u8 c, .int .u8 d] 5 (0, 0))) : Kd.C (Kd.int .u8) W (some ⟨g, 0, none⟩) [a, b, c, d].length [a, b, c, d] :=
  Kd.C_of_reads (d := 0) ⟨rfl, by simp, fun _ => ⟨_, rfl, fun j hj => match j, hj with
    | 0, _ => (blk_cell h 0).trans rfl
    | 1, _ => (blk_cell h 1).trans rfl
    | 2, _ => (blk_cell h 2).trans rfl
    | 3, _ => (blk_cell h 3).trans rfl⟩⟩
theorem padTo_snoc (a : List Int) (h : a.length % 64 ≠ 56) : padTo (a ++ [0]) = padTo a := by
  unfold padTo
  rw [List.append_assoc, List.length_append, List.length_singleton]
  have e : (120 - a.length % 64) % 64 = (120 - (a.length + 1) % 64) % 64 + 1 := by omega
  rw [e, List.replicate_succ]
  rfl
theorem padTo_end (a : List Int) (h : a.length % 64 = 56) : padTo a = a := by
  unfold padTo
  rw [h]
  simp
theorem padTo_len (a : List Int) : (padTo a).length = a.length + (120 - a.length % 64) % 64 := by simp [padTo]
theorem padTo_mod (a : List Int) : (padTo a).length % 64 = 56 := by rw [padTo_len]; omega
set_option maxHeartbeats 4000000 in
set_option maxRecDepth 100000 in
theorem spec_l7sum.calls0 (A : Option Addr) (c : Nat) (l : List Int) (w : World) (hl : l.length ≤ 5000) (hr : Kd.C (Kd.int .u8) w A l.length l) (hc : l.length ≤ c) :
    Calls Try.prog 32 #[.slice A l.length c] w fun e w' => ∃ v0_ : Value, e = .returned v0_ ∧ Kd.R (Kd.int .u8) 5 w' w.heap.size (fun _ => True) v0_ (sumL l) ∧ Below w.heap.size w w' := by
  have HR0 := ak hr
  have HL := ak hl
  have HB := ak (Below.refl w.heap.size w)
  clear hr hl hc
  go_enter Try.func32, Try.ntmps32
  go_wp2_with (first | ((with_reducible refine gate_dst (N := 10) rfl ?_);refine Kd.R_lit (Kd.int .u8) _ 5 ?hg (N := 10) ?hd (xs := ([] : List Int)) (inner := []) (ok := fun _ => True) (okp := fun _ => True) ?hr ?hp (fun _ hk => hk) trivial (Below.refl _ _) (Nat.le_refl _) (by simp) ?_;(case hd => rfl);(case hg => rfl);(case hr => first | (go_simp; done) | (go_simp; rfl));(case hp => exact (Reps.none _ _));intro v111 w3 ho4 hb hg_ hnew_;clear hg_ hnew_;have HO112 := ak (Kd.R_lower ho4 (below_size HB.out));replace HB := ak (below_step HB.out hb);clear hb ho4) | ((with_reducible refine gate_builtin (b := .append) (xs := #[.tmp 10, .tmp 11]) rfl ?_);at_builtin;refine Kd.R_append_rows (Kd.int .u8) (w0 := w) w.heap.size rfl (.tmp 10) (.tmp 11) 26 5 (.int .u8 0) 1 rfl Try.underlying26 info5 rfl (by decide) (by omega) v111 [] l _ _ _ (fun _ => True) (fun _ => False) rfl rfl ?aO ?aR (fun _ _ h => h) (fun _ h => h.elim) ?aF ?aB ?aS ?aL ?_;(case aR => exact cw HR0.out HB.out);(case aB => exact (bw HB.out));(case aF => exact (fun _ _ => trivial));(case aO => exact (rw_ HO112.out));(case aS => exact (below_size (bw HB.out)));(case aL => have := HL.out; simp; omega);intro v114 w5 ho hb hg hat;rw [List.nil_append] at ho;replace HB := ak (hb);have HO115 := ak (ho);clear HO112;clear ho hb hg hat) | ((with_reducible refine gate_builtin (b := .append) (xs := #[.tmp 12, .tmp 13]) rfl ?_);at_builtin;refine Kd.R_append (Kd.int .u8) (w0 := w) w.heap.size rfl (.tmp 12) (.tmp 13) 26 5 (.int .u8 0) 1 rfl Try.underlying26 info5 rfl (by decide) (by omega) v114 l 128 [.int .u8 128] (fun _ => True) (fun _ => False) rfl rfl ?aP (fun _ hk => hk.elim) ?aF ?aO ?aB ?aS ?aL ?_;(case aP => exact rfl);(case aB => exact (bw HB.out));(case aF => exact (fun _ _ => trivial));(case aO => exact (rw_ HO115.out));(case aS => exact below_size (bw HB.out));(case aL => have := HL.out; omega);intro v116 w6 ho hb hg hat;replace HB := ak hb;have HO := ak ho;clear HO115;clear ho hb hg hat))
  obtain ⟨P, HPP⟩ : ∃ P, Aside0 (P = padTo (l ++ [128])) := ⟨_, ⟨rfl⟩⟩
  have HPL : Aside0 (P.length ≤ 5100) := ⟨by have := HL.out; rw [HPP.out, padTo_len, List.length_append, List.length_singleton]; omega⟩
  go_loopg [3] 65 (fun kq v3 w' => ∃ a : List Int, (120 - a.length % 64) % 64 < kq ∧ Aside0 (P = padTo a) ∧ Aside0 (Kd.R (Kd.int .u8) 5 w' w.heap.size (fun _ => True) v3 a) ∧ Aside0 (Below w.heap.size w w'))
  case atStart => exact ⟨l ++ [128], by omega, HPP, HO, HB⟩
  case round =>
    clear HO HB
    obtain ⟨a, hg, HPA, HO, HB⟩ := hrel
    obtain ⟨A1, c1, eo⟩ := Kd.R_slice HO.out
    subst eo
    have HAL : Aside0 (a.length ≤ 5100) := ⟨by have h1 := HPL.out; have h2 := congrArg List.length HPA.out; rw [padTo_len] at h2; omega⟩
    by_cases c2 : a.length % 64 = 56
    · have e2 : (a.length : Int) % 64 = 56 := by omega
      have hP : P = a := by rw [HPA.out]; exact padTo_end a c2
      subst hP
      have hl := HL.out
      clear HPA
      go_wp2
      clear hl e2
      go_loopg [3, 5] 9 (fun kq v3 v5 w' => ∃ j : Nat, j ≤ 8 ∧ 9 - j ≤ kq ∧ v5 = .int .i64 (7 - (j : Int)) ∧ Aside0 (Kd.R (Kd.int .u8) 5 w' w.heap.size (fun _ => True) v3 (P ++ lenB l.length j)) ∧ Aside0 (Below w.heap.size w w'))
      case atStart => exact ⟨0, by omega, by omega, rfl, by simpa [lenB] using HO, HB⟩
      case round =>
        clear HO HB
        obtain ⟨j, hj, hg3, rfl, HO, HB⟩ := hrel
        have HG3 := ak hg3
        have hll : (P ++ lenB l.length j).length ≤ 5200 := by have := HPL.out; rw [List.length_append]; simp [lenB]; omega
        have HAL2 := ak hll
        clear hll hg3
        obtain ⟨P2, HP2⟩ : ∃ P2, Aside0 (P2 = P ++ lenB l.length j) := ⟨_, ⟨rfl⟩⟩
        rw [← HP2.out] at HO HAL2
        obtain ⟨A2, c3, eo⟩ := Kd.R_slice HO.out
        subst eo
        by_cases c4 : j = 8
        · subst c4
          have e3 : ¬ (0 : Int) ≤ 7 - ((8 : Nat) : Int) := by omega
          clear hj HG3
          go_wp2_with (go_at_call 50; refine (first_any _).mono ?_; rintro e w' ⟨rfl, hb⟩; replace HO := ak (Kd.R_below HO.out hb); replace HB := ak (below_step HB.out hb); clear hb; simp only [a8, first8])
          have HM : Aside0 (P2.length % 64 = 0) := ⟨by rw [HP2.out, List.length_append]; simp [lenB]; omega⟩
          have HRP := ak (Kd.R_reads' HO.out).2.2
          have HRM := ak (Kd.R_reads' HO.out).2.1
          have HB0 := ak (below_alloc (Below.refl w'.heap.size w') (.cells (a8 first8) 58))
          have BG := ak (heap_alloc_new w' (.cells (a8 first8) 58))
          have GW := ak (show w.heap.size ≤ w'.heap.size from below_size HB.out)
          replace HB := ak (below_alloc HB.out (.cells (a8 first8) 58))
          clear HO
          obtain ⟨g, BG, GG, hgoal⟩ : ∃ g, Aside0 ((w'.alloc (.cells (a8 first8) 58)).heap[g]? = some (.cells (a8 first8) 58 (0, 0))) ∧ Aside0 (w'.heap.size ≤ g) ∧ Aside0 (g = w'.heap.size) := ⟨_, BG, ⟨Nat.le_refl _⟩, ⟨rfl⟩⟩
          rw [← hgoal.out]
          clear hgoal
          change Code.wp _ _ _ _ (w'.alloc (.cells (a8 first8) 58))
          generalize w'.alloc (.cells (a8 first8) 58) = W1 at BG HB0 HB ⊢
          generalize hgx : (Value.agg #[.int .u32 1779033703, .int .u32 3144134277, .int .u32 1013904242, .int .u32 2773480762, .int .u32 1359893119, .int .u32 2600822924, .int .u32 528734635, .int .u32 1541459225]) = gx
          clear hgx
          go_loopg [7] 100 (fun kq v7 wq => ∃ k : Nat, 64 * k ≤ P2.length ∧ 100 - k ≤ kq ∧ v7 = .int .i64 (64 * (k : Int)) ∧ Aside0 (wq.heap[g]? = some (.cells (a8 (foldB P2 k)) 58 (0, 0))) ∧ Aside0 (Below w'.heap.size w' wq) ∧ Aside0 (Below w.heap.size w wq))
          case atStart => exact ⟨0, by omega, by omega, rfl, BG, HB0, HB⟩
          case round =>
            clear BG HB0 HB
            obtain ⟨k, hk, hg5, rfl, BG, HB0, HB⟩ := hrel
            have HL2 := HAL2.out
            have HM2 := HM.out
            by_cases c5 : 64 * k < P2.length
            · have e5 : 64 * (k : Int) < (P2.length : Int) := by omega
              have s5 : IntKind.i64.wrap (64 * (k : Int) + 64) = 64 * (k : Int) + 64 := IntWalk.i64_in _ (by omega)
              obtain ⟨i010, hi010, _, hsz10, _⟩ := info_parts info5
              have hcut := cut_mid (P := Try.prog) 26 5 .i64 .i64 Try.underlying26 hi010 1 hsz10 A2 P2.length c3 (64 * (k : Int)) (64 * (k : Int) + 64) (by omega) (by omega) (by omega) HRM.out
              have hr10 := Kd.C_mid (lo := (64 * (k : Int)).toNat) (hi := (64 * (k : Int) + 64).toNat) (c := c3) HRP.out (by omega) (by omega) HRM.out
              have hy : (chunk P2 k).length = 64 := by unfold chunk; rw [List.length_drop, List.length_take]; omega
              rw [show (64 * (k : Int)).toNat = 64 * k from by omega, show (64 * (k : Int) + 64).toNat = 64 * k + 64 from by omega] at hr10 hcut
              obtain ⟨A10, hA10⟩ : ∃ A1, A1 = (if c3 = 64 * k then A2 else Option.map (fun x => x.add (64 * k * 1)) A2) := ⟨_, rfl⟩
              obtain ⟨c10, hc10⟩ : ∃ c1, c1 = c3 - 64 * k := ⟨_, rfl⟩
              replace hr10 : Kd.C (Kd.int .u8) w' A10 (chunk P2 k).length (chunk P2 k) := by rw [hA10]; exact hr10
              rw [← hA10, ← hc10, show 64 * k + 64 - 64 * k = (chunk P2 k).length by rw [hy]; omega] at hcut
              obtain ⟨y, HYE⟩ : ∃ y, Aside0 (y = chunk P2 k) := ⟨_, ⟨rfl⟩⟩
              rw [← HYE.out] at hr10 hcut hy
              obtain ⟨⟨v0, v1, v2, v3, v4, v5, v6, v7⟩, hS⟩ : ∃ S, S = foldB P2 k := ⟨_, rfl⟩
              rw [← hS] at BG
              have HS := ak hS
              obtain ⟨⟨z0, z1, z2, z3, z4, z5, z6, z7⟩, hQ⟩ : ∃ S, S = blockV y (v0, v1, v2, v3, v4, v5, v6, v7) := ⟨_, rfl⟩
              have HQ := ak hQ
              have HCALL := ak (show ∀ W, Below w'.heap.size w' W → Calls Try.prog 51 #[.agg #[.int .u32 v0, .int .u32 v1, .int .u32 v2, .int .u32 v3, .int .u32 v4, .int .u32 v5, .int .u32 v6, .int .u32 v7], .slice A10 y.length c10] W (fun e W' => e = .returned (.agg #[.int .u32 z0, .int .u32 z1, .int .u32 z2, .int .u32 z3, .int .u32 z4, .int .u32 z5, .int .u32 z6, .int .u32 z7]) ∧ Below W.heap.size W W') from fun W hb => by
                have := spec_l7block.calls v0 v1 v2 v3 v4 v5 v6 v7 A10 c10 y W hy (Kd.C_below hr10 hb)
                rw [← hQ] at this
                exact this)
              simp only [a8] at BG
              have HC5 := ak c5
              clear hr10 hy hA10 hc10 hS hQ hi010 hsz10 HL2 HM2 c5
              have h0 := (blk_cell BG.out 0).trans rfl
              have h1 := (blk_cell BG.out 1).trans rfl
              have h2 := (blk_cell BG.out 2).trans rfl
              have h3 := (blk_cell BG.out 3).trans rfl
              have h4 := (blk_cell BG.out 4).trans rfl
              have h5 := (blk_cell BG.out 5).trans rfl
              have h6 := (blk_cell BG.out 6).trans rfl
              have h7 := (blk_cell BG.out 7).trans rfl
              go_wp2
              go_still_tail 6, (by kernel_rfl)
              change wpList _ _ _ _ _ wr.drew
              replace BG := ak (blk_drew BG.out)
              replace HB := ak (below_drew1 HB.out)
              replace HB0 := ak (below_drew1 HB0.out)
              go_wp2_with (fail)
              go_at_call 51
              refine (HCALL.out _ ?hbw).mono ?_
              (case hbw => exact HB0.out)
              rintro e w2 ⟨rfl, hb⟩
              replace BG := b1 BG hb
              replace HB := b2 HB hb
              replace HB0 := b2 HB0 hb
              clear hb h0 h1 h2 h3 h4 h5 h6 h7
              have h0 := (blk_cell BG.out 0).trans rfl
              have h1 := (blk_cell BG.out 1).trans rfl
              have h2 := (blk_cell BG.out 2).trans rfl
              have h3 := (blk_cell BG.out 3).trans rfl
              have h4 := (blk_cell BG.out 4).trans rfl
              have h5 := (blk_cell BG.out 5).trans rfl
              have h6 := (blk_cell BG.out 6).trans rfl
              have h7 := (blk_cell BG.out 7).trans rfl
              have hf0 := blk_frozen BG.out 0
              have hf1 := blk_frozen BG.out 1
              have hf2 := blk_frozen BG.out 2
              have hf3 := blk_frozen BG.out 3
              have hf4 := blk_frozen BG.out 4
              have hf5 := blk_frozen BG.out 5
              have hf6 := blk_frozen BG.out 6
              have hf7 := blk_frozen BG.out 7
              go_wp2
              go_roundg (100 - (k + 1))
              case measure => have := HC5.out; have := HAL2.out; omega
              case rel => exact ⟨k + 1, by have := HM.out; have := HC5.out; omega, by have := HC5.out; have := HAL2.out; omega, by go_num, ⟨by rw [foldB, ← HS.out, ← HYE.out, ← HQ.out]; unfold a8; exact bput8 BG.out⟩, ⟨by repeat (first | (with_reducible exact HB0.out) | refine below_set ?_ GG.out)⟩, ⟨by repeat (first | (with_reducible exact HB.out) | refine below_set ?_ (Nat.le_trans GW.out GG.out))⟩⟩
            · have e5 : ¬ 64 * (k : Int) < (P2.length : Int) := by omega
              obtain ⟨⟨v0, v1, v2, v3, v4, v5, v6, v7⟩, hS⟩ : ∃ S, S = foldB P2 (P2.length / 64) := ⟨_, rfl⟩
              rw [show k = P2.length / 64 by omega, ← hS, a8_l8] at BG
              have HS := ak hS
              have HLL := ak (show (l8 (v0, v1, v2, v3, v4, v5, v6, v7)).length = 8 from rfl)
              obtain ⟨H8, hE8⟩ : ∃ H, H = l8 (v0, v1, v2, v3, v4, v5, v6, v7) := ⟨_, rfl⟩
              rw [← hE8] at BG HLL
              rw [hS] at hE8
              have HE8 := ak hE8
              clear hE8
              clear HL2 HM2 c5 hg5 hS HAL2
              go_wp2
              clear e5 hk
              go_loopg [8, 9] 9 (fun kq v8 v9 wq => ∃ m : Nat, m ≤ 8 ∧ 9 - m ≤ kq ∧ v9 = .int .i64 (m : Int) ∧ Aside0 (Kd.R (Kd.int .u8) 5 wq w.heap.size (fun b => b ≠ g) v8 (outB H8 m)) ∧ Aside0 (wq.heap[g]? = some (.cells (arr32 H8) 58 (0, 0))) ∧ Aside0 (Below w.heap.size w wq))
              case atStart => exact ⟨0, by omega, by omega, rfl, ⟨Kd.R_nil _ _ _ _ _⟩, BG, HB⟩
              case round =>
                clear BG HB HB0
                obtain ⟨m, hm, hg6, rfl, HO, BG, HB⟩ := hrel
                obtain ⟨A5, c5, eo⟩ := Kd.R_slice HO.out
                subst eo
                by_cases c6 : m < 8
                · have e6 : (m : Int) < 8 := by omega
                  have hx := (blk_cell BG.out m).trans (arr32_at H8 m (by have := HLL.out; omega))
                  have hf := blk_frozen BG.out m
                  obtain ⟨x, hxx⟩ : ∃ x, rd H8 (m : Int) = x := ⟨_, rfl⟩
                  rw [hxx] at hx
                  have HX := ak hxx
                  have HXA := ak (show (arr32 H8)[m]? = some (.int .u32 x) by rw [← hxx]; exact arr32_at H8 m (by have := HLL.out; omega))
                  clear hxx
                  go_wp2
                  have HOL := ak (show (outB H8 m).length ≤ 32 by rw [outB_len]; omega)
                  go_region_held3 (fun w' => w'.cell? ⟨g, m, none⟩ = some (.int .u32 x)) (first | exact hx | exact (blk_cell BG.out m).trans HXA.out | go_keep)
                    (first
                      | (rw [spec_l7sum.swap]; refine spec_l7sum.step (by simp [Region.wanted]) (Kd.R_append_rows_step (Kd.int .u8) (w0 := w) w.heap.size (by simp [Region.wanted]) (.tmp 55) (.tmp 75) 26 5 (.int .u8 0) 1 (by rfl) Try.underlying26 info5 rfl (by decide) (by omega) (.slice A5 (outB H8 m).length c5) (outB H8 m) [IntKind.u8.wrap (x / 16777216), IntKind.u8.wrap (x / 65536), IntKind.u8.wrap (x / 256), IntKind.u8.wrap x] _ _ _ (fun k_ => k_ ≠ g ∧ k_ ≠ wr.heap.size) (fun _ => False) (by rfl) (by rfl) (Kd.R_reok rfl (Kd.R_alloc (Kd.R_drew HO.out) _) (fun b hb => ⟨HO.out.1 b hb, by have := Kd.R_lt HO.out b hb; omega⟩)) (C_lit4 _ _ _ _ _ _ (heap_alloc_new wr.drew _)) (fun _ _ h => h) (fun _ h => h.elim) (fun k_ hk => ⟨by have := blk_lt BG.out; simp at hk; omega, by simp at hk; omega⟩) (below_alloc (below_drew1 HB.out) _) (below_size (below_alloc (below_drew1 HB.out) _)) (by have := HOL.out; simp; omega) ?_); intro v1 w1 ho hb hg hat; have n0_ := Aside0.mk (blk_grown (g := g) (o := .cells (arr32 H8) 58 (0, 0)) (blk_alloc (blk_drew BG.out) _) hg (fun e => HO.out.1 g e.symm rfl)); have n1_ := Aside0.mk hb; have n2_ := Aside0.mk (Kd.R_mono ho (fun _ hk => hk.1)); clear HB HO BG ho hb hg hat; have BG := n0_; have HB := n1_; have HO := n2_; clear n0_ n1_ n2_))
                  go_wp2
                  go_roundg (9 - (m + 1))
                  case measure => omega
                  case rel => exact ⟨m + 1, by omega, by omega, by go_num, ⟨by rw [outB_succ, HX.out]; exact HO.out⟩, BG, HB⟩
                · have e6 : ¬ (m : Int) < 8 := by omega
                  obtain rfl : m = 8 := by omega
                  clear hm hg6 c6
                  go_wp2
                  go_ret
                  refine ⟨_, rfl, ?_, HB.out⟩
                  have h := HO.out
                  rw [HE8.out, HP2.out, HPP.out] at h
                  exact Kd.R_mono h (fun _ _ => trivial)
        · have e3 : (0 : Int) ≤ 7 - (j : Int) := by omega
          have s3 : IntKind.i64.wrap (8 * (7 - (j : Int))) = 8 * (7 - (j : Int)) := IntWalk.i64_in _ (by omega)
          have s4 : (0 : Int) ≤ 8 * (7 - (j : Int)) := by omega
          go_wp2_with ((with_reducible refine gate_builtin (b := .append) (xs := #[.tmp 29, .tmp 35]) rfl ?_);at_builtin;refine Kd.R_append (Kd.int .u8) (w0 := w) w.heap.size rfl (.tmp 29) (.tmp 35) 26 5 (.int .u8 0) 1 rfl Try.underlying26 info5 rfl (by decide) (by omega) (.slice A2 P2.length c3) P2 (lenAt l.length j) [.int .u8 (lenAt l.length j)] (fun _ => True) (fun _ => False) rfl rfl ?aP (fun _ hk => hk.elim) ?aF ?aO ?aB ?aS ?aL ?_;(case aP => exact rfl);(case aB => exact (bw HB.out));(case aF => exact (fun _ _ => trivial));(case aO => exact (rw_ HO.out));(case aS => exact below_size (bw HB.out));(case aL => have := HAL2.out; omega);intro v117 w7 ho hb hg hat;replace HB := ak hb;replace HO := ak ho;clear ho hb hg hat)
          go_roundg (9 - (j + 1))
          case measure => have := HG3.out; omega
          case rel => exact ⟨j + 1, by omega, by omega, by go_num, ⟨by rw [lenB_succ, ← List.append_assoc, ← HP2.out]; exact HO.out⟩, HB⟩
    · have e2 : ¬ (a.length : Int) % 64 = 56 := by omega
      have E2 := ak c2
      have HG2 := ak hg
      clear c2 hg
      go_wp2_with ((with_reducible refine gate_builtin (b := .append) (xs := #[.tmp 19, .tmp 20]) rfl ?_);at_builtin;refine Kd.R_append (Kd.int .u8) (w0 := w) w.heap.size rfl (.tmp 19) (.tmp 20) 26 5 (.int .u8 0) 1 rfl Try.underlying26 info5 rfl (by decide) (by omega) (.slice A1 a.length c1) a 0 [.int .u8 0] (fun _ => True) (fun _ => False) rfl rfl ?aP (fun _ hk => hk.elim) ?aF ?aO ?aB ?aS ?aL ?_;(case aP => exact rfl);(case aB => exact (bw HB.out));(case aF => exact (fun _ _ => trivial));(case aO => exact (rw_ HO.out));(case aS => exact below_size (bw HB.out));(case aL => have := HAL.out; omega);intro v116 w6 ho hb hg hat;replace HB := ak hb;replace HO := ak ho;clear ho hb hg hat)
      go_roundg ((120 - (a.length + 1) % 64) % 64 + 1)
      case measure => have := HG2.out; have := E2.out; omega
      case rel => exact ⟨a ++ [0], by rw [List.length_append, List.length_singleton]; omega, ⟨by rw [padTo_snoc a E2.out]; exact HPA.out⟩, HO, HB⟩
def spec_l7sum.f (l0 : List Int) : Option (List Int) := if l0.length ≤ 5000 then some (sumL l0) else none
theorem spec_l7sum.calls (A0 : Option Addr) (c0 : Nat) (l0 : List Int) (r : List Int) (w : World) (hr0 : Kd.C (Kd.int .u8) w A0 l0.length l0) (hc0 : l0.length ≤ c0) (h : spec_l7sum.f l0 = some r) :
    Calls Try.prog 32 #[.slice A0 l0.length c0] w fun e w' => ∃ v0_ : Value, e = .returned (v0_) ∧ Kd.R (Kd.int .u8) 5 w' w.heap.size (fun _ => True) v0_ r ∧ Below w.heap.size w w' := by
  unfold spec_l7sum.f at h
  split at h
  · rename_i hb
    obtain rfl := Option.some.inj h
    exact spec_l7sum.calls0 A0 c0 l0 w hb hr0 hc0
  · exact absurd h (by simp)

/-! ### spec_l7dhcid: function 35 -/
/-! ### spec_Dhcid: function 19 -/
/-! ### impl_isClient: function 36 -/
def impl_isClient.f (l0 : List Int) : Option (Bool) := (impl_within.f (l0.length : Int) 1 16).bind fun t101 => (some t101)
set_option maxHeartbeats 8000000 in
set_option maxRecDepth 100000 in
theorem impl_isClient.calls (A0 : Option Addr) (c0 : Nat) (l0 : List Int) (r : Bool) (w : World) (hr0 : Kd.C (Kd.int .u8) w A0 l0.length l0) (hc0 : l0.length ≤ c0) (h : impl_isClient.f l0 = some r) :
  Calls Try.prog 36 #[.slice A0 l0.length c0] w fun e w' => e = .returned (.bool r) ∧ Drawn0 w w' := by
 have HR0 := ak hr0
 have HC0 := ak hc0
 clear hr0 hc0
 have H : ((impl_within.f (l0.length : Int) 1 16).bind fun t101 => (some t101)) = some r := h
 clear h
 replace H := bnd H
 obtain ⟨t101, A2, H⟩ := H
 obtain rfl := Option.some.inj H
 go_enter Try.func36, Try.ntmps36
 go_wp2_with (((with_reducible refine gate_callee (f := 58) rfl ?_);refine glD 5 rfl rfl Try.func58 (impl_within.calls (l0.length : Int) 1 16 t101 _ A2.out) (fun nd => ?_)))
 go_ret
 exact ⟨o2, od⟩

/-! ### slices_IndexFunc_uint64_uint64: function 79 -/

set_option maxHeartbeats 2000000 in
theorem slices_IndexFunc_uint64_uint64.calls (g : Nat) (lb : Array Value) (eg : ∀ args w, (callFunc g args).run Try.prog w = .ok (.enter g args) w) (p : Int → Bool) (A0 : Option Addr) (c0 : Nat) (l0 : List Int) (w : World) (hr0 : Kd.C (Kd.int .u64) w A0 l0.length l0)
  (hp : ∀ (W : World) (x : Int), x ∈ l0 → Below w.heap.size w W → Calls Try.prog g (#[.int .u64 x] ++ lb) W fun e w' => e = .returned (.bool (p x)) ∧ Below w.heap.size w w') :
  Calls Try.prog 79 #[.slice A0 l0.length c0, .func (.func g) #[] lb] w fun e w' => (∃ r : Int, e = .returned (.int .i64 r) ∧ decide (0 ≤ r) = l0.any p) ∧ Below w.heap.size w w' := by
 have HR0 := ak hr0
 have hbig : l0.length ≤ 9223372036854775807 := hr0.2.1
 have HP := ak hp
 clear hr0 hp
 go_enter Try.func79, Try.ntmps79
 go_wp2
 go_loopg [5, 8] l0.length (fun gg _ s8 wr => ∃ kk : Nat, kk ≤ l0.length ∧ l0.length - kk ≤ gg ∧ s8 = .int .i64 kk ∧ Aside0 (Below w.heap.size w wr) ∧ Aside0 ((l0.take kk).any p = false))
 case atStart => exact ⟨0, Nat.zero_le _, by omega, rfl, ⟨Below.refl _ w⟩, ⟨by simp⟩⟩
 case round =>
  obtain ⟨kk, hkk, hg, rfl, BW, AF⟩ := hrel
  by_cases hlt : kk < l0.length
  ·obtain ⟨ad, rfl, hcell⟩ := Kd.at_int HR0.out (kk : Int) (by omega) (by omega)
   replace hcell := pw_cell_below BW.out hcell
   have hm : rd l0 (kk : Int) ∈ l0 := by
    have : rd l0 (kk : Int) = l0[kk] := by simp [rd, List.getD_eq_getElem?_getD, hlt]
    rw [this]; exact List.getElem_mem hlt
   have hcall := HP.out wr (rd l0 (kk : Int)) hm BW.out
   clear hm
   have hx : Aside0 (l0.take (kk + 1) = l0.take kk ++ [rd l0 (kk : Int)]) := ⟨by
    rw [List.take_succ_eq_append_getElem hlt]; simp [rd, List.getD_eq_getElem?_getD, hlt]⟩
   generalize rd l0 (kk : Int) = y at hcell hcall hx
   have hltz : (kk : Int) < (l0.length : Int) := by omega
   rw [show ((kk : Int)).toNat = kk from by omega] at hcell
   cases hq : p y with
   | true =>
    rw [hq] at hcall
    go_wp2_with (go_at_fn g; refine hcall.mono ?_; rintro e w' ⟨rfl, hb'⟩)
    go_ret
    refine ⟨⟨_, rfl, ?_⟩, hb'⟩
    have : l0.any p = true := by
     rw [← List.take_append_drop (kk + 1) l0, hx.out]; simp [hq]
    rw [this]; simp
   | false =>
    rw [hq] at hcall
    go_wp2_with (go_at_fn g; refine hcall.mono ?_; rintro e w' ⟨rfl, hb'⟩)
    go_roundg (l0.length - (kk + 1))
    case measure => omega
    case rel => exact ⟨kk + 1, by omega, by omega, by go_num, ⟨hb'⟩, ⟨by rw [hx.out, List.any_append, AF.out]; simp [hq]⟩⟩
  ·have hltz : ¬ (kk : Int) < (l0.length : Int) := by omega
   go_wp2
   go_ret
   refine ⟨⟨_, rfl, ?_⟩, BW.out⟩
   have := AF.out
   rw [List.take_of_length_le (by omega)] at this
   rw [this]; rfl

/-! ### slices_ContainsFunc_uint64_uint64: function 67 -/

set_option maxHeartbeats 2000000 in
theorem slices_ContainsFunc_uint64_uint64.calls (g : Nat) (lb : Array Value) (eg : ∀ args w, (callFunc g args).run Try.prog w = .ok (.enter g args) w) (p : Int → Bool) (A0 : Option Addr) (c0 : Nat) (l0 : List Int) (w : World) (hr0 : Kd.C (Kd.int .u64) w A0 l0.length l0)
  (hp : ∀ (W : World) (x : Int), x ∈ l0 → Below w.heap.size w W → Calls Try.prog g (#[.int .u64 x] ++ lb) W fun e w' => e = .returned (.bool (p x)) ∧ Below w.heap.size w w') :
  Calls Try.prog 67 #[.slice A0 l0.length c0, .func (.func g) #[] lb] w fun e w' => e = .returned (.bool (l0.any p)) ∧ Below w.heap.size w w' := by
 have hc := slices_IndexFunc_uint64_uint64.calls g lb eg p A0 c0 l0 w hr0 hp
 generalize l0.any p = q at hc ⊢
 clear hp hr0
 go_enter Try.func67, Try.ntmps67
 go_wp2_with (go_at_call 79; refine hc.mono ?_; rintro e w' ⟨⟨r, rfl, rfl⟩, hb'⟩)
 go_ret
 exact ⟨rfl, hb'⟩

/-! ### impl_primes_1: function 68 -/

set_option maxHeartbeats 2000000 in
/-- Whether a number is divided by a prime that was found. -/
theorem impl_primes_1.calls (x : Int) (B : Nat) (k : Int) (w : World) (hv : w.cell? ⟨B, 0, none⟩ = some (.int .u64 k)) (hk0 : 0 ≤ k) (hx0 : 0 < x) :
  Calls Try.prog 68 #[.int .u64 x, .pointer (some ⟨B, 0, none⟩)] w fun e w' => e = .returned (.bool (k % x == 0)) ∧ w = w' := by
 have hxn : ¬ x = 0 := by omega
 have hx1 : 0 ≤ x := by omega
 go_enter Try.func68, Try.ntmps68
 go_wp2
 go_ret
 exact ⟨rfl, rfl⟩

/-! ### impl_primes: function 52 -/

def impl_primes.go : Nat → List Int → Int → Int → Option (List Int)
 | 0, _, _, _ => none
 | m + 1, out, x, n => if 2 ≤ x ∧ x < 4294967296 ∧ out.length < 1000000 then (if (out.length : Int) < n then (if out.any (fun p => x % p == 0) = true then impl_primes.go m out (x + 1) n else impl_primes.go m (out ++ [x]) (x + 1) n) else some out) else none
def impl_primes.f (k : Nat) (n : Int) : Option (List Int) := impl_primes.go k [] 2 n
set_option maxHeartbeats 4000000 in
set_option maxRecDepth 100000 in
theorem impl_primes.calls (k : Nat) (a0 : Int) (r : List Int) (w : World) (h : impl_primes.f k a0 = some r) :
  Calls Try.prog 52 #[.int .i64 a0] w fun e w' => ∃ v0_ : Value, e = .returned v0_ ∧ Kd.R (Kd.int .u64) 68 w' w.heap.size (fun _ => True) v0_ r ∧ Below w.heap.size w w' := by
 have HB := ak (Below.refl w.heap.size w)
 have H' := ak (show impl_primes.go k [] 2 a0 = some r from h)
 clear h
 have hmf : ∀ (fn : Fn) (first cap : Array Value) (w : World), (Instr.makeFunc fn first cap).run Try.prog w = .ok (.func fn first cap) w := fun _ _ _ _ => rfl
 go_enter Try.func52, Try.ntmps52
 go_wp2_with (((with_reducible refine gate_dst (N := 5) rfl ?_);refine Kd.R_lit (Kd.int .u64) _ 68 ?hg (N := 5) ?hd (xs := ([] : List Int)) (inner := []) (ok := fun _ => True) (okp := fun _ => True) ?hr ?hp (fun _ hk => hk) trivial (Below.refl _ _) (Nat.le_refl _) (by simp) ?_;(case hd => rfl);(case hg => rfl);(case hr => first | (go_simp; done) | (go_simp; rfl));(case hp => exact (Reps.none _ _));intro v107 w15 ho16 hb hg_ hnew_;clear hg_ hnew_;have HO := ak (Kd.R_lower ho16 (below_size bs));replace HB := b2s bs hb;clear hb ho16))
 have HG := ak (Kd.R_reok (ok := fun b => b ≠ w15.heap.size) rfl (Kd.R_alloc HO.out (.cells #[.int .u64 2] 68)) (fun b hb => by have := Kd.R_lt HO.out b hb; omega))
 have HK := ak (show (w15.alloc (.cells #[.int .u64 2] 68)).heap[w15.heap.size]? = some (.cells #[.int .u64 2] 68 (0, 0)) from heap_alloc_new _ _)
 have HS := ak (show w.heap.size ≤ w15.heap.size from HB.out.size)
 have HB2 := ak (show Below w.heap.size w (w15.alloc (.cells #[.int .u64 2] 68)) from below_alloc HB.out _)
 generalize w15.heap.size = g0 at HG HK HS ⊢
 generalize w15.alloc (.cells #[.int .u64 2] 68) = W0 at HG HK HB2 ⊢
 clear HO HB
 go_loopg [3, 4] k (fun kq v3 v4 w' => ∃ (out : List Int) (x : Int) (g : Nat), v4 = .pointer (some ⟨g, 0, none⟩) ∧ Aside0 (impl_primes.go kq out x a0 = some r) ∧ Aside0 (kq ≤ k) ∧ Aside0 (Kd.R (Kd.int .u64) 68 w' w.heap.size (fun b => b ≠ g) v3 out) ∧ Aside0 (w'.heap[g]? = some (.cells #[.int .u64 x] 68 (0, 0))) ∧ Aside0 (w.heap.size ≤ g) ∧ Aside0 (Below w.heap.size w w') ∧ Aside0 (∀ p ∈ out, 0 < p))
 case atStart => exact ⟨[], 2, g0, rfl, H', ⟨Nat.le_refl _⟩, HG, HK, HS, HB2, ⟨by simp⟩⟩
 case round =>
  clear H' HG HK HS HB2
  obtain ⟨out, x, g, rfl, HA, HK1, HO, HC, HS, HB, HP⟩ := hrel
  cases gk with
  | zero => exact absurd HA.out (by simp [impl_primes.go])
  | succ k1 =>
   have H := HA.out
   clear HA
   simp only [impl_primes.go] at H
   by_cases c1 : 2 ≤ x ∧ x < 4294967296 ∧ out.length < 1000000
   ·rw [if_pos c1] at H
    obtain ⟨x2, x3, x4⟩ := c1
    obtain ⟨A, c, eo⟩ := Kd.R_slice HO.out
    subst eo
    have hx0 : 0 ≤ x := by omega
    have hcz := (blk_cell HC.out 0).trans rfl
    have hfz := blk_frozen HC.out 0
    by_cases c2 : (out.length : Int) < a0
    ·rw [if_pos c2] at H
     have hcon := fun W (hb : Below wr.heap.size wr W) => slices_ContainsFunc_uint64_uint64.calls 68 #[.pointer (some ⟨g, 0, none⟩)] (enters_of Try.func68 (by kernel_rfl) rfl) (fun p => x % p == 0) A c out W (Kd.C_below (Kd.R_reads' HO.out).2.2 hb) (fun W2 y hy hb2 => by
      have hc2 : W2.cell? ⟨g, 0, none⟩ = some (.int .u64 x) := by
       have h1 := pw_cell_below (below_step hb hb2) hcz
       exact h1
      refine (impl_primes_1.calls y g x W2 hc2 hx0 (HP.out y hy)).mono ?_
      rintro e w' ⟨rfl, rfl⟩
      exact ⟨rfl, hb2⟩)
     have HCON := ak hcon
     clear hcon
     cases ha : out.any (fun p => x % p == 0) with
     | true =>
      rw [ha] at H HCON
      rw [if_pos rfl] at H
      have H' := ak H
      clear H ha
      go_wp2_with ((go_at_call 67;refine (HCON.out _ (Below.refl _ _)).mono ?_;rintro e w' ⟨rfl, hb⟩;replace HO := ak (Kd.R_below HO.out hb);replace HC := ak (blk_below HC.out hb);replace HB := ak (below_step HB.out hb);clear hb hcz hfz;have hcz := (blk_cell HC.out 0).trans rfl;have hfz := blk_frozen HC.out 0))
      go_roundg k1
      case measure => have := HK1.out; omega
      case rel =>
       have HQ := HP
       exact ⟨out, x + 1, w'.heap.size, rfl, H', ⟨by have := HK1.out; omega⟩, ak (Kd.R_reok rfl (Kd.R_alloc HO.out _) (fun b hb => by have := Kd.R_lt HO.out b hb; omega)), ak (heap_alloc_new _ _), ak HB.out.size, ak (below_alloc HB.out _), HQ⟩
     | false =>
      rw [ha] at H HCON
      rw [if_neg (by decide)] at H
      have H' := ak H
      clear H ha
      have hap : Aside0 (out.length < 1000000) := ⟨x4⟩
      go_wp2_with (first | (go_at_call 67;refine (HCON.out _ (Below.refl _ _)).mono ?_;rintro e w' ⟨rfl, hb⟩;replace HO := ak (Kd.R_below HO.out hb);replace HC := ak (blk_below HC.out hb);replace HB := ak (below_step HB.out hb);clear hb hcz hfz;have hcz := (blk_cell HC.out 0).trans rfl;have hfz := blk_frozen HC.out 0) | ((with_reducible refine gate_builtin (b := .append) (xs := #[.tmp 16, .tmp 18]) rfl ?_);at_builtin;refine Kd.R_append (Kd.int .u64) (w0 := w) w.heap.size rfl (.tmp 16) (.tmp 18) 66 68 (.int .u64 0) 8 rfl Try.underlying66 info68 rfl (by decide) (by omega) (.slice A out.length c) out x [.int .u64 x] (fun b => b ≠ g) (fun _ => False) rfl rfl ?aP (fun _ hk => hk.elim) ?aF ?aO ?aB ?aS ?aL ?_;(case aP => exact rfl);(case aB => exact HB.out);(case aF => exact (fun b hb => by have := blk_lt HC.out; omega));(case aO => exact HO.out);(case aS => exact below_size HB.out);(case aL => have := hap.out; omega);intro v114 w24 ho hb hg hat;replace HC := ak (blk_grown HC.out hg (fun e => HO.out.1 g e.symm rfl));replace HO := ak ho;replace HB := ak hb;clear hb hg hat ho hcz hfz;have hcz := (blk_cell HC.out 0).trans rfl;have hfz := blk_frozen HC.out 0))
      go_roundg k1
      case measure => have := HK1.out; omega
      case rel =>
       have HQ : Aside0 (∀ p ∈ out ++ [x], 0 < p) := ⟨fun p hp => by
        rcases List.mem_append.1 hp with h | h
        ·exact HP.out p h
        ·rw [List.mem_singleton.1 h]; omega⟩
       exact ⟨out ++ [x], x + 1, w24.heap.size, rfl, H', ⟨by have := HK1.out; omega⟩, ak (Kd.R_reok rfl (Kd.R_alloc HO.out _) (fun b hb => by have := Kd.R_lt HO.out b hb; omega)), ak (heap_alloc_new _ _), ak HB.out.size, ak (below_alloc HB.out _), HQ⟩
    ·rw [if_neg c2] at H
     obtain rfl := Option.some.inj H
     go_wp2
     go_ret
     exact ⟨_, rfl, Kd.R_mono HO.out (fun _ _ => trivial), HB.out⟩
   ·rw [if_neg c1] at H
    exact absurd H (by simp)

/-! ### bits_Mul64: function 80 -/
def bits_Mul64.f (a0 : Int) (a1 : Int) : Option (Int × Int) := some (IntKind.u64.wrap ((IntKind.u64.wrap ((IntKind.u64.wrap ((a0 / 4294967296) * (a1 / 4294967296))) + ((IntKind.u64.wrap ((IntKind.u64.wrap ((a0 / 4294967296) * (Go.bits .and .u64 a1 4294967295))) + ((IntKind.u64.wrap ((Go.bits .and .u64 a0 4294967295) * (Go.bits .and .u64 a1 4294967295))) / 4294967296))) / 4294967296))) + ((IntKind.u64.wrap ((Go.bits .and .u64 (IntKind.u64.wrap ((IntKind.u64.wrap ((a0 / 4294967296) * (Go.bits .and .u64 a1 4294967295))) + ((IntKind.u64.wrap ((Go.bits .and .u64 a0 4294967295) * (Go.bits .and .u64 a1 4294967295))) / 4294967296))) 4294967295) + (IntKind.u64.wrap ((Go.bits .and .u64 a0 4294967295) * (a1 / 4294967296))))) / 4294967296)), IntKind.u64.wrap (a0 * a1))
set_option maxHeartbeats 8000000 in
set_option maxRecDepth 100000 in
theorem bits_Mul64.calls (a0 : Int) (a1 : Int) (r1 : Int) (r2 : Int) (w : World) (h : bits_Mul64.f a0 a1 = some (r1, r2)) :
  Calls Try.prog 80 #[.int .u64 a0, .int .u64 a1] w fun e w' => e = .returned (.tuple #[.int .u64 r1, .int .u64 r2]) ∧ Drawn0 w w' := by
 have H : (some (IntKind.u64.wrap ((IntKind.u64.wrap ((IntKind.u64.wrap ((a0 / 4294967296) * (a1 / 4294967296))) + ((IntKind.u64.wrap ((IntKind.u64.wrap ((a0 / 4294967296) * (Go.bits .and .u64 a1 4294967295))) + ((IntKind.u64.wrap ((Go.bits .and .u64 a0 4294967295) * (Go.bits .and .u64 a1 4294967295))) / 4294967296))) / 4294967296))) + ((IntKind.u64.wrap ((Go.bits .and .u64 (IntKind.u64.wrap ((IntKind.u64.wrap ((a0 / 4294967296) * (Go.bits .and .u64 a1 4294967295))) + ((IntKind.u64.wrap ((Go.bits .and .u64 a0 4294967295) * (Go.bits .and .u64 a1 4294967295))) / 4294967296))) 4294967295) + (IntKind.u64.wrap ((Go.bits .and .u64 a0 4294967295) * (a1 / 4294967296))))) / 4294967296)), IntKind.u64.wrap (a0 * a1))) = some (r1, r2) := h
 clear h
 simp only [Option.some.injEq, Prod.mk.injEq] at H
 obtain ⟨rfl, rfl⟩ := H
 go_enter Try.func80, Try.ntmps80
 go_wp2
 go_ret2
 exact ⟨o2, od⟩

/-! ### impl_above: function 69 -/

/-- Whether x, with 32 bits behind the point, has a square (a cube) above p. -/
def impl_above.f (x p : Int) (cube : Bool) : Option Bool :=
 (bits_Mul64.f x x).bind fun hl => if cube = true then
  (bits_Mul64.f hl.2 x).bind fun tr =>
   some (decide (p < IntKind.u64.wrap ((max (IntKind.u64.wrap (hl.1 * x)) 0 + max tr.1 0) % 18446744073709551616 / 4294967296 + IntKind.u64.wrap ((max (IntKind.u64.wrap (hl.1 * x)) 0 + max tr.1 0) / 18446744073709551616 * 4294967296))) ||
    (decide (IntKind.u64.wrap ((max (IntKind.u64.wrap (hl.1 * x)) 0 + max tr.1 0) % 18446744073709551616 / 4294967296 + IntKind.u64.wrap ((max (IntKind.u64.wrap (hl.1 * x)) 0 + max tr.1 0) / 18446744073709551616 * 4294967296)) = p) &&
     (!decide (IntKind.u64.wrap ((max (IntKind.u64.wrap (hl.1 * x)) 0 + max tr.1 0) % 18446744073709551616 * 4294967296) = 0) || tr.2 != 0)))
  else some (decide (p < hl.1) || (decide (hl.1 = p) && decide (0 < hl.2)))
theorem impl_above.run {P : Program} (x y : Int) (w : World) :
  (((Extern.MathBitsCarry.rows[0]!).2 #[.int .u64 x, .int .u64 y, .int .u64 0]) : Sem Value).run P w = .ok (.tuple #[.int .u64 (((x.toNat + y.toNat + 0) % 18446744073709551616 : Nat) : Int), .int .u64 (((x.toNat + y.toNat + 0) / 18446744073709551616 : Nat) : Int)]) w := by
 rfl
set_option maxHeartbeats 2000000 in
set_option maxRecDepth 100000 in
theorem impl_above.calls (a0 a1 : Int) (b2 : Bool) (r : Bool) (w : World) (h : impl_above.f a0 a1 b2 = some r) :
  Calls Try.prog 69 #[.int .u64 a0, .int .u64 a1, .bool b2] w fun e w' => e = .returned (.bool r) ∧ Drawn0 w w' := by
 unfold impl_above.f at h
 obtain ⟨⟨hi, lo⟩, h1, h⟩ := Option.bind_eq_some_iff.1 h
 have H1 := ak h1
 clear h1
 cases b2 with
 | true =>
  rw [if_pos rfl] at h
  obtain ⟨⟨top, rest⟩, h2, h⟩ := Option.bind_eq_some_iff.1 h
  have H2 := ak h2
  have HR := ak (Option.some.inj h)
  clear h2 h
  go_enter Try.func69, Try.ntmps69
  go_wp2_with ((go_at_call 80;(first | (with_reducible refine (bits_Mul64.calls _ _ hi lo _ H1.out).mono ?_) | (with_reducible refine (bits_Mul64.calls _ _ top rest _ H2.out).mono ?_));rintro e w' ⟨rfl, ⟨nd, rfl⟩⟩))
  rw [run_callFunc_extern Try.func81 (by kernel_rfl) (by kernel_rfl) (by kernel_rfl) (e := (Extern.MathBitsCarry.rows[0]!).2) (by kernel_rfl), impl_above.run]
  simp only [Result.andThen]
  rw [Oper.upon_value]
  go_wp2
  all_goals
   go_ret
   refine ⟨?_, od⟩
   rw [← HR.out]
   first | done | rfl | (simp [*]; done) | (simp_all; done) | (simp [*]; omega)
 | false =>
  rw [if_neg (by decide)] at h
  have HR := ak (Option.some.inj h)
  clear h
  go_enter Try.func69, Try.ntmps69
  go_wp2_with ((go_at_call 80;(with_reducible refine (bits_Mul64.calls _ _ hi lo _ H1.out).mono ?_);rintro e w' ⟨rfl, ⟨nd, rfl⟩⟩))
  all_goals
   go_ret
   refine ⟨?_, od⟩
   rw [← HR.out]
   first | done | rfl | (simp [*]; done) | (simp_all; done) | (simp [*]; omega)

/-! ### impl_fraction: function 53 -/
def impl_fraction.l0 : Nat → Int → Bool → Int → Int → Option (Int)
 | 0, _, _, _, _ => none
 | k + 1, x0, x1, x5, x6 => if x6 ≥ 0 then (if 0 ≤ x6 then ((impl_above.f (Go.bits .or .u64 x5 (shl .u64 1 x6)) x0 x1).bind fun t101 => (if t101 = true then (impl_fraction.l0 k x0 x1 x5 (wrap64 (x6 - 1))) else (impl_fraction.l0 k x0 x1 (Go.bits .or .u64 x5 (shl .u64 1 x6)) (wrap64 (x6 - 1))))) else (none)) else (some ((x5) % 4294967296))
def impl_fraction.f (k : Nat) (a0 : Int) (a1 : Bool) : Option (Int) := impl_fraction.l0 k a0 a1 0 37
set_option maxHeartbeats 8000000 in
set_option maxRecDepth 100000 in
theorem impl_fraction.calls (k : Nat) (a0 : Int) (a1 : Bool) (r : Int) (w : World) (h : impl_fraction.f k a0 a1 = some r) :
  Calls Try.prog 53 #[.int .u64 a0, .bool a1] w fun e w' => e = .returned (.int .u32 r) ∧ Drawn0 w w' := by
 have H : (impl_fraction.l0 k a0 a1 0 37) = some r := h
 clear h
 have H' := ak H
 clear H
 go_enter Try.func53, Try.ntmps53
 go_wp2
 go_loopg [5, 6] k (fun kq v5 v6 w' => ∃ (x5_1 : Int) (x6_1 : Int), v5 = .int .u64 x5_1 ∧ v6 = .int .i64 x6_1 ∧ Aside0 (impl_fraction.l0 kq a0 a1 x5_1 x6_1 = some r) ∧ Aside0 (kq ≤ k) ∧ Drawn0 w w')
 case atStart => exact ⟨(0), (37), o2, o2, H', ⟨Nat.le_refl _⟩, od⟩
 case round =>
  clear H'
  obtain ⟨x5_1, x6_1, rfl, rfl, HA, HK1, ⟨m1, rfl⟩⟩ := hrel
  cases gk with
  | zero => exact absurd HA.out (by simp [impl_fraction.l0])
  | succ k1 =>
   have H := HA.out
   clear HA
   simp only [impl_fraction.l0] at H
   replace H := ih H
   obtain ⟨c3b0, H⟩ | ⟨c3b0, H⟩ := H
   ·replace H := ipE H
    obtain ⟨c4b0, c4b1, H⟩ := H
    obtain ⟨ji5, hji5⟩ : ∃ j_ : Int, (shl .u64 1 x6_1) = j_ := ⟨_, rfl⟩
    (first | rw [hji5] at H | simp only [hji5] at H)
    have hji5_ : (IntKind.u64.wrap (1 * 2 ^ min x6_1.toNat 64)) = ji5 := hji5
    have hji5z : x6_1 ≤ 64 → (IntKind.u64.wrap (1 * 2 ^ x6_1.toNat)) = ji5 := shl_small hji5
    have hji5u : (IntKind.u64.wrap (2 ^ min x6_1.toNat 64)) = ji5 := by have h_ := hji5_; rw [Int.one_mul] at h_; exact h_
    have hji5v : x6_1 ≤ 64 → (IntKind.u64.wrap (2 ^ x6_1.toNat)) = ji5 := fun hle_ => by have h_ := hji5z hle_; rw [Int.one_mul] at h_; exact h_
    replace H := bnd H
    obtain ⟨t101, A6, H⟩ := H
    replace H := ib H
    obtain ⟨rfl, H⟩ | ⟨rfl, H⟩ := H
    ·have H' := ak H
     clear H
     go_wp2_with (((with_reducible refine gate_callee (f := 69) rfl ?_);refine goesL_ (some 17) rfl rfl Try.func69 (by kernel_rfl) rfl #[.int .u64 (Go.bits .or .u64 x5_1 (ji5)), .int .u64 a0, .bool a1] rfl (by (try simp only [List.map_toArray, List.map_cons, List.map_nil]); first | done | (simp only [hji5]; rfl) | rfl | (simp only [List.length_drop, List.length_take]; rfl)) ?_;(with_reducible refine (impl_above.calls (Go.bits .or .u64 x5_1 (ji5)) a0 a1 true _ A6.out).mono ?_);rintro e w' ⟨rfl, ⟨nd, rfl⟩⟩;refine ⟨_, rfl, ?_⟩))
     go_roundg k1
     case measure => have := HK1.out; omega
     case rel => exact ⟨(x5_1), (wrap64 (x6_1 - 1)), o2, o2, H', ⟨by have := HK1.out; omega⟩, od⟩
    ·have c8b0 := eq_true (of_decide_eq_true (by first | (with_reducible assumption) | assumption) : 0 ≤ x6_1)
     have H' := ak H
     clear H
     go_wp2_with (((with_reducible refine gate_callee (f := 69) rfl ?_);refine goesL_ (some 17) rfl rfl Try.func69 (by kernel_rfl) rfl #[.int .u64 (Go.bits .or .u64 x5_1 (ji5)), .int .u64 a0, .bool a1] rfl (by (try simp only [List.map_toArray, List.map_cons, List.map_nil]); first | done | (simp only [hji5]; rfl) | rfl | (simp only [List.length_drop, List.length_take]; rfl)) ?_;(with_reducible refine (impl_above.calls (Go.bits .or .u64 x5_1 (ji5)) a0 a1 false _ A6.out).mono ?_);rintro e w' ⟨rfl, ⟨nd, rfl⟩⟩;refine ⟨_, rfl, ?_⟩))
     go_roundg k1
     case measure => have := HK1.out; omega
     case rel => exact ⟨(Go.bits .or .u64 x5_1 (ji5)), (wrap64 (x6_1 - 1)), (by first | rfl | (simp; done) | (simp only [← hji5] <;> (first | rfl | simp)) | (simp [*]; done)), o2, H', ⟨by have := HK1.out; omega⟩, od⟩
   ·obtain rfl := Option.some.inj H
    go_wp2
    go_ret
    exact ⟨o2, od⟩

/-! ### bytes_Clone: function 54 -/

def bytes_Clone.f (l0 : List Int) : Option (List Int) := if l0.length < 140737488355328 then some l0 else none
set_option maxHeartbeats 8000000 in
set_option maxRecDepth 100000 in
theorem bytes_Clone.calls (A0 : Option Addr) (c0 : Nat) (l0 : List Int) (r : List Int) (w : World) (hr0 : Kd.C (Kd.int .u8) w A0 l0.length l0) (hc0 : l0.length ≤ c0) (h : bytes_Clone.f l0 = some r) :
  Calls Try.prog 54 #[.slice A0 l0.length c0] w fun e w' => ∃ v0_ : Value, e = .returned (v0_) ∧ Kd.R (Kd.int .u8) 5 w' w.heap.size (fun _ => True) v0_ r ∧ Below w.heap.size w w' := by
 have HR0 := ak hr0
 have HC0 := ak hc0
 have HLM : Aside0 (l0.length < 140737488355328) := by
  unfold bytes_Clone.f at h; split at h
  ·exact ⟨by assumption⟩
  ·cases h
 have hr : l0 = r := by
  unfold bytes_Clone.f at h; rw [if_pos HLM.out] at h; exact Option.some.inj h
 subst hr
 clear hr0 hc0 h
 have HB := ak (Below.refl w.heap.size w)
 cases A0 with
 | none =>
  have hl : l0 = [] := by
   have := HR0.out.2.2
   cases l0 with
   | nil => rfl
   | cons x l => obtain ⟨ad, e, _⟩ := this (by simp); cases e
  subst hl
  have hq := fun (W : World) => Lib.run_eql_slice_nil (P := Try.prog) W 26 5 none 0 c0 0 0 Try.underlying26
  go_enter Try.func54, Try.ntmps54
  go_wp2
  go_ret
  exact ⟨_, rfl, Kd.R_nil _ _ _ _ _, bw HB.out⟩
 | some ad =>
  have hq := fun (W : World) => Lib.run_eql_slice_nil (P := Try.prog) W 26 5 (some ad) l0.length c0 0 0 Try.underlying26
  go_enter Try.func54, Try.ntmps54
  go_wp2_with (first | ((with_reducible refine gate_dst (N := 5) rfl ?_);refine Kd.R_lit (Kd.int .u8) _ 5 ?hg (N := 5) ?hd (xs := ([] : List Int)) (inner := []) (ok := fun _ => True) (okp := fun _ => True) ?hr ?hp (fun _ hk => hk) trivial (Below.refl _ _) (Nat.le_refl _) (by simp) ?_;(case hd => rfl);(case hg => rfl);(case hr => first | (go_simp; done) | (go_simp; rfl));(case hp => exact (Reps.none _ _));intro v111 w3 ho4 hb hg_ hnew_;clear hg_ hnew_;have HO112 := ak (Kd.R_lower ho4 (below_size HB.out));replace HB := ak (below_step HB.out hb);clear hb ho4) | ((with_reducible refine gate_builtin (b := .append) (xs := #[.tmp 5, .tmp 6]) rfl ?_);at_builtin;refine Kd.R_append_rows (Kd.int .u8) (w0 := w) w.heap.size rfl (.tmp 5) (.tmp 6) 26 5 (.int .u8 0) 1 rfl Try.underlying26 info5 rfl (by decide) (by omega) v111 [] l0 _ _ _ (fun _ => True) (fun _ => False) rfl rfl ?aO ?aR (fun _ _ h => h) (fun _ h => h.elim) ?aF ?aB ?aS ?aL ?_;(case aR => exact cw HR0.out HB.out);(case aB => exact (bw HB.out));(case aF => exact (fun _ _ => trivial));(case aO => exact (rw_ HO112.out));(case aS => exact (below_size (bw HB.out)));(case aL => have := HLM.out; simp; omega);intro v114 w5 ho hb hg hat;rw [List.nil_append] at ho;replace HB := ak (hb);have HO115 := ak (ho);clear HO112;clear ho hb hg hat))
  go_ret
  exact ⟨_, rfl, (rw_ HO115.out), bw HB.out⟩

/-! ### slices_Grow_byte_byte: function 70 -/

set_option maxHeartbeats 8000000 in
set_option maxRecDepth 100000 in
/-- Grow of nil by n: an own row without elements. -/
theorem slices_Grow_byte_byte.calls (n : Int) (w : World) (h0 : 0 ≤ n) (hn : n.toNat < 140737488355328) :
  Calls Try.prog 70 #[.slice none 0 0, .int .i64 n] w fun e w' => ∃ v0_ : Value, e = .returned (v0_) ∧ Kd.R (Kd.int .u8) 5 w' w.heap.size (fun _ => True) v0_ [] ∧ Below w.heap.size w w' := by
 have HN := ak hn
 have hbig : n ≤ 9223372036854775807 := by omega
 clear hn
 by_cases hp : 0 < n
 ·go_enter Try.func70, Try.ntmps70
  go_wp2_with (((with_reducible refine gate_builtin (b := .append) (xs := #[.tmp 20, .tmp 21]) rfl ?_);at_builtin;refine Kd.R_append_zeros (Kd.int .u8) (w0 := w) w.heap.size rfl (.tmp 20) (.tmp 21) 26 3 5 (.int .u8 0) 1 rfl Try.underlying26 Try.underlying3 info5 rfl (by decide) (by omega) (.slice none 0 0) [] 0 n (fun _ => True) rfl rfl ?aZ (fun _ _ => trivial) (Kd.R_nil _ _ _ _ _) h0 (Below.refl _ _) (Nat.le_refl _) ?aL ?_;(case aZ => rfl);(case aL => have := HN.out; simp; omega);intro v114 w5 ho hb hg hat;have HO := ak ho;have HB := ak hb;clear ho hb hg hat;obtain ⟨A5, c5, e5⟩ := Kd.R_slice HO.out;subst e5;have HLEN := ak (Kd.R_reads' HO.out).2.1;have hcut : ∀ W, Sem.run Try.prog (Instr.slice 26 (.slice A5 (([] : List Int) ++ List.replicate n.toNat 0).length c5) none (some (.int .i64 0)) none) W = .ok (.slice A5 0 c5) W := fun W => by go_simp))
  go_ret
  exact ⟨_, rfl, Kd.R_take (m := 0) HO.out (Nat.zero_le _), HB.out⟩
 ·have : n = 0 := by omega
  subst this
  go_enter Try.func70, Try.ntmps70
  go_wp2
  go_ret
  exact ⟨_, rfl, Kd.R_nil _ _ _ _ _, Below.refl _ _⟩

/-! ### slices_Concat_byte_byte: function 55 -/

def slices_Concat_byte_byte.total (ll : List (List Int)) : Nat := (ll.map List.length).sum
def slices_Concat_byte_byte.f (l0 : List (List Int)) : Option (List Int) := if slices_Concat_byte_byte.total l0 < 140737488355328 then some l0.flatten else none
theorem slices_Concat_byte_byte.total_snoc (l : List (List Int)) (x : List Int) : slices_Concat_byte_byte.total (l ++ [x]) = slices_Concat_byte_byte.total l + x.length := by simp [slices_Concat_byte_byte.total]
theorem slices_Concat_byte_byte.total_take (l : List (List Int)) (k : Nat) : slices_Concat_byte_byte.total (l.take k) ≤ slices_Concat_byte_byte.total l := by
 have h := congrArg slices_Concat_byte_byte.total (List.take_append_drop k l)
 have h2 : slices_Concat_byte_byte.total (l.take k ++ l.drop k) = slices_Concat_byte_byte.total (l.take k) + slices_Concat_byte_byte.total (l.drop k) := by simp only [slices_Concat_byte_byte.total, List.map_append, List.sum_append]
 omega
theorem slices_Concat_byte_byte.flatten_len (l : List (List Int)) : l.flatten.length = slices_Concat_byte_byte.total l := by simp [slices_Concat_byte_byte.total, List.length_flatten]
set_option maxHeartbeats 8000000 in
set_option maxRecDepth 100000 in
theorem slices_Concat_byte_byte.calls (A0 : Option Addr) (c0 : Nat) (l0 : List (List Int)) (r : List Int) (w : World) (hr0 : Kd.C (Kd.slice 5 (Kd.int .u8)) w A0 l0.length l0) (hc0 : l0.length ≤ c0) (h : slices_Concat_byte_byte.f l0 = some r) :
  Calls Try.prog 55 #[.slice A0 l0.length c0] w fun e w' => ∃ v0_ : Value, e = .returned (v0_) ∧ Kd.R (Kd.int .u8) 5 w' w.heap.size (fun _ => True) v0_ r ∧ Below w.heap.size w w' := by
 have HR0 := ak hr0
 have hbig : l0.length ≤ 9223372036854775807 := hr0.2.1
 have HLM : Aside0 (slices_Concat_byte_byte.total l0 < 140737488355328) := by
  unfold slices_Concat_byte_byte.f at h; split at h
  ·exact ⟨by assumption⟩
  ·cases h
 have hr : l0.flatten = r := by
  unfold slices_Concat_byte_byte.f at h; rw [if_pos HLM.out] at h; exact Option.some.inj h
 subst hr
 clear hr0 hc0 h
 go_enter Try.func55, Try.ntmps55
 go_wp2
 go_loopg [3, 11] l0.length (fun gg s3 s11 wr => ∃ kk : Nat, kk ≤ l0.length ∧ l0.length - kk ≤ gg ∧ s11 = .int .i64 kk ∧ s3 = .int .i64 (slices_Concat_byte_byte.total (l0.take kk)) ∧ w = wr)
 case atStart => exact ⟨0, Nat.zero_le _, by omega, rfl, rfl, rfl⟩
 case round =>
  obtain ⟨kk, hkk, hg, rfl, rfl, rfl⟩ := hrel
  by_cases hlt : kk < l0.length
  ·obtain ⟨ad, A1, c1, rfl, hcell, hc1, hC1⟩ := at_L10 HR0.out (kk : Int) (by omega) (by omega)
   have hx : Aside0 (l0.take (kk + 1) = l0.take kk ++ [rd_L10 l0 (kk : Int)]) := ⟨by
    rw [List.take_succ_eq_append_getElem hlt]; simp [rd_L10, List.getD_eq_getElem?_getD, hlt]⟩
   have ht1 := slices_Concat_byte_byte.total_take l0 (kk + 1)
   have hsn := slices_Concat_byte_byte.total_snoc (l0.take kk) (rd_L10 l0 (kk : Int))
   rw [← hx.out] at hsn
   have hlm := HLM.out
   rw [show ((kk : Int)).toNat = kk from by omega] at hcell
   obtain ⟨n1, hn1⟩ : ∃ n : Nat, (rd_L10 l0 (kk : Int)).length = n := ⟨_, rfl⟩
   rw [hn1] at hcell hsn
   obtain ⟨t1, e1⟩ : ∃ n : Nat, slices_Concat_byte_byte.total (l0.take kk) = n := ⟨_, rfl⟩
   obtain ⟨t2, e2⟩ : ∃ n : Nat, slices_Concat_byte_byte.total (l0.take (kk + 1)) = n := ⟨_, rfl⟩
   rw [e1] at hsn ⊢
   rw [e2] at hsn ht1
   have hb1 : (t1 : Int) + n1 ≤ 140737488355328 := by omega
   have HS := ak hsn
   have E2 := ak e2
   clear hsn ht1 hlm e1 e2 hn1 hC1 hc1 hx
   have hltz : (kk : Int) < (l0.length : Int) := by omega
   go_wp2
   go_roundg (l0.length - (kk + 1))
   case measure => omega
   case rel => exact ⟨kk + 1, by omega, by omega, by go_num, by rw [E2.out, HS.out]; go_num, rfl⟩
  ·have : kk = l0.length := by omega
   subst this
   rw [List.take_of_length_le (Nat.le_refl _)]
   obtain ⟨t1, e1⟩ : ∃ n : Nat, slices_Concat_byte_byte.total l0 = n := ⟨_, rfl⟩
   rw [e1]
   have HLM1 : Aside0 (t1 < 140737488355328) := by rw [← e1]; exact HLM
   have E1 := ak e1
   clear e1
   go_wp2_with (go_at_call 70; refine (slices_Grow_byte_byte.calls (t1 : Int) _ (by omega) (by have := HLM1.out; omega)).mono ?_; rintro e w' ⟨v1, rfl, ho, hb⟩; have HO := ak ho; have HB := ak hb; clear ho hb)
   go_loopg [6, 27] l0.length (fun gg s6 s27 w' => ∃ kk : Nat, kk ≤ l0.length ∧ l0.length - kk ≤ gg ∧ s27 = .int .i64 kk ∧ Aside0 (Kd.R (Kd.int .u8) 5 w' w.heap.size (fun _ => True) s6 (l0.take kk).flatten) ∧ Aside0 (Below w.heap.size w w'))
   case atStart => exact ⟨0, Nat.zero_le _, by omega, rfl, ⟨by simpa using HO.out⟩, HB⟩
   case round =>
    clear HO HB
    obtain ⟨kk, hkk, hg, rfl, HO, HB⟩ := hrel
    by_cases hlt : kk < l0.length
    ·obtain ⟨ad, A1, c1, rfl, hcell, hc1, hC1⟩ := at_L10 HR0.out (kk : Int) (by omega) (by omega)
     have hx : Aside0 ((l0.take (kk + 1)).flatten = (l0.take kk).flatten ++ rd_L10 l0 (kk : Int)) := ⟨by
      rw [List.take_succ_eq_append_getElem hlt, List.flatten_append]; congr 1; simp [rd_L10, List.getD_eq_getElem?_getD, hlt]⟩
     have HLL : Aside0 ((l0.take kk).flatten.length + (rd_L10 l0 (kk : Int)).length < 140737488355328) := ⟨by
      have h1 := congrArg List.length hx.out
      rw [List.length_append, slices_Concat_byte_byte.flatten_len] at h1
      have h2 := slices_Concat_byte_byte.total_take l0 (kk + 1)
      have h3 := HLM.out
      omega⟩
     replace hcell := pw_cell_below HB.out hcell
     rw [show ((kk : Int)).toNat = kk from by omega] at hcell
     have HC1 := ak (Kd.C_below hC1 HB.out)
     clear hC1
     generalize rd_L10 l0 (kk : Int) = x1 at hx HLL hcell HC1 hc1
     generalize (l0.take kk).flatten = acc at HO hx HLL
     have hltz : (kk : Int) < (l0.length : Int) := by omega
     go_wp2_with (((with_reducible refine gate_builtin (b := .append) (xs := #[.tmp 31, .tmp 32]) rfl ?_); at_builtin; refine Kd.R_append_rows (Kd.int .u8) (w0 := w) w.heap.size rfl (.tmp 31) (.tmp 32) 26 5 (.int .u8 0) 1 rfl Try.underlying26 info5 rfl (by decide) (by omega) _ acc x1 _ _ _ (fun _ => True) (fun _ => False) rfl rfl ?aO ?aR (fun _ _ h => h) (fun _ h => h.elim) ?aF ?aB ?aS ?aL ?_; (case aR => repeat (first | exact HC1.out | (with_reducible refine Kd.C_alloc ?_ _) | (with_reducible refine Kd.C_drewN ?_ _) | (with_reducible refine Kd.C_drew ?_))); (case aB => exact (bw HB.out)); (case aF => exact (fun _ _ => trivial)); (case aO => exact (rw_ HO.out)); (case aS => exact (below_size (bw HB.out))); (case aL => have := HLL.out; omega); intro v114 w5 ho hb hg hat; replace HB := ak (hb); have HO115 := ak (ho); clear HO; clear ho hb hg hat))
     go_roundg (l0.length - (kk + 1))
     case measure => omega
     case rel => exact ⟨kk + 1, by omega, by omega, by go_num, ⟨by rw [hx.out]; exact HO115.out⟩, HB⟩
    ·have : kk = l0.length := by omega
     subst this
     go_wp2
     go_ret
     refine ⟨_, rfl, ?_, HB.out⟩
     have := HO.out
     rw [List.take_of_length_le (Nat.le_refl _)] at this
     exact this

theorem or_comm_ (k : IntKind) (a b : Int) : Go.bits .or k a b = Go.bits .or k b a := by
  simp [Go.bits, Nat.or_comm]
theorem rot_s1 : ∀ n : Fin 32, IntKind.u64.wrap (-((n.val : Nat) : Int)) = if n.val = 0 then 0 else 18446744073709551616 - ((n.val : Nat) : Int) := by decide +kernel
theorem rot_s2 : ∀ n : Fin 32, 0 < n.val → Go.bits .and .u64 (18446744073709551616 - ((n.val : Nat) : Int)) 31 = 32 - ((n.val : Nat) : Int) := by decide +kernel
theorem rot_s3 : ∀ n : Fin 32, IntKind.u64.wrap (32 - (32 - ((n.val : Nat) : Int))) = ((n.val : Nat) : Int) := by decide +kernel
theorem tv_rot (x : Int) (n : Nat) (h0 : 0 < n) (h1 : n < 32) : Go.bits .or .u32 (x * 2 ^ (32 - n) % 4294967296) (x / 2 ^ n) = tv x n := by
  have hw : wrap64 (32 - (n : Int)) = ((32 - n : Nat) : Int) := by unfold wrap64; omega
  rw [or_comm_, tv, hw]
  simp only [shr, shl, Int.toNat_natCast]
  rw [Nat.min_eq_left (by simp [IntKind.bits]; omega), Nat.min_eq_left (by simp [IntKind.bits])]
  rfl
set_option maxHeartbeats 2000000 in
set_option maxRecDepth 100000 in
theorem rot_any (x : Int) (n : Nat) (h0 : 0 < n) (h1 : n < 32) (w : World) : Calls Try.prog 74 #[.int .u32 x, .int .i64 (-(n : Int))] w fun e w' => e = .returned (.int .u32 (tv x n)) ∧ w' = w := by
  have s1 : IntKind.u64.wrap (-(n : Int)) = 18446744073709551616 - n := by have := rot_s1 ⟨n, h1⟩; rw [if_neg (Nat.ne_of_gt h0)] at this; exact this
  have s2 : Go.bits .and .u64 (18446744073709551616 - (n : Int)) 31 = 32 - n := rot_s2 ⟨n, h1⟩ h0
  have s3 : IntKind.u64.wrap (32 - (32 - (n : Int))) = n := rot_s3 ⟨n, h1⟩
  have p1 : (0 : Int) ≤ 32 - n := by omega
  have p2 : (0 : Int) ≤ n := by omega
  go_enter Try.func74, Try.ntmps74
  go_wp2
  go_ret
  exact ⟨by rw [tv_rot x n h0 h1]; rfl, rfl⟩
set_option maxHeartbeats 2000000 in
set_option maxRecDepth 100000 in
theorem turni_any (x : Int) (n : Nat) (h0 : 0 < n) (h1 : n < 32) (w : World) : Calls Try.prog 73 #[.int .u32 x, .int .i64 n] w fun e w' => e = .returned (.int .u32 (tv x n)) ∧ w' = w := by
  have s1 : IntKind.i64.wrap (-(n : Int)) = -(n : Int) := IntWalk.i64_in _ (by omega)
  go_enter Try.func73, Try.ntmps73
  go_wp2_with (go_at_call 74; refine (rot_any x n h0 h1 _).mono ?_; rintro e w' ⟨rfl, rfl⟩)
  go_ret
  exact ⟨rfl, rfl⟩

def nxtI (W : List Int) (n : Nat) : Int := (rd W ((n : Nat) : Int) + rd W ((n + 9 : Nat) : Int) + sg0 (rd W ((n + 1 : Nat) : Int)) + sg1 (rd W ((n + 14 : Nat) : Int))) % 4294967296
theorem nxtI_eq (W : List Int) (n : Nat) : nxtI W n = nxt W n := by unfold nxtI nxt; congr 1; omega
def rndI (k wi : Int) (s : V8) : V8 :=
  ((s.2.2.2.2.2.2.2 + Go.bits .xor .u32 (Go.bits .xor .u32 (tv s.2.2.2.2.1 6) (tv s.2.2.2.2.1 11)) (tv s.2.2.2.2.1 25) + Go.bits .xor .u32 (Go.bits .and .u32 s.2.2.2.2.1 s.2.2.2.2.2.1) (Go.bits .and .u32 (Go.bits .xor .u32 IntKind.u32.max s.2.2.2.2.1) s.2.2.2.2.2.2.1) + k + wi + (Go.bits .xor .u32 (Go.bits .xor .u32 (tv s.1 2) (tv s.1 13)) (tv s.1 22) + Go.bits .xor .u32 (Go.bits .xor .u32 (Go.bits .and .u32 s.1 s.2.1) (Go.bits .and .u32 s.1 s.2.2.1)) (Go.bits .and .u32 s.2.1 s.2.2.1))) % 4294967296, s.1, s.2.1, s.2.2.1,
   (s.2.2.2.1 + (s.2.2.2.2.2.2.2 + Go.bits .xor .u32 (Go.bits .xor .u32 (tv s.2.2.2.2.1 6) (tv s.2.2.2.2.1 11)) (tv s.2.2.2.2.1 25) + Go.bits .xor .u32 (Go.bits .and .u32 s.2.2.2.2.1 s.2.2.2.2.2.1) (Go.bits .and .u32 (Go.bits .xor .u32 IntKind.u32.max s.2.2.2.2.1) s.2.2.2.2.2.2.1) + k + wi)) % 4294967296, s.2.2.2.2.1, s.2.2.2.2.2.1, s.2.2.2.2.2.2.1)
theorem rndI_eq (k wi : Int) (s : V8) : rndI k wi s = rnd k wi s := by unfold rndI rnd; rw [← Int.add_assoc]
/-- A struct's cells: a slice, then numbers. -/
def sg8 (v : Value) (L : List Int) : Array Value := (v :: L.map (Value.int .u32)).toArray
theorem sg8_at (v : Value) (L : List Int) (i : Nat) (h : i < L.length) : (sg8 v L)[1 + i]? = some (.int .u32 (rd L (i : Int))) := by
  rw [Nat.add_comm]
  simp [sg8, rd, h, List.getD_eq_getElem?_getD]
theorem sg8_set (v : Value) (L : List Int) (i : Nat) (x : Int) : (sg8 v L).setIfInBounds (1 + i) (.int .u32 x) = sg8 v (L.set i x) := by
  rw [Nat.add_comm]
  simp [sg8, List.map_set]
theorem turni_int (x n : Int) (w : World) (h : 0 < n ∧ n < 32) : Calls Try.prog 73 #[.int .u32 x, .int .i64 n] w fun e w' => e = .returned (.int .u32 (tv x n)) ∧ w' = w := by
  obtain ⟨m, rfl⟩ := Int.eq_ofNat_of_zero_le (Int.le_of_lt h.1)
  exact turni_any x m (by omega) (by omega) w
set_option maxHeartbeats 2000000 in
set_option maxRecDepth 100000 in
theorem impl_sum_block.calls (g : Nat) (h0_ h1_ h2_ h3_ h4_ h5_ h6_ h7_ : Int) (K : List Int) (AK : Option Addr) (ck : Nat) (A : Option Addr) (c : Nat) (l : List Int) (w : World) (hl : l.length = 64) (hc : l.length ≤ c) (hK : K.length = 64)
    (hg : w.heap[g]? = some (.cells #[.slice AK K.length ck, .int .u32 h0_, .int .u32 h1_, .int .u32 h2_, .int .u32 h3_, .int .u32 h4_, .int .u32 h5_, .int .u32 h6_, .int .u32 h7_] 65 (0, 0)))
    (hrk : Kd.C (Kd.int .u32) w AK K.length K) (hr : Kd.C (Kd.int .u8) w A l.length l)
    (hget : ∀ i : Nat, i < 16 → ∃ k x y, impl_get.f k l (4 * (i : Int)) 4 = some (x, y) ∧ x % 4294967296 = word l i) :
    Calls Try.prog 57 #[.pointer (some ⟨g, 0, none⟩), .slice A l.length c] w fun e w' => e = .returned (.tuple #[]) ∧ w'.heap[g]? = some (.cells (sg8 (.slice AK K.length ck) (l8 (sums8 (h0_, h1_, h2_, h3_, h4_, h5_, h6_, h7_) (RD K (WX l 48) (h0_, h1_, h2_, h3_, h4_, h5_, h6_, h7_) 64)))) 65 (0, 0)) ∧ Kept w w' (fun k => k = g) ∧ Below g w w' := by
  have HR := ak hr
  have HL := ak hl
  have HC := ak hc
  have HG := ak hg
  have HRK := ak hrk
  have HKL := ak hK
  have HGET := ak hget
  clear hr hl hc hg hrk hK hget
  have em : madeCells #[Value.int .u32 0] 64 = arr32 (W16 l 0) := by first | kernel_rfl | decide | (simp [madeCells, arr32, W16]; done) | (apply Array.ext'; simp [madeCells, arr32, W16])
  have hmk : ∀ W : World, (Instr.makeSlice 63 (.int .i64 64) (.int .i64 64)).run Try.prog W = .ok (.slice (some ⟨W.heap.size, 0, none⟩) 64 64) (W.alloc (.cells (arr32 (W16 l 0)) 57)) := fun W => by rw [← em]; exact print_make (P := Try.prog) 63 57 .u32 4 Try.underlying63 (by rfl) (by decide) 64 (by decide) W
  clear em
  go_enter Try.func57, Try.ntmps57
  go_wp2
  have HB := ak (below_alloc (Below.refl w.heap.size w) (.cells (arr32 (W16 l 0)) 57))
  have BW := ak (heap_alloc_new w (.cells (arr32 (W16 l 0)) 57))
  have NGW := ak (show g ≠ w.heap.size from Nat.ne_of_lt (blk_lt HG.out))
  have GW := ak (Nat.le_refl w.heap.size)
  generalize w.alloc (.cells (arr32 (W16 l 0)) 57) = W1 at HB BW ⊢
  obtain ⟨gw, BW, GW, NGW, hgoal⟩ : ∃ gw, Aside0 (W1.heap[gw]? = some (.cells (arr32 (W16 l 0)) 57 (0, 0))) ∧ Aside0 (w.heap.size ≤ gw) ∧ Aside0 (g ≠ gw) ∧ Aside0 (gw = w.heap.size) := ⟨_, BW, GW, NGW, ⟨rfl⟩⟩
  rw [← hgoal.out]
  clear hgoal hmk
  go_loopg [18] 17 (fun gq v18 w' => ∃ i : Nat, i ≤ 16 ∧ 17 - i ≤ gq ∧ v18 = .int .i64 (i : Int) ∧ Aside0 (w'.heap[gw]? = some (.cells (arr32 (W16 l i)) 57 (0, 0))) ∧ Aside0 (Below w.heap.size w w'))
  case atStart => exact ⟨0, by omega, by omega, rfl, BW, HB⟩
  case round =>
    clear HB BW
    obtain ⟨i, hi, hg, rfl, BW, HB⟩ := hrel
    by_cases hlt : i < 16
    · have e1 : (i : Int) < 16 := by omega
      obtain ⟨gk, gx, gy, hgq, hgw⟩ := HGET.out i hlt
      have HGQ := ak hgq
      have HWI := ak hgw
      clear hgq hgw
      have s0 : IntKind.i64.wrap (4 * (i : Int)) = 4 * (i : Int) := IntWalk.i64_in _ (by omega)
      have hc1 := (blk_cell BW.out i).trans (arr32_at (W16 l i) i (by rw [W16_len l i (by omega)]; omega))
      have hf1 := blk_frozen BW.out i
      generalize rd (W16 l i) (i : Int) = xo at hc1
      go_wp2_with (go_at_call 72; refine (impl_get.calls gk A c l (4 * (i : Int)) 4 gx gy _ (Kd.C_below HR.out HB.out) HC.out HGQ.out).mono ?_; rintro e w' ⟨rfl, ⟨nd, rfl⟩⟩; replace BW := ak (blk_drewN BW.out nd); replace HB := ak (pw_below_drewN HB.out nd); clear hc1 hf1; have hc1 := (blk_cell BW.out i).trans (arr32_at (W16 l i) i (by rw [W16_len l i (by omega)]; omega)); have hf1 := blk_frozen BW.out i)
      go_roundg (17 - (i + 1))
      case measure => omega
      case rel => exact ⟨i + 1, by omega, by omega, by go_num, ak (blk_put (cs' := arr32 (W16 l (i + 1))) BW.out i _ (by rw [arr32_set, HWI.out, W16_set l i (by omega)])), ak (below_set HB.out GW.out)⟩
    · have e1 : ¬ (i : Int) < 16 := by omega
      obtain rfl : i = 16 := by omega
      clear hi hg hlt
      go_wp2
      go_loopg [9] 49 (fun gq v9 w' => ∃ n : Nat, n ≤ 48 ∧ 49 - n ≤ gq ∧ v9 = .int .i64 ((n : Int) + 16) ∧ Aside0 (w'.heap[gw]? = some (.cells (arr32 (WX l n)) 57 (0, 0))) ∧ Aside0 (Below w.heap.size w w'))
      case atStart => exact ⟨0, by omega, by omega, rfl, BW, HB⟩
      case round =>
        clear HB BW
        obtain ⟨n, hn, hg, rfl, BW, HB⟩ := hrel
        by_cases hlt : n < 48
        · have hW : (WX l n).length = 64 := WX_len l n
          obtain ⟨W, hWe⟩ : ∃ W, WX l n = W := ⟨_, rfl⟩
          rw [hWe] at BW hW
          have HWE := ak hWe
          clear hWe
          have hwf := fun j => blk_frozen BW.out j
          have hx := (blk_cell BW.out (n + 1)).trans (arr32_at W (n + 1) (by omega))
          have hy := (blk_cell BW.out (n + 14)).trans (arr32_at W (n + 14) (by omega))
          have hz := (blk_cell BW.out n).trans (arr32_at W n (by omega))
          have ht := (blk_cell BW.out (n + 9)).trans (arr32_at W (n + 9) (by omega))
          have hs := (blk_cell BW.out (n + 16)).trans (arr32_at W (n + 16) (by omega))
          have hs2 := hwf (n + 16)
          clear hwf hW
          generalize rd W ((n + 16 : Nat) : Int) = xs at hs
          obtain ⟨x, hx'⟩ : ∃ b, rd W ((n + 1 : Nat) : Int) = b := ⟨_, rfl⟩
          obtain ⟨y, hy'⟩ : ∃ b, rd W ((n + 14 : Nat) : Int) = b := ⟨_, rfl⟩
          obtain ⟨z, hz'⟩ : ∃ b, rd W ((n : Nat) : Int) = b := ⟨_, rfl⟩
          obtain ⟨t, ht'⟩ : ∃ b, rd W ((n + 9 : Nat) : Int) = b := ⟨_, rfl⟩
          rw [hx'] at hx
          rw [hy'] at hy
          rw [hz'] at hz
          rw [ht'] at ht
          have HX := ak hx'
          have HY := ak hy'
          have HZ := ak hz'
          have HT := ak ht'
          clear hx' hy' hz' ht'
          have e15 : IntKind.i64.wrap ((n : Int) + 16 - 15) = (n : Int) + 1 := by rw [IntWalk.i64_in _ (by omega)]; omega
          have e2 : IntKind.i64.wrap ((n : Int) + 16 - 2) = (n : Int) + 14 := by rw [IntWalk.i64_in _ (by omega)]; omega
          have e16 : IntKind.i64.wrap ((n : Int) + 16 - 16) = (n : Int) := by rw [IntWalk.i64_in _ (by omega)]; omega
          have e16' : IntKind.i64.wrap (n : Int) = (n : Int) := IntWalk.i64_in _ (by omega)
          have e7 : IntKind.i64.wrap ((n : Int) + 16 - 7) = (n : Int) + 9 := by rw [IntWalk.i64_in _ (by omega)]; omega
          have p1 : 0 ≤ (n : Int) + 1 := by omega
          have p2 : 0 ≤ (n : Int) + 14 := by omega
          have p3 : 0 ≤ (n : Int) + 9 := by omega
          have p4 : 0 ≤ (n : Int) + 16 := by omega
          have r1 : (n : Int) + 1 < 64 := by omega
          have r2 : (n : Int) + 14 < 64 := by omega
          have r3 : (n : Int) + 9 < 64 := by omega
          have r4 : (n : Int) + 16 < 64 := by omega
          have r5 : (n : Int) < 64 := by omega
          have t1 : ((n : Int) + 1).toNat = n + 1 := by omega
          have t2 : ((n : Int) + 14).toNat = n + 14 := by omega
          have t3 : ((n : Int) + 9).toNat = n + 9 := by omega
          have t4 : ((n : Int) + 16).toNat = n + 16 := by omega
          go_wp2
          go_quiet (fail)
          go_wp2
          generalize hq : wr.drewN nq = w2
          replace hx : w2.cell? ⟨gw, n + 1, none⟩ = some (.int .u32 x) := by rw [← hq]; exact hx
          replace hy : w2.cell? ⟨gw, n + 14, none⟩ = some (.int .u32 y) := by rw [← hq]; exact hy
          replace hz : w2.cell? ⟨gw, n, none⟩ = some (.int .u32 z) := by rw [← hq]; exact hz
          replace ht : w2.cell? ⟨gw, n + 9, none⟩ = some (.int .u32 t) := by rw [← hq]; exact ht
          replace hs : w2.cell? ⟨gw, n + 16, none⟩ = some (.int .u32 xs) := by rw [← hq]; exact hs
          replace hs2 : w2.frozen? ⟨gw, n + 16, none⟩ = false := by rw [← hq]; exact hs2
          replace BW := ak (hq ▸ blk_drewN BW.out nq : w2.heap[gw]? = _)
          replace HB := ak (hq ▸ pw_below_drewN HB.out nq : Below w.heap.size w w2)
          clear hq
          go_still_tail 36, (by kernel_rfl)
          still_call (turni_int _ _ _ ⟨by decide, by decide⟩)
          repeat still_step
          still_call (turni_int _ _ _ ⟨by decide, by decide⟩)
          repeat still_step
          still_call (turni_int _ _ _ ⟨by decide, by decide⟩)
          repeat still_step
          still_call (turni_int _ _ _ ⟨by decide, by decide⟩)
          repeat still_step
          refine wpStill_nil ?_
          change wpList _ _ _ _ _ w2.drew
          replace BW := ak (blk_drew BW.out)
          replace HB := ak (below_drew1 HB.out)
          replace hs : w2.drew.cell? ⟨gw, n + 16, none⟩ = some (.int .u32 xs) := hs
          replace hs2 : w2.drew.frozen? ⟨gw, n + 16, none⟩ = false := hs2
          clear hx hy hz ht
          generalize w2.drew = w3 at BW HB hs hs2 ⊢
          go_wp2
          go_roundg (49 - (n + 1))
          case measure => omega
          case rel =>
            exact ⟨n + 1, by omega, by omega, by go_num, ak (blk_put (cs' := arr32 (WX l (n + 1))) BW.out (n + 16) _ (by rw [arr32_set, WX, HWE.out, ← nxtI_eq]; unfold nxtI sg0 sg1; rw [HX.out, HY.out, HZ.out, HT.out])), ak (below_set HB.out GW.out)⟩
        · have hlz : ¬ (n : Int) + 16 < 64 := by omega
          obtain rfl : n = 48 := by omega
          clear hn hg hlt
          have BG := ak (blk_below HG.out HB.out)
          have h0 := (blk_cell BG.out 1).trans rfl
          have h1 := (blk_cell BG.out 2).trans rfl
          have h2 := (blk_cell BG.out 3).trans rfl
          have h3 := (blk_cell BG.out 4).trans rfl
          have h4 := (blk_cell BG.out 5).trans rfl
          have h5 := (blk_cell BG.out 6).trans rfl
          have h6 := (blk_cell BG.out 7).trans rfl
          have h7 := (blk_cell BG.out 8).trans rfl
          go_wp2
          have BV := ak (heap_alloc_new wr (.cells (a8 (h0_, h1_, h2_, h3_, h4_, h5_, h6_, h7_)) 58))
          have NVW := ak (show wr.heap.size ≠ gw from Nat.ne_of_gt (blk_lt BW.out))
          have NVG := ak (show wr.heap.size ≠ g from Nat.ne_of_gt (blk_lt BG.out))
          have GV := ak (show w.heap.size ≤ wr.heap.size from HB.out.size)
          replace BG := ak (blk_alloc BG.out (.cells (a8 (h0_, h1_, h2_, h3_, h4_, h5_, h6_, h7_)) 58))
          replace BW := ak (blk_alloc BW.out (.cells (a8 (h0_, h1_, h2_, h3_, h4_, h5_, h6_, h7_)) 58))
          replace HB := ak (below_alloc HB.out (.cells (a8 (h0_, h1_, h2_, h3_, h4_, h5_, h6_, h7_)) 58))
          clear h0 h1 h2 h3 h4 h5 h6 h7
          change Code.wp _ _ _ _ (wr.alloc (.cells (a8 (h0_, h1_, h2_, h3_, h4_, h5_, h6_, h7_)) 58))
          generalize wr.alloc (.cells (a8 (h0_, h1_, h2_, h3_, h4_, h5_, h6_, h7_)) 58) = W3 at BG BW BV HB ⊢
          generalize wr.heap.size = gv at BV NVW NVG GV ⊢
          go_loopg [88] 65 (fun gq v88 w' => ∃ (n : Nat) (s : V8), n ≤ 64 ∧ 65 - n ≤ gq ∧ v88 = .int .i64 (n : Int) ∧ Aside0 (w'.heap[g]? = some (.cells #[.slice AK K.length ck, .int .u32 h0_, .int .u32 h1_, .int .u32 h2_, .int .u32 h3_, .int .u32 h4_, .int .u32 h5_, .int .u32 h6_, .int .u32 h7_] 65 (0, 0))) ∧ Aside0 (w'.heap[gw]? = some (.cells (arr32 (WX l 48)) 57 (0, 0))) ∧ Aside0 (w'.heap[gv]? = some (.cells (a8 s) 58 (0, 0))) ∧ Aside0 (Below w.heap.size w w') ∧ Aside0 (RD K (WX l 48) (h0_, h1_, h2_, h3_, h4_, h5_, h6_, h7_) n = s))
          case atStart => exact ⟨0, (h0_, h1_, h2_, h3_, h4_, h5_, h6_, h7_), by omega, by omega, rfl, BG, BW, BV, HB, ⟨rfl⟩⟩
          case round =>
            clear HB BG BW BV
            obtain ⟨n, ⟨v0, v1, v2, v3, v4, v5, v6, v7⟩, hn, hg, rfl, BG, BW, BV, HB, HRD⟩ := hrel
            simp only [a8] at BV
            by_cases hlt : n < 64
            · have hlz : (n : Int) < 64 := by omega
              have hkl := HKL.out
              obtain ⟨ad, hAK, hck⟩ := Kd.at_int HRK.out (n : Int) (by omega) (by omega)
              subst hAK
              replace hck := pw_cell_below HB.out hck
              rw [show ((n : Int)).toNat = n from by omega] at hck
              have hlk : (n : Int) < (K.length : Int) := by omega
              have hs0 := (blk_cell BG.out 0).trans rfl
              have hwc := (blk_cell BW.out n).trans (arr32_at (WX l 48) n (by rw [WX_len]; omega))
              obtain ⟨wn, hwe⟩ : ∃ b, rd (WX l 48) (n : Int) = b := ⟨_, rfl⟩
              rw [hwe] at hwc
              obtain ⟨kn, hke⟩ : ∃ b, rd K (n : Int) = b := ⟨_, rfl⟩
              rw [hke] at hck
              have HWE := ak hwe
              have HKE := ak hke
              clear hwe hke
              have h0 := (blk_cell BV.out 0).trans rfl
              have h1 := (blk_cell BV.out 1).trans rfl
              have h2 := (blk_cell BV.out 2).trans rfl
              have h3 := (blk_cell BV.out 3).trans rfl
              have h4 := (blk_cell BV.out 4).trans rfl
              have h5 := (blk_cell BV.out 5).trans rfl
              have h6 := (blk_cell BV.out 6).trans rfl
              have h7 := (blk_cell BV.out 7).trans rfl
              go_wp2
              go_quiet ((go_at_call 73; exact Calls.quiet_of ((turni_int _ _ _ ⟨by omega, by omega⟩).mono fun _ _ h => ⟨h.1, 0, h.2⟩)))
              generalize hq : wr.drewN _ = w4
              replace h0 : w4.cell? ⟨gv, 0, none⟩ = some (.int .u32 v0) := by rw [← hq]; exact h0
              replace h1 : w4.cell? ⟨gv, 1, none⟩ = some (.int .u32 v1) := by rw [← hq]; exact h1
              replace h2 : w4.cell? ⟨gv, 2, none⟩ = some (.int .u32 v2) := by rw [← hq]; exact h2
              replace h3 : w4.cell? ⟨gv, 3, none⟩ = some (.int .u32 v3) := by rw [← hq]; exact h3
              replace h4 : w4.cell? ⟨gv, 4, none⟩ = some (.int .u32 v4) := by rw [← hq]; exact h4
              replace h5 : w4.cell? ⟨gv, 5, none⟩ = some (.int .u32 v5) := by rw [← hq]; exact h5
              replace h6 : w4.cell? ⟨gv, 6, none⟩ = some (.int .u32 v6) := by rw [← hq]; exact h6
              replace h7 : w4.cell? ⟨gv, 7, none⟩ = some (.int .u32 v7) := by rw [← hq]; exact h7
              replace BG := ak (hq ▸ blk_drewN BG.out _ : w4.heap[g]? = _)
              replace BW := ak (hq ▸ blk_drewN BW.out _ : w4.heap[gw]? = _)
              replace BV := ak (hq ▸ blk_drewN BV.out _ : w4.heap[gv]? = _)
              replace HB := ak (hq ▸ pw_below_drewN HB.out _ : Below w.heap.size w w4)
              clear hq
              go_wp2
              go_quiet ((go_at_call 73; exact Calls.quiet_of ((turni_int _ _ _ ⟨by omega, by omega⟩).mono fun _ _ h => ⟨h.1, 0, h.2⟩)))
              generalize hq : w4.drewN _ = w5
              replace h0 : w5.cell? ⟨gv, 0, none⟩ = some (.int .u32 v0) := by rw [← hq]; exact h0
              replace h1 : w5.cell? ⟨gv, 1, none⟩ = some (.int .u32 v1) := by rw [← hq]; exact h1
              replace h2 : w5.cell? ⟨gv, 2, none⟩ = some (.int .u32 v2) := by rw [← hq]; exact h2
              replace h3 : w5.cell? ⟨gv, 3, none⟩ = some (.int .u32 v3) := by rw [← hq]; exact h3
              replace h4 : w5.cell? ⟨gv, 4, none⟩ = some (.int .u32 v4) := by rw [← hq]; exact h4
              replace h5 : w5.cell? ⟨gv, 5, none⟩ = some (.int .u32 v5) := by rw [← hq]; exact h5
              replace h6 : w5.cell? ⟨gv, 6, none⟩ = some (.int .u32 v6) := by rw [← hq]; exact h6
              replace h7 : w5.cell? ⟨gv, 7, none⟩ = some (.int .u32 v7) := by rw [← hq]; exact h7
              replace BG := ak (hq ▸ blk_drewN BG.out _ : w5.heap[g]? = _)
              replace BW := ak (hq ▸ blk_drewN BW.out _ : w5.heap[gw]? = _)
              replace BV := ak (hq ▸ blk_drewN BV.out _ : w5.heap[gv]? = _)
              replace HB := ak (hq ▸ pw_below_drewN HB.out _ : Below w.heap.size w w5)
              clear hq
              have hf0 := blk_frozen BV.out 0
              have hf1 := blk_frozen BV.out 1
              have hf2 := blk_frozen BV.out 2
              have hf3 := blk_frozen BV.out 3
              have hf4 := blk_frozen BV.out 4
              have hf5 := blk_frozen BV.out 5
              have hf6 := blk_frozen BV.out 6
              have hf7 := blk_frozen BV.out 7
              go_wp2
              go_roundg (65 - (n + 1))
              case measure => omega
              case rel =>
                exact ⟨n + 1, rndI kn wn (v0, v1, v2, v3, v4, v5, v6, v7), by omega, by omega, by go_num, ⟨by repeat (first | (with_reducible exact BG.out) | refine blk_far ?_ (Ne.symm NVG.out) _)⟩, ⟨by repeat (first | (with_reducible exact BW.out) | refine blk_far ?_ (Ne.symm NVW.out) _)⟩, ⟨by unfold a8 rndI; exact bput8 BV.out⟩, ⟨by repeat (first | (with_reducible exact HB.out) | refine below_set ?_ GV.out)⟩, ⟨by rw [RD, HRD.out, HWE.out, HKE.out, rndI_eq]⟩⟩
            · have hlz : ¬ (n : Int) < 64 := by omega
              obtain rfl : n = 64 := by omega
              clear hn hg hlt hlz
              go_wp2
              obtain ⟨s, hs⟩ : ∃ s : V8, (v0, v1, v2, v3, v4, v5, v6, v7) = s := ⟨_, rfl⟩
              rw [hs] at HRD
              have BV2 : Aside0 (wr.heap[gv]? = some (.cells (arr32 (l8 s)) 58 (0, 0))) := ⟨by rw [← hs]; exact BV.out⟩
              clear BV hs
              have BG2 : Aside0 (wr.heap[g]? = some (.cells (sg8 (.slice AK K.length ck) (HX [h0_, h1_, h2_, h3_, h4_, h5_, h6_, h7_] (l8 s) 0)) 65 (0, 0))) := ⟨BG.out⟩
              have HK2 := ak (Kept.of_below HB.out (fun k => k = g))
              have HBG := ak (HB.out.mono (Nat.le_of_lt (blk_lt HG.out)))
              clear BG HB BW
              go_loopg [187] 9 (fun gq v187 w' => ∃ i : Nat, i ≤ 8 ∧ 9 - i ≤ gq ∧ v187 = .int .i64 (i : Int) ∧ Aside0 (w'.heap[g]? = some (.cells (sg8 (.slice AK K.length ck) (HX [h0_, h1_, h2_, h3_, h4_, h5_, h6_, h7_] (l8 s) i)) 65 (0, 0))) ∧ Aside0 (w'.heap[gv]? = some (.cells (arr32 (l8 s)) 58 (0, 0))) ∧ Aside0 (Kept w w' (fun k => k = g)) ∧ Aside0 (Below g w w'))
              case atStart => exact ⟨0, by omega, by omega, rfl, BG2, BV2, HK2, HBG⟩
              case round =>
                clear HK2 HBG BG2 BV2
                obtain ⟨i, hi, hg, rfl, BG, BV, HKP, HBG⟩ := hrel
                by_cases hlt : i < 8
                · have hx := ((blk_cell BG.out (1 + i)).trans (sg8_at _ _ i (by rw [HX_len [h0_, h1_, h2_, h3_, h4_, h5_, h6_, h7_] (l8 s) rfl i (by simp; omega)]; simpa using hlt)))
                  rw [HX_rd [h0_, h1_, h2_, h3_, h4_, h5_, h6_, h7_] (l8 s) rfl i (by simpa using hlt)] at hx
                  have hy := (blk_cell BV.out i).trans (arr32_at (l8 s) i (by simpa [l8] using hlt))
                  have hset := HX_set [h0_, h1_, h2_, h3_, h4_, h5_, h6_, h7_] (l8 s) rfl i (by simpa using hlt)
                  have hf := blk_frozen BG.out (1 + i)
                  obtain ⟨x, hx'⟩ : ∃ b, rd [h0_, h1_, h2_, h3_, h4_, h5_, h6_, h7_] (i : Int) = b := ⟨_, rfl⟩
                  obtain ⟨y, hy'⟩ : ∃ b, rd (l8 s) (i : Int) = b := ⟨_, rfl⟩
                  rw [hx'] at hx hset
                  rw [hy'] at hy hset
                  have HSET := ak hset
                  clear hset hx' hy'
                  have hl0 : (0 : Int) ≤ (i : Int) := by omega
                  have hl1 : (i : Int) < 8 := by omega
                  go_wp2
                  go_still_tail 13, (by kernel_rfl)
                  change wpList _ _ _ _ _ wr.drew
                  go_wp2
                  go_roundg (9 - (i + 1))
                  case measure => omega
                  case rel =>
                    exact ⟨i + 1, by omega, by omega, by go_num, ak (blk_drew (blk_put (cs' := sg8 (.slice AK K.length ck) (HX [h0_, h1_, h2_, h3_, h4_, h5_, h6_, h7_] (l8 s) (i + 1))) BG.out (1 + i) _ (by rw [sg8_set, ← HSET.out]; rfl))), ak (blk_drew (blk_far BV.out (p := ⟨g, 1 + i, none⟩) NVG.out _)), ak (Kept.drew (Kept.setCell HKP.out (p := ⟨g, 1 + i, none⟩) (.inl rfl) _)), ak (below_drew1 (HBG.out.setCell (p := ⟨g, 1 + i, none⟩) (Nat.le_refl _) _))⟩
                · have hlz : ¬ (i : Int) < 8 := by omega
                  obtain rfl : i = 8 := by omega
                  clear hi hg hlt hlz
                  go_wp2
                  refine bodyPost_end (v := .tuple #[]) (results_none rfl _ _ _) rfl ?_
                  exact ⟨rfl, by have h := BG.out; rw [← HRD.out] at h; exact h, HKP.out, HBG.out⟩

def P64 : List Int := [2, 3, 5, 7, 11, 13, 17, 19, 23, 29, 31, 37, 41, 43, 47, 53, 59, 61, 67, 71, 73, 79, 83, 89, 97, 101, 103, 107, 109, 113, 127, 131, 137, 139, 149, 151, 157, 163, 167, 173, 179, 181, 191, 193, 197, 199, 211, 223, 227, 229, 233, 239, 241, 251, 257, 263, 269, 271, 277, 281, 283, 293, 307, 311]
set_option maxRecDepth 100000 in
theorem primes_64 : impl_primes.f 400 64 = some P64 := by decide +kernel
set_option maxRecDepth 100000 in
theorem frac_t : ∀ i : Fin 64, impl_fraction.f 40 (rd P64 ((i.val : Nat) : Int)) true = some (rd K64 ((i.val : Nat) : Int)) := by decide +kernel
set_option maxRecDepth 100000 in
theorem frac_f : ∀ i : Fin 8, impl_fraction.f 40 (rd P64 ((i.val : Nat) : Int)) false = some (rd (l8 first8) ((i.val : Nat) : Int)) := by decide +kernel
theorem sg8_put0 (v u : Value) (L : List Int) : (sg8 v L).setIfInBounds 0 u = sg8 u L := by simp [sg8]
/-- The words of the state that have been laid. -/
def HS (i : Nat) : List Int := (l8 first8).take i ++ List.replicate (8 - i) 0
theorem HS_len (i : Nat) (h : i ≤ 8) : (HS i).length = 8 := by simp [HS, l8]; omega
theorem HS_set (i : Nat) (h : i < 8) : (HS i).set i (rd (l8 first8) (i : Int)) = HS (i + 1) := by
  have : ∀ i : Fin 8, (HS i.val).set i.val (rd (l8 first8) ((i.val : Nat) : Int)) = HS (i.val + 1) := by decide +kernel
  exact this ⟨i, h⟩
theorem HS_ge (i : Nat) (h : 8 ≤ i) : HS i = l8 first8 := by
  unfold HS
  rw [List.take_of_length_le (by simp [l8]; omega), show 8 - i = 0 by omega]
  simp
theorem C_lit3 (W : World) (g t : Nat) (A1 A2 A3 : Option Addr) (c1 c2 c3 : Nat) (l1 l2 l3 : List Int) (h : W.heap[g]? = some (.cells #[.slice A1 l1.length c1, .slice A2 l2.length c2, .slice A3 l3.length c3] t (0, 0)))
    (h1 : l1.length ≤ c1) (h2 : l2.length ≤ c2) (h3 : l3.length ≤ c3) (C1 : Kd.C (Kd.int .u8) W A1 l1.length l1) (C2 : Kd.C (Kd.int .u8) W A2 l2.length l2) (C3 : Kd.C (Kd.int .u8) W A3 l3.length l3) :
    Kd.C (Kd.slice 5 (Kd.int .u8)) W (some ⟨g, 0, none⟩) [l1, l2, l3].length [l1, l2, l3] := by
  have one : ∀ (j : Nat) (v : Value), (#[Value.slice A1 l1.length c1, .slice A2 l2.length c2, .slice A3 l3.length c3] : Array Value)[j]? = some v → ∀ i u, ([v] : List Value)[i]? = some u → W.cell? ((⟨g, 0, none⟩ : Addr).add (j * 1 + i)) = some u := fun j v hv i u hu => by
    cases i with
    | succ i => simp at hu
    | zero =>
      obtain rfl : v = u := by simpa using hu
      rw [← hv, ← blk_cell h j]
      congr 1
      by_cases hj : j = 0 <;> simp [Addr.add, hj]
  refine ⟨rfl, by simp, fun _ => ⟨_, rfl, fun j p hj => ?_⟩⟩
  match j, hj with
  | 0, hj => obtain rfl : l1 = p := by simpa using hj
             exact ⟨_, rfl, ⟨A1, c1, rfl, h1, C1⟩, one 0 _ rfl⟩
  | 1, hj => obtain rfl : l2 = p := by simpa using hj
             exact ⟨_, rfl, ⟨A2, c2, rfl, h2, C2⟩, one 1 _ rfl⟩
  | 2, hj => obtain rfl : l3 = p := by simpa using hj
             exact ⟨_, rfl, ⟨A3, c3, rfl, h3, C3⟩, one 2 _ rfl⟩
  | j + 3, hj => simp at hj
/-- Every element is a byte. -/
def Byt (l : List Int) : Prop := ∀ x ∈ l, 0 ≤ x ∧ x ≤ 255
theorem Byt.rd {l : List Int} (h : Byt l) (i : Int) : 0 ≤ rd l i ∧ rd l i ≤ 255 := by
  unfold Go.Proofs.YtkmchjdioplfjaaW.PrintWords.rd
  rw [List.getD_eq_getElem?_getD]
  by_cases hi : i.toNat < l.length
  · rw [List.getElem?_eq_getElem hi]; exact h _ (List.getElem_mem hi)
  · rw [List.getElem?_eq_none (by omega)]; simp
theorem wraps_i64 (n : Int) (h0 : 0 ≤ n) (h1 : n < 2 ^ 63) : IntKind.i64.wrap n = n := by rw [IntKind.wrap_i64]; omega
theorem wraps_u32 (n : Int) (h0 : 0 ≤ n) (h1 : n < 2 ^ 32) : IntKind.u32.wrap n = n := by rw [IntKind.wrap_u32]; omega
theorem or_byte (a x : Int) (h0 : 0 ≤ a) (h1 : a < 36028797018963968) (h2 : 0 ≤ x) (h3 : x ≤ 255) : Go.bits .or .i64 (a * 256) x = a * 256 + x :=
  bits_join .i64 63 (by decide) wraps_i64 8 (a * 256) x (by omega) (by omega) (by omega) (by omega) (by omega) (by omega)
theorem word_eq (l : List Int) (hb : Byt l) (i : Nat) : word l i = rd l ((4 * i : Nat) : Int) * 16777216 + rd l ((4 * i + 1 : Nat) : Int) * 65536 + rd l ((4 * i + 2 : Nat) : Int) * 256 + rd l ((4 * i + 3 : Nat) : Int) := by
  have h0 := hb.rd ((4 * i : Nat) : Int)
  have h1 := hb.rd ((4 * i + 1 : Nat) : Int)
  have h2 := hb.rd ((4 * i + 2 : Nat) : Int)
  have h3 := hb.rd ((4 * i + 3 : Nat) : Int)
  unfold word
  generalize rd l ((4 * i : Nat) : Int) = a at *
  generalize rd l ((4 * i + 1 : Nat) : Int) = b at *
  generalize rd l ((4 * i + 2 : Nat) : Int) = c at *
  generalize rd l ((4 * i + 3 : Nat) : Int) = d at *
  rw [show a % 4294967296 * 16777216 % 4294967296 = a * 16777216 by omega, show b % 4294967296 * 65536 % 4294967296 = b * 65536 by omega, show c % 4294967296 * 256 % 4294967296 = c * 256 by omega, show d % 4294967296 = d by omega]
  rw [bits_join .u32 32 (by decide) wraps_u32 24 (a * 16777216) (b * 65536) (by omega) (by omega) (by omega) (by omega) (by omega) (by omega)]
  rw [bits_join .u32 32 (by decide) wraps_u32 16 (a * 16777216 + b * 65536) (c * 256) (by omega) (by omega) (by omega) (by omega) (by omega) (by omega)]
  rw [bits_join .u32 32 (by decide) wraps_u32 8 (a * 16777216 + b * 65536 + c * 256) d (by omega) (by omega) (by omega) (by omega) (by omega) (by omega)]
theorem rd_at (l : List Int) (n : Nat) (h : n < l.length) : rd l ((n : Nat) : Int) = l[n] := by simp [rd, List.getD_eq_getElem?_getD, h]
theorem w64_ {x : Int} (h1 : -9223372036854775808 ≤ x) (h2 : x ≤ 9223372036854775807) : wrap64 x = x := by unfold wrap64; omega
theorem get_step (k : Nat) (at_ n acc : Int) (L : List Int) (m : Int) (j : Nat) (h : j < L.length) (hm : m = L.length) (hL : L.length ≤ 7) (hx : 0 ≤ rd L (j : Int) ∧ rd L (j : Int) ≤ 255) (h0 : 0 ≤ acc) (h1 : acc < 36028797018963968) :
    impl_get.l0 (k + 1) at_ n acc L m (j : Int) = impl_get.l0 k at_ n (acc * 256 + rd L (j : Int)) L m ((j + 1 : Nat) : Int) := by
  subst hm
  simp only [impl_get.l0]
  rw [if_pos (by omega), if_pos (by omega), if_pos (by omega), w64_ (by omega) (by omega), w64_ (by omega) (by omega), w64_ (by omega) (by omega), or_byte _ _ h0 h1 hx.1 hx.2]
  rfl
theorem get_word (l : List Int) (hb : Byt l) (hl : l.length = 64) (i : Nat) (hi : i < 16) : ∃ k x y, impl_get.f k l (4 * (i : Int)) 4 = some (x, y) ∧ x % 4294967296 = word l i := by
  have h0 := hb.rd ((4 * i : Nat) : Int)
  have h1 := hb.rd ((4 * i + 1 : Nat) : Int)
  have h2 := hb.rd ((4 * i + 2 : Nat) : Int)
  have h3 := hb.rd ((4 * i + 3 : Nat) : Int)
  have hcut : (l.take (4 * i + 4)).drop (4 * i) = [rd l ((4 * i : Nat) : Int), rd l ((4 * i + 1 : Nat) : Int), rd l ((4 * i + 2 : Nat) : Int), rd l ((4 * i + 3 : Nat) : Int)] := by
    rw [rd_at l (4 * i) (by omega), rd_at l (4 * i + 1) (by omega), rd_at l (4 * i + 2) (by omega), rd_at l (4 * i + 3) (by omega)]
    apply List.ext_getElem
    · simp; omega
    · intro j h1 h2
      simp at h2
      rcases j with _ | _ | _ | _ | j
      · simp
      · simp
      · simp
      · simp
      · omega
  rw [word_eq l hb i]
  generalize rd l ((4 * i : Nat) : Int) = a at *
  generalize rd l ((4 * i + 1 : Nat) : Int) = b at *
  generalize rd l ((4 * i + 2 : Nat) : Int) = c at *
  generalize rd l ((4 * i + 3 : Nat) : Int) = d at *
  have hl0 : impl_get.l0 6 (4 * (i : Int)) 4 0 [a, b, c, d] 4 0 = some (((a * 256 + b) * 256 + c) * 256 + d, wrap64 (4 * (i : Int) + 4)) := by
    have e0 := get_step 5 (4 * (i : Int)) 4 0 [a, b, c, d] 4 0 (by simp) rfl (by simp) h0 (by omega) (by omega)
    have e1 := get_step 4 (4 * (i : Int)) 4 a [a, b, c, d] 4 1 (by simp) rfl (by simp) h1 (by omega) (by omega)
    have e2 := get_step 3 (4 * (i : Int)) 4 (a * 256 + b) [a, b, c, d] 4 2 (by simp) rfl (by simp) h2 (by omega) (by omega)
    have e3 := get_step 2 (4 * (i : Int)) 4 ((a * 256 + b) * 256 + c) [a, b, c, d] 4 3 (by simp) rfl (by simp) h3 (by omega) (by omega)
    refine e0.trans ?_
    rw [show (0 : Int) * 256 + rd [a, b, c, d] ((0 : Nat) : Int) = a by simp [rd]]
    refine e1.trans ?_
    rw [show a * 256 + rd [a, b, c, d] ((1 : Nat) : Int) = a * 256 + b from rfl]
    refine e2.trans ?_
    rw [show (a * 256 + b) * 256 + rd [a, b, c, d] ((2 : Nat) : Int) = (a * 256 + b) * 256 + c from rfl]
    refine e3.trans ?_
    rw [show ((a * 256 + b) * 256 + c) * 256 + rd [a, b, c, d] ((3 : Nat) : Int) = ((a * 256 + b) * 256 + c) * 256 + d from rfl]
    simp only [impl_get.l0]
    rw [if_neg (by omega)]
  refine ⟨7, ((a * 256 + b) * 256 + c) * 256 + d, wrap64 (4 * (i : Int) + 4), ?_, by omega⟩
  unfold impl_get.f
  rw [if_neg (by omega), w64_ (show -9223372036854775808 ≤ (l.length : Int) - 4 * (i : Int) by omega) (by omega), decide_eq_false (show ¬ (4 : Int) > (l.length : Int) - 4 * (i : Int) by omega)]
  simp only [impl_get.j0]
  rw [w64_ (show -9223372036854775808 ≤ 4 * (i : Int) + 4 by omega) (by omega)] at hl0 ⊢
  rw [if_neg (by simp), if_pos (by omega), if_pos (by omega), if_pos (by omega), Option.bind_some]
  rw [show (4 * (i : Int) + 4).toNat = 4 * i + 4 by omega, show (4 * (i : Int)).toNat = 4 * i by omega, hcut]
  exact hl0
theorem four_eq (x : Int) (h0 : 0 ≤ x) (h1 : x < 4294967296) : impl_four.f x = some (bytes4 x) := by
  unfold impl_four.f impl_two.f bytes4
  simp only [Option.bind_some]
  rw [if_pos (by simp)]
  simp only [List.cons_append, List.nil_append, Option.some.injEq, List.cons.injEq, and_true]
  omega
theorem lenB_eq (n : Nat) (h : n ≤ 5000) : lenB n 8 = bytes4 0 ++ bytes4 (8 * (n : Int)) := by
  simp only [lenB, bytes4, lenAt, List.range, List.range.loop, List.map_cons, List.map_nil, List.cons_append, List.nil_append, List.cons.injEq, and_true]
  simp only [Nat.reduceSub, Nat.reduceMul, Int.reducePow]
  refine ⟨?_, ?_, ?_, ?_, ?_, ?_, ?_, ?_⟩ <;> omega
theorem lenB_byt (n : Nat) : Byt (lenB n 8) := fun x hx => by
  obtain ⟨t, _, rfl⟩ := List.mem_map.1 hx
  unfold lenAt
  omega
theorem padTo_byt (a : List Int) (h : Byt a) : Byt (padTo a) := fun x hx => by
  rcases List.mem_append.1 hx with h1 | h1
  · exact h x h1
  · have := (List.mem_replicate.1 h1).2; omega
theorem fullL_byt (l : List Int) (h : Byt l) : Byt (fullL l) := fun x hx => by
  rcases List.mem_append.1 hx with h1 | h1
  · refine padTo_byt _ (fun y hy => ?_) x h1
    rcases List.mem_append.1 hy with h2 | h2
    · exact h y h2
    · rw [List.mem_singleton.1 h2]; omega
  · exact lenB_byt _ x h1
theorem chunk_byt (L : List Int) (k : Nat) (h : Byt L) : Byt (chunk L k) := fun x hx => h x (List.mem_of_mem_take (List.mem_of_mem_drop hx))
/-- Eight words. -/
def W8 (s : V8) : Prop := ∀ x ∈ l8 s, 0 ≤ x ∧ x < 4294967296
theorem foldB_w8 (L : List Int) : ∀ k, W8 (foldB L k)
  | 0 => by show ∀ x ∈ l8 first8, 0 ≤ x ∧ x < 4294967296; decide
  | k + 1 => by
    unfold foldB blockV sums8 W8 l8 addm
    intro x hx
    simp only [List.mem_cons, List.not_mem_nil, or_false] at hx
    rcases hx with rfl | rfl | rfl | rfl | rfl | rfl | rfl | rfl <;> omega
theorem W8.rd {s : V8} (h : W8 s) (m : Nat) (hm : m < 8) : 0 ≤ rd (l8 s) (m : Int) ∧ rd (l8 s) (m : Int) < 4294967296 := by
  have : m < (l8 s).length := hm
  rw [rd_at _ m this]
  exact h _ (List.getElem_mem this)
theorem agg_index (G : Array Value) (m : Nat) (x : Int) (hm : m < 8) (hx : G[m]? = some (.int .u32 x)) (W : World) : (Instr.index 58 (.agg G) (.int .i64 (m : Int))).run Try.prog W = .ok (.int .u32 x) W := by
  have hm0 : (0 : Int) ≤ (m : Int) := by omega
  simp [Instr.index, go_sem, hm0, hx]
  intro h
  omega
set_option maxHeartbeats 4000000 in
set_option maxRecDepth 100000 in
theorem impl_sha256.calls0 (A : Option Addr) (c : Nat) (l : List Int) (w : World) (hl : l.length ≤ 5000) (hb : ∀ x ∈ l, 0 ≤ x ∧ x ≤ 255) (hr : Kd.C (Kd.int .u8) w A l.length l) (hc : l.length ≤ c) :
    Calls Try.prog 33 #[.slice A l.length c] w fun e w' => ∃ v0_ : Value, e = .returned v0_ ∧ Kd.R (Kd.int .u8) 5 w' w.heap.size (fun _ => True) v0_ (sumL l) ∧ Below w.heap.size w w' := by
  have HR0 := ak hr
  have HL := ak hl
  have HC0 := ak hc
  have HBY := ak hb
  clear hr hl hc hb
  go_enter Try.func33, Try.ntmps33
  go_wp2_with (fail)
  have HB := ak (below_alloc (Below.refl w.heap.size w) (.cells (sg8 (.slice none 0 0) (HS 0)) 65))
  have BG := ak (heap_alloc_new w (.cells (sg8 (.slice none 0 0) (HS 0)) 65))
  have GG := ak (Nat.le_refl w.heap.size)
  change Calls _ _ _ (w.alloc (.cells (sg8 (.slice none 0 0) (HS 0)) 65)) _
  generalize w.alloc (.cells (sg8 (.slice none 0 0) (HS 0)) 65) = W1 at HB BG ⊢
  obtain ⟨g, BG, GG, hgoal⟩ : ∃ g, Aside0 (W1.heap[g]? = some (.cells (sg8 (.slice none 0 0) (HS 0)) 65 (0, 0))) ∧ Aside0 (w.heap.size ≤ g) ∧ Aside0 (g = w.heap.size) := ⟨_, BG, GG, ⟨rfl⟩⟩
  rw [← hgoal.out]
  clear hgoal
  refine (impl_primes.calls 400 64 P64 _ primes_64).mono ?_
  rintro e w2 ⟨v13, rfl, ho, hb⟩
  have HP := ak (Kd.R_reok (ok := fun b => b ≠ g) rfl ho (fun b hb2 => Nat.ne_of_gt (Nat.lt_of_lt_of_le (blk_lt BG.out) (Kd.R_base ho b hb2))))
  replace BG := ak (blk_below BG.out hb)
  replace HB := b2s HB.out hb
  clear ho hb
  obtain ⟨AP, cP, eo⟩ := Kd.R_slice HP.out
  subst eo
  have HPC := ak (Kd.C_kept_own HP.out (S := fun k => k = g) (fun k hk => hk))
  clear HP
  obtain ⟨P, hP⟩ : ∃ P, P = P64 := ⟨_, rfl⟩
  rw [← hP] at HPC
  rw [← hP]
  have HPE := ak hP
  have HPL := ak (show P.length = 64 by rw [hP]; rfl)
  clear hP
  have GL := ak (blk_lt BG.out)
  have WL := ak (show w.heap.size ≤ w2.heap.size from HB.out.size)
  have HK := ak (Kept.refl w2 (fun k => k = g))
  have HO := ak (Kd.R_nil (Kd.int .u32) 57 w2 w2.heap.size (fun _ => True))
  go_wp2
  go_loopg [4, 5, 15] 65 (fun gq v4 v5 v15 W => ∃ (i : Nat) (vk : Value), i ≤ 64 ∧ 65 - i ≤ gq ∧ v15 = .int .i64 (i : Int) ∧ Aside0 (W.heap[g]? = some (.cells (sg8 vk (HS (min i 8))) 65 (0, 0))) ∧ Aside0 (Kd.R (Kd.int .u32) 57 W w2.heap.size (fun _ => True) vk (K64.take i)) ∧ Aside0 (Kept w2 W (fun k => k = g)) ∧ Aside0 (Below w.heap.size w W))
  case atStart => exact ⟨0, _, by omega, by omega, rfl, BG, HO, HK, HB⟩
  case round =>
    clear BG HO HK HB
    obtain ⟨i, vk, hi, hg, rfl, BG, HO, HK, HB⟩ := hrel
    obtain ⟨AK, cK, eo⟩ := Kd.R_slice HO.out
    subst eo
    by_cases hlt : i < 64
    · have hpl := HPL.out
      have hlz : (i : Int) < (P.length : Int) := by omega
      obtain ⟨ad, hAP, hck⟩ := Kd.at_int (HPC.out _ HK.out) (i : Int) (by omega) (by omega)
      subst hAP
      rw [show ((i : Int)).toNat = i from by omega] at hck
      obtain ⟨p, hp⟩ : ∃ p, rd P (i : Int) = p := ⟨_, rfl⟩
      rw [hp] at hck
      have HFT := ak (show impl_fraction.f 40 p true = some (rd K64 (i : Int)) by rw [← hp, HPE.out]; exact frac_t ⟨i, hlt⟩)
      have HFF := ak (show i < 8 → impl_fraction.f 40 p false = some (rd (l8 first8) (i : Int)) by intro h8; rw [← hp, HPE.out]; exact frac_f ⟨i, h8⟩)
      have HTK := ak (show K64.take i ++ [rd K64 (i : Int)] = K64.take (i + 1) by rw [List.take_succ_eq_append_getElem (by simp [K64]; omega)]; simp [rd, List.getD_eq_getElem?_getD, show i < K64.length by simp [K64]; omega])
      have HTL := ak (show (K64.take i).length = i by rw [List.length_take]; simp [K64]; omega)
      clear hp
      obtain ⟨kt, HKT⟩ : ∃ k, Aside0 (K64.take i = k) := ⟨_, ⟨rfl⟩⟩
      rw [HKT.out] at HO HTK HTL BG
      obtain ⟨fk, HFK⟩ : ∃ k, Aside0 (rd K64 (i : Int) = k) := ⟨_, ⟨rfl⟩⟩
      rw [HFK.out] at HFT HTK
      obtain ⟨km, HKM⟩ : ∃ k, Aside0 (kt ++ [fk] = k) := ⟨_, ⟨rfl⟩⟩
      rw [HKM.out] at HTK
      have hg0 : wr.cell? ⟨g, 0, none⟩ = some (.slice AK kt.length cK) := (blk_cell BG.out 0).trans rfl
      have hgf := blk_frozen BG.out 0
      clear hpl
      go_wp2
      have hga : ∀ n o, ((wr.drewN n).alloc o).cell? ⟨g, 0, none⟩ = some (.slice AK kt.length cK) := fun n o => (blk_cell (blk_alloc (blk_drewN BG.out n) o) 0).trans rfl
      go_region_law (first
        | (refine Kd.R_append_step (Kd.int .u32) (w0 := wr) w2.heap.size (by simp [Region.wanted]) (.tmp 24) (.tmp 27) 63 57 (.int .u32 0) 4 (by rfl) Try.underlying63 info57 rfl (by decide) (by omega) (.slice AK kt.length cK) kt fk [.int .u32 fk] (fun _ => True) (fun _ => False) (by rfl) (by rfl) rfl (fun _ hk => hk.elim) (fun _ _ => trivial) (Kd.R_drewN HO.out _) (pw_below_drewN (Below.refl _ _) _) HK.out.1 (by have := HTL.out; omega) ?_; intro v1 w1 ho hb hg2 hat; rw [HKM.out] at ho; obtain ⟨A1, c1, eo⟩ := Kd.R_slice ho; subst eo; have n0_ := ak (blk_grown (blk_drewN BG.out _) hg2 (fun e => absurd (Kd.R_base HO.out g e.symm) (Nat.not_le_of_gt GL.out))); have n1_ := ak (Kept.of_grown hg2 (Kept.drewN HK.out _) (fun k hk => .inr (Kd.R_base HO.out k hk))); have n2_ := ak ho; have n3_ := ak (HB.out.trans (hb.mono WL.out)); clear BG HK HO HB ho hb hg2 hat hgf hg0 hga; have BG := n0_; have HK := n1_; have HO := n2_; have HB := n3_; clear n0_ n1_ n2_ n3_; have hgf := blk_frozen BG.out 0; have hg0 : w1.cell? ⟨g, 0, none⟩ = some (.slice AK kt.length cK) := (blk_cell BG.out 0).trans rfl)
        | (go_simp; go_at_call 53; refine (impl_fraction.calls 40 p true fk _ HFT.out).mono ?_; rintro e w' ⟨rfl, ⟨nd, rfl⟩⟩))
      all_goals
        have BG2 : Aside0 ((w1.setCell ⟨g, 0, none⟩ (.slice A1 km.length c1)).heap[g]? = some (.cells (sg8 (.slice A1 km.length c1) (HS (min i 8))) 65 (0, 0))) := ⟨blk_put BG.out 0 _ (sg8_put0 _ _ _)⟩
        have HK2 := ak (Kept.setCell HK.out (p := ⟨g, 0, none⟩) (.inl rfl) (.slice A1 km.length c1))
        have HO2 := ak (Kd.R_mono (ok' := fun _ => True) (Kd.R_far (Kd.R_reok (ok := fun b => b ≠ g) rfl HO.out (fun b hb2 => Nat.ne_of_gt (Nat.lt_of_lt_of_le GL.out (Kd.R_base HO.out b hb2)))) (p := ⟨g, 0, none⟩) (fun _ hk => hk) (.slice A1 km.length c1)) (fun _ _ => trivial))
        have HB2 := ak (below_set (j := 0) (v := .slice A1 km.length c1) HB.out GG.out)
        clear hgf hg0 BG HK HO HB
        change Exit.then _ _ Exit.normal _ (w1.setCell ⟨g, 0, none⟩ (.slice A1 km.length c1))
        generalize w1.setCell ⟨g, 0, none⟩ (.slice A1 km.length c1) = w3 at BG2 HK2 HO2 HB2 ⊢
        by_cases h8 : i < 8
        · have h8z : (i : Int) < 8 := by omega
          rw [Nat.min_eq_left (Nat.le_of_lt h8)] at BG2
          have hc1 := (blk_cell BG2.out (1 + i)).trans (sg8_at _ (HS i) i (by rw [HS_len i (by omega)]; exact h8))
          have hcf := blk_frozen BG2.out (1 + i)
          obtain ⟨xo, hxo⟩ : ∃ x, rd (HS i) (i : Int) = x := ⟨_, rfl⟩
          rw [hxo] at hc1
          have hff := HFF.out h8
          have HST := ak (HS_set i h8)
          obtain ⟨fh, hfh⟩ : ∃ x, rd (l8 first8) (i : Int) = x := ⟨_, rfl⟩
          rw [hfh] at hff HST
          have HFH := ak hff
          clear hxo hff hfh
          go_wp2
          go_region_law ((go_simp; go_at_call 53; refine (impl_fraction.calls 40 p false fh _ HFH.out).mono ?_; rintro e w' ⟨rfl, ⟨nd, rfl⟩⟩))
          go_wp2
          go_roundg (65 - (i + 1))
          case measure => omega
          case rel =>
            exact ⟨i + 1, _, by omega, by omega, by go_num, ak (by rw [Nat.min_eq_left (by omega)]; exact blk_put (blk_drewN BG2.out _) (1 + i) _ (by rw [sg8_set, HST.out])), ⟨by rw [← HTK.out]; exact (Kd.R_mono (Kd.R_far (Kd.R_reok (ok := fun b => b ≠ g) rfl (Kd.R_drewN HO2.out _) (fun b hb2 => Nat.ne_of_gt (Nat.lt_of_lt_of_le GL.out (Kd.R_base HO2.out b hb2)))) (p := ⟨g, 1 + i, none⟩) (fun _ hk => hk) _) (fun _ _ => trivial))⟩, ak (Kept.setCell (Kept.drewN HK2.out _) (p := ⟨g, 1 + i, none⟩) (.inl rfl) _), ak (below_set (pw_below_drewN HB2.out _) GG.out)⟩
        · have h8z : ¬ (i : Int) < 8 := by omega
          go_wp2
          go_roundg (65 - (i + 1))
          case measure => omega
          case rel =>
            exact ⟨i + 1, _, by omega, by omega, by go_num, ⟨by rw [show min (i + 1) 8 = min i 8 by omega]; exact BG2.out⟩, ⟨by rw [← HTK.out]; exact HO2.out⟩, HK2, HB2⟩
    · have hpl := HPL.out
      have hlz : ¬ (i : Int) < (P.length : Int) := by omega
      obtain rfl : i = 64 := by omega
      clear hi hg hlt hpl HPC
      rw [show min 64 8 = 8 from rfl, HS_ge 8 (Nat.le_refl _)] at BG
      rw [show K64.take 64 = K64 from rfl] at BG HO
      have HKC := ak (Kd.C_kept_own (Kd.R_reok (ok := fun b => b ≠ g) rfl HO.out (fun b hb2 => Nat.ne_of_gt (Nat.lt_of_lt_of_le GL.out (Kd.R_base HO.out b hb2)))) (S := fun k => k = g) (fun k hk => hk))
      have HCL := ak (Kd.R_reads' HO.out).2.1
      have GL2 := ak (blk_lt BG.out)
      clear HO HK GL HPE HPL
      obtain ⟨w4, hw4⟩ : ∃ w4, w4 = wr := ⟨_, rfl⟩
      subst hw4
      go_wp2_with (fail)
      refine (bytes_Clone.calls A c l l _ (Kd.C_below HR0.out HB.out) HC0.out (by unfold bytes_Clone.f; rw [if_pos (by have := HL.out; omega)])).mono ?_
      rintro e w5 ⟨v42, rfl, ho, hb⟩
      have HW := ak hb
      have HO := ak ho
      clear ho hb
      go_wp2_with ((with_reducible refine gate_builtin (b := .append) (xs := #[.tmp 42, .tmp 43]) rfl ?_);at_builtin;refine Kd.R_append (Kd.int .u8) (w0 := w4) w4.heap.size rfl (.tmp 42) (.tmp 43) 26 5 (.int .u8 0) 1 rfl Try.underlying26 info5 rfl (by decide) (by omega) v42 l 128 [.int .u8 128] (fun _ => True) (fun _ => False) rfl rfl ?aP (fun _ hk => hk.elim) ?aF ?aO ?aB ?aS ?aL ?_;(case aP => exact rfl);(case aB => exact HW.out);(case aF => exact (fun _ _ => trivial));(case aO => exact HO.out);(case aS => exact HW.out.size);(case aL => have := HL.out; omega);intro v116 w6 ho hb hg hat;replace HW := ak hb;replace HO := ak ho;clear ho hb hg hat)
      obtain ⟨P, HPP⟩ : ∃ P, Aside0 (P = padTo (l ++ [128])) := ⟨_, ⟨rfl⟩⟩
      have HPL : Aside0 (P.length ≤ 5100) := ⟨by have := HL.out; rw [HPP.out, padTo_len, List.length_append, List.length_singleton]; omega⟩
      go_loopg [6] 65 (fun kq v6 w' => ∃ a : List Int, (120 - a.length % 64) % 64 < kq ∧ Aside0 (P = padTo a) ∧ Aside0 (Kd.R (Kd.int .u8) 5 w' w4.heap.size (fun _ => True) v6 a) ∧ Aside0 (Below w4.heap.size w4 w'))
      case atStart => exact ⟨l ++ [128], by omega, HPP, HO, HW⟩
      case round =>
        clear HO HW
        obtain ⟨a, hg, HPA, HO, HW⟩ := hrel
        obtain ⟨A1, c1, eo⟩ := Kd.R_slice HO.out
        subst eo
        have HAL : Aside0 (a.length ≤ 5100) := ⟨by have h1 := HPL.out; have h2 := congrArg List.length HPA.out; rw [padTo_len] at h2; omega⟩
        by_cases c2 : a.length % 64 = 56
        · have e2 : (a.length : Int) % 64 = 56 := by omega
          have hP : P = a := by rw [HPA.out]; exact padTo_end a c2
          subst hP
          have hl := HL.out
          clear HPA c2 hg HAL
          go_wp2_with (fail)
          go_at_call 56
          refine (impl_four.calls 0 (bytes4 0) _ (four_eq 0 (by omega) (by omega))).mono ?_
          rintro e w7 ⟨v53, rfl, ho, hb⟩
          replace HO := ak (Kd.R_below HO.out hb)
          have HO0 := ak ho
          replace HW := b2s HW.out hb
          clear ho hb
          go_wp2_with (fail)
          refine (impl_four.calls (8 * (l.length : Int)) (bytes4 (8 * (l.length : Int))) _ (four_eq _ (by omega) (by omega))).mono ?_
          rintro e w8 ⟨v57, rfl, ho, hb⟩
          replace HO := ak (Kd.R_below HO.out hb)
          replace HO0 := ak (Kd.R_below HO0.out hb)
          have HO8 := ak ho
          replace HW := b2s HW.out hb
          clear ho hb
          obtain ⟨b0, HB0⟩ : ∃ b, Aside0 (bytes4 0 = b) := ⟨_, ⟨rfl⟩⟩
          obtain ⟨b8, HB8⟩ : ∃ b, Aside0 (bytes4 (8 * (l.length : Int)) = b) := ⟨_, ⟨rfl⟩⟩
          rw [HB0.out] at HO0
          rw [HB8.out] at HO8
          obtain ⟨A53, c53, eo⟩ := Kd.R_slice HO0.out
          subst eo
          obtain ⟨A57, c57, eo⟩ := Kd.R_slice HO8.out
          subst eo
          have HCF := ak (show slices_Concat_byte_byte.f [P, b0, b8] = some (P ++ (b0 ++ b8)) by
            unfold slices_Concat_byte_byte.f
            rw [if_pos (by have := HPL.out; rw [← HB0.out, ← HB8.out]; simp [slices_Concat_byte_byte.total, bytes4]; omega)]
            simp)
          clear hl e2
          go_wp2_with (fail)
          refine (slices_Concat_byte_byte.calls _ _ [P, b0, b8] (P ++ (b0 ++ b8)) _ (C_lit3 _ _ 26 _ _ _ _ _ _ _ _ _ (heap_alloc_new w8 _) (Kd.R_reads' HO.out).2.1 (Kd.R_reads' HO0.out).2.1 (Kd.R_reads' HO8.out).2.1 (Kd.C_alloc (Kd.R_reads' HO.out).2.2 _) (Kd.C_alloc (Kd.R_reads' HO0.out).2.2 _) (Kd.C_alloc (Kd.R_reads' HO8.out).2.2 _)) (by simp) HCF.out).mono ?_
          rintro e w9 ⟨v59, rfl, ho, hb⟩
          replace HW := ak (below_alloc HW.out (.cells #[.slice A1 P.length c1, .slice A53 b0.length c53, .slice A57 b8.length c57] 26))
          have HF := ak (Kd.R_lower ho HW.out.size)
          replace HW := b2s HW.out hb
          clear ho hb HO HO0 HO8 HCF
          obtain ⟨FL, HFL⟩ : ∃ b, Aside0 (b = P ++ (b0 ++ b8)) := ⟨_, ⟨rfl⟩⟩
          rw [← HFL.out] at HF
          have HFE := ak (show FL = fullL l by rw [HFL.out, ← HB0.out, ← HB8.out, ← lenB_eq l.length HL.out, HPP.out]; rfl)
          have HFB := ak (show Byt FL by rw [HFE.out]; exact fullL_byt l HBY.out)
          have HFN := ak (show FL.length ≤ 5200 by have := HPL.out; rw [HFL.out, ← HB0.out, ← HB8.out]; simp [bytes4]; omega)
          have HFM := ak (show FL.length % 64 = 0 by have := padTo_mod (l ++ [128]); rw [← HPP.out] at this; rw [HFL.out, ← HB0.out, ← HB8.out]; simp [bytes4]; omega)
          obtain ⟨AF, cF, eo⟩ := Kd.R_slice HF.out
          subst eo
          have HRP := ak (Kd.C_kept_own (Kd.R_reok (ok := fun b => b ≠ g) rfl HF.out (fun b hb2 => Nat.ne_of_gt (Nat.lt_of_lt_of_le GL2.out (Kd.R_base HF.out b hb2)))) (S := fun k => k = g) (fun k hk => hk))
          have HRM := ak (Kd.R_reads' HF.out).2.1
          replace HKC := ak (Kd.C_kept_step HKC.out (Kept.of_below HW.out (fun k => k = g)))
          replace BG : Aside0 (w9.heap[g]? = some (.cells (sg8 (.slice AK K64.length cK) (l8 (foldB FL 0))) 65 (0, 0))) := ⟨blk_below BG.out HW.out⟩
          replace HB := b2s HB.out HW.out
          have HK := ak (Kept.refl w9 (fun k => k = g))
          clear HF HW HPP HPL HFL HB0 HB8
          go_wp2_with (fail)
          go_loopg [7] 100 (fun kq v7 W => ∃ k : Nat, 64 * k ≤ FL.length ∧ 100 - k ≤ kq ∧ v7 = .int .i64 (64 * (k : Int)) ∧ Aside0 (W.heap[g]? = some (.cells (sg8 (.slice AK K64.length cK) (l8 (foldB FL k))) 65 (0, 0))) ∧ Aside0 (Kept w9 W (fun k => k = g)) ∧ Aside0 (Below w.heap.size w W))
          case atStart => exact ⟨0, by omega, by omega, rfl, BG, HK, HB⟩
          case round =>
            clear BG HK HB
            obtain ⟨k, hk, hg5, rfl, BG, HK, HB⟩ := hrel
            have HL2 := HFN.out
            have HM2 := HFM.out
            by_cases c5 : 64 * k < FL.length
            · have e5 : 64 * (k : Int) < (FL.length : Int) := by omega
              obtain ⟨i010, hi010, _, hsz10, _⟩ := info_parts info5
              have hcut := cut_mid (P := Try.prog) 26 5 .i64 .i64 Try.underlying26 hi010 1 hsz10 AF FL.length cF (64 * (k : Int)) (64 * (k : Int) + 64) (by omega) (by omega) (by omega) HRM.out
              have hr10 := Kd.C_mid (lo := (64 * (k : Int)).toNat) (hi := (64 * (k : Int) + 64).toNat) (c := cF) (HRP.out _ HK.out) (by omega) (by omega) HRM.out
              have hy : (chunk FL k).length = 64 := by unfold chunk; rw [List.length_drop, List.length_take]; omega
              rw [show (64 * (k : Int)).toNat = 64 * k from by omega, show (64 * (k : Int) + 64).toNat = 64 * k + 64 from by omega] at hr10 hcut
              obtain ⟨A10, hA10⟩ : ∃ A1, A1 = (if cF = 64 * k then AF else Option.map (fun x => x.add (64 * k * 1)) AF) := ⟨_, rfl⟩
              obtain ⟨c10, hc10⟩ : ∃ c1, c1 = cF - 64 * k := ⟨_, rfl⟩
              replace hr10 : Kd.C (Kd.int .u8) wr A10 (chunk FL k).length (chunk FL k) := by rw [hA10]; exact hr10
              rw [← hA10, ← hc10, show 64 * k + 64 - 64 * k = (chunk FL k).length by rw [hy]; omega] at hcut
              have hyc : (chunk FL k).length ≤ c10 := by have := HRM.out; rw [hy, hc10]; omega
              have hyb := chunk_byt FL k HFB.out
              obtain ⟨y, HYE⟩ : ∃ y, Aside0 (y = chunk FL k) := ⟨_, ⟨rfl⟩⟩
              rw [← HYE.out] at hr10 hcut hy hyc hyb
              obtain ⟨⟨v0, v1, v2, v3, v4, v5, v6, v7⟩, hS⟩ : ∃ S, S = foldB FL k := ⟨_, rfl⟩
              rw [← hS] at BG
              have HS := ak hS
              have HCALL := ak (impl_sum_block.calls g v0 v1 v2 v3 v4 v5 v6 v7 K64 AK cK A10 c10 y wr hy hyc rfl BG.out (HKC.out _ HK.out) hr10 (get_word y hyb hy))
              have HC5 := ak c5
              clear hr10 hy hA10 hc10 hS hi010 hsz10 HM2 c5 hyc hyb BG
              go_wp2_with (fail)
              go_at_call 57
              (with_reducible refine HCALL.out.mono ?_)
              rintro e w2 ⟨rfl, hgc, hkp, hbl⟩
              have BG := ak hgc
              replace HK := ak (Kept.then_ HK.out hkp (fun k hk => .inl hk))
              replace HB := ak (HB.out.trans (hbl.mono GG.out))
              clear hgc hkp hbl HCALL hcut
              go_wp2
              go_roundg (100 - (k + 1))
              case measure => have := HC5.out; have := HFN.out; omega
              case rel => exact ⟨k + 1, by have := HFM.out; have := HC5.out; omega, by have := HC5.out; have := HFN.out; omega, by go_num, ⟨by rw [foldB, ← HS.out, ← HYE.out]; exact BG.out⟩, HK, HB⟩
            · have e5 : ¬ 64 * (k : Int) < (FL.length : Int) := by omega
              obtain ⟨⟨v0, v1, v2, v3, v4, v5, v6, v7⟩, hS⟩ : ∃ S, S = foldB FL (FL.length / 64) := ⟨_, rfl⟩
              rw [show k = FL.length / 64 by omega, ← hS] at BG
              have HW8 := ak (foldB_w8 FL (FL.length / 64))
              rw [← hS] at HW8
              have HS := ak hS
              have h0 : wr.cell? ⟨g, 1, none⟩ = some (.int .u32 v0) := (blk_cell BG.out 1).trans rfl
              have h1 : wr.cell? ⟨g, 2, none⟩ = some (.int .u32 v1) := (blk_cell BG.out 2).trans rfl
              have h2 : wr.cell? ⟨g, 3, none⟩ = some (.int .u32 v2) := (blk_cell BG.out 3).trans rfl
              have h3 : wr.cell? ⟨g, 4, none⟩ = some (.int .u32 v3) := (blk_cell BG.out 4).trans rfl
              have h4 : wr.cell? ⟨g, 5, none⟩ = some (.int .u32 v4) := (blk_cell BG.out 5).trans rfl
              have h5 : wr.cell? ⟨g, 6, none⟩ = some (.int .u32 v5) := (blk_cell BG.out 6).trans rfl
              have h6 : wr.cell? ⟨g, 7, none⟩ = some (.int .u32 v6) := (blk_cell BG.out 7).trans rfl
              have h7 : wr.cell? ⟨g, 8, none⟩ = some (.int .u32 v7) := (blk_cell BG.out 8).trans rfl
              clear HL2 HM2 c5 hg5 hS hk
              go_wp2_with ((with_reducible refine gate_dst (N := 73) rfl ?_);refine Kd.R_lit (Kd.int .u8) _ 5 ?hg (N := 73) ?hd (xs := ([] : List Int)) (inner := []) (ok := fun _ => True) (okp := fun _ => True) ?hr ?hp (fun _ hk => hk) trivial (Below.refl _ _) (Nat.le_refl _) (by simp) ?_;(case hd => rfl);(case hg => rfl);(case hr => first | (go_simp; done) | (go_simp; rfl));(case hp => exact (Reps.none _ _));intro v111 w3 ho4 hb hg_ hnew_;clear hg_ hnew_;have HO := ak (Kd.R_lower ho4 (below_size HB.out));replace BG := ak (blk_below BG.out hb);replace HB := ak (below_step HB.out hb);clear hb ho4 h0 h1 h2 h3 h4 h5 h6 h7;have h0 : w3.cell? ⟨g, 1, none⟩ = some (.int .u32 v0) := (blk_cell BG.out 1).trans rfl;have h1 : w3.cell? ⟨g, 2, none⟩ = some (.int .u32 v1) := (blk_cell BG.out 2).trans rfl;have h2 : w3.cell? ⟨g, 3, none⟩ = some (.int .u32 v2) := (blk_cell BG.out 3).trans rfl;have h3 : w3.cell? ⟨g, 4, none⟩ = some (.int .u32 v3) := (blk_cell BG.out 4).trans rfl;have h4 : w3.cell? ⟨g, 5, none⟩ = some (.int .u32 v4) := (blk_cell BG.out 5).trans rfl;have h5 : w3.cell? ⟨g, 6, none⟩ = some (.int .u32 v5) := (blk_cell BG.out 6).trans rfl;have h6 : w3.cell? ⟨g, 7, none⟩ = some (.int .u32 v6) := (blk_cell BG.out 7).trans rfl;have h7 : w3.cell? ⟨g, 8, none⟩ = some (.int .u32 v7) := (blk_cell BG.out 8).trans rfl;skip)
              clear h0 h1 h2 h3 h4 h5 h6 h7 e5
              generalize hG : (#[Value.int .u32 v0, .int .u32 v1, .int .u32 v2, .int .u32 v3, .int .u32 v4, .int .u32 v5, .int .u32 v6, .int .u32 v7] : Array Value) = G
              have HG : Aside0 (arr32 (l8 (v0, v1, v2, v3, v4, v5, v6, v7)) = G) := ⟨hG⟩
              clear hG
              obtain ⟨S8, HS8⟩ : ∃ S : V8, Aside0 ((v0, v1, v2, v3, v4, v5, v6, v7) = S) := ⟨_, ⟨rfl⟩⟩
              rw [HS8.out] at HG HW8 HS
              clear BG HK HS8
              go_loopg [8, 10, 78] 9 (fun kq v8 v10 v78 W => ∃ m : Nat, m ≤ 8 ∧ 9 - m ≤ kq ∧ v78 = .int .i64 (m : Int) ∧ Aside0 (Kd.R (Kd.int .u8) 5 W w.heap.size (fun _ => True) v8 (outB (l8 S8) m)) ∧ Aside0 (Below w.heap.size w W))
              case atStart => exact ⟨0, by omega, by omega, rfl, HO, HB⟩
              case round =>
                clear HO HB
                obtain ⟨m, hm, hg6, rfl, HO, HB⟩ := hrel
                by_cases c6 : m < 8
                · have e6 : (m : Int) < 8 := by omega
                  obtain ⟨x, HX⟩ : ∃ x, Aside0 (rd (l8 S8) (m : Int) = x) := ⟨_, ⟨rfl⟩⟩
                  have hx : G[m]? = some (.int .u32 x) := by rw [← HG.out, ← HX.out]; exact arr32_at (l8 S8) m c6
                  have hix := agg_index G m x c6 hx
                  obtain ⟨hx0, hx1⟩ := HW8.out.rd m c6
                  rw [HX.out] at hx0 hx1
                  have HFX := ak (four_eq x hx0 hx1)
                  have HFL4 := ak (show (bytes4 x).length = 4 from rfl)
                  obtain ⟨bx, HBX⟩ : ∃ b, Aside0 (bytes4 x = b) := ⟨_, ⟨rfl⟩⟩
                  rw [HBX.out] at HFX HFL4
                  have HOL := ak (show (outB (l8 S8) m).length ≤ 32 by rw [outB_len]; omega)
                  obtain ⟨ob, HOB⟩ : ∃ b, Aside0 (outB (l8 S8) m = b) := ⟨_, ⟨rfl⟩⟩
                  rw [HOB.out] at HO HOL
                  go_wp2_with (fail)
                  go_at_call 56
                  refine (impl_four.calls x bx _ HFX.out).mono ?_
                  rintro e w7 ⟨v84, rfl, ho, hb⟩
                  replace HO := ak (Kd.R_below HO.out hb)
                  replace HB := b2s HB.out hb
                  have HO8 := ak ho
                  clear ho hb
                  obtain ⟨A84, c84, eo⟩ := Kd.R_slice HO8.out
                  subst eo
                  go_wp2_with ((with_reducible refine gate_builtin (b := .append) (xs := #[.tmp 81, .tmp 84]) rfl ?_);at_builtin;refine Kd.R_append_rows (Kd.int .u8) (w0 := w) w.heap.size rfl (.tmp 81) (.tmp 84) 26 5 (.int .u8 0) 1 rfl Try.underlying26 info5 rfl (by decide) (by omega) u8 ob bx _ _ _ (fun _ => True) (fun _ => False) rfl rfl ?aO ?aR (fun _ _ h => h) (fun _ h => h.elim) ?aF ?aB ?aS ?aL ?_;(case aR => exact (Kd.R_reads' HO8.out).2.2);(case aB => exact HB.out);(case aF => exact (fun _ _ => trivial));(case aO => exact HO.out);(case aS => exact HB.out.size);(case aL => have := HOL.out; have := HFL4.out; omega);intro v114 w5 ho hb hg hat;replace HB := ak (hb);replace HO := ak (ho);clear ho hb hg hat)
                  go_roundg (9 - (m + 1))
                  case measure => omega
                  case rel => exact ⟨m + 1, by omega, by omega, by go_num, ⟨by rw [outB_succ, HX.out, HBX.out, HOB.out]; exact HO.out⟩, HB⟩
                · have e6 : ¬ (m : Int) < 8 := by omega
                  obtain rfl : m = 8 := by omega
                  clear hm hg6 c6
                  go_wp2
                  go_ret
                  exact ⟨_, rfl, by unfold sumL; rw [← HFE.out, ← HS.out]; exact HO.out, HB.out⟩
        · have e2 : ¬ (a.length : Int) % 64 = 56 := by omega
          have E2 := ak c2
          have HG2 := ak hg
          clear c2 hg
          go_wp2_with ((with_reducible refine gate_builtin (b := .append) (xs := #[.tmp 49, .tmp 50]) rfl ?_);at_builtin;refine Kd.R_append (Kd.int .u8) (w0 := w4) w4.heap.size rfl (.tmp 49) (.tmp 50) 26 5 (.int .u8 0) 1 rfl Try.underlying26 info5 rfl (by decide) (by omega) (.slice A1 a.length c1) a 0 [.int .u8 0] (fun _ => True) (fun _ => False) rfl rfl ?aP (fun _ hk => hk.elim) ?aF ?aO ?aB ?aS ?aL ?_;(case aP => exact rfl);(case aB => exact HW.out);(case aF => exact (fun _ _ => trivial));(case aO => exact HO.out);(case aS => exact HW.out.size);(case aL => have := HAL.out; omega);intro v116 w6 ho hb hg hat;replace HW := ak hb;replace HO := ak ho;clear ho hb hg hat)
          go_roundg ((120 - (a.length + 1) % 64) % 64 + 1)
          case measure => have := HG2.out; have := E2.out; omega
          case rel => exact ⟨a ++ [0], by rw [List.length_append, List.length_singleton]; omega, ⟨by rw [padTo_snoc a E2.out]; exact HPA.out⟩, HO, HW⟩
instance (l : List Int) : Decidable (Byt l) := inferInstanceAs (Decidable (∀ x ∈ l, 0 ≤ x ∧ x ≤ 255))
def impl_sha256.f (l0 : List Int) : Option (List Int) := if l0.length ≤ 5000 ∧ Byt l0 then some (sumL l0) else none
theorem impl_sha256.calls (A0 : Option Addr) (c0 : Nat) (l0 : List Int) (r : List Int) (w : World) (hr0 : Kd.C (Kd.int .u8) w A0 l0.length l0) (hc0 : l0.length ≤ c0) (h : impl_sha256.f l0 = some r) :
    Calls Try.prog 33 #[.slice A0 l0.length c0] w fun e w' => ∃ v0_ : Value, e = .returned (v0_) ∧ Kd.R (Kd.int .u8) 5 w' w.heap.size (fun _ => True) v0_ r ∧ Below w.heap.size w w' := by
  unfold impl_sha256.f at h
  split at h
  · rename_i hb
    obtain rfl := Option.some.inj h
    exact impl_sha256.calls0 A0 c0 l0 w hb.1 hb.2 hr0 hc0
  · exact absurd h (by simp)

/-! ### impl_dhcid: function 37 -/
def impl_dhcid.f (k : Nat) (l0 : List Int) (l1_0 : List (List Int)) : Option (List Int) := (some (([0, 1, 1] : List Int) : List Int)).bind fun y102 => ((impl_Name_wire.f k l1_0).bind fun t105 => ((slices_Concat_byte_byte.f (([l0, t105] : List (List Int)))).bind fun t111 => ((impl_sha256.f t111).bind fun t114 => (if y102.length + t114.length < 140737488355328 then (some (y102 ++ t114)) else (none)))))
set_option maxHeartbeats 8000000 in
set_option maxRecDepth 100000 in
theorem impl_dhcid.calls (k : Nat) (P0_ : Nat → Prop) (A0 : Option Addr) (c0 : Nat) (l0 : List Int) (A1_0 : Option Addr) (c1_0 : Nat) (l1_0 : List (List Int)) (r : List Int) (w : World) (hs0 : Kd.V (Kd.int .u8) 5 w w.heap.size (fun k_ => P0_ k_) (.slice A0 l0.length c0) l0) (hr1_0 : Kd.C (Kd.slice 5 (Kd.int .u8)) w A1_0 l1_0.length l1_0) (hc1_0 : l1_0.length ≤ c1_0) (h : impl_dhcid.f k l0 l1_0 = some r) :
  Calls Try.prog 37 #[.slice A0 l0.length c0, .agg #[.slice A1_0 l1_0.length c1_0]] w fun e w' => ∃ v0_ : Value, e = .returned (v0_) ∧ Kd.R (Kd.int .u8) 5 w' w.heap.size (fun k_ => (w.heap.size ≤ k_)) v0_ r ∧ Below w.heap.size w w' := by
 have hu28 := Try.underlying28
 have HO0 := ak (show Kd.V (Kd.int .u8) 5 w w.heap.size (fun k_ => (P0_ k_ ∨ w.heap.size ≤ k_)) (.slice A0 l0.length c0) l0 from Kd.V_mono hs0 (fun k_ hk => .inl hk))
 have HR1_0 := ak hr1_0
 have HC1_0 := ak hc1_0
 clear hr1_0 hc1_0
 have HB := ak (Below.refl w.heap.size w)
 have H : ((some (([0, 1, 1] : List Int) : List Int)).bind fun y102 => ((impl_Name_wire.f k l1_0).bind fun t105 => ((slices_Concat_byte_byte.f (([l0, t105] : List (List Int)))).bind fun t111 => ((impl_sha256.f t111).bind fun t114 => (if y102.length + t114.length < 140737488355328 then (some (y102 ++ t114)) else (none)))))) = some r := h
 clear h
 obtain ⟨y102, hy102⟩ : ∃ y_ : List Int, y_ = (([0, 1, 1] : List Int)) := ⟨_, rfl⟩
 (try with_reducible replace H := bnS H)
 (try rw [← hy102] at H)
 have Ny102 := ak hy102
 clear hy102
 replace H := bnd H
 obtain ⟨t105, A3, H⟩ := H
 obtain ⟨y108, hy108⟩ : ∃ y_ : List (List Int), y_ = (([l0, t105] : List (List Int))) := ⟨_, rfl⟩
 (try with_reducible replace H := bnS H)
 (try rw [← hy108] at H)
 have Ny108 := ak hy108
 clear hy108
 replace H := bnd H
 obtain ⟨t111, A4, H⟩ := H
 replace H := bnd H
 obtain ⟨t114, A5, H⟩ := H
 by_cases c6 : y102.length + t114.length < 140737488355328
 ·rw [if_pos c6] at H
  have LMc6 := ak c6
  clear c6
  obtain ⟨y117, hy117⟩ : ∃ y_ : List Int, y_ = (y102 ++ t114) := ⟨_, rfl⟩
  (try with_reducible replace H := bnS H)
  (try rw [← hy117] at H)
  have Ny117 := ak hy117
  clear hy117
  obtain rfl := Option.some.inj H
  go_enter Try.func37, Try.ntmps37
  go_wp2_with (first | ((with_reducible refine gate_dst (N := 3) rfl ?_);refine bxe (N := 3) rfl ?_;intro gb101 hg w7 hbox hb;replace HO0 := ak (Kd.V_below (Kd.V_elderB (vw HO0.out) gb101 (Nat.le_of_eq hg.symm)) hb);have BK101 := ak (hbox);have GW101 := b3 hg HB;have GE101 := GW101;replace HB := b2 HB hb;clear hb hbox hg) | ((with_reducible refine gate_dst (N := 5) rfl ?_);refine Kd.R_lit (Kd.int .u8) _ 5 ?hg (N := 5) ?hd (xs := ([0, 1, 1] : List Int)) (inner := [.int .u8 0, .int .u8 1, .int .u8 1]) (ok := fun _ => True) (okp := fun _ => True) ?hr ?hp (fun _ hk => hk) trivial (Below.refl _ _) (Nat.le_refl _) (by simp) ?_;(case hd => rfl);(case hg => rfl);(case hr => first | (go_simp; done) | (go_simp; rfl));(case hp => exact (Reps.one (show Kd.M (Kd.int .u8) _ _ _ 0 [.int .u8 0] from rfl) (Reps.one (show Kd.M (Kd.int .u8) _ _ _ 1 [.int .u8 1] from rfl) (Reps.one (show Kd.M (Kd.int .u8) _ _ _ 1 [.int .u8 1] from rfl) (Reps.none _ _)))));intro v103 w8 ho9 hb hg_ hnew_;clear hg_ hnew_;(first | rw [← Ny102.out] at ho9 | (simp only [Int.reduceToNat] at ho9; rw [← Ny102.out] at ho9));replace HO0 := ak (Kd.V_elder' (vw HO0.out) (Kd.R_base ho9) hb);have HO104 := ak (Kd.R_lower (Kd.R_newM (M := fun k_ => (w.heap.size ≤ k_)) ho9 (below_size bs) (fun k_ h_ => h_)) (below_size bs));replace BK101 := b1 BK101 hb;replace HB := b2s bs hb;clear hb ho9;obtain ⟨hcz10_0, hfz10_0⟩ := cells1 BK101.out) | ((with_reducible refine gate_callee (f := 59) rfl ?_);refine glG 8 rfl rfl Try.func59 (impl_Name_wire.calls k _ _ l1_0 t105 _ (cv HR1_0 HB) HC1_0.out A3.out) ?_;rintro e w11 ⟨v106, rfl, ho0, hb⟩;refine ⟨_, rfl, ?_⟩;replace HO0 := ak (Kd.V_elder' (vw HO0.out) (Kd.R_base ho0) hb);have HO107 := ak (Kd.R_lower (Kd.R_new' (Kd.R_newM (M := fun k_ => (w.heap.size ≤ k_)) ho0 (below_size bs) (fun k_ h_ => h_)) (Kd.R_lt (rw_ HO104.out))) (below_size bs));replace HO104 := ak (Kd.R_elder' (rw_ HO104.out) (Kd.R_base ho0) hb);replace BK101 := b1 BK101 hb;replace HB := b2s bs hb;(try clear hb);(try clear hb2);(try clear hk);(try clear hi);(try clear ho0);obtain ⟨Ao12, co12, eo12⟩ := Kd.R_slice HO107.out;subst eo12) | ((with_reducible refine gate_dst (N := 9) rfl ?_);refine Kd.N_lit (Kd.slice 5 (Kd.int .u8)) _ 26 ?hg (N' := 9) ?hd (xs := ([l0, t105] : List (List Int))) (inner := [.slice A0 l0.length c0, .slice Ao12 t105.length co12]) (ok := (fun k_ => (P0_ k_ ∨ w.heap.size ≤ k_) ∧ some k_ ≠ (v103 : Value).ownBlock ∧ k_ ≠ gb101)) (okp := (fun k_ => (P0_ k_ ∨ w.heap.size ≤ k_) ∧ some k_ ≠ (v103 : Value).ownBlock ∧ k_ ≠ gb101)) ?hr ?hp (fun _ hk => hk) ((show ∀ k_, w11.heap.size ≤ k_ → (fun k_ => (P0_ k_ ∨ w.heap.size ≤ k_) ∧ some k_ ≠ (v103 : Value).ownBlock ∧ k_ ≠ gb101) k_ from fun k_ hk => ⟨(.inr (Nat.le_trans (below_size bs) hk)), Kd.fresh' (Kd.R_lt (rw_ HO104.out)) k_ hk, Kd.freshB (g := gb101) (o := .cells #[.slice A1_0 l1_0.length c1_0] 28 (0, 0)) (bk BK101.out) k_ hk⟩) _ (Nat.le_refl _)) (Below.refl _ _) (Nat.le_refl _) (by simp) ?_;(case hd => rfl);(case hg => rfl);(case hr => first | (go_simp; done) | (go_simp; rfl));(case hp => exact (Reps.one (show Kd.FK (Kd.slice 5 (Kd.int .u8)) _ _ l0 [.slice A0 l0.length c0] from (Kd.FK_slice_mk (Kd.V_reads' (Kd.V_mono (ok' := (fun k_ => (P0_ k_ ∨ w.heap.size ≤ k_) ∧ some k_ ≠ (v103 : Value).ownBlock ∧ k_ ≠ gb101)) (HO0.out) (fun k_ hk => ⟨hk.1.1.1, ⟨hk.1.2, hk.1.1.2⟩⟩))).2.1 (Kd.V_F (Kd.V_mono (ok' := (fun k_ => (P0_ k_ ∨ w.heap.size ≤ k_) ∧ some k_ ≠ (v103 : Value).ownBlock ∧ k_ ≠ gb101)) (HO0.out) (fun k_ hk => ⟨hk.1.1.1, ⟨hk.1.2, hk.1.1.2⟩⟩))))) (Reps.one (show Kd.FK (Kd.slice 5 (Kd.int .u8)) _ _ t105 [.slice Ao12 t105.length co12] from (Kd.FK_slice_mk (Kd.R_reads' (Kd.R_mono (ok' := (fun k_ => (P0_ k_ ∨ w.heap.size ≤ k_) ∧ some k_ ≠ (v103 : Value).ownBlock ∧ k_ ≠ gb101)) (Kd.R_types (HO107.out) BK101.out (by decide)) (fun k_ hk => ⟨(.inr (hk.1.1.1)), ⟨hk.1.2, hk.2⟩⟩))).2.1 (Kd.R_F (Kd.R_mono (ok' := (fun k_ => (P0_ k_ ∨ w.heap.size ≤ k_) ∧ some k_ ≠ (v103 : Value).ownBlock ∧ k_ ≠ gb101)) (Kd.R_types (HO107.out) BK101.out (by decide)) (fun k_ hk => ⟨(.inr (hk.1.1.1)), ⟨hk.1.2, hk.2⟩⟩))))) (Reps.none _ _))));intro v109 w13 ho14 hb hg_ hnew_;clear hg_ hnew_;(first | rw [← Ny108.out] at ho14 | (simp only [Int.reduceToNat] at ho14; rw [← Ny108.out] at ho14));replace HO0 := ak (Kd.V_elder' (vw HO0.out) (Kd.N_base ho14) hb);replace HO104 := ak (Kd.R_below (rw_ HO104.out) hb);have HO110 := ak (Kd.N_lower ho14 (below_size bs));replace BK101 := b1 BK101 hb;replace HB := b2s bs hb;clear HO107;clear hb ho14;obtain ⟨Ao15, co15, eo15⟩ := Kd.N_slice HO110.out;subst eo15) | ((with_reducible refine gate_callee (f := 55) rfl ?_);refine glG 10 rfl rfl Try.func55 (slices_Concat_byte_byte.calls _ _ y108 t111 _ ?side1 ?side2 A4.out) ?_;(case side1 => repeat (first | exact (Kd.N_reads' HO110.out).2.2 | (with_reducible refine Kd.C_alloc ?_ _) | (with_reducible refine Kd.C_drewN ?_ _) | (with_reducible refine Kd.C_drew ?_)));(case side2 => exact (Kd.N_reads' HO110.out).2.1);rintro e w16 ⟨v112, rfl, ho0, hb⟩;refine ⟨_, rfl, ?_⟩;replace HO0 := ak (Kd.V_elder' (vw HO0.out) (Kd.R_base ho0) hb);replace HO110 := ak (Kd.N_elder' (nw HO110.out) (Kd.R_base ho0) hb);have HO113 := ak (Kd.R_lower (Kd.R_new' (Kd.R_newM (M := fun k_ => (w.heap.size ≤ k_)) ho0 (below_size bs) (fun k_ h_ => h_)) (Kd.R_lt (rw_ HO104.out))) (below_size bs));replace HO104 := ak (Kd.R_elder' (rw_ HO104.out) (Kd.R_base ho0) hb);replace BK101 := b1 BK101 hb;replace HB := b2s bs hb;(try clear hb);(try clear hb2);(try clear hk);(try clear hi);(try clear ho0);obtain ⟨Ao17, co17, eo17⟩ := Kd.R_slice HO113.out;subst eo17) | ((with_reducible refine gate_callee (f := 33) rfl ?_);refine glG 11 rfl rfl Try.func33 (impl_sha256.calls _ _ t111 t114 _ ?side1 ?side2 A5.out) ?_;(case side1 => repeat (first | exact (Kd.R_reads' HO113.out).2.2 | (with_reducible refine Kd.C_alloc ?_ _) | (with_reducible refine Kd.C_drewN ?_ _) | (with_reducible refine Kd.C_drew ?_)));(case side2 => exact (Kd.R_reads' HO113.out).2.1);rintro e w18 ⟨v115, rfl, ho0, hb⟩;refine ⟨_, rfl, ?_⟩;replace HO0 := ak (Kd.V_elder' (vw HO0.out) (Kd.R_base ho0) hb);replace HO110 := ak (Kd.N_elder' (nw HO110.out) (Kd.R_base ho0) hb);have HO116 := ak (Kd.R_lower (Kd.R_new' (Kd.R_new' (Kd.R_newM (M := fun k_ => (w.heap.size ≤ k_)) ho0 (below_size bs) (fun k_ h_ => h_)) (Kd.R_lt (rw_ HO104.out))) (Kd.R_lt (rw_ HO113.out))) (below_size bs));replace HO104 := ak (Kd.R_elder' (rw_ HO104.out) (Kd.R_base ho0) hb);replace HO113 := ak (Kd.R_elder' (rw_ HO113.out) (Kd.R_base ho0) hb);replace BK101 := b1 BK101 hb;replace HB := b2s bs hb;(try clear hb);(try clear hb2);(try clear hk);(try clear hi);(try clear ho0);obtain ⟨Ao20, co20, eo20⟩ := Kd.R_slice HO116.out;subst eo20) | ((with_reducible refine gate_builtin (b := .append) (xs := #[.tmp 5, .tmp 11]) rfl ?_);at_builtin;refine Kd.R_append_rows (Kd.int .u8) (w0 := w) w.heap.size rfl (.tmp 5) (.tmp 11) 26 5 (.int .u8 0) 1 rfl Try.underlying26 info5 rfl (by decide) (by omega) v103 y102 t114 _ _ _ (fun k_ => (w.heap.size ≤ k_) ∧ some k_ ≠ (.slice Ao17 t111.length co17 : Value).ownBlock ∧ some k_ ≠ (.slice Ao20 t114.length co20 : Value).ownBlock) (fun _ => False) rfl rfl ?aO ?aR (fun _ _ h => h) (fun _ h => h.elim) ?aF ?aB ?aS ?aL ?_;(case aR => repeat (first | exact (Kd.R_reads' HO116.out).2.2 | (with_reducible refine Kd.C_alloc ?_ _) | (with_reducible refine Kd.C_drewN ?_ _) | (with_reducible refine Kd.C_drew ?_)));(case aB => exact bs);(case aF => exact (fun k_ hk => ⟨(Nat.le_trans (below_size bs) hk), Kd.fresh' (Kd.R_lt (rw_ HO113.out)) k_ hk, Kd.fresh' (Kd.R_lt (rw_ HO116.out)) k_ hk⟩));(case aO => exact (rw_ (Kd.R_mono HO104.out (fun _ hk => ⟨hk.1.1.1.1, ⟨hk.1.2, hk.2⟩⟩))));(case aS => exact (below_size bs));(case aL => have := LMc6.out; omega);intro v118 w19 ho hb hg hat;rw [← Ny117.out] at ho;replace HO0 := ak (Kd.V_afterv (ok := (fun k_ => (P0_ k_ ∨ w.heap.size ≤ k_) ∧ some k_ ≠ (.slice Ao15 y108.length co15 : Value).ownBlock ∧ some k_ ≠ (.slice Ao17 t111.length co17 : Value).ownBlock ∧ some k_ ≠ (.slice Ao20 t114.length co20 : Value).ownBlock ∧ k_ ≠ gb101)) (vw (Kd.V_mono HO0.out (fun _ hk => ⟨⟨hk.1.1.1.1.1.1, ⟨hk.1.1.2, ⟨hk.1.2, ⟨hk.2, hk.1.1.1.1.1.2⟩⟩⟩⟩, hk.1.1.1.1.2⟩))) hg hat);replace BK101 := ak (blk_grown (bk BK101.out) hg (Kd.R_ne HO104.out BK101.out (by decide)));replace HO110 := ak (Kd.N_afterv (ok := (fun k_ => (P0_ k_ ∨ w.heap.size ≤ k_) ∧ some k_ ≠ (.slice Ao17 t111.length co17 : Value).ownBlock ∧ some k_ ≠ (.slice Ao20 t114.length co20 : Value).ownBlock ∧ k_ ≠ gb101)) (nw (Kd.N_mono HO110.out (fun _ hk => ⟨⟨hk.1.1.1, ⟨hk.1.2, ⟨hk.2, hk.1.1.2.2⟩⟩⟩, hk.1.1.2.1⟩))) hg hat);replace HO113 := ak (Kd.R_after (ok := (fun k_ => (w.heap.size ≤ k_) ∧ some k_ ≠ (.slice Ao20 t114.length co20 : Value).ownBlock)) (rw_ (Kd.R_mono HO113.out (fun _ hk => ⟨⟨hk.1.1.1, hk.2⟩, hk.1.2⟩))) hg hat);replace HO116 := ak (Kd.R_after (ok := (fun k_ => (w.heap.size ≤ k_) ∧ some k_ ≠ (.slice Ao17 t111.length co17 : Value).ownBlock)) (rw_ (Kd.R_mono HO116.out (fun _ hk => ⟨⟨hk.1.1.1, hk.2⟩, hk.1.2⟩))) hg hat);replace HB := ak (hb);have HO119 := ak (ho);clear HO104;clear ho hb hg hat))
  go_ret
  exact ⟨_, o1, by (with_reducible repeat (first | apply Kd.R_alloc | apply Kd.R_drewN | apply Kd.R_drew)); exact Kd.R_mono HO119.out (fun _ hk => hk.1), bs⟩
 ·rw [if_neg c6] at H
  exact absurd H (by simp)

/-! ### impl_Dhcid: function 20 -/
def impl_Dhcid.f (k : Nat) (l0 : List Int) (l1_0 : List (List Int)) : Option (List Int × Bool) := (impl_isClient.f l0).bind fun t102 => (if t102 = true then ((impl_NameOk.f l1_0).bind fun t103 => (if t103 = true then ((impl_dhcid.f k l0 l1_0).bind fun t104 => (some (t104, true))) else (some (([] : List Int), false)))) else (some (([] : List Int), false)))
set_option maxHeartbeats 8000000 in
set_option maxRecDepth 100000 in
theorem impl_Dhcid.calls (k : Nat) (A0 : Option Addr) (c0 : Nat) (l0 : List Int) (A1_0 : Option Addr) (c1_0 : Nat) (l1_0 : List (List Int)) (r1 : List Int) (r2 : Bool) (w : World) (hr0 : Kd.C (Kd.int .u8) w A0 l0.length l0) (hc0 : l0.length ≤ c0) (hr1_0 : Kd.C (Kd.slice 5 (Kd.int .u8)) w A1_0 l1_0.length l1_0) (hc1_0 : l1_0.length ≤ c1_0) (h : impl_Dhcid.f k l0 l1_0 = some (r1, r2)) :
  Calls Try.prog 20 #[.slice A0 l0.length c0, .agg #[.slice A1_0 l1_0.length c1_0]] w fun e w' => ∃ v0_ : Value, e = .returned (.tuple #[v0_, .bool r2]) ∧ Kd.R (Kd.int .u8) 5 w' w.heap.size (fun _ => True) v0_ r1 ∧ Below w.heap.size w w' := by
 have hu28 := Try.underlying28
 have HR0 := ak hr0
 have HC0 := ak hc0
 clear hr0 hc0
 have HR1_0 := ak hr1_0
 have HC1_0 := ak hc1_0
 clear hr1_0 hc1_0
 have HB := ak (Below.refl w.heap.size w)
 have H : ((impl_isClient.f l0).bind fun t102 => (if t102 = true then ((impl_NameOk.f l1_0).bind fun t103 => (if t103 = true then ((impl_dhcid.f k l0 l1_0).bind fun t104 => (some (t104, true))) else (some (([] : List Int), false)))) else (some (([] : List Int), false)))) = some (r1, r2) := h
 clear h
 replace H := bnd H
 obtain ⟨t102, A3, H⟩ := H
 replace H := ib H
 obtain ⟨rfl, H⟩ | ⟨rfl, H⟩ := H
 ·replace H := bnd H
  obtain ⟨t103, A5, H⟩ := H
  replace H := ib H
  obtain ⟨rfl, H⟩ | ⟨rfl, H⟩ := H
  ·replace H := bnd H
   obtain ⟨t104, A7, H⟩ := H
   simp only [Option.some.injEq, Prod.mk.injEq] at H
   obtain ⟨rfl, rfl⟩ := H
   go_enter Try.func20, Try.ntmps20
   go_wp2_with (first | ((with_reducible refine gate_dst (N := 3) rfl ?_);refine bxd (N := 3) rfl HB ?_;clear HB;intro gb101 w8 hg HB BK101 GE101 hb;have GW101 := GE101;clear hb hg) | ((with_reducible refine gate_callee (f := 36) rfl ?_);refine glD 7 rfl rfl Try.func36 (impl_isClient.calls _ _ l0 true _ (cv HR0 HB) HC0.out A3.out) (fun nd => ?_);obtain ⟨hcz9_0, hfz9_0⟩ := cells1 BK101.out) | (go_at_call 29;(with_reducible refine (impl_NameOk.calls _ _ l1_0 true _ ?side1 HC1_0.out A5.out).mono ?_);(case side1 => repeat (first | exact (Kd.C_below HR1_0.out bs) | (with_reducible refine Kd.C_alloc ?_ _) | (with_reducible refine Kd.C_drewN ?_ _) | (with_reducible refine Kd.C_drew ?_)));rintro e w10 ⟨rfl, hb⟩;replace BK101 := b1 BK101 hb;replace HB := b2s bs hb;(try clear hb);obtain ⟨hcz11_0, hfz11_0⟩ := cells1 BK101.out) | ((with_reducible refine gate_callee (f := 37) rfl ?_);refine glG 16 rfl rfl Try.func37 (impl_dhcid.calls k (fun k_ => k_ < w.heap.size) _ _ l0 _ _ l1_0 t104 _ ?side1 (cv HR1_0 HB) HC1_0.out A7.out) ?_;(case side1 => exact Kd.V_mk HC0.out (Kd.F_below (Kd.C_F (Kd.heap_int .u8) HR0.out) bs));rintro e w12 ⟨v105, rfl, ho0, hb⟩;refine ⟨_, rfl, ?_⟩;have HO106 := ak (Kd.R_lower (Kd.R_mono (ok' := fun k_ => True) ho0 (fun _ hk_ => trivial)) (below_size bs));replace BK101 := b1 BK101 hb;replace HB := b2s bs hb;(try clear hb);(try clear ho0)))
   go_ret2
   exact ⟨_, o1, rw_ HO106.out, bs⟩
  ·simp only [Option.some.injEq, Prod.mk.injEq] at H
   obtain ⟨rfl, rfl⟩ := H
   go_enter Try.func20, Try.ntmps20
   go_wp2_with (first | ((with_reducible refine gate_dst (N := 3) rfl ?_);refine bxd (N := 3) rfl HB ?_;clear HB;intro gb101 w13 hg HB BK101 GE101 hb;have GW101 := GE101;clear hb hg) | ((with_reducible refine gate_callee (f := 36) rfl ?_);refine glD 7 rfl rfl Try.func36 (impl_isClient.calls _ _ l0 true _ (cv HR0 HB) HC0.out A3.out) (fun nd => ?_);obtain ⟨hcz14_0, hfz14_0⟩ := cells1 BK101.out) | (go_at_call 29;(with_reducible refine (impl_NameOk.calls _ _ l1_0 false _ ?side1 HC1_0.out A5.out).mono ?_);(case side1 => repeat (first | exact (Kd.C_below HR1_0.out bs) | (with_reducible refine Kd.C_alloc ?_ _) | (with_reducible refine Kd.C_drewN ?_ _) | (with_reducible refine Kd.C_drew ?_)));rintro e w15 ⟨rfl, hb⟩;replace BK101 := b1 BK101 hb;replace HB := b2s bs hb;(try clear hb)))
   go_ret2
   exact ⟨_, o1, by first | exact Kd.R_nil _ _ _ _ _ | exact Kd.N_nil _ _ _ _ _ | exact Kd.V_nil _ _ _ _ _ | exact Kd.Q_nil _ _ _ _ _ | exact Kd.S_nil _ _ _ _ _, bs⟩
 ·simp only [Option.some.injEq, Prod.mk.injEq] at H
  obtain ⟨rfl, rfl⟩ := H
  go_enter Try.func20, Try.ntmps20
  go_wp2_with (first | ((with_reducible refine gate_dst (N := 3) rfl ?_);refine bxd (N := 3) rfl HB ?_;clear HB;intro gb101 w16 hg HB BK101 GE101 hb;have GW101 := GE101;clear hb hg) | ((with_reducible refine gate_callee (f := 36) rfl ?_);refine glD 7 rfl rfl Try.func36 (impl_isClient.calls _ _ l0 false _ (cv HR0 HB) HC0.out A3.out) (fun nd => ?_)))
  go_ret2
  exact ⟨_, o1, by first | exact Kd.R_nil _ _ _ _ _ | exact Kd.N_nil _ _ _ _ _ | exact Kd.V_nil _ _ _ _ _ | exact Kd.Q_nil _ _ _ _ _ | exact Kd.S_nil _ _ _ _ _, bs⟩

/-! ### laws_FnExactDhcid: function 5 -/
end Go.Proofs.Ytkmchjdioplfjaa.Q
