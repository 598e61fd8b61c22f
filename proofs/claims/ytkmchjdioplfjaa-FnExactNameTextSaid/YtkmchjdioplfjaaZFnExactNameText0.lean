/- Printed by a program of this session (wip/myprint.py), which drives the kit's printer: functions and what their calls do. -/
import Derived.Test.YtkmchjdioplfjaaProg
import Derived.Below
import Derived.Deep.Draws
import Derived.Deep.AppendLies
import Derived.Maps.AppendAt
import Derived.OwnWalk
import Derived.Laws.BytesArg
import Derived.Laws.MakeOwn
import Derived.Laws.OwnMore
import Derived.Deep.OwnRows
import Derived.Tactics
import Derived.Lib.ConvBytes
import Derived.Laws.Slices
import Derived.WalkKit
import Derived.KernelRfl
import Derived.RowKit3
import Derived.Deep.LoopGhost
import Derived.Deep.QuietTactic
import Derived.BigQuiet
import Derived.WideLaws
import Derived.Deep.DeepCutAuto
import Derived.Deep.CutBlock
import Derived.Deep.RegionHeld3
import Derived.Laws.Rows
import Derived.Lib.AppendStr
import Derived.ArgAppend
import Derived.Laws.IdiomCopy
import Derived.OrdersHeld
import Derived.Laws.BitsLemmas
import Derived.RowKit
import Derived.WalkSpells
import Derived.WalkLawsBesides
import Derived.Shelf.Abstract
import Derived.Test.YtkmchjdioplfjaaVFnExactNameText
namespace Go.Proofs.Ytkmchjdioplfjaa.Q
open Go.RowKit Go Go.Proofs.YtkmchjdioplfjaaW.PrintWords Go.Proofs.YtkmchjdioplfjaaW.PrintLast Go.Proofs.YtkmchjdioplfjaaW.PrintMore

set_option linter.unusedVariables false
set_option linter.unusedSimpArgs false

theorem info5 : (Try.prog.info? 5).map (fun i => (i.zero, i.size, i.bytes)) = some (some (.int .u8 0), 1, 1) := by kernel_rfl
theorem info26 : (Try.prog.info? 26).map (fun i => (i.zero, i.size, i.bytes)) = some (some (.slice none 0 0), 1, 24) := by kernel_rfl
-- the values' own types
/-! #### struct type 7 -/
/-! #### struct type 8 -/
/-! #### struct type 13 -/
/-! #### struct type 14 -/
def rd_L10 (xs : List (List Int)) (i : Int) : (List Int) := xs.getD i.toNat ([] : List Int)
theorem at_L10 {w : World} {A : Option Addr} {n : Nat} {xs : List (List Int)} (h : Kd.C (Kd.slice 5 (Kd.int .u8)) w A n xs) (i : Int) (h0 : 0 ≤ i) (h1 : i < n) : ∃ ad A0 c0, A = some ad ∧ w.cell? (ad.add i.toNat) = some (.slice A0 (rd_L10 xs i).length c0) ∧ (rd_L10 xs i).length ≤ c0 ∧ (Kd.int .u8).C w A0 (rd_L10 xs i).length (rd_L10 xs i) := by
  obtain ⟨ad, c, e, _, hK, hc0⟩ := Kd.C_get h ([] : List Int) i h0 h1
  have hc : ∀ j u, c[j]? = some u → w.cell? (ad.add (i.toNat * 1 + j)) = some u := hc0
  obtain ⟨A0, c0, rfl, l0, g0⟩ := hK
  exact ⟨ad, A0, c0, e, by have hq := hc 0 _ rfl; rwa [Nat.mul_one, Nat.add_zero] at hq, l0, g0⟩

/-! #### struct type 23 -/
/-! #### struct type 24 -/
structure S24 where
  f0 : (List (List Int))
def k24 : Kd S24 := Kd.iso (Kd.slice 26 (Kd.slice 5 (Kd.int .u8))) (fun x : S24 => x.f0)
theorem k24_open {w : World} {x : S24} {cs : List Value} (h : k24.K w x cs) : ∃ A0 c0, cs = [.slice A0 x.f0.length c0] ∧ x.f0.length ≤ c0 ∧ (Kd.slice 5 (Kd.int .u8)).C w A0 x.f0.length x.f0 := by
  obtain ⟨A0, c0, rfl, l0, g0⟩ := h
  exact ⟨A0, c0, rfl, l0, g0⟩
/-! #### struct type 28 -/
/-! #### struct type 75 -/
/-! #### struct type 76 -/
/-- One world is another one with blocks made and draws taken. -/
def Gr (A W : World) : Prop := Below A.heap.size A W
instance Gr.refl_ (A : World) : Nonempty (Gr A A) := ⟨Below.refl _ _⟩
instance Gr.alloc_ (A W : World) (o : Obj) [h : Nonempty (Gr A W)] : Nonempty (Gr A (W.alloc o)) := h.elim fun h => ⟨below_alloc h o⟩
instance Gr.drew_ (A W : World) [h : Nonempty (Gr A W)] : Nonempty (Gr A W.drew) := h.elim fun h => ⟨below_drew h⟩
instance Gr.drewN_ (A W : World) (n : Nat) [h : Nonempty (Gr A W)] : Nonempty (Gr A (W.drewN n)) := h.elim fun h => ⟨pw_below_drewN h n⟩
section
variable {α : Type} {d : Kd α} {e base n : Nat} {ok : Nat → Prop} {w W W' : World} {v : Value} {xs : List α} {A : Option Addr}
theorem bw (h : Below w.heap.size w W) [g : Nonempty (Gr W W')] : Below w.heap.size w W' := g.elim fun g => below_step h g
theorem bk {g : Nat} {o : Obj} (h : W.heap[g]? = some o) [k : Nonempty (Gr W W')] : W'.heap[g]? = some o := k.elim fun k => blk_below h k
theorem cw (h : d.C w A n xs) (hb : Below w.heap.size w W) [g : Nonempty (Gr W W')] : d.C W' A n xs := Kd.C_below h (bw hb)
theorem rw_ (h : d.R e W base ok v xs) [g : Nonempty (Gr W W')] : d.R e W' base ok v xs := g.elim fun g => Kd.R_below h g
theorem sw (h : d.S e W base ok v xs) [g : Nonempty (Gr W W')] : d.S e W' base ok v xs := g.elim fun g => Kd.S_below h g
end
section
variable {W : World} {g t : Nat} {a b c d e f x y z : Value}
theorem cells1 (h : W.heap[g]? = some (.cells #[a] t (0, 0))) : W.cell? ⟨g, 0, none⟩ = some a ∧ W.frozen? ⟨g, 0, none⟩ = false := ⟨(blk_cell h 0).trans rfl, blk_frozen h 0⟩
end
section
variable {P : Program} {ops : Array Oper} {rest : List Oper} {o : Oper} {a : Act} {Q : Exit → Act → World → Prop}
/-- A struct's variable is made. -/
theorem boxed {w W0 W : World} {N : Tmp} (_hN : o.dst = some N) (hgd : o.guard = none) {cs : Array Value} {t : TypeId} (hB : Below w.heap.size w W0) [gr : Nonempty (Gr W0 W)]
    (hrun : (execOp a.eval o).run P W = .ok (.value (.pointer (some ⟨W.heap.size, 0, none⟩))) (W.alloc (.cells cs t (0, 0))))
    (h : ∀ g, ∀ w1, g = W.heap.size → Aside0 (Below w.heap.size w w1) → Aside0 (w1.heap[g]? = some (.cells cs t (0, 0))) → Aside0 (w.heap.size ≤ g) → Below W.heap.size W w1 → wpList P ops Q rest (a.put o.dst (.pointer (some ⟨g, 0, none⟩))) w1) : wpList P ops Q (o :: rest) a W := by
  have hB' : Below w.heap.size w W := bw hB
  exact box_event hgd _hN hrun (fun g hg w1 hbox hb => h g w1 hg ⟨below_step hB' hb⟩ ⟨hbox⟩ ⟨by rw [hg]; exact hB'.size⟩ hb)
end
section
variable {α : Type} {d : Kd α} {e base g k t : Nat} {ok : Nat → Prop} {W : World} {v : Value} {xs : List α} {cs : Array Value} {l : List Nat}
theorem typed_not (hb : W.heap[g]? = some (.cells cs t (0, 0))) (ht : ∀ q, q ∈ l → q ≠ t) (h : ∃ q, q ∈ l ∧ ∃ c, W.heap[g]? = some (Obj.cells c q (0, 0))) : False := by
  obtain ⟨q, hq, c, hc⟩ := h
  rw [hb] at hc
  injection hc with hc
  injection hc with _ h2
  exact ht q hq h2.symm
end
section
variable {α : Type} {d : Kd α} {e base g g' t : Nat} {ok : Nat → Prop} {W W1 : World} {v : Value} {xs : List α} {cs : Array Value} {fr : Nat × Nat}
theorem far1S {v0 : Value} (h : Kd.S d e W base ok v xs) [k : Nonempty (Gr W W1)] (hb : W1.heap[g]? = some (.cells cs t (0, 0))) (ht : ∀ q, q ∈ e :: d.E → q ≠ t) : Kd.S d e (W1.setCell ⟨g, 0, none⟩ v0) base ok v xs :=
  Kd.S_mono (Kd.S_far (p := ⟨g, 0, none⟩) (Kd.S_types (sw h) hb ht) (fun _ hk => hk.2) _) (fun _ h_ => h_.1)
theorem bfar1 {v0 : Value} (hn : g ≠ g') (h : W.heap[g]? = some (.cells cs t (0, 0))) [k : Nonempty (Gr W W1)] : (W1.setCell ⟨g', 0, none⟩ v0).heap[g]? = some (.cells cs t (0, 0)) := (blk_far (bk h) hn _)
theorem bput1 {v0 z0 : Value} (h : W.heap[g]? = some (.cells #[z0] t (0, 0))) [k : Nonempty (Gr W W1)] : (W1.setCell ⟨g, 0, none⟩ v0).heap[g]? = some (.cells #[v0] t (0, 0)) := (blk_put (cs' := #[v0]) (bk h) 0 v0 rfl)
end

section
variable {α β : Type} {A B r : Option α}
theorem bnd {o : Option β} {f : β → Option α} {r : α} (h : o.bind f = some r) : ∃ x, Aside0 (o = some x) ∧ f x = some r := (Option.bind_eq_some_iff.mp h).elim fun x h => ⟨x, ⟨h.1⟩, h.2⟩
theorem bnS {x : β} {f : β → Option α} (h : (some x).bind f = r) : f x = r := h
theorem ib {t : Bool} (h : (if t = true then A else B) = r) : (t = true ∧ A = r) ∨ (t = false ∧ B = r) := by cases t; exact .inr ⟨rfl, h⟩; exact .inl ⟨rfl, h⟩
theorem ibN {t : Bool} {r : α} (h : (if t = true then A else none) = some r) : t = true ∧ A = some r := by cases t; cases h; exact ⟨rfl, h⟩
section
variable {p : Prop} [Decidable p]
theorem iq (h : (if p then A else B) = r) : (p ∧ A = r) ∨ (¬ p ∧ B = r) := by
  by_cases c : p
  · exact .inl ⟨c, by rwa [if_pos c] at h⟩
  · exact .inr ⟨c, by rwa [if_neg c] at h⟩
theorem iqN {r : α} (h : (if p then A else none) = some r) : p ∧ A = some r := by
  obtain h | h := iq h
  · exact h
  · cases h.2
theorem ip (h : (if p then A else B) = r) : (decide p = true ∧ A = r) ∨ (decide p = false ∧ B = r) := (iq h).imp (fun h => ⟨decide_eq_true h.1, h.2⟩) (fun h => ⟨decide_eq_false h.1, h.2⟩)
theorem ipN {r : α} (h : (if p then A else none) = some r) : decide p = true ∧ A = some r := ⟨decide_eq_true (iqN h).1, (iqN h).2⟩
theorem ipE {r : α} (h : (if p then A else none) = some r) : p = True ∧ decide p = true ∧ A = some r := ⟨eq_true (iqN h).1, decide_eq_true (iqN h).1, (iqN h).2⟩
end
section
variable {a b : Int}
theorem ig (h : (if a > b then A else B) = r) : (decide (b < a) = true ∧ A = r) ∨ (decide (b < a) = false ∧ B = r) := ip h
theorem ih (h : (if a ≥ b then A else B) = r) : (decide (b ≤ a) = true ∧ A = r) ∨ (decide (b ≤ a) = false ∧ B = r) := ip h
end
section
variable {τ : Type} [BEq τ] [LawfulBEq τ] {a b : τ} [Decidable (a = b)]
theorem ie (h : (if a = b then A else B) = r) : ((a == b) = true ∧ (a != b) = false ∧ A = r) ∨ ((a == b) = false ∧ (a != b) = true ∧ B = r) := (iq h).imp (fun h => ⟨beq_iff_eq.mpr h.1, bne_eq_false_iff_eq.mpr h.1, h.2⟩) (fun h => ⟨beq_eq_false_iff_ne.mpr h.1, bne_iff_ne.mpr h.1, h.2⟩)
theorem ieN {r : α} (h : (if a = b then A else none) = some r) : (a == b) = true ∧ (a != b) = false ∧ A = some r := ⟨beq_iff_eq.mpr (iqN h).1, bne_eq_false_iff_eq.mpr (iqN h).1, (iqN h).2⟩
end
end
theorem lnT {a b : Nat} (h : ((a : Int) == (b : Int)) = true) : (a == b) = true := by have := beq_iff_eq.mp h; exact beq_iff_eq.mpr (by omega)
theorem lnF {a b : Nat} (h : ((a : Int) == (b : Int)) = false) : (a == b) = false := by have := beq_eq_false_iff_ne.mp h; exact beq_eq_false_iff_ne.mpr (by omega)
section
variable {α : Type} {d : Kd α} {e base n g t : Nat} {ok : Nat → Prop} {w W W' W2 : World} {v : Value} {xs : List α} {A : Option Addr} {o : Obj}
theorem ak {p : Prop} (h : p) : Aside0 p := ⟨h⟩
theorem cv (h : Aside0 (d.C w A n xs)) (hb : Aside0 (Below w.heap.size w W)) [Nonempty (Gr W W')] : d.C W' A n xs := cw h.out hb.out
theorem cd (h : Aside0 (d.C w A n xs)) [g : Nonempty (Gr w W')] : d.C W' A n xs := g.elim fun g => Kd.C_below h.out g
theorem b1 (h : Aside0 (W.heap[g]? = some o)) [Nonempty (Gr W W')] (hb : Below W'.heap.size W' W2) : Aside0 (W2.heap[g]? = some o) := ⟨blk_below (bk h.out) hb⟩
theorem b2 (h : Aside0 (Below w.heap.size w W)) [Nonempty (Gr W W')] (hb : Below W'.heap.size W' W2) : Aside0 (Below w.heap.size w W2) := ⟨below_step (bw h.out) hb⟩
theorem b2s (h : Below w.heap.size w W) (hb : Below W.heap.size W W2) : Aside0 (Below w.heap.size w W2) := ⟨below_step h hb⟩
theorem b3s (hg : g = W.heap.size) (h : Below w.heap.size w W) : Aside0 (w.heap.size ≤ g) := ⟨by rw [hg]; exact below_size h⟩
theorem b4 {g1 : Nat} (hg : g = W'.heap.size) (h : Aside0 (W.heap[g1]? = some o)) [Nonempty (Gr W W')] : Aside0 (g1 ≠ g) := ⟨by rw [hg]; exact Nat.ne_of_lt (blk_lt (bk h.out))⟩
theorem b5 {g1 : Nat} (hg : g = W'.heap.size) (h : Aside0 (W.heap[g1]? = some o)) [Nonempty (Gr W W')] : Aside0 (g ≠ g1) := ⟨by rw [hg]; exact Nat.ne_of_gt (blk_lt (bk h.out))⟩
end
/-- What was is still as it was: through stores into blocks that were made since. -/
theorem bs {p : Prop} (h : p := by repeat (first | (with_reducible refine below_set ?_ (Aside0.out (by with_reducible assumption))) | exact bw HB.out)) : p := h
theorem o1 {p : Prop} (h : p := by first | rfl | (simp [errW_none, errW_some] <;> rfl) | (simp [*, errW_none, errW_some] <;> rfl)) : p := h
theorem o2 {p : Prop} (h : p := by first | rfl | (simp; done) | (simp [*]; done)) : p := h
theorem od {p : Prop} (h : p := by repeat (first | exact Drawn0.refl _ | apply Drawn0.step)) : p := h
theorem o3 {p : Prop} (h : p := by first | omega | exact Nat.le_refl _) : p := h
section
variable {P : Program} {ops : Array Oper} {rest : List Oper} {oi : Oper} {a : Act} {Q : Exit → Act → World → Prop}
/-- A call. -/
theorem glG {w : World} (N : Tmp) (hd : oi.dst = some N) {f : FuncId} {fn : Func} {zs : Array Operand} {ts : Array TypeId} (hop : oi.op = .call { callee := .value (.func f), args := zs, argTypes := ts }) (hf : P.funcs[f]? = some fn) {args : Array Value} {R : Ending → World → Prop} (hc : Calls P f args w R)
    (h : ∀ e w', R e w' → ∃ v, e = .returned v ∧ wpList P ops Q rest (a.put (some N) v) w') (hg : oi.guard = none := by rfl)
    (hname : (fn.name == "runtime.NumGoroutine") = false := by kernel_rfl) (hb : fn.body.isSome = true := by rfl)
    (hargs : zs.map a.eval = args := by (try simp only [List.map_toArray, List.map_cons, List.map_nil]); first | done | rfl | (simp only [List.length_drop, List.length_take]; rfl)) : wpList P ops Q (oi :: rest) a w :=
  goesL_ (some N) hd hg hf hname hb args hop hargs (hc.mono h)
theorem glD {w : World} (N : Tmp) (hd : oi.dst = some N) {f : FuncId} {fn : Func} {zs : Array Operand} {ts : Array TypeId} (hop : oi.op = .call { callee := .value (.func f), args := zs, argTypes := ts }) (hf : P.funcs[f]? = some fn) {args : Array Value} {v : Value} (hc : Calls P f args w fun e w' => e = .returned v ∧ Drawn0 w w')
    (h : ∀ nd, wpList P ops Q rest (a.put (some N) v) (w.drewN nd)) (hg : oi.guard = none := by rfl)
    (hname : (fn.name == "runtime.NumGoroutine") = false := by kernel_rfl) (hb : fn.body.isSome = true := by rfl)
    (hargs : zs.map a.eval = args := by (try simp only [List.map_toArray, List.map_cons, List.map_nil]); first | done | rfl | (simp only [List.length_drop, List.length_take]; rfl)) : wpList P ops Q (oi :: rest) a w :=
  goesL_ (some N) hd hg hf hname hb args hop hargs (hc.mono fun e w' h2 => ⟨v, h2.1, by obtain ⟨nd, rfl⟩ := h2.2; exact h nd⟩)
theorem glB {w : World} (N : Tmp) (hd : oi.dst = some N) {f : FuncId} {fn : Func} {zs : Array Operand} {ts : Array TypeId} (hop : oi.op = .call { callee := .value (.func f), args := zs, argTypes := ts }) (hf : P.funcs[f]? = some fn) {args : Array Value} {v : Value} (hc : Calls P f args w fun e w' => e = .returned v ∧ Below w.heap.size w w')
    (h : ∀ w', Below w.heap.size w w' → wpList P ops Q rest (a.put (some N) v) w') (hg : oi.guard = none := by rfl)
    (hname : (fn.name == "runtime.NumGoroutine") = false := by kernel_rfl) (hb : fn.body.isSome = true := by rfl)
    (hargs : zs.map a.eval = args := by (try simp only [List.map_toArray, List.map_cons, List.map_nil]); first | done | rfl | (simp only [List.length_drop, List.length_take]; rfl)) : wpList P ops Q (oi :: rest) a w :=
  goesL_ (some N) hd hg hf hname hb args hop hargs (hc.mono fun e w' h2 => ⟨v, h2.1, h w' h2.2⟩)
end
section
variable {P : Program} {ops : Array Oper} {oi : Oper} {Q : Exit → Act → World → Prop} {md : Region.Mode} {S : World → Prop} {ds : List Nat} {T : Bool × List (List Nat × List Nat)} {n m fuel : Nat} {a a' : Act} {w : World}
theorem gsG {K : Act → World → Prop} {f : FuncId} {fn : Func} (hf : P.funcs[f]? = some fn) {zs : Array Operand} {ts : Array TypeId} {args : Array Value} {N : Option Tmp} {R : Ending → World → Prop} (hc : Calls P f args w R)
    (h : ∀ e w', R e w' → ∃ v, e = .returned v ∧ K (a.put N v) w') (hop : oi.op = .call { callee := .value (.func f), args := zs, argTypes := ts } := by rfl) (hN : oi.dst = N := by rfl) (hw : Region.wanted oi (yielded ops a.tmps) = true := by rfl)
    (hname : (fn.name == "runtime.NumGoroutine") = false := by kernel_rfl) (hb : fn.body.isSome = true := by rfl)
    (hargs : zs.map a.eval = args := by (try simp only [List.map_toArray, List.map_cons, List.map_nil]); first | done | rfl | (simp only [List.length_drop, List.length_take]; rfl)) : if Region.wanted oi (yielded ops a.tmps) = true then Oper.wp P oi a w K Q else K (a.put N undef) w :=
  goes_ hf hname hb args hw hN hop hargs (hc.mono h)
theorem gsB {K : Act → World → Prop} {f : FuncId} {fn : Func} (hf : P.funcs[f]? = some fn) {zs : Array Operand} {ts : Array TypeId} {args : Array Value} {N : Option Tmp} {v : Value} (hc : Calls P f args w fun e w' => e = .returned v ∧ Below w.heap.size w w')
    (h : ∀ w', Below w.heap.size w w' → K (a.put N v) w') (hop : oi.op = .call { callee := .value (.func f), args := zs, argTypes := ts } := by rfl) (hN : oi.dst = N := by rfl) (hw : Region.wanted oi (yielded ops a.tmps) = true := by rfl)
    (hname : (fn.name == "runtime.NumGoroutine") = false := by kernel_rfl) (hb : fn.body.isSome = true := by rfl)
    (hargs : zs.map a.eval = args := by (try simp only [List.map_toArray, List.map_cons, List.map_nil]); first | done | rfl | (simp only [List.length_drop, List.length_take]; rfl)) : if Region.wanted oi (yielded ops a.tmps) = true then Oper.wp P oi a w K Q else K (a.put N undef) w :=
  goes_ hf hname hb args hw hN hop hargs (hc.mono fun e w' h2 => ⟨v, h2.1, h w' h2.2⟩)
theorem kp {p : Prop} (h : p := by (have h_ := hHeld); (repeat (obtain ⟨_, h_⟩ := h_)); ((repeat' apply And.intro) <;> exact pw_cell_below hb (by with_reducible assumption))) : p := h
end
section
variable {P : Program} {ops : Array Oper} {rest : List Oper} {o : Oper} {a : Act} {Q : Exit → Act → World → Prop}
/-- A struct's variable is made. -/
theorem bxe {W : World} {N : Tmp} (hd : o.dst = some N) {cs : Array Value} {t : TypeId}
    (h : ∀ g, g = W.heap.size → ∀ w1, w1.heap[g]? = some (.cells cs t (0, 0)) → Below W.heap.size W w1 → wpList P ops Q rest (a.put o.dst (.pointer (some ⟨g, 0, none⟩))) w1) (hgd : o.guard = none := by rfl)
    (hrun : (execOp a.eval o).run P W = .ok (.value (.pointer (some ⟨W.heap.size, 0, none⟩))) (W.alloc (.cells cs t (0, 0))) := by first | (go_simp; done) | (go_simp; rfl)) : wpList P ops Q (o :: rest) a W := box_event hgd hd hrun h
theorem bxd {w W0 W : World} {N : Tmp} (hd : o.dst = some N) {cs : Array Value} {t : TypeId} (hB : Aside0 (Below w.heap.size w W0)) [gr : Nonempty (Gr W0 W)]
    (h : ∀ g, ∀ w1, g = W.heap.size → Aside0 (Below w.heap.size w w1) → Aside0 (w1.heap[g]? = some (.cells cs t (0, 0))) → Aside0 (w.heap.size ≤ g) → Below W.heap.size W w1 → wpList P ops Q rest (a.put o.dst (.pointer (some ⟨g, 0, none⟩))) w1) (hgd : o.guard = none := by rfl)
    (hrun : (execOp a.eval o).run P W = .ok (.value (.pointer (some ⟨W.heap.size, 0, none⟩))) (W.alloc (.cells cs t (0, 0))) := by first | (go_simp; done) | (go_simp; rfl)) : wpList P ops Q (o :: rest) a W := boxed hd hgd hB.out hrun h
end
theorem el_int {k : IntKind} {xs : List Int} {w W : World} {A : Option Addr} {n : Nat} (h : Aside0 (Kd.C (Kd.int k) w A n xs)) (hb : Aside0 (Below w.heap.size w W)) (i : Int) (h0 : decide (0 ≤ i) = true := by first | (with_reducible assumption) | assumption) (h1 : decide (i < n) = true := by first | (with_reducible assumption) | assumption) : ∃ ad, A = some ad ∧ W.cell? (ad.add i.toNat) = some (.int k (rd xs i)) ∧ (0 ≤ i) = True ∧ (i < n) = True := by
  obtain ⟨ad, e, x0⟩ := Kd.at_int h.out i (of_decide_eq_true h0) (of_decide_eq_true h1)
  exact ⟨ad, e, pw_cell_below hb.out x0, eq_true (of_decide_eq_true h0), eq_true (of_decide_eq_true h1)⟩
theorem el0_int {k : IntKind} {xs : List Int} {w : World} {A : Option Addr} {n : Nat} (h : Aside0 (Kd.C (Kd.int k) w A n xs)) (i : Int) (h0 : decide (0 ≤ i) = true := by first | (with_reducible assumption) | assumption) (h1 : decide (i < n) = true := by first | (with_reducible assumption) | assumption) : ∃ ad, A = some ad ∧ w.cell? (ad.add i.toNat) = some (.int k (rd xs i)) ∧ (0 ≤ i) = True ∧ (i < n) = True := by
  obtain ⟨ad, e, x0⟩ := Kd.at_int h.out i (of_decide_eq_true h0) (of_decide_eq_true h1)
  exact ⟨ad, e, x0, eq_true (of_decide_eq_true h0), eq_true (of_decide_eq_true h1)⟩
theorem el20_int {k : IntKind} {xs : List Int} {w : World} {ad : Addr} {n : Nat} (h : Aside0 (Kd.C (Kd.int k) w (some ad) n xs)) (i : Int) (h0 : decide (0 ≤ i) = true := by first | (with_reducible assumption) | assumption) (h1 : decide (i < n) = true := by first | (with_reducible assumption) | assumption) : w.cell? (ad.add i.toNat) = some (.int k (rd xs i)) ∧ (0 ≤ i) = True ∧ (i < n) = True := by
  obtain ⟨ad', e, x0⟩ := Kd.at_int h.out i (of_decide_eq_true h0) (of_decide_eq_true h1)
  obtain rfl := Option.some.inj e
  exact ⟨x0, eq_true (of_decide_eq_true h0), eq_true (of_decide_eq_true h1)⟩
theorem el_L10 {xs : List (List Int)} {w W : World} {A : Option Addr} {n : Nat} (h : Aside0 (Kd.C (Kd.slice 5 (Kd.int .u8)) w A n xs)) (hb : Aside0 (Below w.heap.size w W)) (i : Int) (h0 : decide (0 ≤ i) = true := by first | (with_reducible assumption) | assumption) (h1 : decide (i < n) = true := by first | (with_reducible assumption) | assumption) : ∃ ad A0 c0, A = some ad ∧ W.cell? (ad.add i.toNat) = some (.slice A0 (rd_L10 xs i).length c0) ∧ Aside0 ((rd_L10 xs i).length ≤ c0) ∧ Aside0 ((Kd.int .u8).C w A0 (rd_L10 xs i).length (rd_L10 xs i)) ∧ (0 ≤ i) = True ∧ (i < n) = True := by
  obtain ⟨ad, A0, c0, e, x0, y0, y1⟩ := at_L10 h.out i (of_decide_eq_true h0) (of_decide_eq_true h1)
  exact ⟨ad, A0, c0, e, pw_cell_below hb.out x0, ⟨y0⟩, ⟨y1⟩, eq_true (of_decide_eq_true h0), eq_true (of_decide_eq_true h1)⟩
theorem el0_L10 {xs : List (List Int)} {w : World} {A : Option Addr} {n : Nat} (h : Aside0 (Kd.C (Kd.slice 5 (Kd.int .u8)) w A n xs)) (i : Int) (h0 : decide (0 ≤ i) = true := by first | (with_reducible assumption) | assumption) (h1 : decide (i < n) = true := by first | (with_reducible assumption) | assumption) : ∃ ad A0 c0, A = some ad ∧ w.cell? (ad.add i.toNat) = some (.slice A0 (rd_L10 xs i).length c0) ∧ Aside0 ((rd_L10 xs i).length ≤ c0) ∧ Aside0 ((Kd.int .u8).C w A0 (rd_L10 xs i).length (rd_L10 xs i)) ∧ (0 ≤ i) = True ∧ (i < n) = True := by
  obtain ⟨ad, A0, c0, e, x0, y0, y1⟩ := at_L10 h.out i (of_decide_eq_true h0) (of_decide_eq_true h1)
  exact ⟨ad, A0, c0, e, x0, ⟨y0⟩, ⟨y1⟩, eq_true (of_decide_eq_true h0), eq_true (of_decide_eq_true h1)⟩

/-! ### laws_markByteS: function 14 -/
def laws_markByteS.l0 : Nat → List Int → Int → Int → Option (Int × List Int)
 | 0, _, _, _ => none
 | k + 1, x0, x1, x5 => if x5 < (x0.length : Int) then (if 0 ≤ x5 then (laws_markByteS.l0 k (x0.set (x5 : Int).toNat ((x1) % 256)) (wrap64 (x1 + 1)) (wrap64 (x5 + 1))) else (none)) else (some (x1, x0))
def laws_markByteS.f (k : Nat) (l0 : List Int) (a1 : Int) : Option (Int × List Int) := laws_markByteS.l0 k l0 a1 0
/-- A cell is as it was, or bears a number where a number of its kind was. -/
def Rel (u v : Value) : Prop := v = u ∨ ∃ k x y, u = .int k x ∧ v = .int k y
theorem Rel.refl (u : Value) : Rel u u := .inl rfl
theorem Rel.trans {u v x : Value} (h : Rel u v) (k : Rel v x) : Rel u x := by
  rcases h with rfl | ⟨a, b, c, rfl, rfl⟩
  · exact k
  · rcases k with rfl | ⟨a', b', c', e, rfl⟩
    · exact .inr ⟨a, b, c, rfl, rfl⟩
    · injection e with e1 e2; subst e1; exact .inr ⟨a, b, c', rfl, rfl⟩
/-- So for cells in line. -/
def RelL (cs cs' : List Value) : Prop := cs'.length = cs.length ∧ ∀ (j : Nat) u v, cs[j]? = some u → cs'[j]? = some v → Rel u v
theorem RelL.refl (cs : List Value) : RelL cs cs := ⟨rfl, fun j u v h k => by rw [h] at k; injection k with k; subst k; exact Rel.refl _⟩
theorem RelL.trans {a b c : List Value} (h : RelL a b) (k : RelL b c) : RelL a c := ⟨k.1.trans h.1, fun j u v hu hv => by
  have hj := (List.getElem?_eq_some_iff.1 hu).1
  have hb : b[j]? = some (b[j]'(by rw [h.1]; exact hj)) := List.getElem?_eq_getElem _
  exact (h.2 j u _ hu hb).trans (k.2 j _ v hb hv)⟩
/-- The one world is the other, but that numbers in blocks of P may be written over. -/
structure Mark (P : Nat → Prop) (w w' : World) : Prop where
  os : w'.os = w.os
  tape : w'.tape = w.tape
  output : w'.output = w.output
  size : w.heap.size ≤ w'.heap.size
  out : ∀ k : Nat, k < w.heap.size → ¬ P k → w'.heap[k]? = w.heap[k]?
  cells : ∀ (k : Nat) (cs : Array Value) (t : TypeId) (fr : Nat × Nat), w.heap[k]? = some (Obj.cells cs t fr) → ∃ cs' : Array Value, w'.heap[k]? = some (Obj.cells cs' t fr) ∧ RelL cs.toList cs'.toList
section
variable {P P' : Nat → Prop} {w w' w2 : World} {base : Nat}
theorem Mark.refl (P : Nat → Prop) (w : World) : Mark P w w := ⟨rfl, rfl, rfl, Nat.le_refl _, fun _ _ _ => rfl, fun _ cs _ _ h => ⟨cs, h, RelL.refl _⟩⟩
theorem Mark.trans (h : Mark P w w') (k : Mark P w' w2) : Mark P w w2 := ⟨k.os.trans h.os, k.tape.trans h.tape, k.output.trans h.output, Nat.le_trans h.size k.size, fun i hl hi => (k.out i (Nat.lt_of_lt_of_le hl h.size) hi).trans (h.out i hl hi), fun i cs t fr hc => by
  obtain ⟨cs1, h1, r1⟩ := h.cells i cs t fr hc
  obtain ⟨cs2, h2, r2⟩ := k.cells i cs1 t fr h1
  exact ⟨cs2, h2, r1.trans r2⟩⟩
theorem Mark.mono (h : Mark P w w') (hp : ∀ k, P k → P' k) : Mark P' w w' := ⟨h.os, h.tape, h.output, h.size, fun i hl hi => h.out i hl (fun hk => hi (hp i hk)), h.cells⟩
theorem Mark.kept (h : Mark P w w') : Kept w w' P := ⟨h.size, h.out⟩
theorem Mark.of_below (h : Below w.heap.size w w') : Mark P w w' := ⟨h.os, h.tape, h.output, h.size, fun k hk _ => h.block k hk, fun k cs t fr hc => ⟨cs, (h.block k (blk_lt hc)).trans hc, RelL.refl _⟩⟩
theorem Mark.below (h : Mark P w w') (hb : base ≤ w.heap.size) (hp : ∀ k, P k → base ≤ k) : Below base w w' := ⟨h.os, h.tape, h.output, h.size, fun k hk => h.out k (by omega) (fun hp2 => by have := hp k hp2; omega)⟩
theorem Mark.set {g i : Nat} {cs : Array Value} {t : TypeId} {k : IntKind} {x y : Int} (hb : w.heap[g]? = some (.cells cs t (0, 0))) (hi : cs[i]? = some (.int k x)) (hg : P g) : Mark P w (w.setCell ⟨g, i, none⟩ (.int k y)) := by
  refine ⟨rfl, rfl, rfl, by simp [World.setCell], fun j _ hj => Below.heap_setCell w _ _ j (fun e => hj (by rw [e]; exact hg)), fun j cs2 t2 fr2 h2 => ?_⟩
  by_cases hjg : j = g
  · subst hjg
    rw [hb] at h2
    injection h2 with h2
    injection h2 with e1 e2 e3
    subst e1; subst e2; subst e3
    refine ⟨cs.setIfInBounds i (.int k y), blk_set hb i _, by simp, fun q u v hu hv => ?_⟩
    rw [Array.getElem?_toList] at hu hv
    rw [Array.getElem?_setIfInBounds] at hv
    split at hv
    · rename_i e
      subst e
      split at hv
      · injection hv with hv
        rw [hi] at hu
        injection hu with hu
        subst hu; subst hv
        exact .inr ⟨k, x, y, rfl, rfl⟩
      · cases hv
    · rw [hu] at hv; injection hv with hv; subst hv; exact Rel.refl _
  · exact ⟨cs2, (Below.heap_setCell w ⟨g, i, none⟩ (.int k y) j hjg).trans h2, RelL.refl _⟩
end
/-- An element of a row whose elements lie apart: its cells, what it leads to (in P), and the row anew where nothing but that is marked. -/
theorem S_at {α : Type} {d : Kd α} {e base : Nat} {ok : Nat → Prop} {w : World} {v : Value} {xs : List α} (h : d.S e w base ok v xs) (i : Nat) (hi : i < xs.length) :
    ∃ (P : Nat → Prop) (c : List Value) (g cap : Nat), (∀ k, P k → ok k) ∧ v = .slice (some ⟨g, 0, none⟩) xs.length cap ∧ d.M w base P (xs[i]) c ∧ (∀ j u, c[j]? = some u → w.cell? ⟨g, i * d.sz + j, none⟩ = some u) ∧ ∀ (w' : World) (y : α), Mark P w w' → d.M w' base P y c → d.S e w' base ok v (xs.set i y) := by
  obtain ⟨f, h0, inner, ⟨hil, ho⟩, hrl, hr⟩ := h
  rw [List.length_zipIdx] at hil ho hrl
  rcases ho with ⟨rfl, hn⟩ | ⟨g, cap, cur, rfl, hb, hg, hcap, hmax, hsz, htk⟩
  · omega
  · have hM := hr i (xs[i], i) (Kd.zip_at (List.getElem?_eq_getElem hi))
    refine ⟨_, _, g, cap, fun k hk => hk.1.1, rfl, hM, fun j u hu => ?_, fun w' y hm hy => ⟨f, h0, inner, ?_, ?_, fun j p hp => ?_⟩⟩
    · rw [cell_of_row w g _ cur e (0, 0) hg]
      rw [List.getElem?_take] at hu
      split at hu
      · rename_i hj
        rw [List.getElem?_drop, ← htk, List.getElem?_take] at hu
        split at hu
        · have hu2 : cur[i * d.sz + j]? = some u := by have := hu; simp only [Array.getElem?_toList] at this; exact this
          exact hu2
        · cases hu
      · cases hu
    · refine ⟨by rw [List.length_zipIdx, List.length_set]; exact hil, .inr ⟨g, cap, cur, by rw [List.length_zipIdx, List.length_set], hb, ?_, by rw [List.length_zipIdx, List.length_set]; exact hcap, hmax, hsz, by rw [List.length_zipIdx, List.length_set]; exact htk⟩⟩
      rw [hm.out g (blk_lt hg) (fun hk => hk.1.2 rfl)]; exact hg
    · rw [List.length_zipIdx, List.length_set]; exact hrl
    · rw [List.getElem?_zipIdx, Nat.zero_add] at hp
      by_cases hj : j = i
      · subst hj
        rw [List.getElem?_set_self hi] at hp
        injection hp with hp
        subst hp
        exact hy
      · rw [List.getElem?_set_ne (fun e => hj e.symm)] at hp
        have h2 := hr j p (by rw [List.getElem?_zipIdx, Nat.zero_add]; exact hp)
        obtain ⟨x, hx, rfl⟩ := Option.map_eq_some_iff.1 hp
        have h3 : d.M w base (fun k => (ok k ∧ some k ≠ (Value.slice (some ⟨g, 0, none⟩) xs.length cap).ownBlock) ∧ f k = j) x ((inner.drop (j * d.sz)).take d.sz) := h2
        have h4 := Kd.M_step (w1 := w') h3 (fun k hk hl => hm.out k hl (fun hk2 => hj (hk.2.symm.trans hk2.2)))
        exact h4
section
variable {α : Type} {d : Kd α} {e base a b a' b' g : Nat} {ok P : Nat → Prop} {w w' : World} {v : Value} {xs : List α} {o : Obj}
end
/-- A flat row, where all but what S says is kept, and its own block is none of S. -/
theorem R_keptD {α : Type} {d : Kd α} {e base : Nat} {ok S : Nat → Prop} {W W2 : World} {v : Value} {xs : List α} (h : d.R e W base ok v xs) (hE : d.E = []) (hk : Kept W W2 S) (hq : ∀ k, some k = v.ownBlock → ok k → ¬ S k) : d.R e W2 base (fun k => ok k ∧ (¬ S k ∧ k < W.heap.size)) v xs :=
  Kd.R_mono (Kd.R_keptB (Kd.R_tight2 hE h) hk (fun k hk2 => hq k hk2.1 hk2.2)) (fun k hk2 => ⟨hk2.1.2, hk2.2⟩)
/-- Where a row of rows lies: below the memory's size; from the size on at which it was begun. -/
theorem S_lt_ {α : Type} {d : Kd α} {e base : Nat} {ok : Nat → Prop} {W : World} {v : Value} {xs : List α} (h : d.S e W base ok v xs) : d.S e W base (fun k => ok k ∧ k < W.heap.size) v xs := Kd.S_mono (Kd.S_bound h) (fun k hk => ⟨hk.1, hk.2.2.1⟩)
theorem S_ge_ {α : Type} {d : Kd α} {e base : Nat} {ok : Nat → Prop} {W : World} {v : Value} {xs : List α} (h : d.S e W base ok v xs) : d.S e W base (fun k => ok k ∧ base ≤ k) v xs := Kd.S_mono (Kd.S_bound h) (fun k hk => ⟨hk.1, hk.2.1⟩)

/-- The second form: a block that a string was laid into. -/
def Zs (e : Nat) (w : World) (base : Nat) (ok : Nat → Prop) (v : Value) (xs : List Int) : Prop :=
  ∃ g c cur, v = .slice (some ⟨g, 0, none⟩) xs.length c ∧ xs.length ≤ c ∧ ok g ∧ base ≤ g ∧ w.heap[g]? = some (.cells cur e (cur.size, cur.size + 1)) ∧ xs.length ≤ cur.size ∧ xs.length ≤ 9223372036854775807 ∧ ∀ i, i < xs.length → cur[i]? = some (.int .u8 (rd xs i))
def Zr (e : Nat) (w : World) (base : Nat) (ok : Nat → Prop) (v : Value) (xs : List Int) : Prop := Kd.R (Kd.int .u8) e w base ok v xs ∨ Zs e w base ok v xs
theorem rd_nat (xs : List Int) (j : Nat) : rd xs (j : Int) = xs.getD j 0 := by simp [rd]
section
variable {e base : Nat} {w w1 W W2 : World} {ok ok' S : Nat → Prop} {v u : Value} {xs : List Int}
theorem Z_of (h : Kd.R (Kd.int .u8) e w base ok v xs) : Zr e w base ok v xs := .inl h
theorem Z_mono (h : Zr e w base ok v xs) (hok : ∀ k, ok k → ok' k) : Zr e w base ok' v xs := by
  rcases h with h | ⟨g, c, cur, h1, h2, h3, h⟩
  · exact .inl (Kd.R_mono h hok)
  · exact .inr ⟨g, c, cur, h1, h2, hok _ h3, h⟩
theorem Z_lower {base' : Nat} (h : Zr e w base ok v xs) (hb : base' ≤ base) : Zr e w base' ok v xs := by
  rcases h with h | ⟨g, c, cur, h1, h2, h3, h4, h⟩
  · exact .inl (Kd.R_lower h hb)
  · exact .inr ⟨g, c, cur, h1, h2, h3, Nat.le_trans hb h4, h⟩
theorem Z_step (h : Zr e w base ok v xs) (hm : ∀ k, ok k → k < w.heap.size → w1.heap[k]? = w.heap[k]?) : Zr e w1 base ok v xs := by
  rcases h with h | ⟨g, c, cur, h1, h2, h3, h4, h5, h⟩
  · exact .inl (Kd.R_step h hm)
  · exact .inr ⟨g, c, cur, h1, h2, h3, h4, (hm g h3 (Array.getElem?_eq_some_iff.1 h5).1).trans h5, h⟩
theorem Z_below (h : Zr e w base ok v xs) (hb : Below w.heap.size w w1) : Zr e w1 base ok v xs := Z_step h (fun k _ hk => hb.block k hk)
theorem Z_drew (h : Zr e w base ok v xs) : Zr e w.drew base ok v xs := Z_below h (below_drew (Below.refl _ _))
theorem Z_drewN (h : Zr e w base ok v xs) (m : Nat) : Zr e (w.drewN m) base ok v xs := Z_below h (pw_below_drewN (Below.refl _ _) m)
theorem Z_at {m : Nat} {w' : World} (hq : w.drewN m = w') (h : Zr e w base ok v xs) : Zr e w' base ok v xs := by subst hq; exact Z_drewN h m
theorem zw_ (h : Zr e w base ok v xs) [g : Nonempty (Gr w w1)] : Zr e w1 base ok v xs := g.elim fun g => Z_below h g
theorem Z_ok (h : Zr e w base ok v xs) : ∀ k, v.ownBlock = some k → ok k := by
  rcases h with h | ⟨g, c, cur, rfl, h2, h3, h⟩
  · exact h.1
  · intro k hk; simp only [Value.ownBlock, Option.some.injEq] at hk; exact hk ▸ h3
theorem Z_lt (h : Zr e w base ok v xs) : ∀ k, v.ownBlock = some k → k < w.heap.size := by
  rcases h with h | ⟨g, c, cur, rfl, h2, h3, h4, h5, h⟩
  · exact Kd.R_lt h
  · intro k hk; simp only [Value.ownBlock, Option.some.injEq] at hk; exact hk ▸ (Array.getElem?_eq_some_iff.1 h5).1
theorem Z_base (h : Zr e w base ok v xs) : ∀ k, v.ownBlock = some k → base ≤ k := by
  rcases h with h | ⟨g, c, cur, rfl, h2, h3, h4, h⟩
  · exact Kd.R_base h
  · intro k hk; simp only [Value.ownBlock, Option.some.injEq] at hk; exact hk ▸ h4
theorem Z_all {p : Nat → Prop} (h : Zr e w base ok v xs) (hp : ∀ k, v.ownBlock = some k → p k) : Zr e w base p v xs := by
  rcases h with h | ⟨g, c, cur, rfl, h2, h3, h⟩
  · exact .inl (Kd.R_reok rfl h hp)
  · exact .inr ⟨g, c, cur, rfl, h2, hp g rfl, h⟩
theorem Z_slice (h : Zr e w base ok v xs) : ∃ A c, v = .slice A xs.length c := by
  rcases h with h | ⟨g, c, cur, h1, _⟩
  · exact Kd.R_slice h
  · exact ⟨_, _, h1⟩
theorem Z_reads' {A : Option Addr} {n c : Nat} (h : Zr e w base ok (.slice A n c) xs) : n = xs.length ∧ n ≤ c ∧ (Kd.int .u8).C w A xs.length xs := by
  rcases h with h | ⟨g, c', cur, h1, h2, h3, h4, h5, h6, h7, h8⟩
  · exact Kd.R_reads' h
  · injection h1 with e1 e2 e3
    subst e1
    subst e2
    subst e3
    refine ⟨rfl, h2, Kd.C_of_reads (enc := Value.int .u8) (d := (0 : Int)) (h1 := fun _ => rfl) ⟨rfl, h7, fun hn => ⟨_, rfl, fun j hj => ?_⟩⟩⟩
    have hx := h8 j hj
    have hc := cell_of_row w g j cur e (cur.size, cur.size + 1) h5
    rw [show (⟨g, 0, none⟩ : Addr).add j = ⟨g, j, none⟩ by unfold Addr.add; split <;> simp_all, hc, hx]
    simp [rd, List.getD_eq_getElem?_getD]
theorem Z_tight (hE : (Kd.int .u8).E = []) (h : Zr e w base ok v xs) : Zr e w base (fun k => some k = v.ownBlock) v xs := Z_all h (fun _ hk => hk.symm)
theorem Z_reok {ok1 : Nat → Prop} (hE : (Kd.int .u8).E = []) (h : Zr e W base ok1 v xs) (hok : ∀ k, v.ownBlock = some k → ok k) : Zr e W base ok v xs := Z_all h hok
theorem Z_ne (h : Zr e w base ok v xs) {g t : Nat} {cells : Array Value} (hb : w.heap[g]? = some (.cells cells t (0, 0))) (ht : e ≠ t) : some g ≠ v.ownBlock := by
  rcases h with h | ⟨g', c, cur, rfl, h2, h3, h4, h5, h⟩
  · exact Kd.R_ne h hb ht
  · intro hk
    simp only [Value.ownBlock, Option.some.injEq] at hk
    subst hk
    rw [hb] at h5
    injection h5 with h5
    injection h5 with _ h5
    exact ht h5.symm
theorem Z_new' (h : Zr e w1 W.heap.size ok v xs) (hlt : ∀ k, u.ownBlock = some k → k < W.heap.size) : Zr e w1 W.heap.size (fun k => ok k ∧ some k ≠ u.ownBlock) v xs :=
  Z_all h (fun k hk => ⟨Z_ok h k hk, fun e => by have := hlt k e.symm; have := Z_base h k hk; omega⟩)
theorem Z_elder' (hu : Zr e W base ok u xs) (hbase : ∀ k, v.ownBlock = some k → W.heap.size ≤ k) (hb : Below W.heap.size W w1) : Zr e w1 base (fun k => ok k ∧ some k ≠ v.ownBlock) u xs :=
  Z_below (Z_all hu (fun k hk => ⟨Z_ok hu k hk, fun e => by have := hbase k e.symm; have := Z_lt hu k hk; omega⟩)) hb
theorem Z_keptD (h : Zr e W base ok v xs) (hE : (Kd.int .u8).E = []) (hk : Kept W W2 S) (hq : ∀ k, some k = v.ownBlock → ok k → ¬ S k) : Zr e W2 base (fun k => ok k ∧ (¬ S k ∧ k < W.heap.size)) v xs := by
  rcases h with h | ⟨g, c, cur, rfl, h2, h3, h4, h5, h⟩
  · exact .inl (R_keptD h hE hk hq)
  · have hl := (Array.getElem?_eq_some_iff.1 h5).1
    have hs := hq g rfl h3
    exact .inr ⟨g, c, cur, rfl, h2, ⟨h3, hs, hl⟩, h4, blk_kept h5 hk hs, h⟩
theorem Z_keptB (h : Zr e W base ok v xs) (hk : Kept W W2 S) (hne : ∀ k, ok k → ¬ S k) : Zr e W2 base (fun k => ok k ∧ (¬ S k ∧ k < W.heap.size)) v xs := Z_keptD h rfl hk (fun k _ ho => hne k ho)
theorem far1Z {g t : Nat} {cs : Array Value} {v0 : Value} (h : Zr e W base ok v xs) [k : Nonempty (Gr W w1)] (hb : w1.heap[g]? = some (.cells cs t (0, 0))) (ht : ∀ q, q ∈ e :: (Kd.int .u8).E → q ≠ t) : Zr e (w1.setCell ⟨g, 0, none⟩ v0) base ok v xs := by
  have hz : Zr e w1 base ok v xs := zw_ h
  refine Z_all (Z_step (Z_tight rfl hz) (fun k hk _ => Below.heap_setCell w1 ⟨g, 0, none⟩ v0 k (fun e => ?_))) (Z_ok hz)
  have e : k = g := e
  subst e
  exact Z_ne hz hb (ht _ List.mem_cons_self) hk
theorem Z_form (h : Zr e w base ok v xs) (hp : 0 < xs.length) : ∃ g cap, v = .slice (some ⟨g, 0, none⟩) xs.length cap ∧ base ≤ g ∧ g < w.heap.size ∧ ∃ cells fr, w.heap[g]? = some (.cells cells e fr) := by
  rcases h with h | ⟨g, c, cur, rfl, h2, h3, h4, h5, h⟩
  · obtain ⟨g, cap, h1, h2, h3, cells, h4⟩ := Kd.R_form h hp
    exact ⟨g, cap, h1, h2, h3, cells, _, h4⟩
  · exact ⟨g, c, rfl, h4, (Array.getElem?_eq_some_iff.1 h5).1, cur, _, h5⟩
theorem Z_celln {g n cap : Nat} (d : Int) (h : Zr e W base ok (.slice (some ⟨g, 0, none⟩) n cap) xs) (i : Int) (h0 : 0 ≤ i) (hi : i < n) : W.cell? ⟨g, i.toNat, none⟩ = some (.int .u8 (rdOf d xs i)) ∧ W.frozen? ⟨g, i.toNat, none⟩ = false := by
  rcases h with h | ⟨g', c, cur, h1, h2, h3, h4, h5, h6, h7, h8⟩
  · exact Kd.R_celln d h i h0 hi
  · injection h1 with e1 e2 e3
    injection e1 with e1
    injection e1 with e1
    subst e1
    subst e2
    subst e3
    have hl : i.toNat < xs.length := by omega
    refine ⟨?_, ?_⟩
    · rw [cell_of_row W g i.toNat cur e (cur.size, cur.size + 1) h5, h8 _ hl, rd_nat]
      simp only [rdOf, List.getD_eq_getElem?_getD, List.getElem?_eq_getElem hl, Option.getD_some]
    · simp only [World.frozen?, h5]
      simp
      omega
theorem Z_putg {g n cap : Nat} (h : Zr e W base ok (.slice (some ⟨g, 0, none⟩) n cap) xs) (i x : Int) : Zr e (W.setCell ⟨g, i.toNat, none⟩ (.int .u8 x)) base ok (.slice (some ⟨g, 0, none⟩) n cap) (xs.set i.toNat x) ∧ W.grownBy (W.setCell ⟨g, i.toNat, none⟩ (.int .u8 x)) (some g) := by
  rcases h with h | ⟨g', c, cur, h1, h2, h3, h4, h5, h6, h7, h8⟩
  · obtain ⟨a, b⟩ := Kd.R_putg (enc := Value.int .u8) (h1 := fun _ => rfl) h i x
    exact ⟨.inl a, b⟩
  · injection h1 with e1 e2 e3
    injection e1 with e1
    injection e1 with e1
    subst e1
    subst e2
    subst e3
    have hs : (W.setCell ⟨g, i.toNat, none⟩ (.int .u8 x)).heap[g]? = some (.cells (cur.setIfInBounds i.toNat (.int .u8 x)) e (cur.size, cur.size + 1)) := by
      simp only [World.setCell]
      rw [Array.getElem?_modify]
      simp [h5]
    refine ⟨.inr ⟨g, cap, cur.setIfInBounds i.toNat (.int .u8 x), by rw [List.length_set], by rw [List.length_set]; exact h2, h3, h4, by rw [Array.size_setIfInBounds]; exact hs, by rw [List.length_set, Array.size_setIfInBounds]; exact h6, by rw [List.length_set]; exact h7, fun j hj => ?_⟩, ⟨rfl, rfl, rfl, by simp [World.setCell], fun k hk hne => Below.heap_setCell W ⟨g, i.toNat, none⟩ (.int .u8 x) k (fun e => hne (by rw [e]))⟩⟩
    rw [List.length_set] at hj
    rw [Array.getElem?_setIfInBounds]
    by_cases hij : i.toNat = j
    · subst hij
      have : i.toNat < cur.size := by omega
      rw [if_pos rfl, if_pos this]
      rw [rd_nat, List.getD_eq_getElem?_getD, List.getElem?_set_self hj]
      rfl
    · rw [if_neg hij, h8 j hj]
      rw [rd_nat, rd_nat, List.getD_eq_getElem?_getD, List.getD_eq_getElem?_getD, List.getElem?_set_ne hij]
end
section
variable {P : Program} {ops : Array Oper} {rest : List Oper} {o : Oper} {a : Act} {Q : Exit → Act → World → Prop}
/-- '[]byte("..")' of a constant: the row that was built is marked behind its end. -/
theorem Z_conv {w0 W : World} {base e t : Nat} {ok : Nat → Prop} {v : Value} {xs : List Int} (hgd : o.guard = none) {N : Tmp} (_hd : o.dst = some N) (x : Operand) (ho : o.op = .convert t t x) (ht : P.underlying t = some (.slice e)) (he : P.underlying e = some (.int .u8))
    (hx : a.eval x = v) (hR : Kd.R (Kd.int .u8) e W base ok v xs) (h0 : 0 < xs.length) (HB : Below base w0 W)
    (h : ∀ w1, Zr e w1 base ok v xs → Below base w0 w1 → W.grownBy w1 v.ownBlock → wpList P ops Q rest (a.put o.dst v) w1) : wpList P ops Q (o :: rest) a W := by
  obtain ⟨g, cap, rfl, hb, hl, cur, hg⟩ := Kd.R_form hR h0
  have hr := Kd.R_reads' hR
  have hc : ∀ i, i < xs.length → cur[i]? = some (.int .u8 (rd xs i)) := fun i hi => by
    have := (Kd.R_celln (enc := Value.int .u8) (h1 := fun _ => rfl) (0 : Int) hR (i : Int) (by omega) (by omega)).1
    rw [show ((i : Int)).toNat = i from by omega, cell_of_row W g i cur e (0, 0) hg] at this
    exact this
  have hs : xs.length ≤ cur.size := by
    have := (Array.getElem?_eq_some_iff.1 (hc (xs.length - 1) (by omega))).1
    omega
  have hw : (W.freeze ⟨g, cur.size, none⟩ 1).heap[g]? = some (.cells cur e (cur.size, cur.size + 1)) := by
    unfold World.freeze
    rw [if_neg (by decide)]
    simp only [Array.getElem?_modify, hg]
    simp
  have ho' : ∀ k, k ≠ g → (W.freeze ⟨g, cur.size, none⟩ 1).heap[k]? = W.heap[k]? := fun k hk => by
    unfold World.freeze
    rw [if_neg (by decide)]
    simp only [Array.getElem?_modify]
    rw [if_neg (fun e => hk e.symm)]
  have hsz : (W.freeze ⟨g, cur.size, none⟩ 1).heap.size = W.heap.size := by
    unfold World.freeze
    rw [if_neg (by decide)]
    simp
  have hgr : W.grownBy (W.freeze ⟨g, cur.size, none⟩ 1) (some g) := by
    refine ⟨?_, ?_, ?_, by omega, fun k _ hk => ho' k (fun e => hk (by rw [e]))⟩ <;> (unfold World.freeze; rw [if_neg (by decide)])
  have hrun : (execOp a.eval o).run P W = .ok (.value (.slice (some ⟨g, 0, none⟩) xs.length cap)) (W.freeze ⟨g, cur.size, none⟩ 1) := by
    have hsh : W.shape? g = some (e, cur.size) := by simp [World.shape?, hg]
    simp [execOp, ho, hx, convert, run_underlying ht, run_underlying he, markStringish, hsh, Result.andThen]
  refine Kd.event_run hgd hrun (h _ (.inr ⟨g, cap, cur, rfl, hr.2.1, hR.1 g rfl, hb, hw, hs, hr.2.2.2.1, hc⟩) (HB.grown hgr ?_ (fun j hj => ?_)) hgr)
  · omega
  · injection hj with hj
    omega
end

theorem laws_markByteS.callsZ (k : Nat) (P0_ : Nat → Prop) (u9000_ : Value) (l0 : List Int) (a1 : Int) (r1 : Int) (r2 : List Int) (w0 w : World) (hB : Below w0.heap.size w0 w) (ho0 : Zr 5 w w0.heap.size P0_ u9000_ l0) (h : laws_markByteS.f k l0 a1 = some (r1, r2)) :
  Calls Try.prog 14 #[u9000_, .int .i64 a1] w fun e w' => e = .returned (.int .i64 r1) ∧ Zr 5 w' w0.heap.size (fun k_ => (P0_ k_ ∨ w.heap.size ≤ k_)) u9000_ r2 ∧ Below w0.heap.size w0 w' ∧ Kept w w' (fun k_ => P0_ k_) := by
 have HO0 := ak (show Zr 5 w w0.heap.size (fun k_ => (P0_ k_ ∨ w.heap.size ≤ k_)) u9000_ l0 from Z_mono ho0 (fun k_ hk => (.inl hk)))
 have HK := ak (Kept.refl w (fun k_ => P0_ k_))
 have HW0 := ak hB.size
 have HB := ak hB
 clear hB
 have H : (laws_markByteS.l0 k l0 a1 0) = some (r1, r2) := h
 clear h
 have H' := ak H
 clear H
 go_enter Try.func14, Try.ntmps14
 go_wp2
 go_loopg [1, 5] k (fun kq v1 v5 w' => ∃ (x0_1 : List Int) (x1_1 : Int) (x5_1 : Int), v1 = .int .i64 x1_1 ∧ v5 = .int .i64 x5_1 ∧ Aside0 (laws_markByteS.l0 kq x0_1 x1_1 x5_1 = some (r1, r2)) ∧ Aside0 (kq ≤ k) ∧ Aside0 (Zr 5 w' w0.heap.size (fun k_ => (P0_ k_ ∨ w.heap.size ≤ k_)) u9000_ x0_1) ∧ Aside0 (Kept w w' (fun k_ => P0_ k_)) ∧ Aside0 (Below w0.heap.size w0 w'))
 case atStart => exact ⟨(l0), (a1), (0), o2, o2, H', ⟨Nat.le_refl _⟩, ⟨zw_ HO0.out⟩, ⟨by repeat (first | (with_reducible first | exact HK.out | apply Kept.alloc | apply Kept.drewN | apply Kept.drew) | exact HK.out)⟩, ⟨bw HB.out⟩⟩
 case round =>
  clear H'
  obtain ⟨x0_1, x1_1, x5_1, rfl, rfl, HA, HK1, HO_0, HK, HB⟩ := hrel
  cases gk with
  | zero => exact absurd HA.out (by simp [laws_markByteS.l0])
  | succ k1 =>
   have H := HA.out
   clear HA
   simp only [laws_markByteS.l0] at H
   replace H := ip H
   obtain ⟨c3b0, H⟩ | ⟨c3b0, H⟩ := H
   ·replace H := ipN H
    obtain ⟨c4b0, H⟩ := H
    obtain ⟨y101, hy101⟩ : ∃ y_ : List Int, y_ = (x0_1.set (x5_1 : Int).toNat ((x1_1) % 256)) := ⟨_, rfl⟩
    (try with_reducible replace H := bnS H)
    (try rw [← hy101] at H)
    have Ny101 := ak hy101
    clear hy101
    have H' := ak H
    clear H
    obtain ⟨Ao6, co6, eo6⟩ := Z_slice HO_0.out
    subst eo6
    have p5 : 0 ≤ (x5_1 : Int) := of_decide_eq_true (by first | (with_reducible assumption) | assumption)
    have q5 : (x5_1 : Int) < ((x0_1.length : Int) : Int) := of_decide_eq_true (by first | (with_reducible assumption) | assumption)
    obtain ⟨go5, co5, eo5, gb5, gl5, cl5, fr5, HG5⟩ := Z_form HO_0.out (by omega)
    (first | cases eo5 | (injection eo5 with ea_ en_ ec_; (first | subst ea_ | (injection ea_ with ea_; subst ea_)); subst ec_; clear en_))
    have GB5 := ak gb5
    have GG5 := ak HG5
    clear gb5 gl5 HG5
    have HMgo5 := ak (show (P0_ go5 ∨ w.heap.size ≤ go5) from (Z_ok HO_0.out _ rfl))
    obtain ⟨hx5_0, hf5_0⟩ := Z_celln 0 HO_0.out (x5_1 : Int) p5 q5
    replace p5 := eq_true p5
    replace q5 := eq_true q5
    have HP7 := Z_putg HO_0.out (x5_1 : Int) ((x1_1) % 256)
    go_wp2_with (((with_reducible refine gate_store (t := 5) (p := 16) rfl ?_);refine store_event (t := 5) (p := 16) (v := ?vo_w8) (w1 := (wr.setCell ⟨go5, (x5_1 : Int).toNat, none⟩ (.int .u8 ((x1_1) % 256)))) ?hg ?ho ?hn ?hr ?_;(case ho => rfl);(case hg => rfl);(case hn => rfl);(case hr => first | (go_simp; done) | (go_simp; rfl));intro w8 hw;have hg : wr.grownBy w8 (some go5) := (by rw [hw]; exact HP7.2);have hp_ : Zr 5 w8 w0.heap.size (fun k_ => (P0_ k_ ∨ w.heap.size ≤ k_)) (.slice (some ⟨go5, 0, none⟩) x0_1.length co6) y101 := (by rw [hw, Ny101.out]; exact HP7.1);clear HP7;replace HB := ak ((by rw [hw]; exact below_set (HB.out) GB5.out : Below w0.heap.size w0 w8));replace HK := ak (Kept.of_grown (S := (fun k_ => P0_ k_)) hg (by repeat (first | (with_reducible first | exact HK.out | apply Kept.alloc | apply Kept.drewN | apply Kept.drew) | exact HK.out)) (fun k_ e_ => (Z_ok HO_0.out k_ e_)));replace HO_0 := ak (hp_);clear hg hw hp_))
    go_roundg k1
    case measure => have := HK1.out; omega
    case rel => exact ⟨(y101), (wrap64 (x1_1 + 1)), (wrap64 (x5_1 + 1)), o2, o2, H', ⟨by have := HK1.out; omega⟩, ⟨zw_ HO_0.out⟩, ⟨by repeat (first | (with_reducible first | exact HK.out | apply Kept.alloc | apply Kept.drewN | apply Kept.drew) | exact HK.out)⟩, ⟨bw HB.out⟩⟩
   ·simp only [Option.some.injEq, Prod.mk.injEq] at H
    obtain ⟨rfl, rfl⟩ := H
    obtain ⟨Ao9, co9, eo9⟩ := Z_slice HO_0.out
    subst eo9
    go_wp2
    go_ret
    exact ⟨o1, zw_ HO_0.out, bw HB.out, by repeat (first | (with_reducible first | exact HK.out | apply Kept.alloc | apply Kept.drewN | apply Kept.drew) | exact HK.out)⟩

/-! ### laws_szByteS: function 46 -/
def laws_szByteS.f (l0 : List Int) (a1 : Int) : Option (Int) := if (wrap64 (a1 - (l0.length : Int))) < 0 then (some (-1)) else (some (wrap64 (a1 - (l0.length : Int))))
set_option maxHeartbeats 8000000 in
set_option maxRecDepth 100000 in
theorem laws_szByteS.calls (A0 : Option Addr) (c0 : Nat) (l0 : List Int) (a1 : Int) (r : Int) (w : World) (hr0 : Kd.C (Kd.int .u8) w A0 l0.length l0) (hc0 : l0.length ≤ c0) (h : laws_szByteS.f l0 a1 = some r) :
  Calls Try.prog 46 #[.slice A0 l0.length c0, .int .i64 a1] w fun e w' => e = .returned (.int .i64 r) ∧ Drawn0 w w' := by
 have HR0 := ak hr0
 have HC0 := ak hc0
 clear hr0 hc0
 have H : (if (wrap64 (a1 - (l0.length : Int))) < 0 then (some (-1)) else (some (wrap64 (a1 - (l0.length : Int))))) = some r := h
 clear h
 replace H := ip H
 obtain ⟨c3b0, H⟩ | ⟨c3b0, H⟩ := H
 ·obtain rfl := Option.some.inj H
  go_enter Try.func46, Try.ntmps46
  go_wp2
  go_ret
  exact ⟨o2, od⟩
 ·obtain rfl := Option.some.inj H
  go_enter Try.func46, Try.ntmps46
  go_wp2
  go_ret
  exact ⟨o2, od⟩

/-! ### laws_szByteSS: function 25 -/
def laws_szByteSS.l0 : Nat → List (List Int) → Int → Int → Option (Int)
 | 0, _, _, _ => none
 | k + 1, x0, x1, x5 => if x5 < (x0.length : Int) then (if 0 ≤ x5 then ((laws_szByteS.f (rd_L10 x0 x5) x1).bind fun t102 => (if t102 < 0 then (some (-1)) else (laws_szByteSS.l0 k x0 t102 (wrap64 (x5 + 1))))) else (none)) else (some x1)
def laws_szByteSS.f (k : Nat) (l0 : List (List Int)) (a1 : Int) : Option (Int) := if (wrap64 (a1 - (l0.length : Int))) < 0 then (some (-1)) else (laws_szByteSS.l0 k l0 (wrap64 (a1 - (l0.length : Int))) 0)
set_option maxHeartbeats 8000000 in
set_option maxRecDepth 100000 in
theorem laws_szByteSS.calls (k : Nat) (A0 : Option Addr) (c0 : Nat) (l0 : List (List Int)) (a1 : Int) (r : Int) (w : World) (hr0 : Kd.C (Kd.slice 5 (Kd.int .u8)) w A0 l0.length l0) (hc0 : l0.length ≤ c0) (h : laws_szByteSS.f k l0 a1 = some r) :
  Calls Try.prog 25 #[.slice A0 l0.length c0, .int .i64 a1] w fun e w' => e = .returned (.int .i64 r) ∧ Drawn0 w w' := by
 have HR0 := ak hr0
 have HC0 := ak hc0
 clear hr0 hc0
 have H : (if (wrap64 (a1 - (l0.length : Int))) < 0 then (some (-1)) else (laws_szByteSS.l0 k l0 (wrap64 (a1 - (l0.length : Int))) 0)) = some r := h
 clear h
 replace H := ip H
 obtain ⟨c3b0, H⟩ | ⟨c3b0, H⟩ := H
 ·obtain rfl := Option.some.inj H
  go_enter Try.func25, Try.ntmps25
  go_wp2
  go_ret
  exact ⟨o2, od⟩
 ·have H' := ak H
  clear H
  go_enter Try.func25, Try.ntmps25
  go_wp2
  go_loopg [1, 5] k (fun kq v1 v5 w' => ∃ (x1_1 : Int) (x5_1 : Int), v1 = .int .i64 x1_1 ∧ v5 = .int .i64 x5_1 ∧ Aside0 (laws_szByteSS.l0 kq l0 x1_1 x5_1 = some r) ∧ Aside0 (kq ≤ k) ∧ Drawn0 w w')
  case atStart => exact ⟨(wrap64 (a1 - (l0.length : Int))), (0), o2, o2, H', ⟨Nat.le_refl _⟩, od⟩
  case round =>
   clear H'
   (try clear c3b0)
   obtain ⟨x1_1, x5_1, rfl, rfl, HA, HK1, ⟨m1, rfl⟩⟩ := hrel
   cases gk with
   | zero => exact absurd HA.out (by simp [laws_szByteSS.l0])
   | succ k1 =>
    have H := HA.out
    clear HA
    simp only [laws_szByteSS.l0] at H
    replace H := ip H
    obtain ⟨c4b0, H⟩ | ⟨c4b0, H⟩ := H
    ·replace H := ipN H
     obtain ⟨c5b0, H⟩ := H
     replace H := bnd H
     obtain ⟨t102, A6, H⟩ := H
     replace H := ip H
     obtain ⟨c7b0, H⟩ | ⟨c7b0, H⟩ := H
     ·obtain rfl := Option.some.inj H
      obtain ⟨ad101, A101_0, c101_0, rfl, hx101_0, HC101_0, HR101_0, p101, q101⟩ := el0_L10 HR0 x5_1
      go_wp2_with (((with_reducible refine gate_callee (f := 46) rfl ?_);refine glD 23 rfl rfl Try.func46 (laws_szByteS.calls _ _ (rd_L10 l0 x5_1) x1_1 t102 _ (cd HR101_0) HC101_0.out A6.out) (fun nd => ?_)))
      go_ret
      exact ⟨o2, od⟩
     ·have H' := ak H
      clear H
      obtain ⟨ad101, A101_0, c101_0, rfl, hx101_0, HC101_0, HR101_0, p101, q101⟩ := el0_L10 HR0 x5_1
      go_wp2_with (((with_reducible refine gate_callee (f := 46) rfl ?_);refine glD 23 rfl rfl Try.func46 (laws_szByteS.calls _ _ (rd_L10 l0 x5_1) x1_1 t102 _ (cd HR101_0) HC101_0.out A6.out) (fun nd => ?_)))
      go_roundg k1
      case measure => have := HK1.out; omega
      case rel => exact ⟨(t102), (wrap64 (x5_1 + 1)), o2, o2, H', ⟨by have := HK1.out; omega⟩, od⟩
    ·obtain rfl := Option.some.inj H
     go_wp2
     go_ret
     exact ⟨o2, od⟩

/-! ### laws_szName: function 7 -/
def laws_szName.f (k : Nat) (l0_0 : List (List Int)) (a1 : Int) : Option (Int) := (laws_szByteSS.f k l0_0 a1).bind fun t102 => (if t102 < 0 then (some (-1)) else (some t102))
set_option maxHeartbeats 8000000 in
set_option maxRecDepth 100000 in
theorem laws_szName.calls (k : Nat) (A0_0 : Option Addr) (c0_0 : Nat) (l0_0 : List (List Int)) (a1 : Int) (r : Int) (w : World) (hr0_0 : Kd.C (Kd.slice 5 (Kd.int .u8)) w A0_0 l0_0.length l0_0) (hc0_0 : l0_0.length ≤ c0_0) (h : laws_szName.f k l0_0 a1 = some r) :
  Calls Try.prog 7 #[.agg #[.slice A0_0 l0_0.length c0_0], .int .i64 a1] w fun e w' => e = .returned (.int .i64 r) ∧ Below w.heap.size w w' := by
 have hu24 := Try.underlying24
 have HR0_0 := ak hr0_0
 have HC0_0 := ak hc0_0
 clear hr0_0 hc0_0
 have HB := ak (Below.refl w.heap.size w)
 have H : ((laws_szByteSS.f k l0_0 a1).bind fun t102 => (if t102 < 0 then (some (-1)) else (some t102))) = some r := h
 clear h
 replace H := bnd H
 obtain ⟨t102, A3, H⟩ := H
 replace H := ip H
 obtain ⟨c4b0, H⟩ | ⟨c4b0, H⟩ := H
 ·obtain rfl := Option.some.inj H
  go_enter Try.func7, Try.ntmps7
  go_wp2_with (first | ((with_reducible refine gate_dst (N := 2) rfl ?_);refine bxd (N := 2) rfl HB ?_;clear HB;intro gb101 w5 hg HB BK101 GE101 hb;have GW101 := GE101;clear hb hg;obtain ⟨hcz6_0, hfz6_0⟩ := cells1 BK101.out) | ((with_reducible refine gate_callee (f := 25) rfl ?_);refine glD 8 rfl rfl Try.func25 (laws_szByteSS.calls k _ _ l0_0 a1 t102 _ (cv HR0_0 HB) HC0_0.out A3.out) (fun nd => ?_)))
  go_ret
  exact ⟨o1, bs⟩
 ·obtain rfl := Option.some.inj H
  go_enter Try.func7, Try.ntmps7
  go_wp2_with (first | ((with_reducible refine gate_dst (N := 2) rfl ?_);refine bxd (N := 2) rfl HB ?_;clear HB;intro gb101 w7 hg HB BK101 GE101 hb;have GW101 := GE101;clear hb hg;obtain ⟨hcz8_0, hfz8_0⟩ := cells1 BK101.out) | ((with_reducible refine gate_callee (f := 25) rfl ?_);refine glD 8 rfl rfl Try.func25 (laws_szByteSS.calls k _ _ l0_0 a1 t102 _ (cv HR0_0 HB) HC0_0.out A3.out) (fun nd => ?_)))
  go_ret
  exact ⟨o1, bs⟩

/-! ### spec_LabelOk: function 47 -/
mutual
def spec_LabelOk.j0 : Nat → List Int → Bool → Option (Bool)
 | 0, _, _ => none
 | k + 1, x0, x11 => if x11 = true then (some false) else (spec_LabelOk.l0 k x0 0)
def spec_LabelOk.l0 : Nat → List Int → Int → Option (Bool)
 | 0, _, _ => none
 | k + 1, x0, x3 => if x3 < (x0.length : Int) then (if 0 ≤ x3 then (if (rd x0 x3) ≥ 97 then (if ((rd x0 x3) ≤ 122) then (spec_LabelOk.l0 k x0 (wrap64 (x3 + 1))) else (if (rd x0 x3) ≥ 48 then (if ((rd x0 x3) ≤ 57) then (spec_LabelOk.l0 k x0 (wrap64 (x3 + 1))) else (if (rd x0 x3) = 45 then (spec_LabelOk.l0 k x0 (wrap64 (x3 + 1))) else (some false))) else (if (rd x0 x3) = 45 then (spec_LabelOk.l0 k x0 (wrap64 (x3 + 1))) else (some false)))) else (if (rd x0 x3) ≥ 48 then (if ((rd x0 x3) ≤ 57) then (spec_LabelOk.l0 k x0 (wrap64 (x3 + 1))) else (if (rd x0 x3) = 45 then (spec_LabelOk.l0 k x0 (wrap64 (x3 + 1))) else (some false))) else (if (rd x0 x3) = 45 then (spec_LabelOk.l0 k x0 (wrap64 (x3 + 1))) else (some false)))) else (none)) else (some true)
end
def spec_LabelOk.f (k : Nat) (l0 : List Int) : Option (Bool) := if (l0.length : Int) < 1 then (spec_LabelOk.j0 k l0 true) else (spec_LabelOk.j0 k l0 (decide ((l0.length : Int) > 15)))
set_option maxHeartbeats 8000000 in
set_option maxRecDepth 100000 in
theorem spec_LabelOk.calls (k : Nat) (A0 : Option Addr) (c0 : Nat) (l0 : List Int) (r : Bool) (w : World) (hr0 : Kd.C (Kd.int .u8) w A0 l0.length l0) (hc0 : l0.length ≤ c0) (h : spec_LabelOk.f k l0 = some r) :
  Calls Try.prog 47 #[.slice A0 l0.length c0] w fun e w' => e = .returned (.bool r) ∧ Drawn0 w w' := by
 have HR0 := ak hr0
 have HC0 := ak hc0
 clear hr0 hc0
 have H : (if (l0.length : Int) < 1 then (spec_LabelOk.j0 k l0 true) else (spec_LabelOk.j0 k l0 (decide ((l0.length : Int) > 15)))) = some r := h
 clear h
 have HC2 := ak H
 clear H
 go_enter Try.func47, Try.ntmps47
 go_upto_region 1 with (fail)
 go_cut [11] (fun v11 wc => ∃ (kq : Nat) (x11_1 : Bool), v11 = .bool x11_1 ∧ Aside0 (spec_LabelOk.j0 kq l0 x11_1 = some r) ∧ Aside0 (kq ≤ k) ∧ Drawn0 w wc)
 case first =>
  have H := HC2.out
  clear HC2
  replace H := ip H
  obtain ⟨c3b0, H⟩ | ⟨c3b0, H⟩ := H
  ·have c3b1 : decide (l0.length < 1) = true := decide_eq_true (by have := of_decide_eq_true c3b0; omega)
   (first | rw [c3b0] | (simp only [i64_w, i32_w]; rw [c3b0]) | skip)
   have H' := ak H
   clear H
   go_wp2
   go_meet
   case rel => exact ⟨_, (true), o2, H', ⟨o3⟩, od⟩
  ·have c3b1 : decide (l0.length < 1) = false := decide_eq_false (by have := of_decide_eq_false c3b0; omega)
   (first | rw [c3b0] | (simp only [i64_w, i32_w]; rw [c3b0]) | skip)
   have H' := ak H
   clear H
   go_wp2
   go_meet
   case rel => exact ⟨_, (decide ((l0.length : Int) > 15)), o2, H', ⟨o3⟩, od⟩
 case rest =>
  clear HC2
  obtain ⟨kq, x11_1, rfl, HA, HJ1, ⟨mc1, rfl⟩⟩ := hcut
  cases kq with
  | zero => exact absurd HA.out (by simp [spec_LabelOk.j0])
  | succ kj1 =>
   have H := HA.out
   clear HA
   simp only [spec_LabelOk.j0] at H
   replace H := ib H
   obtain ⟨rfl, H⟩ | ⟨rfl, H⟩ := H
   ·obtain rfl := Option.some.inj H
    go_wp2
    go_ret
    exact ⟨o2, od⟩
   ·have H' := ak H
    clear H
    go_wp2
    go_loopg [3] kj1 (fun kq v3 w' => ∃ (x3_2 : Int), v3 = .int .i64 x3_2 ∧ Aside0 (spec_LabelOk.l0 kq l0 x3_2 = some r) ∧ Aside0 (kq ≤ kj1) ∧ Drawn0 w w')
    case atStart => exact ⟨(0), o2, H', ⟨Nat.le_refl _⟩, od⟩
    case round =>
     clear H'
     obtain ⟨x3_2, rfl, HA, HK2, ⟨m2, rfl⟩⟩ := hrel
     cases gk with
     | zero => exact absurd HA.out (by simp [spec_LabelOk.l0])
     | succ k2 =>
      have H := HA.out
      clear HA
      simp only [spec_LabelOk.l0] at H
      replace H := ip H
      obtain ⟨c5b0, H⟩ | ⟨c5b0, H⟩ := H
      ·replace H := ipN H
       obtain ⟨c6b0, H⟩ := H
       replace H := ih H
       obtain ⟨c7b0, H⟩ | ⟨c7b0, H⟩ := H
       ·replace H := ip H
        obtain ⟨c8b0, H⟩ | ⟨c8b0, H⟩ := H
        ·have H' := ak H
         clear H
         obtain ⟨ad101, rfl, hx101_0, p101, q101⟩ := el0_int HR0 x3_2
         obtain ⟨hx102_0, p102, q102⟩ := el20_int HR0 x3_2
         go_wp2
         go_roundg k2
         case measure => have := HJ1.out; have := HK2.out; omega
         case rel => exact ⟨(wrap64 (x3_2 + 1)), o2, H', ⟨by have := HJ1.out; have := HK2.out; omega⟩, od⟩
        ·replace H := ih H
         obtain ⟨c9b0, H⟩ | ⟨c9b0, H⟩ := H
         ·replace H := ip H
          obtain ⟨c10b0, H⟩ | ⟨c10b0, H⟩ := H
          ·have H' := ak H
           clear H
           obtain ⟨ad101, rfl, hx101_0, p101, q101⟩ := el0_int HR0 x3_2
           obtain ⟨hx102_0, p102, q102⟩ := el20_int HR0 x3_2
           obtain ⟨hx103_0, p103, q103⟩ := el20_int HR0 x3_2
           obtain ⟨hx104_0, p104, q104⟩ := el20_int HR0 x3_2
           go_wp2
           go_roundg k2
           case measure => have := HJ1.out; have := HK2.out; omega
           case rel => exact ⟨(wrap64 (x3_2 + 1)), o2, H', ⟨by have := HJ1.out; have := HK2.out; omega⟩, od⟩
          ·replace H := ie H
           obtain ⟨c11b0, c11b1, H⟩ | ⟨c11b0, c11b1, H⟩ := H
           ·have H' := ak H
            clear H
            obtain ⟨ad101, rfl, hx101_0, p101, q101⟩ := el0_int HR0 x3_2
            obtain ⟨hx102_0, p102, q102⟩ := el20_int HR0 x3_2
            obtain ⟨hx103_0, p103, q103⟩ := el20_int HR0 x3_2
            obtain ⟨hx104_0, p104, q104⟩ := el20_int HR0 x3_2
            obtain ⟨hx105_0, p105, q105⟩ := el20_int HR0 x3_2
            go_wp2
            go_roundg k2
            case measure => have := HJ1.out; have := HK2.out; omega
            case rel => exact ⟨(wrap64 (x3_2 + 1)), o2, H', ⟨by have := HJ1.out; have := HK2.out; omega⟩, od⟩
           ·obtain rfl := Option.some.inj H
            obtain ⟨ad101, rfl, hx101_0, p101, q101⟩ := el0_int HR0 x3_2
            obtain ⟨hx102_0, p102, q102⟩ := el20_int HR0 x3_2
            obtain ⟨hx103_0, p103, q103⟩ := el20_int HR0 x3_2
            obtain ⟨hx104_0, p104, q104⟩ := el20_int HR0 x3_2
            obtain ⟨hx105_0, p105, q105⟩ := el20_int HR0 x3_2
            go_wp2
            go_ret
            exact ⟨o2, od⟩
         ·replace H := ie H
          obtain ⟨c12b0, c12b1, H⟩ | ⟨c12b0, c12b1, H⟩ := H
          ·have H' := ak H
           clear H
           obtain ⟨ad101, rfl, hx101_0, p101, q101⟩ := el0_int HR0 x3_2
           obtain ⟨hx102_0, p102, q102⟩ := el20_int HR0 x3_2
           obtain ⟨hx103_0, p103, q103⟩ := el20_int HR0 x3_2
           obtain ⟨hx106_0, p106, q106⟩ := el20_int HR0 x3_2
           go_wp2
           go_roundg k2
           case measure => have := HJ1.out; have := HK2.out; omega
           case rel => exact ⟨(wrap64 (x3_2 + 1)), o2, H', ⟨by have := HJ1.out; have := HK2.out; omega⟩, od⟩
          ·obtain rfl := Option.some.inj H
           obtain ⟨ad101, rfl, hx101_0, p101, q101⟩ := el0_int HR0 x3_2
           obtain ⟨hx102_0, p102, q102⟩ := el20_int HR0 x3_2
           obtain ⟨hx103_0, p103, q103⟩ := el20_int HR0 x3_2
           obtain ⟨hx106_0, p106, q106⟩ := el20_int HR0 x3_2
           go_wp2
           go_ret
           exact ⟨o2, od⟩
       ·replace H := ih H
        obtain ⟨c13b0, H⟩ | ⟨c13b0, H⟩ := H
        ·replace H := ip H
         obtain ⟨c14b0, H⟩ | ⟨c14b0, H⟩ := H
         ·have H' := ak H
          clear H
          obtain ⟨ad101, rfl, hx101_0, p101, q101⟩ := el0_int HR0 x3_2
          obtain ⟨hx107_0, p107, q107⟩ := el20_int HR0 x3_2
          obtain ⟨hx108_0, p108, q108⟩ := el20_int HR0 x3_2
          go_wp2
          go_roundg k2
          case measure => have := HJ1.out; have := HK2.out; omega
          case rel => exact ⟨(wrap64 (x3_2 + 1)), o2, H', ⟨by have := HJ1.out; have := HK2.out; omega⟩, od⟩
         ·replace H := ie H
          obtain ⟨c15b0, c15b1, H⟩ | ⟨c15b0, c15b1, H⟩ := H
          ·have H' := ak H
           clear H
           obtain ⟨ad101, rfl, hx101_0, p101, q101⟩ := el0_int HR0 x3_2
           obtain ⟨hx107_0, p107, q107⟩ := el20_int HR0 x3_2
           obtain ⟨hx108_0, p108, q108⟩ := el20_int HR0 x3_2
           obtain ⟨hx109_0, p109, q109⟩ := el20_int HR0 x3_2
           go_wp2
           go_roundg k2
           case measure => have := HJ1.out; have := HK2.out; omega
           case rel => exact ⟨(wrap64 (x3_2 + 1)), o2, H', ⟨by have := HJ1.out; have := HK2.out; omega⟩, od⟩
          ·obtain rfl := Option.some.inj H
           obtain ⟨ad101, rfl, hx101_0, p101, q101⟩ := el0_int HR0 x3_2
           obtain ⟨hx107_0, p107, q107⟩ := el20_int HR0 x3_2
           obtain ⟨hx108_0, p108, q108⟩ := el20_int HR0 x3_2
           obtain ⟨hx109_0, p109, q109⟩ := el20_int HR0 x3_2
           go_wp2
           go_ret
           exact ⟨o2, od⟩
        ·replace H := ie H
         obtain ⟨c16b0, c16b1, H⟩ | ⟨c16b0, c16b1, H⟩ := H
         ·have H' := ak H
          clear H
          obtain ⟨ad101, rfl, hx101_0, p101, q101⟩ := el0_int HR0 x3_2
          obtain ⟨hx107_0, p107, q107⟩ := el20_int HR0 x3_2
          obtain ⟨hx110_0, p110, q110⟩ := el20_int HR0 x3_2
          go_wp2
          go_roundg k2
          case measure => have := HJ1.out; have := HK2.out; omega
          case rel => exact ⟨(wrap64 (x3_2 + 1)), o2, H', ⟨by have := HJ1.out; have := HK2.out; omega⟩, od⟩
         ·obtain rfl := Option.some.inj H
          obtain ⟨ad101, rfl, hx101_0, p101, q101⟩ := el0_int HR0 x3_2
          obtain ⟨hx107_0, p107, q107⟩ := el20_int HR0 x3_2
          obtain ⟨hx110_0, p110, q110⟩ := el20_int HR0 x3_2
          go_wp2
          go_ret
          exact ⟨o2, od⟩
      ·obtain rfl := Option.some.inj H
       go_wp2
       go_ret
       exact ⟨o2, od⟩

/-! ### spec_NameOk: function 26 -/
def spec_NameOk.l0 : Nat → Int → List (List Int) → Option (Bool)
 | 0, _, _ => none
 | k + 1, x3, x102000 => if x3 < (x102000.length : Int) then (if 0 ≤ x3 then ((spec_LabelOk.f k (rd_L10 x102000 x3)).bind fun t103 => (if t103 = true then (spec_NameOk.l0 k (wrap64 (x3 + 1)) x102000) else (some false))) else (none)) else (some true)
def spec_NameOk.f (k : Nat) (l0_0 : List (List Int)) : Option (Bool) := if (l0_0.length : Int) > 6 then (some false) else (spec_NameOk.l0 k 0 l0_0)
set_option maxHeartbeats 8000000 in
set_option maxRecDepth 100000 in
theorem spec_NameOk.calls (k : Nat) (A0_0 : Option Addr) (c0_0 : Nat) (l0_0 : List (List Int)) (r : Bool) (w : World) (hr0_0 : Kd.C (Kd.slice 5 (Kd.int .u8)) w A0_0 l0_0.length l0_0) (hc0_0 : l0_0.length ≤ c0_0) (h : spec_NameOk.f k l0_0 = some r) :
  Calls Try.prog 26 #[.agg #[.slice A0_0 l0_0.length c0_0]] w fun e w' => e = .returned (.bool r) ∧ Below w.heap.size w w' := by
 have hu28 := Try.underlying28
 have HR0_0 := ak hr0_0
 have HC0_0 := ak hc0_0
 clear hr0_0 hc0_0
 have HB := ak (Below.refl w.heap.size w)
 have H : (if (l0_0.length : Int) > 6 then (some false) else (spec_NameOk.l0 k 0 l0_0)) = some r := h
 clear h
 replace H := ig H
 obtain ⟨c2b0, H⟩ | ⟨c2b0, H⟩ := H
 ·have c2b1 : decide (6 < l0_0.length) = true := decide_eq_true (by have := of_decide_eq_true c2b0; omega)
  obtain rfl := Option.some.inj H
  go_enter Try.func26, Try.ntmps26
  go_wp2_with (((with_reducible refine gate_dst (N := 1) rfl ?_);refine bxd (N := 1) rfl HB ?_;clear HB;intro gb101 w3 hg HB BK101 GE101 hb;have GW101 := GE101;clear hb hg;obtain ⟨hcz4_0, hfz4_0⟩ := cells1 BK101.out))
  go_ret
  exact ⟨o1, bs⟩
 ·have c2b1 : decide (6 < l0_0.length) = false := decide_eq_false (by have := of_decide_eq_false c2b0; omega)
  have H' := ak H
  clear H
  go_enter Try.func26, Try.ntmps26
  go_wp2_with (((with_reducible refine gate_dst (N := 1) rfl ?_);refine bxd (N := 1) rfl HB ?_;clear HB;intro gb101 w5 hg HB BK101 GE101 hb;have GW101 := GE101;clear hb hg;obtain ⟨hcz6_0, hfz6_0⟩ := cells1 BK101.out))
  go_loopg [3] k (fun kq v3 w' => ∃ (x3_1 : Int), v3 = .int .i64 x3_1 ∧ Aside0 (spec_NameOk.l0 kq x3_1 l0_0 = some r) ∧ Aside0 (kq ≤ k) ∧ Aside0 (w'.heap[gb101]? = some (.cells #[(.slice A0_0 l0_0.length c0_0)] 28 (0, 0))) ∧ Aside0 (Below w.heap.size w w'))
  case atStart => exact ⟨(0), o2, H', ⟨Nat.le_refl _⟩, ⟨bk BK101.out⟩, ⟨bs⟩⟩
  case round =>
   clear H'
   (try clear c2b0)
   (try clear c2b1)
   (try clear hcz6_0)
   (try clear hfz6_0)
   obtain ⟨x3_1, rfl, HA, HK1, BK101, HB⟩ := hrel
   cases gk with
   | zero => exact absurd HA.out (by simp [spec_NameOk.l0])
   | succ k1 =>
    have H := HA.out
    clear HA
    simp only [spec_NameOk.l0] at H
    replace H := ip H
    obtain ⟨c7b0, H⟩ | ⟨c7b0, H⟩ := H
    ·replace H := ipN H
     obtain ⟨c8b0, H⟩ := H
     replace H := bnd H
     obtain ⟨t103, A9, H⟩ := H
     replace H := ib H
     obtain ⟨rfl, H⟩ | ⟨rfl, H⟩ := H
     ·have H' := ak H
      clear H
      obtain ⟨hcz11_0, hfz11_0⟩ := cells1 BK101.out
      obtain ⟨ad102, A102_0, c102_0, rfl, hx102_0, HC102_0, HR102_0, p102, q102⟩ := el_L10 HR0_0 HB x3_1
      go_wp2_with (((with_reducible refine gate_callee (f := 47) rfl ?_);refine glD 20 rfl rfl Try.func47 (spec_LabelOk.calls k1 _ _ (rd_L10 l0_0 x3_1) true _ (cv HR102_0 HB) HC102_0.out A9.out) (fun nd => ?_)))
      go_roundg k1
      case measure => have := HK1.out; omega
      case rel => exact ⟨(wrap64 (x3_1 + 1)), o2, H', ⟨by have := HK1.out; omega⟩, ⟨bk BK101.out⟩, ⟨bs⟩⟩
     ·obtain rfl := Option.some.inj H
      obtain ⟨hcz12_0, hfz12_0⟩ := cells1 BK101.out
      obtain ⟨ad102, A102_0, c102_0, rfl, hx102_0, HC102_0, HR102_0, p102, q102⟩ := el_L10 HR0_0 HB x3_1
      go_wp2_with (((with_reducible refine gate_callee (f := 47) rfl ?_);refine glD 20 rfl rfl Try.func47 (spec_LabelOk.calls k1 _ _ (rd_L10 l0_0 x3_1) false _ (cv HR102_0 HB) HC102_0.out A9.out) (fun nd => ?_)))
      go_ret
      exact ⟨o1, bs⟩
    ·obtain rfl := Option.some.inj H
     obtain ⟨hcz13_0, hfz13_0⟩ := cells1 BK101.out
     go_wp2
     go_ret
     exact ⟨o1, bs⟩

/-! ### spec_l2text: function 27 -/
def spec_l2text.l0 : Nat → List Int → Int → List (List Int) → Option (List Int)
 | 0, _, _, _ => none
 | k + 1, x3, x4, x102000 => if x4 < (x102000.length : Int) then (if 0 ≤ x4 then (if x3.length + (rd_L10 x102000 x4).length < 140737488355328 then ((some (x3 ++ (rd_L10 x102000 x4) : List Int)).bind fun y106 => (if y106.length < 140737488355328 then (spec_l2text.l0 k (y106 ++ [46]) (wrap64 (x4 + 1)) x102000) else (none))) else (none)) else (none)) else (some x3)
def spec_l2text.f (k : Nat) (l0_0 : List (List Int)) : Option (List Int) := if (l0_0.length : Int) = 0 then (some (([46] : List Int))) else (spec_l2text.l0 k ([] : List Int) 0 l0_0)
set_option maxHeartbeats 8000000 in
set_option maxRecDepth 100000 in
theorem spec_l2text.calls (k : Nat) (A0_0 : Option Addr) (c0_0 : Nat) (l0_0 : List (List Int)) (r : List Int) (w : World) (hr0_0 : Kd.C (Kd.slice 5 (Kd.int .u8)) w A0_0 l0_0.length l0_0) (hc0_0 : l0_0.length ≤ c0_0) (h : spec_l2text.f k l0_0 = some r) :
  Calls Try.prog 27 #[.agg #[.slice A0_0 l0_0.length c0_0]] w fun e w' => ∃ v0_ : Value, e = .returned (v0_) ∧ Zr 5 w' w.heap.size (fun _ => True) v0_ r ∧ Below w.heap.size w w' := by
 have hu28 := Try.underlying28
 have HR0_0 := ak hr0_0
 have HC0_0 := ak hc0_0
 clear hr0_0 hc0_0
 have HB := ak (Below.refl w.heap.size w)
 have H : (if (l0_0.length : Int) = 0 then (some (([46] : List Int))) else (spec_l2text.l0 k ([] : List Int) 0 l0_0)) = some r := h
 clear h
 replace H := ie H
 obtain ⟨c2b0, c2b1, H⟩ | ⟨c2b0, c2b1, H⟩ := H
 ·obtain ⟨y102, hy102⟩ : ∃ y_ : List Int, y_ = (([46] : List Int)) := ⟨_, rfl⟩
  (try with_reducible replace H := bnS H)
  (try rw [← hy102] at H)
  have Ny102 := ak hy102
  clear hy102
  obtain rfl := Option.some.inj H
  go_enter Try.func27, Try.ntmps27
  go_wp2_with (first | ((with_reducible refine gate_dst (N := 1) rfl ?_);refine bxd (N := 1) rfl HB ?_;clear HB;intro gb101 w3 hg HB BK101 GE101 hb;have GW101 := GE101;clear hb hg;obtain ⟨hcz4_0, hfz4_0⟩ := cells1 BK101.out) | ((with_reducible refine gate_dst (N := 9) rfl ?_);refine Kd.R_lit (Kd.int .u8) _ 5 ?hg (N := 9) ?hd (xs := ([46] : List Int)) (inner := [.int .u8 46]) (ok := fun _ => True) (okp := fun _ => True) ?hr ?hp (fun _ hk => hk) trivial (Below.refl _ _) (Nat.le_refl _) (by simp) ?_;(case hd => rfl);(case hg => rfl);(case hr => first | (go_simp; done) | (go_simp; rfl));(case hp => exact (Reps.one (show Kd.M (Kd.int .u8) _ _ _ 46 [.int .u8 46] from rfl) (Reps.none _ _)));intro v103 w5 ho6 hb hg_ hnew_;clear hg_ hnew_;(first | rw [← Ny102.out] at ho6 | (simp only [Int.reduceToNat] at ho6; rw [← Ny102.out] at ho6));have HO104 := ak (Kd.R_lower ho6 (below_size bs));replace BK101 := b1 BK101 hb;replace HB := b2s bs hb;clear hb ho6) | ((with_reducible refine gate_dst (N := 10) rfl ?_);refine Z_conv (N := 10) rfl rfl (.tmp 9) rfl Try.underlying26 Try.underlying5 rfl HO104.out (by rw [Ny102.out]; decide) bs ?_;intro w10_ hz_ hb_ hg_;replace BK101 := ak (blk_grown BK101.out hg_ (Kd.R_ne HO104.out BK101.out (by decide)));replace HB := ak hb_;have HZHO104 := ak hz_;clear hz_ hb_ hg_))
  go_ret
  exact ⟨_, o1, zw_ HZHO104.out, bs⟩
 ·have c2b2 : ¬ (l0_0 = []) := fun h_ => bne_iff_ne.mp c2b1 (by rw [h_]; rfl)
  have H' := ak H
  clear H
  go_enter Try.func27, Try.ntmps27
  go_wp2_with (((with_reducible refine gate_dst (N := 1) rfl ?_);refine bxd (N := 1) rfl HB ?_;clear HB;intro gb101 w7 hg HB BK101 GE101 hb;have GW101 := GE101;clear hb hg;obtain ⟨hcz8_0, hfz8_0⟩ := cells1 BK101.out))
  go_loopg [3, 4] k (fun kq v3 v4 w' => ∃ (x3_1 : List Int) (x4_1 : Int), v4 = .int .i64 x4_1 ∧ Aside0 (spec_l2text.l0 kq x3_1 x4_1 l0_0 = some r) ∧ Aside0 (kq ≤ k) ∧ Aside0 (Kd.R (Kd.int .u8) 5 w' w.heap.size (fun _ => True) v3 x3_1) ∧ Aside0 (w'.heap[gb101]? = some (.cells #[(.slice A0_0 l0_0.length c0_0)] 28 (0, 0))) ∧ Aside0 (Below w.heap.size w w'))
  case atStart => exact ⟨(([] : List Int)), (0), o2, H', ⟨Nat.le_refl _⟩, ⟨by first | exact Kd.R_nil _ _ _ _ _ | exact Kd.N_nil _ _ _ _ _ | exact Kd.V_nil _ _ _ _ _ | exact Kd.Q_nil _ _ _ _ _ | exact Kd.S_nil _ _ _ _ _⟩, ⟨bk BK101.out⟩, ⟨bs⟩⟩
  case round =>
   clear H'
   (try clear c2b0)
   (try clear c2b1)
   (try clear c2b2)
   (try clear hcz8_0)
   (try clear hfz8_0)
   obtain ⟨x3_1, x4_1, rfl, HA, HK1, HO_3, BK101, HB⟩ := hrel
   cases gk with
   | zero => exact absurd HA.out (by simp [spec_l2text.l0])
   | succ k1 =>
    have H := HA.out
    clear HA
    simp only [spec_l2text.l0] at H
    replace H := ip H
    obtain ⟨c9b0, H⟩ | ⟨c9b0, H⟩ := H
    ·replace H := ipN H
     obtain ⟨c10b0, H⟩ := H
     by_cases c11 : x3_1.length + (rd_L10 l0_0 x4_1).length < 140737488355328
     ·rw [if_pos c11] at H
      have LMc11 := ak c11
      clear c11
      obtain ⟨y106, hy106⟩ : ∃ y_ : List Int, y_ = (x3_1 ++ (rd_L10 l0_0 x4_1)) := ⟨_, rfl⟩
      (try with_reducible replace H := bnS H)
      (try rw [← hy106] at H)
      have Ny106 := ak hy106
      clear hy106
      by_cases c12 : y106.length < 140737488355328
      ·rw [if_pos c12] at H
       have LMc12 := ak c12
       clear c12
       obtain ⟨y109, hy109⟩ : ∃ y_ : List Int, y_ = (y106 ++ [46]) := ⟨_, rfl⟩
       (try with_reducible replace H := bnS H)
       (try rw [← hy109] at H)
       have Ny109 := ak hy109
       clear hy109
       have H' := ak H
       clear H
       obtain ⟨hcz13_0, hfz13_0⟩ := cells1 BK101.out
       obtain ⟨ad105, A105_0, c105_0, rfl, hx105_0, HC105_0, HR105_0, p105, q105⟩ := el_L10 HR0_0 HB x4_1
       go_wp2_with (first | ((with_reducible refine gate_builtin (b := .append) (xs := #[.tmp 18, .tmp 23]) rfl ?_);at_builtin;refine Kd.R_append_rows (Kd.int .u8) (w0 := w) w.heap.size rfl (.tmp 18) (.tmp 23) 26 5 (.int .u8 0) 1 rfl Try.underlying26 info5 rfl (by decide) (by omega) u3 x3_1 (rd_L10 l0_0 x4_1) _ _ _ (fun _ => True) (fun _ => False) rfl rfl ?aO ?aR (fun _ _ h => h) (fun _ h => h.elim) ?aF ?aB ?aS ?aL ?_;(case aR => exact cw HR105_0.out HB.out);(case aB => exact bs);(case aF => exact (fun _ _ => trivial));(case aO => exact (rw_ HO_3.out));(case aS => exact (below_size bs));(case aL => have := LMc11.out; omega);intro v107 w14 ho hb hg hat;rw [← Ny106.out] at ho;replace BK101 := ak (blk_grown (bk BK101.out) hg (Kd.R_ne HO_3.out BK101.out (by decide)));replace HB := ak (hb);have HO108 := ak (ho);clear HO_3;clear ho hb hg hat) | ((with_reducible refine gate_builtin (b := .append) (xs := #[.tmp 24, .tmp 25]) rfl ?_);at_builtin;refine Kd.R_append (Kd.int .u8) (w0 := w) w.heap.size rfl (.tmp 24) (.tmp 25) 26 5 (.int .u8 0) 1 rfl Try.underlying26 info5 rfl (by decide) (by omega) v107 y106 46 [.int .u8 46] (fun _ => True) (fun _ => False) rfl rfl ?aP (fun _ hk => hk.elim) ?aF ?aO ?aB ?aS ?aL ?_;(case aP => exact rfl);(case aB => exact bs);(case aF => exact (fun _ _ => trivial));(case aO => exact (rw_ HO108.out));(case aS => exact (below_size bs));(case aL => have := LMc12.out; omega);intro v110 w15 ho hb hg hat;rw [← Ny109.out] at ho;replace BK101 := ak (blk_grown (bk BK101.out) hg (Kd.R_ne HO108.out BK101.out (by decide)));replace HB := ak (hb);have HO111 := ak (ho);clear HO108;clear ho hb hg hat))
       go_roundg k1
       case measure => have := HK1.out; omega
       case rel => exact ⟨(y109), (wrap64 (x4_1 + 1)), o2, H', ⟨by have := HK1.out; omega⟩, ⟨rw_ HO111.out⟩, ⟨bk BK101.out⟩, ⟨bs⟩⟩
      ·rw [if_neg c12] at H
       exact absurd H (by simp)
     ·rw [if_neg c11] at H
      exact absurd H (by simp)
    ·obtain rfl := Option.some.inj H
     obtain ⟨hcz16_0, hfz16_0⟩ := cells1 BK101.out
     go_wp2
     go_ret
     exact ⟨_, o1, Z_of (rw_ HO_3.out), bs⟩

/-! ### spec_NameText: function 8 -/
def spec_NameText.f (k : Nat) (l0_0 : List (List Int)) : Option (List Int) := (spec_NameOk.f k l0_0).bind fun t102 => (if t102 = true then ((spec_l2text.f k l0_0).bind fun t103 => (some t103)) else (some ([] : List Int)))
set_option maxHeartbeats 8000000 in
set_option maxRecDepth 100000 in
theorem spec_NameText.calls (k : Nat) (A0_0 : Option Addr) (c0_0 : Nat) (l0_0 : List (List Int)) (r : List Int) (w : World) (hr0_0 : Kd.C (Kd.slice 5 (Kd.int .u8)) w A0_0 l0_0.length l0_0) (hc0_0 : l0_0.length ≤ c0_0) (h : spec_NameText.f k l0_0 = some r) :
  Calls Try.prog 8 #[.agg #[.slice A0_0 l0_0.length c0_0]] w fun e w' => ∃ v0_ : Value, e = .returned (v0_) ∧ Zr 5 w' w.heap.size (fun _ => True) v0_ r ∧ Below w.heap.size w w' := by
 have hu28 := Try.underlying28
 have HR0_0 := ak hr0_0
 have HC0_0 := ak hc0_0
 clear hr0_0 hc0_0
 have HB := ak (Below.refl w.heap.size w)
 have H : ((spec_NameOk.f k l0_0).bind fun t102 => (if t102 = true then ((spec_l2text.f k l0_0).bind fun t103 => (some t103)) else (some ([] : List Int)))) = some r := h
 clear h
 replace H := bnd H
 obtain ⟨t102, A2, H⟩ := H
 replace H := ib H
 obtain ⟨rfl, H⟩ | ⟨rfl, H⟩ := H
 ·replace H := bnd H
  obtain ⟨t103, A4, H⟩ := H
  obtain rfl := Option.some.inj H
  go_enter Try.func8, Try.ntmps8
  go_wp2_with (first | ((with_reducible refine gate_dst (N := 1) rfl ?_);refine bxd (N := 1) rfl HB ?_;clear HB;intro gb101 w5 hg HB BK101 GE101 hb;have GW101 := GE101;clear hb hg;obtain ⟨hcz6_0, hfz6_0⟩ := cells1 BK101.out) | ((with_reducible refine gate_callee (f := 26) rfl ?_);refine glB 4 rfl rfl Try.func26 (spec_NameOk.calls k _ _ l0_0 true _ (cv HR0_0 HB) HC0_0.out A2.out) (fun w7 hb => ?_);replace BK101 := b1 BK101 hb;replace HB := b2s bs hb;(try clear hb);obtain ⟨hcz8_0, hfz8_0⟩ := cells1 BK101.out) | ((with_reducible refine gate_callee (f := 27) rfl ?_);refine glG 7 rfl rfl Try.func27 (spec_l2text.calls k _ _ l0_0 t103 _ (cv HR0_0 HB) HC0_0.out A4.out) ?_;rintro e w9 ⟨v104, rfl, ho0, hb⟩;refine ⟨_, rfl, ?_⟩;have HO105 := ak (Z_lower ho0 (below_size bs));replace BK101 := b1 BK101 hb;replace HB := b2s bs hb;(try clear hb);(try clear ho0)))
  go_ret
  exact ⟨_, o1, zw_ HO105.out, bs⟩
 ·obtain rfl := Option.some.inj H
  go_enter Try.func8, Try.ntmps8
  go_wp2_with (first | ((with_reducible refine gate_dst (N := 1) rfl ?_);refine bxd (N := 1) rfl HB ?_;clear HB;intro gb101 w10 hg HB BK101 GE101 hb;have GW101 := GE101;clear hb hg;obtain ⟨hcz11_0, hfz11_0⟩ := cells1 BK101.out) | ((with_reducible refine gate_callee (f := 26) rfl ?_);refine glB 4 rfl rfl Try.func26 (spec_NameOk.calls k _ _ l0_0 false _ (cv HR0_0 HB) HC0_0.out A2.out) (fun w12 hb => ?_);replace BK101 := b1 BK101 hb;replace HB := b2s bs hb;(try clear hb)))
  go_ret
  exact ⟨_, o1, Z_of (Kd.R_nil _ _ _ _ _), bs⟩

/-! ### laws_toByteS: function 17 -/
def laws_toByteS.l0 : Nat → List Int → List Int → Int → Option (List Int)
 | 0, _, _, _ => none
 | k + 1, x0, x3, x4 => if x4 < (x0.length : Int) then (if 0 ≤ x4 then (if x4 < (x3.length : Int) then (laws_toByteS.l0 k x0 (x3.set (x4 : Int).toNat (rd x0 x4)) (wrap64 (x4 + 1))) else (none)) else (none)) else (some x3)
def laws_toByteS.f (k : Nat) (l0 : List Int) : Option (List Int) := if 0 ≤ (l0.length : Int) then (if ((l0.length : Int) : Int).toNat ≤ 281474976710656 then (laws_toByteS.l0 k l0 (List.replicate ((l0.length : Int) : Int).toNat 0) 0) else (none)) else (none)
set_option maxHeartbeats 8000000 in
set_option maxRecDepth 100000 in
theorem laws_toByteS.calls (k : Nat) (A0 : Option Addr) (c0 : Nat) (l0 : List Int) (r : List Int) (w : World) (hr0 : Kd.C (Kd.int .u8) w A0 l0.length l0) (hc0 : l0.length ≤ c0) (h : laws_toByteS.f k l0 = some r) :
  Calls Try.prog 17 #[.slice A0 l0.length c0] w fun e w' => ∃ v0_ : Value, e = .returned (v0_) ∧ Kd.R (Kd.int .u8) 5 w' w.heap.size (fun _ => True) v0_ r ∧ Below w.heap.size w w' := by
 have HR0 := ak hr0
 have HC0 := ak hc0
 clear hr0 hc0
 have HB := ak (Below.refl w.heap.size w)
 have H : (if 0 ≤ (l0.length : Int) then (if ((l0.length : Int) : Int).toNat ≤ 281474976710656 then (laws_toByteS.l0 k l0 (List.replicate ((l0.length : Int) : Int).toNat 0) 0) else (none)) else (none)) = some r := h
 clear h
 replace H := ipE H
 obtain ⟨c2b0, c2b1, H⟩ := H
 replace H := ipE H
 obtain ⟨c3b0, c3b1, H⟩ := H
 obtain ⟨y101, hy101⟩ : ∃ y_ : List Int, y_ = (List.replicate ((l0.length : Int) : Int).toNat 0) := ⟨_, rfl⟩
 (try with_reducible replace H := bnS H)
 (try rw [← hy101] at H)
 have Ny101 := ak hy101
 clear hy101
 have H' := ak H
 clear H
 go_enter Try.func17, Try.ntmps17
 go_wp2_with (((with_reducible refine gate_dst (N := 7) rfl ?_);refine Kd.R_make (Kd.int .u8) _ 5 rfl (N := 7) rfl 26 _ _ rfl (l0.length : Int) rfl rfl Try.underlying26 (.int .u8 0) 1 info5 rfl (by decide) (by omega) 0 (ok := fun _ => True) (okp := fun _ => True) rfl (fun _ hk => hk) trivial (of_decide_eq_true (by first | (with_reducible assumption) | assumption)) (Nat.le_trans (Nat.mul_le_mul_right _ (of_decide_eq_true (by first | (with_reducible assumption) | assumption) : (l0.length : Int).toNat ≤ 281474976710656)) (by omega)) (Below.refl _ _) (Nat.le_refl _) ?_;intro v102 w4 ho5 hb hg_ hnew_;clear hg_ hnew_;(first | rw [← Ny101.out] at ho5 | (simp only [Int.reduceToNat] at ho5; rw [← Ny101.out] at ho5));have HO103 := ak (Kd.R_lower ho5 (below_size (bw HB.out)));replace HB := b2 HB hb;clear hb ho5))
 go_loopg [4] k (fun kq v4 w' => ∃ (x3_1 : List Int) (x4_1 : Int), v4 = .int .i64 x4_1 ∧ Aside0 (laws_toByteS.l0 kq l0 x3_1 x4_1 = some r) ∧ Aside0 (kq ≤ k) ∧ Aside0 (Kd.R (Kd.int .u8) 5 w' w.heap.size (fun _ => True) v102 x3_1) ∧ Aside0 (Below w.heap.size w w'))
 case atStart => exact ⟨(y101), (0), o2, H', ⟨Nat.le_refl _⟩, ⟨rw_ HO103.out⟩, ⟨bw HB.out⟩⟩
 case round =>
  clear H'
  (try clear c2b0)
  (try clear c2b1)
  (try clear c3b0)
  (try clear c3b1)
  obtain ⟨x3_1, x4_1, rfl, HA, HK1, HO_3, HB⟩ := hrel
  cases gk with
  | zero => exact absurd HA.out (by simp [laws_toByteS.l0])
  | succ k1 =>
   have H := HA.out
   clear HA
   simp only [laws_toByteS.l0] at H
   replace H := ip H
   obtain ⟨c6b0, H⟩ | ⟨c6b0, H⟩ := H
   ·replace H := ipN H
    obtain ⟨c7b0, H⟩ := H
    replace H := ipN H
    obtain ⟨c8b0, H⟩ := H
    obtain ⟨y105, hy105⟩ : ∃ y_ : List Int, y_ = (x3_1.set (x4_1 : Int).toNat (rd l0 x4_1)) := ⟨_, rfl⟩
    (try with_reducible replace H := bnS H)
    (try rw [← hy105] at H)
    have Ny105 := ak hy105
    clear hy105
    have H' := ak H
    clear H
    obtain ⟨ad104, rfl, hx104_0, p104, q104⟩ := el_int HR0 HB x4_1
    have p9 : 0 ≤ (x4_1 : Int) := of_decide_eq_true (by first | (with_reducible assumption) | assumption)
    have q9 : (x4_1 : Int) < ((x3_1.length : Int) : Int) := of_decide_eq_true (by first | (with_reducible assumption) | assumption)
    obtain ⟨go9, co9, eo9, gb9, gl9, cl9, HG9⟩ := Kd.R_form HO_3.out (by omega)
    (first | cases eo9 | (injection eo9 with ea_ en_ ec_; (first | subst ea_ | (injection ea_ with ea_; subst ea_)); subst ec_; clear en_))
    have GB9 := ak gb9
    have GG9 := ak HG9
    clear gb9 gl9 HG9
    obtain ⟨hx9_0, hf9_0⟩ := Kd.R_celln 0 HO_3.out (x4_1 : Int) p9 q9
    replace p9 := eq_true p9
    replace q9 := eq_true q9
    have HP10 := Kd.R_putg HO_3.out (x4_1 : Int) (rd l0 x4_1)
    go_wp2_with (((with_reducible refine gate_store (t := 5) (p := 20) rfl ?_);refine store_event (t := 5) (p := 20) (v := ?vo_w11) (w1 := (wr.setCell ⟨go9, (x4_1 : Int).toNat, none⟩ (.int .u8 (rd l0 x4_1)))) ?hg ?ho ?hn ?hr ?_;(case ho => rfl);(case hg => rfl);(case hn => rfl);(case hr => first | (go_simp; done) | (go_simp; rfl));intro w11 hw;have hg : wr.grownBy w11 (some go9) := (by rw [hw]; exact HP10.2);have hp_ : Kd.R (Kd.int .u8) 5 w11 w.heap.size (fun _ => True) (.slice (some ⟨go9, 0, none⟩) x3_1.length co9) y105 := (by rw [hw, Ny105.out]; exact HP10.1);clear HP10;replace HO_3 := ak (hp_);replace HB := ak ((by rw [hw]; exact below_set (HB.out) GB9.out : Below w.heap.size w w11));clear hg hw hp_))
    go_roundg k1
    case measure => have := HK1.out; omega
    case rel => exact ⟨(y105), (wrap64 (x4_1 + 1)), o2, H', ⟨by have := HK1.out; omega⟩, ⟨rw_ HO_3.out⟩, ⟨bw HB.out⟩⟩
   ·obtain rfl := Option.some.inj H
    go_wp2
    go_ret
    exact ⟨_, o1, rw_ HO_3.out, bw HB.out⟩

/-! ### laws_toByteSS: function 28 -/
def laws_toByteSS.l0 : Nat → List (List Int) → List (List Int) → Int → Option ((List (List Int)))
 | 0, _, _, _ => none
 | k + 1, x0, x3, x4 => if x4 < (x0.length : Int) then (if 0 ≤ x4 then ((laws_toByteS.f k (rd_L10 x0 x4)).bind fun t105 => (if x4 < (x3.length : Int) then (laws_toByteSS.l0 k x0 (x3.set (x4 : Int).toNat t105) (wrap64 (x4 + 1))) else (none))) else (none)) else (some x3)
def laws_toByteSS.f (k : Nat) (l0 : List (List Int)) : Option ((List (List Int))) := if 0 ≤ (l0.length : Int) then (if ((l0.length : Int) : Int).toNat ≤ 11728124029610 then (laws_toByteSS.l0 k l0 (List.replicate ((l0.length : Int) : Int).toNat []) 0) else (none)) else (none)
set_option maxHeartbeats 8000000 in
set_option maxRecDepth 100000 in
theorem laws_toByteSS.calls (k : Nat) (A0 : Option Addr) (c0 : Nat) (l0 : List (List Int)) (r : List (List Int)) (w : World) (hr0 : Kd.C (Kd.slice 5 (Kd.int .u8)) w A0 l0.length l0) (hc0 : l0.length ≤ c0) (h : laws_toByteSS.f k l0 = some r) :
  Calls Try.prog 28 #[.slice A0 l0.length c0] w fun e w' => ∃ v0_ : Value, e = .returned (v0_) ∧ Kd.S (Kd.slice 5 (Kd.int .u8)) 26 w' w.heap.size (fun _ => True) v0_ r ∧ Below w.heap.size w w' := by
 have HR0 := ak hr0
 have HC0 := ak hc0
 clear hr0 hc0
 have HB := ak (Below.refl w.heap.size w)
 have H : (if 0 ≤ (l0.length : Int) then (if ((l0.length : Int) : Int).toNat ≤ 11728124029610 then (laws_toByteSS.l0 k l0 (List.replicate ((l0.length : Int) : Int).toNat []) 0) else (none)) else (none)) = some r := h
 clear h
 replace H := ipE H
 obtain ⟨c2b0, c2b1, H⟩ := H
 replace H := ipE H
 obtain ⟨c3b0, c3b1, H⟩ := H
 obtain ⟨y101, hy101⟩ : ∃ y_ : List (List Int), y_ = (List.replicate ((l0.length : Int) : Int).toNat []) := ⟨_, rfl⟩
 (try with_reducible replace H := bnS H)
 (try rw [← hy101] at H)
 have Ny101 := ak hy101
 clear hy101
 have H' := ak H
 clear H
 go_enter Try.func28, Try.ntmps28
 go_wp2_with (((with_reducible refine gate_dst (N := 7) rfl ?_);refine Kd.S_make (Kd.slice 5 (Kd.int .u8)) _ 26 rfl (N := 7) rfl 22 _ _ rfl (l0.length : Int) rfl rfl Try.underlying22 (.slice none 0 0) 24 info26 rfl (by decide) (by omega) [] (ok := fun _ => True) (okp := fun _ => True) ⟨_, rfl, Kd.R_nil _ _ _ _ _⟩ (fun _ hk => hk) trivial (of_decide_eq_true (by first | (with_reducible assumption) | assumption)) (Nat.le_trans (Nat.mul_le_mul_right _ (of_decide_eq_true (by first | (with_reducible assumption) | assumption) : (l0.length : Int).toNat ≤ 11728124029610)) (by omega)) (Below.refl _ _) (Nat.le_refl _) ?_;intro v102 w4 ho5 hb hg_ hnew_;clear hg_ hnew_;(first | rw [← Ny101.out] at ho5 | (simp only [Int.reduceToNat] at ho5; rw [← Ny101.out] at ho5));have HO103 := ak (Kd.S_lower ho5 (below_size (bw HB.out)));replace HB := b2 HB hb;clear hb ho5))
 go_loopg [4] k (fun kq v4 w' => ∃ (x3_1 : List (List Int)) (x4_1 : Int), v4 = .int .i64 x4_1 ∧ Aside0 (laws_toByteSS.l0 kq l0 x3_1 x4_1 = some r) ∧ Aside0 (kq ≤ k) ∧ Aside0 (Kd.S (Kd.slice 5 (Kd.int .u8)) 26 w' w.heap.size (fun _ => True) v102 x3_1) ∧ Aside0 (Below w.heap.size w w'))
 case atStart => exact ⟨(y101), (0), o2, H', ⟨Nat.le_refl _⟩, ⟨sw HO103.out⟩, ⟨bw HB.out⟩⟩
 case round =>
  clear H'
  (try clear c2b0)
  (try clear c2b1)
  (try clear c3b0)
  (try clear c3b1)
  obtain ⟨x3_1, x4_1, rfl, HA, HK1, HO_3, HB⟩ := hrel
  cases gk with
  | zero => exact absurd HA.out (by simp [laws_toByteSS.l0])
  | succ k1 =>
   have H := HA.out
   clear HA
   simp only [laws_toByteSS.l0] at H
   replace H := ip H
   obtain ⟨c6b0, H⟩ | ⟨c6b0, H⟩ := H
   ·replace H := ipN H
    obtain ⟨c7b0, H⟩ := H
    replace H := bnd H
    obtain ⟨t105, A8, H⟩ := H
    replace H := ipN H
    obtain ⟨c9b0, H⟩ := H
    obtain ⟨y108, hy108⟩ : ∃ y_ : List (List Int), y_ = (x3_1.set (x4_1 : Int).toNat t105) := ⟨_, rfl⟩
    (try with_reducible replace H := bnS H)
    (try rw [← hy108] at H)
    have Ny108 := ak hy108
    clear hy108
    have H' := ak H
    clear H
    obtain ⟨ad104, A104_0, c104_0, rfl, hx104_0, HC104_0, HR104_0, p104, q104⟩ := el_L10 HR0 HB x4_1
    go_wp2_with (first | ((with_reducible refine gate_callee (f := 17) rfl ?_);refine glG 20 rfl rfl Try.func17 (laws_toByteS.calls k1 _ _ (rd_L10 l0 x4_1) t105 _ (cv HR104_0 HB) HC104_0.out A8.out) ?_;rintro e w11 ⟨v106, rfl, ho0, hb⟩;refine ⟨_, rfl, ?_⟩;replace HO_3 := ak (Kd.S_elder' (sw HO_3.out) (Kd.R_base ho0) hb);have HO107 := ak (Kd.R_lower ho0 (below_size (bw HB.out)));replace HB := b2 HB hb;(try clear hb);(try clear ho0);have p10 : 0 ≤ (x4_1 : Int) := of_decide_eq_true (by first | (with_reducible assumption) | assumption);have q10 : (x4_1 : Int) < ((x3_1.length : Int) : Int) := of_decide_eq_true (by first | (with_reducible assumption) | assumption);obtain ⟨go10, co10, eo10, gb10, gl10, cl10, HG10⟩ := Kd.S_form HO_3.out (by omega);(first | cases eo10 | (injection eo10 with ea_ en_ ec_; (first | subst ea_ | (injection ea_ with ea_; subst ea_)); subst ec_; clear en_));have GB10 := ak gb10;have GG10 := ak HG10;clear gb10 gl10 HG10;obtain ⟨_, ce10, hcl10, hM10, hcc10, hfr10, _, _⟩ := Kd.S_elem HO_3.out [] (x4_1 : Int) p10 q10;obtain ⟨ve10_0, rfl, ge10_0⟩ := hM10;have hx10_0 := hcc10 0 _ rfl;have hf10_0 := hfr10 0;(try simp only [show ((Kd.slice 5 (Kd.int .u8))).sz = 1 from rfl, Nat.mul_one, Nat.add_zero] at hx10_0);(try simp only [show ((Kd.slice 5 (Kd.int .u8))).sz = 1 from rfl, Nat.mul_one, Nat.add_zero] at hf10_0);(try clear hcl10);(try clear hcc10);(try clear hfr10);(try clear hM10);replace p10 := eq_true p10;replace q10 := eq_true q10;have n_ := ak (Kd.S_mono (ok' := (fun k_ => some k_ ≠ (v106 : Value).ownBlock)) HO_3.out (fun k_ hk => hk.2));clear HO_3;have HO_3 := n_;clear n_;have HX12 := ak (show Kd.S (Kd.slice 5 (Kd.int .u8)) 26 w11 w.heap.size (fun k_ => ((fun _ => True)) k_ ∧ ¬ ((fun k_ => some k_ = (v106 : Value).ownBlock)) k_) (.slice (some ⟨go10, 0, none⟩) x3_1.length co10) x3_1 from (sw (Kd.S_mono HO_3.out (fun k_ hk => ⟨trivial, fun e_ => hk e_⟩))));obtain ⟨oki12, ce12, hcl12, hM12, hcc12, hfr12, hoki12, hH12⟩ := Kd.S_elem HX12.out [] (x4_1 : Int) (of_decide_eq_true (by first | (with_reducible assumption) | assumption)) (by have h_ : (x4_1 : Int) < ((x3_1.length : Int) : Int) := of_decide_eq_true (by first | (with_reducible assumption) | assumption); first | exact h_ | (have e_ := (Kd.S_reads' HO_3.out).1; omega) | simpa using h_);obtain ⟨ve12_0, rfl, ge12_0⟩ := hM12;have HP12 := Kd.S_seg hH12 (of_decide_eq_true (by first | (with_reducible assumption) | assumption)) (by have h_ : (x4_1 : Int) < ((x3_1.length : Int) : Int) := of_decide_eq_true (by first | (with_reducible assumption) | assumption); first | exact h_ | (have e_ := (Kd.S_reads' HO_3.out).1; omega) | simpa using h_) (seg := [v106]) (j := 0) (show 1 ≤ 1 from by decide) (x' := t105) (Kd.M_row (Kd.R_mono (Kd.R_tight rfl (Kd.R_mono (ok' := fun k_ => ((fun _ => True)) k_ ∧ k_ ≠ go10) (Kd.R_apart' (HO107.out) (Kd.S_typed HO_3.out) (by decide)) (fun k_ hk => ⟨trivial, fun e_ => (hk.2) (by rw [e_]; rfl)⟩))) (fun _ h_ => Or.inr (h_)))) (fun _ hk => hk) (fun k_ hk_ => ((Kd.R_mono (ok' := fun k_ => ((fun _ => True)) k_ ∧ k_ ≠ go10) (Kd.R_apart' (HO107.out) (Kd.S_typed HO_3.out) (by decide)) (fun k_ hk => ⟨trivial, fun e_ => (hk.2) (by rw [e_]; rfl)⟩))).1 k_ hk_.symm);have hx12_0 := hcc12 0 _ rfl;(try simp only [show ((Kd.slice 5 (Kd.int .u8))).sz = 1 from rfl, Nat.mul_one, Nat.add_zero] at hx12_0);have hf12_0 := hfr12 0;(try simp only [show ((Kd.slice 5 (Kd.int .u8))).sz = 1 from rfl, Nat.mul_one, Nat.add_zero] at hf12_0);(try clear hcl12);(try clear hcc12);(try clear hfr12);(try clear hM12);(try clear hoki12);(try clear hH12);(try simp only [show ((Kd.slice 5 (Kd.int .u8))).sz = 1 from rfl, Nat.mul_one, Nat.add_zero] at HP12)) | ((with_reducible refine gate_store (t := 26) (p := 21) rfl ?_);refine store_event (t := 26) (p := 21) (v := ?vo_w13) (w1 := (w11.setCell ⟨go10, (x4_1 : Int).toNat, none⟩ (v106))) ?hg ?ho ?hn ?hr ?_;(case ho => rfl);(case hg => rfl);(case hn => rfl);(case hr => first | (go_simp; done) | (go_simp; rfl) | ((first | (obtain ⟨A_, c_, e_⟩ := Kd.R_slice HO107.out; rw [e_]) | (obtain ⟨A_, c_, e_⟩ := Kd.S_slice HO107.out; rw [e_])); first | (go_simp; done) | (go_simp; rfl)));intro w13 hw;have hg : w11.grownBy w13 (some go10) := (by rw [hw]; exact HP12.2);have hp_ : Kd.S (Kd.slice 5 (Kd.int .u8)) 26 w13 w.heap.size (fun _ => True) (.slice (some ⟨go10, 0, none⟩) x3_1.length co10) y108 := (by rw [hw, Ny108.out]; exact HP12.1);clear HP12;replace HO_3 := ak (hp_);replace HB := ak ((by rw [hw]; exact below_set (HB.out) GB10.out : Below w.heap.size w w13));clear HO107;clear hg hw hp_))
    go_roundg k1
    case measure => have := HK1.out; omega
    case rel => exact ⟨(y108), (wrap64 (x4_1 + 1)), o2, H', ⟨by have := HK1.out; omega⟩, ⟨sw HO_3.out⟩, ⟨bw HB.out⟩⟩
   ·obtain rfl := Option.some.inj H
    go_wp2
    go_ret
    exact ⟨_, o1, sw HO_3.out, bw HB.out⟩

/-! ### laws_toName: function 9 -/
def laws_toName.f (k : Nat) (l0_0 : List (List Int)) : Option ((List (List Int))) := (laws_toByteSS.f k l0_0).bind fun t104 => (some t104)
set_option maxHeartbeats 8000000 in
set_option maxRecDepth 100000 in
theorem laws_toName.calls (k : Nat) (A0_0 : Option Addr) (c0_0 : Nat) (l0_0 : List (List Int)) (r : List (List Int)) (w : World) (hr0_0 : Kd.C (Kd.slice 5 (Kd.int .u8)) w A0_0 l0_0.length l0_0) (hc0_0 : l0_0.length ≤ c0_0) (h : laws_toName.f k l0_0 = some r) :
  Calls Try.prog 9 #[.agg #[.slice A0_0 l0_0.length c0_0]] w fun e w' => ∃ v0_ : Value, e = .returned (.agg #[v0_]) ∧ Kd.S (Kd.slice 5 (Kd.int .u8)) 26 w' w.heap.size (fun _ => True) v0_ r ∧ Below w.heap.size w w' := by
 have hu24 := Try.underlying24
 have hu28 := Try.underlying28
 have HR0_0 := ak hr0_0
 have HC0_0 := ak hc0_0
 clear hr0_0 hc0_0
 have HB := ak (Below.refl w.heap.size w)
 have H : ((laws_toByteSS.f k l0_0).bind fun t104 => (some t104)) = some r := h
 clear h
 replace H := bnd H
 obtain ⟨t104, A2, H⟩ := H
 obtain rfl := Option.some.inj H
 go_enter Try.func9, Try.ntmps9
 go_wp2_with (first | ((with_reducible refine gate_dst (N := 1) rfl ?_);refine bxd (N := 1) rfl HB ?_;clear HB;intro gb101 w3 hg HB BK101 GE101 hb;have GW101 := GE101;clear hb hg) | ((with_reducible refine gate_dst (N := 2) rfl ?_);refine bxe (N := 2) rfl ?_;intro gb102 hg w4 hbox hb;have BK102 := ak (hbox);have GW102 := b3s hg bs;have GE102 := GW102;replace HB := b2s bs hb;have NB101_102 := b4 hg BK101;have NB102_101 := b5 hg BK101;replace BK101 := b1 BK101 hb;clear hb hbox hg) | ((with_reducible refine gate_dst (N := 3) rfl ?_);refine bxe (N := 3) rfl ?_;intro gb103 hg w5 hbox hb;have BK103 := ak (hbox);have GW103 := b3s hg bs;have GE103 := GW103;replace HB := b2s bs hb;have NB101_103 := b4 hg BK101;have NB103_101 := b5 hg BK101;replace BK101 := b1 BK101 hb;have NB102_103 := b4 hg BK102;have NB103_102 := b5 hg BK102;replace BK102 := b1 BK102 hb;clear hb hbox hg;have hnb6 := NB101_102.out;have hnc6 := NB102_101.out;have hnb7 := NB101_103.out;have hnc7 := NB103_101.out;obtain ⟨hcz8_0, hfz8_0⟩ := cells1 BK101.out) | ((with_reducible refine gate_callee (f := 28) rfl ?_);refine glG 6 rfl rfl Try.func28 (laws_toByteSS.calls k _ _ l0_0 t104 _ (cv HR0_0 HB) HC0_0.out A2.out) ?_;rintro e w9 ⟨v105, rfl, ho0, hb⟩;refine ⟨_, rfl, ?_⟩;have HO106 := ak (Kd.S_lower ho0 (below_size bs));replace BK101 := b1 BK101 hb;replace BK102 := b1 BK102 hb;replace BK103 := b1 BK103 hb;replace HB := b2s bs hb;(try clear hb);(try clear ho0);obtain ⟨Ao10, co10, eo10⟩ := Kd.S_slice HO106.out;subst eo10;have hnb11 := NB103_102.out;have hnc11 := NB102_103.out;obtain ⟨hcz12_0, hfz12_0⟩ := cells1 BK103.out;obtain ⟨hcz13_0, hfz13_0⟩ := cells1 BK102.out))
 refine bodyPost_ret (results_cell_row rfl _ _ gb102 28 #[.slice Ao10 t104.length co10] (0, 0) _ rfl (by (with_reducible repeat (first | refine blk_drewN ?_ _ | refine blk_drew ?_ | refine blk_alloc ?_ _)); refine blk_put (cs := #[.slice none 0 0]) ?_ 0 _ rfl; (with_reducible repeat (first | refine blk_drewN ?_ _ | refine blk_drew ?_ | refine blk_alloc ?_ _)); refine blk_far ?_ NB102_103.out _; (with_reducible repeat (first | refine blk_drewN ?_ _ | refine blk_drew ?_ | refine blk_alloc ?_ _)); exact BK102.out) Try.underlying28 rfl (by kernel_rfl)) rfl ?_
 exact ⟨_, o1, by (with_reducible repeat (first | apply Kd.S_alloc | apply Kd.S_drewN | apply Kd.S_drew)); exact Kd.S_mono (Kd.S_far (p := ⟨gb102, 0, none⟩) (Kd.S_far (p := ⟨gb103, 0, none⟩) (Kd.S_types (Kd.S_types HO106.out BK103.out (by decide)) BK102.out (by decide)) (fun _ hk => hk.1.2) (.slice Ao10 t104.length co10)) (fun _ hk => hk.2) (.slice Ao10 t104.length co10)) (fun _ hk => trivial), bs⟩

/-! ### slices_IndexFunc_byte_byte_76: function 76 -/

set_option maxHeartbeats 2000000 in
theorem slices_IndexFunc_byte_byte_76.calls (g : Nat) (lb : Array Value) (eg : ∀ args w, (callFunc g args).run Try.prog w = .ok (.enter g args) w) (p : List Int → Bool) (A0 : Option Addr) (c0 : Nat) (l0 : List (List Int)) (w : World) (hr0 : Kd.C (Kd.slice 5 (Kd.int .u8)) w A0 l0.length l0)
  (hp : ∀ (W : World) (A : Option Addr) (c : Nat) (x : List Int), Below w.heap.size w W → Kd.C (Kd.int .u8) W A x.length x → x.length ≤ c → Calls Try.prog g (#[.slice A x.length c] ++ lb) W fun e w' => e = .returned (.bool (p x)) ∧ Below w.heap.size w w') :
  Calls Try.prog 76 #[.slice A0 l0.length c0, .func (.func g) #[] lb] w fun e w' => (∃ r : Int, e = .returned (.int .i64 r) ∧ decide (0 ≤ r) = l0.any p) ∧ Below w.heap.size w w' := by
 have HR0 := ak hr0
 have hbig : l0.length ≤ 9223372036854775807 := hr0.2.1
 have HP := ak hp
 clear hr0 hp
 go_enter Try.func76, Try.ntmps76
 go_wp2
 go_loopg [5, 8] l0.length (fun gg _ s8 wr => ∃ kk : Nat, kk ≤ l0.length ∧ l0.length - kk ≤ gg ∧ s8 = .int .i64 kk ∧ Aside0 (Below w.heap.size w wr) ∧ Aside0 ((l0.take kk).any p = false))
 case atStart => exact ⟨0, Nat.zero_le _, by omega, rfl, ⟨Below.refl _ w⟩, ⟨by simp⟩⟩
 case round =>
  obtain ⟨kk, hkk, hg, rfl, BW, AF⟩ := hrel
  by_cases hlt : kk < l0.length
  ·obtain ⟨ad, A1, c1, rfl, hcell, hc1, hC1⟩ := at_L10 HR0.out (kk : Int) (by omega) (by omega)
   replace hcell := pw_cell_below BW.out hcell
   have hcall := HP.out wr A1 c1 (rd_L10 l0 (kk : Int)) BW.out (Kd.C_below hC1 BW.out) hc1
   have hx : Aside0 (l0.take (kk + 1) = l0.take kk ++ [rd_L10 l0 (kk : Int)]) := ⟨by
    rw [List.take_succ_eq_append_getElem hlt]; simp [rd_L10, List.getD_eq_getElem?_getD, hlt]⟩
   clear hC1 hc1
   generalize rd_L10 l0 (kk : Int) = y at hcell hcall hx
   have hltz : (kk : Int) < (l0.length : Int) := by omega
   rw [show ((kk : Int)).toNat = kk from by omega] at hcell
   cases hq : p y with
   | true =>
    rw [hq] at hcall
    go_wp2_with (go_at_fn g; refine hcall.mono ?_; rintro e w' ⟨rfl, hb'⟩)
    go_ret
    refine ⟨⟨_, rfl, ?_⟩, hb'⟩
    have : l0.any p = true := by
     rw [← List.take_append_drop (kk + 1) l0, hx.out]; simp [hq]
    rw [this]; simp
   | false =>
    rw [hq] at hcall
    go_wp2_with (go_at_fn g; refine hcall.mono ?_; rintro e w' ⟨rfl, hb'⟩)
    go_roundg (l0.length - (kk + 1))
    case measure => omega
    case rel => exact ⟨kk + 1, by omega, by omega, by go_num, ⟨hb'⟩, ⟨by rw [hx.out, List.any_append, AF.out]; simp [hq]⟩⟩
  ·have hltz : ¬ (kk : Int) < (l0.length : Int) := by omega
   go_wp2
   go_ret
   refine ⟨⟨_, rfl, ?_⟩, BW.out⟩
   have := AF.out
   rw [List.take_of_length_le (by omega)] at this
   rw [this]; rfl

/-! ### slices_ContainsFunc_byte_byte_61: function 61 -/

set_option maxHeartbeats 2000000 in
theorem slices_ContainsFunc_byte_byte_61.calls (g : Nat) (lb : Array Value) (eg : ∀ args w, (callFunc g args).run Try.prog w = .ok (.enter g args) w) (p : List Int → Bool) (A0 : Option Addr) (c0 : Nat) (l0 : List (List Int)) (w : World) (hr0 : Kd.C (Kd.slice 5 (Kd.int .u8)) w A0 l0.length l0)
  (hp : ∀ (W : World) (A : Option Addr) (c : Nat) (x : List Int), Below w.heap.size w W → Kd.C (Kd.int .u8) W A x.length x → x.length ≤ c → Calls Try.prog g (#[.slice A x.length c] ++ lb) W fun e w' => e = .returned (.bool (p x)) ∧ Below w.heap.size w w') :
  Calls Try.prog 61 #[.slice A0 l0.length c0, .func (.func g) #[] lb] w fun e w' => e = .returned (.bool (l0.any p)) ∧ Below w.heap.size w w' := by
 have hc := slices_IndexFunc_byte_byte_76.calls g lb eg p A0 c0 l0 w hr0 hp
 generalize l0.any p = q at hc ⊢
 clear hp hr0
 go_enter Try.func61, Try.ntmps61
 go_wp2_with (go_at_call 76; refine hc.mono ?_; rintro e w' ⟨⟨r, rfl, rfl⟩, hb'⟩)
 go_ret
 exact ⟨rfl, hb'⟩

/-! ### impl_all_byte_1_62: function 62 -/

set_option maxHeartbeats 2000000 in
/-- What is handed to ContainsFunc: the predicate's contrary; the predicate lies in a variable. -/
theorem impl_all_byte_1_62.calls (g : Nat) (lb : Array Value) (eg : ∀ args w, (callFunc g args).run Try.prog w = .ok (.enter g args) w) (q : Bool) (A : Option Addr) (n c : Nat) (B : Nat) (w w0 : World) (hv : w.cell? ⟨B, 0, none⟩ = some (.func (.func g) #[] lb))
  (hp : Calls Try.prog g (#[.slice A n c] ++ lb) w fun e w' => e = .returned (.bool q) ∧ Below w0.heap.size w0 w') :
  Calls Try.prog 62 #[.slice A n c, .pointer (some ⟨B, 0, none⟩)] w fun e w' => e = .returned (.bool (!q)) ∧ Below w0.heap.size w0 w' := by
 go_enter Try.func62, Try.ntmps62
 go_wp2_with (go_at_fn g; refine hp.mono ?_; rintro e w' ⟨rfl, hb'⟩)
 go_ret
 exact ⟨rfl, hb'⟩

/-! ### impl_all_byte_48: function 48 -/

set_option maxHeartbeats 2000000 in
theorem impl_all_byte_48.calls (g : Nat) (lb : Array Value) (eg : ∀ args w, (callFunc g args).run Try.prog w = .ok (.enter g args) w) (p : List Int → Bool) (A0 : Option Addr) (c0 : Nat) (l0 : List (List Int)) (w : World) (hr0 : Kd.C (Kd.slice 5 (Kd.int .u8)) w A0 l0.length l0)
  (hp : ∀ (W : World) (A : Option Addr) (c : Nat) (x : List Int), Below w.heap.size w W → Kd.C (Kd.int .u8) W A x.length x → x.length ≤ c → Calls Try.prog g (#[.slice A x.length c] ++ lb) W fun e w' => e = .returned (.bool (p x)) ∧ Below W.heap.size W w') :
  Calls Try.prog 48 #[.slice A0 l0.length c0, .func (.func g) #[] lb] w fun e w' => e = .returned (.bool (l0.all p)) ∧ Below w.heap.size w w' := by
 have eg2 : ∀ args w, (callFunc 62 args).run Try.prog w = .ok (.enter 62 args) w := enters_of Try.func62 (by kernel_rfl) rfl
 have hb0 : Below w.heap.size w (w.alloc (.cells #[.func (.func g) #[] lb] 36)) := below_alloc (Below.refl _ _) _
 have hc := slices_ContainsFunc_byte_byte_61.calls 62 #[.pointer (some ⟨w.heap.size, 0, none⟩)] eg2 (fun x => !p x) A0 c0 l0 (w.alloc (.cells #[.func (.func g) #[] lb] 36)) (Kd.C_below hr0 hb0) (fun W A c x hW hC hc =>
  impl_all_byte_1_62.calls g lb eg (p x) A x.length c w.heap.size W _ ((hW.cell (p := ⟨w.heap.size, 0, none⟩) (by simp)).trans (by simp)) ((hp W A c x (hb0.trans (hW.mono (by simp))) hC hc).mono fun e w' ⟨he, hb⟩ => ⟨he, hW.trans (hb.mono hW.size)⟩))
 have e1 : (l0.any fun x => !p x) = !(l0.all p) := by rw [List.all_eq_not_any_not]; simp
 rw [e1] at hc
 generalize l0.all p = q at hc ⊢
 clear hp hr0 e1
 go_enter Try.func48, Try.ntmps48
 go_wp2_with (go_at_call 61; refine hc.mono ?_; rintro e w' ⟨rfl, hb'⟩)
 go_ret
 exact ⟨by simp, hb0.trans (hb'.mono (by simp))⟩

/-! ### slices_IndexFunc_byte_byte_83: function 83 -/

set_option maxHeartbeats 2000000 in
theorem slices_IndexFunc_byte_byte_83.calls (g : Nat) (lb : Array Value) (eg : ∀ args w, (callFunc g args).run Try.prog w = .ok (.enter g args) w) (p : Int → Bool) (A0 : Option Addr) (c0 : Nat) (l0 : List Int) (w : World) (hr0 : Kd.C (Kd.int .u8) w A0 l0.length l0)
  (hp : ∀ (W : World) (x : Int), Below w.heap.size w W → Calls Try.prog g (#[.int .u8 x] ++ lb) W fun e w' => e = .returned (.bool (p x)) ∧ Below w.heap.size w w') :
  Calls Try.prog 83 #[.slice A0 l0.length c0, .func (.func g) #[] lb] w fun e w' => (∃ r : Int, e = .returned (.int .i64 r) ∧ decide (0 ≤ r) = l0.any p) ∧ Below w.heap.size w w' := by
 have HR0 := ak hr0
 have hbig : l0.length ≤ 9223372036854775807 := hr0.2.1
 have HP := ak hp
 clear hr0 hp
 go_enter Try.func83, Try.ntmps83
 go_wp2
 go_loopg [5, 8] l0.length (fun gg _ s8 wr => ∃ kk : Nat, kk ≤ l0.length ∧ l0.length - kk ≤ gg ∧ s8 = .int .i64 kk ∧ Aside0 (Below w.heap.size w wr) ∧ Aside0 ((l0.take kk).any p = false))
 case atStart => exact ⟨0, Nat.zero_le _, by omega, rfl, ⟨Below.refl _ w⟩, ⟨by simp⟩⟩
 case round =>
  obtain ⟨kk, hkk, hg, rfl, BW, AF⟩ := hrel
  by_cases hlt : kk < l0.length
  ·obtain ⟨ad, rfl, hcell⟩ := Kd.at_int HR0.out (kk : Int) (by omega) (by omega)
   replace hcell := pw_cell_below BW.out hcell
   have hcall := HP.out wr (rd l0 (kk : Int)) BW.out
   have hx : Aside0 (l0.take (kk + 1) = l0.take kk ++ [rd l0 (kk : Int)]) := ⟨by
    rw [List.take_succ_eq_append_getElem hlt]; simp [rd, List.getD_eq_getElem?_getD, hlt]⟩
   generalize rd l0 (kk : Int) = y at hcell hcall hx
   have hltz : (kk : Int) < (l0.length : Int) := by omega
   rw [show ((kk : Int)).toNat = kk from by omega] at hcell
   cases hq : p y with
   | true =>
    rw [hq] at hcall
    go_wp2_with (go_at_fn g; refine hcall.mono ?_; rintro e w' ⟨rfl, hb'⟩)
    go_ret
    refine ⟨⟨_, rfl, ?_⟩, hb'⟩
    have : l0.any p = true := by
     rw [← List.take_append_drop (kk + 1) l0, hx.out]; simp [hq]
    rw [this]; simp
   | false =>
    rw [hq] at hcall
    go_wp2_with (go_at_fn g; refine hcall.mono ?_; rintro e w' ⟨rfl, hb'⟩)
    go_roundg (l0.length - (kk + 1))
    case measure => omega
    case rel => exact ⟨kk + 1, by omega, by omega, by go_num, ⟨hb'⟩, ⟨by rw [hx.out, List.any_append, AF.out]; simp [hq]⟩⟩
  ·have hltz : ¬ (kk : Int) < (l0.length : Int) := by omega
   go_wp2
   go_ret
   refine ⟨⟨_, rfl, ?_⟩, BW.out⟩
   have := AF.out
   rw [List.take_of_length_le (by omega)] at this
   rw [this]; rfl

/-! ### slices_ContainsFunc_byte_byte_77: function 77 -/

set_option maxHeartbeats 2000000 in
theorem slices_ContainsFunc_byte_byte_77.calls (g : Nat) (lb : Array Value) (eg : ∀ args w, (callFunc g args).run Try.prog w = .ok (.enter g args) w) (p : Int → Bool) (A0 : Option Addr) (c0 : Nat) (l0 : List Int) (w : World) (hr0 : Kd.C (Kd.int .u8) w A0 l0.length l0)
  (hp : ∀ (W : World) (x : Int), Below w.heap.size w W → Calls Try.prog g (#[.int .u8 x] ++ lb) W fun e w' => e = .returned (.bool (p x)) ∧ Below w.heap.size w w') :
  Calls Try.prog 77 #[.slice A0 l0.length c0, .func (.func g) #[] lb] w fun e w' => e = .returned (.bool (l0.any p)) ∧ Below w.heap.size w w' := by
 have hc := slices_IndexFunc_byte_byte_83.calls g lb eg p A0 c0 l0 w hr0 hp
 generalize l0.any p = q at hc ⊢
 clear hp hr0
 go_enter Try.func77, Try.ntmps77
 go_wp2_with (go_at_call 83; refine hc.mono ?_; rintro e w' ⟨⟨r, rfl, rfl⟩, hb'⟩)
 go_ret
 exact ⟨rfl, hb'⟩

/-! ### impl_all_byte_1_78: function 78 -/

set_option maxHeartbeats 2000000 in
/-- What is handed to ContainsFunc: the predicate's contrary; the predicate lies in a variable. -/
theorem impl_all_byte_1_78.calls (g : Nat) (lb : Array Value) (eg : ∀ args w, (callFunc g args).run Try.prog w = .ok (.enter g args) w) (q : Bool) (x : Int) (B : Nat) (w w0 : World) (hv : w.cell? ⟨B, 0, none⟩ = some (.func (.func g) #[] lb))
  (hp : Calls Try.prog g (#[.int .u8 x] ++ lb) w fun e w' => e = .returned (.bool q) ∧ Below w0.heap.size w0 w') :
  Calls Try.prog 78 #[.int .u8 x, .pointer (some ⟨B, 0, none⟩)] w fun e w' => e = .returned (.bool (!q)) ∧ Below w0.heap.size w0 w' := by
 go_enter Try.func78, Try.ntmps78
 go_wp2_with (go_at_fn g; refine hp.mono ?_; rintro e w' ⟨rfl, hb'⟩)
 go_ret
 exact ⟨rfl, hb'⟩

/-! ### impl_all_byte_63: function 63 -/

set_option maxHeartbeats 2000000 in
theorem impl_all_byte_63.calls (g : Nat) (lb : Array Value) (eg : ∀ args w, (callFunc g args).run Try.prog w = .ok (.enter g args) w) (p : Int → Bool) (A0 : Option Addr) (c0 : Nat) (l0 : List Int) (w : World) (hr0 : Kd.C (Kd.int .u8) w A0 l0.length l0)
  (hp : ∀ (W : World) (x : Int), Below w.heap.size w W → Calls Try.prog g (#[.int .u8 x] ++ lb) W fun e w' => e = .returned (.bool (p x)) ∧ Below W.heap.size W w') :
  Calls Try.prog 63 #[.slice A0 l0.length c0, .func (.func g) #[] lb] w fun e w' => e = .returned (.bool (l0.all p)) ∧ Below w.heap.size w w' := by
 have eg2 : ∀ args w, (callFunc 78 args).run Try.prog w = .ok (.enter 78 args) w := enters_of Try.func78 (by kernel_rfl) rfl
 have hb0 : Below w.heap.size w (w.alloc (.cells #[.func (.func g) #[] lb] 79)) := below_alloc (Below.refl _ _) _
 have hc := slices_ContainsFunc_byte_byte_77.calls 78 #[.pointer (some ⟨w.heap.size, 0, none⟩)] eg2 (fun x => !p x) A0 c0 l0 (w.alloc (.cells #[.func (.func g) #[] lb] 79)) (Kd.C_below hr0 hb0) (fun W x hW =>
  impl_all_byte_1_78.calls g lb eg (p x) x w.heap.size W _ ((hW.cell (p := ⟨w.heap.size, 0, none⟩) (by simp)).trans (by simp)) ((hp W x (hb0.trans (hW.mono (by simp)))).mono fun e w' ⟨he, hb⟩ => ⟨he, hW.trans (hb.mono hW.size)⟩))
 have e1 : (l0.any fun x => !p x) = !(l0.all p) := by rw [List.all_eq_not_any_not]; simp
 rw [e1] at hc
 generalize l0.all p = q at hc ⊢
 clear hp hr0 e1
 go_enter Try.func63, Try.ntmps63
 go_wp2_with (go_at_call 77; refine hc.mono ?_; rintro e w' ⟨rfl, hb'⟩)
 go_ret
 exact ⟨by simp, hb0.trans (hb'.mono (by simp))⟩

/-! ### impl_LabelOk_1: function 64 -/
def impl_LabelOk_1.f (a0 : Int) : Option (Bool) := if a0 ≥ 97 then (if a0 ≤ 122 then (some true) else (if a0 ≥ 48 then (if a0 ≤ 57 then (some true) else (some (a0 == 45))) else (some (a0 == 45)))) else (if a0 ≥ 48 then (if a0 ≤ 57 then (some true) else (some (a0 == 45))) else (some (a0 == 45)))
set_option maxHeartbeats 8000000 in
set_option maxRecDepth 100000 in
theorem impl_LabelOk_1.calls (a0 : Int) (r : Bool) (w : World) (h : impl_LabelOk_1.f a0 = some r) :
  Calls Try.prog 64 #[.int .u8 a0] w fun e w' => e = .returned (.bool r) ∧ Drawn0 w w' := by
 have H : (if a0 ≥ 97 then (if a0 ≤ 122 then (some true) else (if a0 ≥ 48 then (if a0 ≤ 57 then (some true) else (some (a0 == 45))) else (some (a0 == 45)))) else (if a0 ≥ 48 then (if a0 ≤ 57 then (some true) else (some (a0 == 45))) else (some (a0 == 45)))) = some r := h
 clear h
 replace H := ih H
 obtain ⟨c2b0, H⟩ | ⟨c2b0, H⟩ := H
 ·replace H := ip H
  obtain ⟨c3b0, H⟩ | ⟨c3b0, H⟩ := H
  ·obtain rfl := Option.some.inj H
   go_enter Try.func64, Try.ntmps64
   go_wp2
   go_ret
   exact ⟨o2, od⟩
  ·replace H := ih H
   obtain ⟨c4b0, H⟩ | ⟨c4b0, H⟩ := H
   ·replace H := ip H
    obtain ⟨c5b0, H⟩ | ⟨c5b0, H⟩ := H
    ·obtain rfl := Option.some.inj H
     go_enter Try.func64, Try.ntmps64
     go_wp2
     go_ret
     exact ⟨o2, od⟩
    ·obtain rfl := Option.some.inj H
     go_enter Try.func64, Try.ntmps64
     go_wp2
     go_ret
     exact ⟨o2, od⟩
   ·obtain rfl := Option.some.inj H
    go_enter Try.func64, Try.ntmps64
    go_wp2
    go_ret
    exact ⟨o2, od⟩
 ·replace H := ih H
  obtain ⟨c6b0, H⟩ | ⟨c6b0, H⟩ := H
  ·replace H := ip H
   obtain ⟨c7b0, H⟩ | ⟨c7b0, H⟩ := H
   ·obtain rfl := Option.some.inj H
    go_enter Try.func64, Try.ntmps64
    go_wp2
    go_ret
    exact ⟨o2, od⟩
   ·obtain rfl := Option.some.inj H
    go_enter Try.func64, Try.ntmps64
    go_wp2
    go_ret
    exact ⟨o2, od⟩
  ·obtain rfl := Option.some.inj H
   go_enter Try.func64, Try.ntmps64
   go_wp2
   go_ret
   exact ⟨o2, od⟩

/-! ### impl_LabelOk: function 49 -/

def impl_LabelOk.byte (x : Int) : Bool := (decide (97 ≤ x) && decide (x ≤ 122)) || (decide (48 ≤ x) && decide (x ≤ 57)) || x == 45
theorem impl_LabelOk.byte_f (x : Int) : impl_LabelOk_1.f x = some (impl_LabelOk.byte x) := by
 unfold impl_LabelOk_1.f impl_LabelOk.byte
 by_cases h1 : 97 ≤ x <;> by_cases h2 : x ≤ 122 <;> by_cases h3 : 48 ≤ x <;> by_cases h4 : x ≤ 57 <;> by_cases h5 : x = 45 <;> simp [*] <;> omega
def impl_LabelOk.v (l0 : List Int) : Bool := decide (1 ≤ l0.length) && decide (l0.length ≤ 15) && l0.all impl_LabelOk.byte
def impl_LabelOk.f (l0 : List Int) : Option Bool := some (impl_LabelOk.v l0)
set_option maxHeartbeats 8000000 in
set_option maxRecDepth 100000 in
theorem impl_LabelOk.calls (A0 : Option Addr) (c0 : Nat) (l0 : List Int) (r : Bool) (w : World) (hr0 : Kd.C (Kd.int .u8) w A0 l0.length l0) (hc0 : l0.length ≤ c0) (h : impl_LabelOk.f l0 = some r) :
  Calls Try.prog 49 #[.slice A0 l0.length c0] w fun e w' => e = .returned (.bool r) ∧ Below w.heap.size w w' := by
 have eg : ∀ args w, (callFunc 64 args).run Try.prog w = .ok (.enter 64 args) w := enters_of Try.func64 (by kernel_rfl) rfl
 have ha := impl_all_byte_63.calls 64 #[] eg impl_LabelOk.byte A0 c0 l0 w hr0 (fun W x hW => (impl_LabelOk_1.calls x _ W (impl_LabelOk.byte_f x)).mono fun e w' ⟨he, hd⟩ => ⟨he, hd.below⟩)
 have hbig : l0.length ≤ 9223372036854775807 := hr0.2.1
 have hrv : r = impl_LabelOk.v l0 := (Option.some.inj h).symm
 subst hrv
 unfold impl_LabelOk.v
 clear h hr0
 generalize l0.all impl_LabelOk.byte = q at ha ⊢
 by_cases h1 : 1 ≤ l0.length
 ·by_cases h2 : l0.length ≤ 15
  ·rw [decide_eq_true h1, decide_eq_true h2]
   simp only [Bool.true_and]
   go_enter Try.func49, Try.ntmps49
   go_wp2_with (first | (go_at_call 63;refine ha.mono ?_;rintro e w' ⟨rfl, hb'⟩) | (go_at_call 58;go_in))
   go_ret
   exact ⟨rfl, hb'⟩
  ·rw [decide_eq_true h1, decide_eq_false h2]
   simp only [Bool.and_false, Bool.false_and]
   go_enter Try.func49, Try.ntmps49
   go_wp2
   go_ret
   exact ⟨rfl, Below.refl _ _⟩
 ·rw [decide_eq_false h1]
  simp only [Bool.false_and]
  go_enter Try.func49, Try.ntmps49
  go_wp2
  go_ret
  exact ⟨rfl, Below.refl _ _⟩

/-! ### impl_NameOk: function 29 -/

def impl_NameOk.v (l : List (List Int)) : Bool := decide (l.length ≤ 6) && l.all impl_LabelOk.v
def impl_NameOk.f (l : List (List Int)) : Option Bool := some (impl_NameOk.v l)
set_option maxHeartbeats 8000000 in
set_option maxRecDepth 100000 in
theorem impl_NameOk.calls (A0_0 : Option Addr) (c0_0 : Nat) (l0_0 : List (List Int)) (r : Bool) (w : World) (hr0_0 : Kd.C (Kd.slice 5 (Kd.int .u8)) w A0_0 l0_0.length l0_0) (hc0_0 : l0_0.length ≤ c0_0) (h : impl_NameOk.f l0_0 = some r) :
  Calls Try.prog 29 #[.agg #[.slice A0_0 l0_0.length c0_0]] w fun e w' => e = .returned (.bool r) ∧ Below w.heap.size w w' := by
 have hu := Try.underlying28
 have eg : ∀ args w, (callFunc 49 args).run Try.prog w = .ok (.enter 49 args) w := enters_of Try.func49 (by kernel_rfl) rfl
 have hb0 : Below w.heap.size w (w.alloc (.cells #[.slice A0_0 l0_0.length c0_0] 28)) := below_alloc (Below.refl _ _) _
 have ha := fun (W : World) (hW : Below w.heap.size w W) => impl_all_byte_48.calls 49 #[] eg impl_LabelOk.v A0_0 c0_0 l0_0 W (Kd.C_below hr0_0 hW) (fun W2 A c x hW2 hC hc => (impl_LabelOk.calls A c x _ W2 hC hc rfl))
 have hbig : l0_0.length ≤ 9223372036854775807 := hr0_0.2.1
 have hrv : r = impl_NameOk.v l0_0 := (Option.some.inj h).symm
 subst hrv
 unfold impl_NameOk.v
 clear h hr0_0
 have HA := ak ha
 clear ha
 generalize l0_0.all impl_LabelOk.v = q at HA ⊢
 by_cases h2 : l0_0.length ≤ 6
 ·rw [decide_eq_true h2]
  simp only [Bool.true_and]
  go_enter Try.func29, Try.ntmps29
  go_wp2_with (go_at_call 48; refine (HA.out _ hb0).mono ?_; rintro e w' ⟨rfl, hb'⟩)
  go_ret
  exact ⟨rfl, hb0.trans (hb'.mono (by simp))⟩
 ·rw [decide_eq_false h2]
  simp only [Bool.false_and]
  go_enter Try.func29, Try.ntmps29
  go_wp2
  go_ret
  exact ⟨rfl, hb0⟩

/-! ### impl_NameText: function 10 -/
def impl_NameText.l0 : Nat → List Int → List (List Int) → Int → Int → Option (List Int)
 | 0, _, _, _, _ => none
 | k + 1, x3, x19, x20, x21 => if x21 < x20 then (if 0 ≤ x21 then (if x21 < (x19.length : Int) then (if x3.length + (rd_L10 x19 x21).length < 140737488355328 then ((some (x3 ++ (rd_L10 x19 x21) : List Int)).bind fun y110 => (if y110.length < 140737488355328 then (impl_NameText.l0 k (y110 ++ [46]) x19 x20 (wrap64 (x21 + 1))) else (none))) else (none)) else (none)) else (none)) else (some x3)
def impl_NameText.f (k : Nat) (l0_0 : List (List Int)) : Option (List Int) := (impl_NameOk.f l0_0).bind fun t102 => (if t102 = true then (if (l0_0.length : Int) = 0 then (some (([46] : List Int))) else (impl_NameText.l0 k (([] : List Int)) l0_0 (l0_0.length : Int) 0)) else (some ([] : List Int)))
set_option maxHeartbeats 8000000 in
set_option maxRecDepth 100000 in
theorem impl_NameText.calls (k : Nat) (A0_0 : Option Addr) (c0_0 : Nat) (l0_0 : List (List Int)) (r : List Int) (w : World) (hr0_0 : Kd.C (Kd.slice 5 (Kd.int .u8)) w A0_0 l0_0.length l0_0) (hc0_0 : l0_0.length ≤ c0_0) (h : impl_NameText.f k l0_0 = some r) :
  Calls Try.prog 10 #[.agg #[.slice A0_0 l0_0.length c0_0]] w fun e w' => ∃ v0_ : Value, e = .returned (v0_) ∧ Zr 5 w' w.heap.size (fun _ => True) v0_ r ∧ Below w.heap.size w w' := by
 have hu28 := Try.underlying28
 have HR0_0 := ak hr0_0
 have HC0_0 := ak hc0_0
 clear hr0_0 hc0_0
 have HB := ak (Below.refl w.heap.size w)
 have H : ((impl_NameOk.f l0_0).bind fun t102 => (if t102 = true then (if (l0_0.length : Int) = 0 then (some (([46] : List Int))) else (impl_NameText.l0 k (([] : List Int)) l0_0 (l0_0.length : Int) 0)) else (some ([] : List Int)))) = some r := h
 clear h
 replace H := bnd H
 obtain ⟨t102, A2, H⟩ := H
 replace H := ib H
 obtain ⟨rfl, H⟩ | ⟨rfl, H⟩ := H
 ·replace H := ie H
  obtain ⟨c4b0, c4b1, H⟩ | ⟨c4b0, c4b1, H⟩ := H
  ·obtain ⟨y103, hy103⟩ : ∃ y_ : List Int, y_ = (([46] : List Int)) := ⟨_, rfl⟩
   (try with_reducible replace H := bnS H)
   (try rw [← hy103] at H)
   have Ny103 := ak hy103
   clear hy103
   obtain rfl := Option.some.inj H
   go_enter Try.func10, Try.ntmps10
   go_wp2_with (first | ((with_reducible refine gate_dst (N := 1) rfl ?_);refine bxd (N := 1) rfl HB ?_;clear HB;intro gb101 w5 hg HB BK101 GE101 hb;have GW101 := GE101;clear hb hg;obtain ⟨hcz6_0, hfz6_0⟩ := cells1 BK101.out) | ((with_reducible refine gate_callee (f := 29) rfl ?_);refine glB 8 rfl rfl Try.func29 (impl_NameOk.calls _ _ l0_0 true _ (cv HR0_0 HB) HC0_0.out A2.out) (fun w7 hb => ?_);replace BK101 := b1 BK101 hb;replace HB := b2s bs hb;(try clear hb);obtain ⟨hcz8_0, hfz8_0⟩ := cells1 BK101.out) | ((with_reducible refine gate_dst (N := 15) rfl ?_);refine Kd.R_lit (Kd.int .u8) _ 5 ?hg (N := 15) ?hd (xs := ([46] : List Int)) (inner := [.int .u8 46]) (ok := fun _ => True) (okp := fun _ => True) ?hr ?hp (fun _ hk => hk) trivial (Below.refl _ _) (Nat.le_refl _) (by simp) ?_;(case hd => rfl);(case hg => rfl);(case hr => first | (go_simp; done) | (go_simp; rfl));(case hp => exact (Reps.one (show Kd.M (Kd.int .u8) _ _ _ 46 [.int .u8 46] from rfl) (Reps.none _ _)));intro v104 w9 ho10 hb hg_ hnew_;clear hg_ hnew_;(first | rw [← Ny103.out] at ho10 | (simp only [Int.reduceToNat] at ho10; rw [← Ny103.out] at ho10));have HO105 := ak (Kd.R_lower ho10 (below_size bs));replace BK101 := b1 BK101 hb;replace HB := b2s bs hb;clear hb ho10) | ((with_reducible refine gate_dst (N := 16) rfl ?_);refine Z_conv (N := 16) rfl rfl (.tmp 15) rfl Try.underlying26 Try.underlying5 rfl HO105.out (by rw [Ny103.out]; decide) bs ?_;intro w10_ hz_ hb_ hg_;replace BK101 := ak (blk_grown BK101.out hg_ (Kd.R_ne HO105.out BK101.out (by decide)));replace HB := ak hb_;have HZHO105 := ak hz_;clear hz_ hb_ hg_))
   go_ret
   exact ⟨_, o1, zw_ HZHO105.out, bs⟩
  ·have c4b2 : ¬ (l0_0 = []) := fun h_ => bne_iff_ne.mp c4b1 (by rw [h_]; rfl)
   replace H : ∃ y106 : List Int, y106 = (([] : List Int)) ∧ (impl_NameText.l0 k y106 l0_0 (l0_0.length : Int) 0) = some r := ⟨_, rfl, H⟩
   obtain ⟨y106, hy106, H⟩ := H
   have Ny106 := ak hy106
   clear hy106
   have H' := ak H
   clear H
   go_enter Try.func10, Try.ntmps10
   go_wp2_with (first | ((with_reducible refine gate_dst (N := 1) rfl ?_);refine bxd (N := 1) rfl HB ?_;clear HB;intro gb101 w11 hg HB BK101 GE101 hb;have GW101 := GE101;clear hb hg;obtain ⟨hcz12_0, hfz12_0⟩ := cells1 BK101.out) | ((with_reducible refine gate_callee (f := 29) rfl ?_);refine glB 8 rfl rfl Try.func29 (impl_NameOk.calls _ _ l0_0 true _ (cv HR0_0 HB) HC0_0.out A2.out) (fun w13 hb => ?_);replace BK101 := b1 BK101 hb;replace HB := b2s bs hb;(try clear hb);obtain ⟨hcz14_0, hfz14_0⟩ := cells1 BK101.out) | ((with_reducible refine gate_dst (N := 17) rfl ?_);refine Kd.R_lit (Kd.int .u8) _ 5 ?hg (N := 17) ?hd (xs := ([] : List Int)) (inner := []) (ok := fun _ => True) (okp := fun _ => True) ?hr ?hp (fun _ hk => hk) trivial (Below.refl _ _) (Nat.le_refl _) (by simp) ?_;(case hd => rfl);(case hg => rfl);(case hr => first | (go_simp; done) | (go_simp; rfl));(case hp => exact (Reps.none _ _));intro v107 w15 ho16 hb hg_ hnew_;clear hg_ hnew_;(first | rw [← Ny106.out] at ho16 | (simp only [Int.reduceToNat] at ho16; rw [← Ny106.out] at ho16));have HO108 := ak (Kd.R_lower ho16 (below_size bs));replace BK101 := b1 BK101 hb;replace HB := b2s bs hb;clear hb ho16;obtain ⟨hcz17_0, hfz17_0⟩ := cells1 BK101.out))
   go_loopg [3, 21] k (fun kq v3 v21 w' => ∃ (x3_1 : List Int) (x21_1 : Int), v21 = .int .i64 x21_1 ∧ Aside0 (impl_NameText.l0 kq x3_1 l0_0 (l0_0.length : Int) x21_1 = some r) ∧ Aside0 (kq ≤ k) ∧ Aside0 (Kd.R (Kd.int .u8) 5 w' w.heap.size (fun _ => True) v3 x3_1) ∧ Aside0 (w'.heap[gb101]? = some (.cells #[(.slice A0_0 l0_0.length c0_0)] 28 (0, 0))) ∧ Aside0 (Below w.heap.size w w'))
   case atStart => exact ⟨(y106), (0), o2, H', ⟨Nat.le_refl _⟩, ⟨rw_ HO108.out⟩, ⟨bk BK101.out⟩, ⟨bs⟩⟩
   case round =>
    clear H'
    (try clear c4b0)
    (try clear c4b1)
    (try clear c4b2)
    (try clear hcz12_0)
    (try clear hcz14_0)
    (try clear hcz17_0)
    (try clear hfz12_0)
    (try clear hfz14_0)
    (try clear hfz17_0)
    obtain ⟨x3_1, x21_1, rfl, HA, HK1, HO_3, BK101, HB⟩ := hrel
    cases gk with
    | zero => exact absurd HA.out (by simp [impl_NameText.l0])
    | succ k1 =>
     have H := HA.out
     clear HA
     simp only [impl_NameText.l0] at H
     replace H := ip H
     obtain ⟨c18b0, H⟩ | ⟨c18b0, H⟩ := H
     ·replace H := ipN H
      obtain ⟨c19b0, H⟩ := H
      replace H := ipN H
      obtain ⟨c20b0, H⟩ := H
      by_cases c21 : x3_1.length + (rd_L10 l0_0 x21_1).length < 140737488355328
      ·rw [if_pos c21] at H
       have LMc21 := ak c21
       clear c21
       obtain ⟨y110, hy110⟩ : ∃ y_ : List Int, y_ = (x3_1 ++ (rd_L10 l0_0 x21_1)) := ⟨_, rfl⟩
       (try with_reducible replace H := bnS H)
       (try rw [← hy110] at H)
       have Ny110 := ak hy110
       clear hy110
       by_cases c22 : y110.length < 140737488355328
       ·rw [if_pos c22] at H
        have LMc22 := ak c22
        clear c22
        obtain ⟨y113, hy113⟩ : ∃ y_ : List Int, y_ = (y110 ++ [46]) := ⟨_, rfl⟩
        (try with_reducible replace H := bnS H)
        (try rw [← hy113] at H)
        have Ny113 := ak hy113
        clear hy113
        have H' := ak H
        clear H
        obtain ⟨ad109, A109_0, c109_0, rfl, hx109_0, HC109_0, HR109_0, p109, q109⟩ := el_L10 HR0_0 HB x21_1
        go_wp2_with (first | ((with_reducible refine gate_builtin (b := .append) (xs := #[.tmp 25, .tmp 26]) rfl ?_);at_builtin;refine Kd.R_append_rows (Kd.int .u8) (w0 := w) w.heap.size rfl (.tmp 25) (.tmp 26) 26 5 (.int .u8 0) 1 rfl Try.underlying26 info5 rfl (by decide) (by omega) u3 x3_1 (rd_L10 l0_0 x21_1) _ _ _ (fun _ => True) (fun _ => False) rfl rfl ?aO ?aR (fun _ _ h => h) (fun _ h => h.elim) ?aF ?aB ?aS ?aL ?_;(case aR => exact cw HR109_0.out HB.out);(case aB => exact bs);(case aF => exact (fun _ _ => trivial));(case aO => exact (rw_ HO_3.out));(case aS => exact (below_size bs));(case aL => have := LMc21.out; omega);intro v111 w23 ho hb hg hat;rw [← Ny110.out] at ho;replace BK101 := ak (blk_grown (bk BK101.out) hg (Kd.R_ne HO_3.out BK101.out (by decide)));replace HB := ak (hb);have HO112 := ak (ho);clear HO_3;clear ho hb hg hat) | ((with_reducible refine gate_builtin (b := .append) (xs := #[.tmp 27, .tmp 28]) rfl ?_);at_builtin;refine Kd.R_append (Kd.int .u8) (w0 := w) w.heap.size rfl (.tmp 27) (.tmp 28) 26 5 (.int .u8 0) 1 rfl Try.underlying26 info5 rfl (by decide) (by omega) v111 y110 46 [.int .u8 46] (fun _ => True) (fun _ => False) rfl rfl ?aP (fun _ hk => hk.elim) ?aF ?aO ?aB ?aS ?aL ?_;(case aP => exact rfl);(case aB => exact bs);(case aF => exact (fun _ _ => trivial));(case aO => exact (rw_ HO112.out));(case aS => exact (below_size bs));(case aL => have := LMc22.out; omega);intro v114 w24 ho hb hg hat;rw [← Ny113.out] at ho;replace BK101 := ak (blk_grown (bk BK101.out) hg (Kd.R_ne HO112.out BK101.out (by decide)));replace HB := ak (hb);have HO115 := ak (ho);clear HO112;clear ho hb hg hat))
        go_roundg k1
        case measure => have := HK1.out; omega
        case rel => exact ⟨(y113), (wrap64 (x21_1 + 1)), o2, H', ⟨by have := HK1.out; omega⟩, ⟨rw_ HO115.out⟩, ⟨bk BK101.out⟩, ⟨bs⟩⟩
       ·rw [if_neg c22] at H
        exact absurd H (by simp)
      ·rw [if_neg c21] at H
       exact absurd H (by simp)
     ·obtain rfl := Option.some.inj H
      go_wp2
      go_ret
      exact ⟨_, o1, Z_of (rw_ HO_3.out), bs⟩
 ·obtain rfl := Option.some.inj H
  go_enter Try.func10, Try.ntmps10
  go_wp2_with (first | ((with_reducible refine gate_dst (N := 1) rfl ?_);refine bxd (N := 1) rfl HB ?_;clear HB;intro gb101 w25 hg HB BK101 GE101 hb;have GW101 := GE101;clear hb hg;obtain ⟨hcz26_0, hfz26_0⟩ := cells1 BK101.out) | ((with_reducible refine gate_callee (f := 29) rfl ?_);refine glB 8 rfl rfl Try.func29 (impl_NameOk.calls _ _ l0_0 false _ (cv HR0_0 HB) HC0_0.out A2.out) (fun w27 hb => ?_);replace BK101 := b1 BK101 hb;replace HB := b2s bs hb;(try clear hb)))
  go_ret
  exact ⟨_, o1, Z_of (Kd.R_nil _ _ _ _ _), bs⟩

/-! ### laws_eqByteS: function 11 -/
def laws_eqByteS.l0 : Nat → List Int → List Int → Int → Option (Bool)
 | 0, _, _, _ => none
 | k + 1, x0, x1, x5 => if x5 < (x0.length : Int) then (if 0 ≤ x5 then (if x5 < (x1.length : Int) then (if (rd x0 x5) = (rd x1 x5) then (laws_eqByteS.l0 k x0 x1 (wrap64 (x5 + 1))) else (some false)) else (none)) else (none)) else (some true)
def laws_eqByteS.f (k : Nat) (l0 : List Int) (l1 : List Int) : Option (Bool) := if (l0.length : Int) = (l1.length : Int) then (laws_eqByteS.l0 k l0 l1 0) else (some false)
set_option maxHeartbeats 8000000 in
set_option maxRecDepth 100000 in
theorem laws_eqByteS.calls (k : Nat) (A0 : Option Addr) (c0 : Nat) (l0 : List Int) (A1 : Option Addr) (c1 : Nat) (l1 : List Int) (r : Bool) (w : World) (hr0 : Kd.C (Kd.int .u8) w A0 l0.length l0) (hc0 : l0.length ≤ c0) (hr1 : Kd.C (Kd.int .u8) w A1 l1.length l1) (hc1 : l1.length ≤ c1) (h : laws_eqByteS.f k l0 l1 = some r) :
  Calls Try.prog 11 #[.slice A0 l0.length c0, .slice A1 l1.length c1] w fun e w' => e = .returned (.bool r) ∧ Drawn0 w w' := by
 have HR0 := ak hr0
 have HC0 := ak hc0
 clear hr0 hc0
 have HR1 := ak hr1
 have HC1 := ak hc1
 clear hr1 hc1
 have H : (if (l0.length : Int) = (l1.length : Int) then (laws_eqByteS.l0 k l0 l1 0) else (some false)) = some r := h
 clear h
 replace H := ie H
 obtain ⟨c3b0, c3b1, H⟩ | ⟨c3b0, c3b1, H⟩ := H
 ·have c3b2 : (l0.length == l1.length) = true := lnT c3b0
  have H' := ak H
  clear H
  go_enter Try.func11, Try.ntmps11
  go_wp2
  repeat (go_quiet (fail); try go_wp2)
  go_loopg [5] k (fun kq v5 w' => ∃ (x5_1 : Int), v5 = .int .i64 x5_1 ∧ Aside0 (laws_eqByteS.l0 kq l0 l1 x5_1 = some r) ∧ Aside0 (kq ≤ k) ∧ Drawn0 w w')
  case atStart => exact ⟨(0), o2, H', ⟨Nat.le_refl _⟩, od⟩
  case round =>
   clear H'
   (try clear c1)
   (try clear c3b0)
   (try clear c3b1)
   (try clear c3b2)
   obtain ⟨x5_1, rfl, HA, HK1, ⟨m1, rfl⟩⟩ := hrel
   cases gk with
   | zero => exact absurd HA.out (by simp [laws_eqByteS.l0])
   | succ k1 =>
    have H := HA.out
    clear HA
    simp only [laws_eqByteS.l0] at H
    replace H := ip H
    obtain ⟨c4b0, H⟩ | ⟨c4b0, H⟩ := H
    ·replace H := ipN H
     obtain ⟨c5b0, H⟩ := H
     replace H := ipN H
     obtain ⟨c6b0, H⟩ := H
     replace H := ie H
     obtain ⟨c7b0, c7b1, H⟩ | ⟨c7b0, c7b1, H⟩ := H
     ·have H' := ak H
      clear H
      obtain ⟨ad101, rfl, hx101_0, p101, q101⟩ := el0_int HR0 x5_1
      obtain ⟨ad102, rfl, hx102_0, p102, q102⟩ := el0_int HR1 x5_1
      go_wp2
      repeat (go_quiet (fail); try go_wp2)
      go_roundg k1
      case measure => have := HK1.out; omega
      case rel => exact ⟨(wrap64 (x5_1 + 1)), o2, H', ⟨by have := HK1.out; omega⟩, od⟩
     ·obtain rfl := Option.some.inj H
      obtain ⟨ad101, rfl, hx101_0, p101, q101⟩ := el0_int HR0 x5_1
      obtain ⟨ad102, rfl, hx102_0, p102, q102⟩ := el0_int HR1 x5_1
      go_wp2
      repeat (go_quiet (fail); try go_wp2)
      go_ret
      exact ⟨o2, od⟩
    ·obtain rfl := Option.some.inj H
     go_wp2
     repeat (go_quiet (fail); try go_wp2)
     go_ret
     exact ⟨o2, od⟩
 ·have c3b2 : (l0.length == l1.length) = false := lnF c3b0
  obtain rfl := Option.some.inj H
  go_enter Try.func11, Try.ntmps11
  go_wp2
  repeat (go_quiet (fail); try go_wp2)
  go_ret
  exact ⟨o2, od⟩

/-! ### laws_eqByteSS: function 30 -/
def laws_eqByteSS.l0 : Nat → List (List Int) → List (List Int) → Int → Option (Bool)
 | 0, _, _, _ => none
 | k + 1, x0, x1, x5 => if x5 < (x0.length : Int) then (if 0 ≤ x5 then (if x5 < (x1.length : Int) then ((laws_eqByteS.f k (rd_L10 x0 x5) (rd_L10 x1 x5)).bind fun t103 => (if t103 = true then (laws_eqByteSS.l0 k x0 x1 (wrap64 (x5 + 1))) else (some false))) else (none)) else (none)) else (some true)
def laws_eqByteSS.f (k : Nat) (l0 : List (List Int)) (l1 : List (List Int)) : Option (Bool) := if (l0.length : Int) = (l1.length : Int) then (laws_eqByteSS.l0 k l0 l1 0) else (some false)
set_option maxHeartbeats 8000000 in
set_option maxRecDepth 100000 in
theorem laws_eqByteSS.calls (k : Nat) (A0 : Option Addr) (c0 : Nat) (l0 : List (List Int)) (A1 : Option Addr) (c1 : Nat) (l1 : List (List Int)) (r : Bool) (w : World) (hr0 : Kd.C (Kd.slice 5 (Kd.int .u8)) w A0 l0.length l0) (hc0 : l0.length ≤ c0) (hr1 : Kd.C (Kd.slice 5 (Kd.int .u8)) w A1 l1.length l1) (hc1 : l1.length ≤ c1) (h : laws_eqByteSS.f k l0 l1 = some r) :
  Calls Try.prog 30 #[.slice A0 l0.length c0, .slice A1 l1.length c1] w fun e w' => e = .returned (.bool r) ∧ Drawn0 w w' := by
 have HR0 := ak hr0
 have HC0 := ak hc0
 clear hr0 hc0
 have HR1 := ak hr1
 have HC1 := ak hc1
 clear hr1 hc1
 have H : (if (l0.length : Int) = (l1.length : Int) then (laws_eqByteSS.l0 k l0 l1 0) else (some false)) = some r := h
 clear h
 replace H := ie H
 obtain ⟨c3b0, c3b1, H⟩ | ⟨c3b0, c3b1, H⟩ := H
 ·have c3b2 : (l0.length == l1.length) = true := lnT c3b0
  have H' := ak H
  clear H
  go_enter Try.func30, Try.ntmps30
  go_wp2
  repeat (go_quiet (fail); try go_wp2)
  go_loopg [5] k (fun kq v5 w' => ∃ (x5_1 : Int), v5 = .int .i64 x5_1 ∧ Aside0 (laws_eqByteSS.l0 kq l0 l1 x5_1 = some r) ∧ Aside0 (kq ≤ k) ∧ Drawn0 w w')
  case atStart => exact ⟨(0), o2, H', ⟨Nat.le_refl _⟩, od⟩
  case round =>
   clear H'
   (try clear c1)
   (try clear c3b0)
   (try clear c3b1)
   (try clear c3b2)
   obtain ⟨x5_1, rfl, HA, HK1, ⟨m1, rfl⟩⟩ := hrel
   cases gk with
   | zero => exact absurd HA.out (by simp [laws_eqByteSS.l0])
   | succ k1 =>
    have H := HA.out
    clear HA
    simp only [laws_eqByteSS.l0] at H
    replace H := ip H
    obtain ⟨c4b0, H⟩ | ⟨c4b0, H⟩ := H
    ·replace H := ipN H
     obtain ⟨c5b0, H⟩ := H
     replace H := ipN H
     obtain ⟨c6b0, H⟩ := H
     replace H := bnd H
     obtain ⟨t103, A7, H⟩ := H
     replace H := ib H
     obtain ⟨rfl, H⟩ | ⟨rfl, H⟩ := H
     ·have H' := ak H
      clear H
      obtain ⟨ad101, A101_0, c101_0, rfl, hx101_0, HC101_0, HR101_0, p101, q101⟩ := el0_L10 HR0 x5_1
      obtain ⟨ad102, A102_0, c102_0, rfl, hx102_0, HC102_0, HR102_0, p102, q102⟩ := el0_L10 HR1 x5_1
      go_wp2_with ((go_at_call 11;(with_reducible refine (laws_eqByteS.calls k1 _ _ (rd_L10 l0 x5_1) _ _ (rd_L10 l1 x5_1) true _ (cd HR101_0) HC101_0.out (cd HR102_0) HC102_0.out A7.out).mono ?_);rintro e w' ⟨rfl, ⟨nd, rfl⟩⟩;(try first | exact ⟨rfl, _, World.drewN_drewN _ _ _⟩ | exact ⟨rfl, _, Eq.trans (World.drewN_drewN _ _ _) (congrArg (World.drewN _) (Nat.add_assoc _ _ _))⟩)))
      repeat (go_quiet ((go_at_call 11;(with_reducible refine (laws_eqByteS.calls k1 _ _ (rd_L10 l0 x5_1) _ _ (rd_L10 l1 x5_1) true _ (cd HR101_0) HC101_0.out (cd HR102_0) HC102_0.out A7.out).mono ?_);rintro e w' ⟨rfl, ⟨nd, rfl⟩⟩;(try first | exact ⟨rfl, _, World.drewN_drewN _ _ _⟩ | exact ⟨rfl, _, Eq.trans (World.drewN_drewN _ _ _) (congrArg (World.drewN _) (Nat.add_assoc _ _ _))⟩))); try go_wp2_with ((go_at_call 11;(with_reducible refine (laws_eqByteS.calls k1 _ _ (rd_L10 l0 x5_1) _ _ (rd_L10 l1 x5_1) true _ (cd HR101_0) HC101_0.out (cd HR102_0) HC102_0.out A7.out).mono ?_);rintro e w' ⟨rfl, ⟨nd, rfl⟩⟩;(try first | exact ⟨rfl, _, World.drewN_drewN _ _ _⟩ | exact ⟨rfl, _, Eq.trans (World.drewN_drewN _ _ _) (congrArg (World.drewN _) (Nat.add_assoc _ _ _))⟩))))
      go_roundg k1
      case measure => have := HK1.out; omega
      case rel => exact ⟨(wrap64 (x5_1 + 1)), o2, H', ⟨by have := HK1.out; omega⟩, od⟩
     ·obtain rfl := Option.some.inj H
      obtain ⟨ad101, A101_0, c101_0, rfl, hx101_0, HC101_0, HR101_0, p101, q101⟩ := el0_L10 HR0 x5_1
      obtain ⟨ad102, A102_0, c102_0, rfl, hx102_0, HC102_0, HR102_0, p102, q102⟩ := el0_L10 HR1 x5_1
      go_wp2_with ((go_at_call 11;(with_reducible refine (laws_eqByteS.calls k1 _ _ (rd_L10 l0 x5_1) _ _ (rd_L10 l1 x5_1) false _ (cd HR101_0) HC101_0.out (cd HR102_0) HC102_0.out A7.out).mono ?_);rintro e w' ⟨rfl, ⟨nd, rfl⟩⟩;(try first | exact ⟨rfl, _, World.drewN_drewN _ _ _⟩ | exact ⟨rfl, _, Eq.trans (World.drewN_drewN _ _ _) (congrArg (World.drewN _) (Nat.add_assoc _ _ _))⟩)))
      repeat (go_quiet ((go_at_call 11;(with_reducible refine (laws_eqByteS.calls k1 _ _ (rd_L10 l0 x5_1) _ _ (rd_L10 l1 x5_1) false _ (cd HR101_0) HC101_0.out (cd HR102_0) HC102_0.out A7.out).mono ?_);rintro e w' ⟨rfl, ⟨nd, rfl⟩⟩;(try first | exact ⟨rfl, _, World.drewN_drewN _ _ _⟩ | exact ⟨rfl, _, Eq.trans (World.drewN_drewN _ _ _) (congrArg (World.drewN _) (Nat.add_assoc _ _ _))⟩))); try go_wp2_with ((go_at_call 11;(with_reducible refine (laws_eqByteS.calls k1 _ _ (rd_L10 l0 x5_1) _ _ (rd_L10 l1 x5_1) false _ (cd HR101_0) HC101_0.out (cd HR102_0) HC102_0.out A7.out).mono ?_);rintro e w' ⟨rfl, ⟨nd, rfl⟩⟩;(try first | exact ⟨rfl, _, World.drewN_drewN _ _ _⟩ | exact ⟨rfl, _, Eq.trans (World.drewN_drewN _ _ _) (congrArg (World.drewN _) (Nat.add_assoc _ _ _))⟩))))
      go_ret
      exact ⟨o2, od⟩
    ·obtain rfl := Option.some.inj H
     go_wp2
     repeat (go_quiet (fail); try go_wp2)
     go_ret
     exact ⟨o2, od⟩
 ·have c3b2 : (l0.length == l1.length) = false := lnF c3b0
  obtain rfl := Option.some.inj H
  go_enter Try.func30, Try.ntmps30
  go_wp2
  repeat (go_quiet (fail); try go_wp2)
  go_ret
  exact ⟨o2, od⟩

/-! ### laws_eqName: function 12 -/
def laws_eqName.f (k : Nat) (l0_0 : List (List Int)) (l1_0 : List (List Int)) : Option (Bool) := (laws_eqByteSS.f k l0_0 l1_0).bind fun t103 => (if t103 = true then (some true) else (some false))
set_option maxHeartbeats 8000000 in
set_option maxRecDepth 100000 in
theorem laws_eqName.calls (k : Nat) (A0_0 : Option Addr) (c0_0 : Nat) (l0_0 : List (List Int)) (A1_0 : Option Addr) (c1_0 : Nat) (l1_0 : List (List Int)) (r : Bool) (w : World) (hr0_0 : Kd.C (Kd.slice 5 (Kd.int .u8)) w A0_0 l0_0.length l0_0) (hc0_0 : l0_0.length ≤ c0_0) (hr1_0 : Kd.C (Kd.slice 5 (Kd.int .u8)) w A1_0 l1_0.length l1_0) (hc1_0 : l1_0.length ≤ c1_0) (h : laws_eqName.f k l0_0 l1_0 = some r) :
  Calls Try.prog 12 #[.agg #[.slice A0_0 l0_0.length c0_0], .agg #[.slice A1_0 l1_0.length c1_0]] w fun e w' => e = .returned (.bool r) ∧ Below w.heap.size w w' := by
 have hu28 := Try.underlying28
 have HR0_0 := ak hr0_0
 have HC0_0 := ak hc0_0
 clear hr0_0 hc0_0
 have HR1_0 := ak hr1_0
 have HC1_0 := ak hc1_0
 clear hr1_0 hc1_0
 have HB := ak (Below.refl w.heap.size w)
 have H : ((laws_eqByteSS.f k l0_0 l1_0).bind fun t103 => (if t103 = true then (some true) else (some false))) = some r := h
 clear h
 replace H := bnd H
 obtain ⟨t103, A3, H⟩ := H
 replace H := ib H
 obtain ⟨rfl, H⟩ | ⟨rfl, H⟩ := H
 ·obtain rfl := Option.some.inj H
  go_enter Try.func12, Try.ntmps12
  go_wp2_with (first | ((with_reducible refine gate_dst (N := 2) rfl ?_);refine bxd (N := 2) rfl HB ?_;clear HB;intro gb101 w5 hg HB BK101 GE101 hb;have GW101 := GE101;clear hb hg) | ((with_reducible refine gate_dst (N := 3) rfl ?_);refine bxe (N := 3) rfl ?_;intro gb102 hg w6 hbox hb;have BK102 := ak (hbox);have GW102 := b3s hg bs;have GE102 := GW102;replace HB := b2s bs hb;have NB101_102 := b4 hg BK101;have NB102_101 := b5 hg BK101;replace BK101 := b1 BK101 hb;clear hb hbox hg;have hnb7 := NB101_102.out;have hnc7 := NB102_101.out;obtain ⟨hcz8_0, hfz8_0⟩ := cells1 BK101.out;obtain ⟨hcz9_0, hfz9_0⟩ := cells1 BK102.out) | ((with_reducible refine gate_callee (f := 30) rfl ?_);refine glD 9 rfl rfl Try.func30 (laws_eqByteSS.calls k _ _ l0_0 _ _ l1_0 true _ (cv HR0_0 HB) HC0_0.out (cv HR1_0 HB) HC1_0.out A3.out) (fun nd => ?_)))
  go_ret
  exact ⟨o1, bs⟩
 ·obtain rfl := Option.some.inj H
  go_enter Try.func12, Try.ntmps12
  go_wp2_with (first | ((with_reducible refine gate_dst (N := 2) rfl ?_);refine bxd (N := 2) rfl HB ?_;clear HB;intro gb101 w10 hg HB BK101 GE101 hb;have GW101 := GE101;clear hb hg) | ((with_reducible refine gate_dst (N := 3) rfl ?_);refine bxe (N := 3) rfl ?_;intro gb102 hg w11 hbox hb;have BK102 := ak (hbox);have GW102 := b3s hg bs;have GE102 := GW102;replace HB := b2s bs hb;have NB101_102 := b4 hg BK101;have NB102_101 := b5 hg BK101;replace BK101 := b1 BK101 hb;clear hb hbox hg;have hnb12 := NB101_102.out;have hnc12 := NB102_101.out;obtain ⟨hcz13_0, hfz13_0⟩ := cells1 BK101.out;obtain ⟨hcz14_0, hfz14_0⟩ := cells1 BK102.out) | ((with_reducible refine gate_callee (f := 30) rfl ?_);refine glD 9 rfl rfl Try.func30 (laws_eqByteSS.calls k _ _ l0_0 _ _ l1_0 false _ (cv HR0_0 HB) HC0_0.out (cv HR1_0 HB) HC1_0.out A3.out) (fun nd => ?_)))
  go_ret
  exact ⟨o1, bs⟩

/-! ### laws_markByteSS: function 31 -/

/-- What is written over n bytes, numbers from k on. -/
def laws_markByteSS.mk (k : Int) (n : Nat) : List Int := (List.range n).map fun (j : Nat) => (k + (j : Int)) % 256
theorem laws_markByteSS.mk_len (k : Int) (n : Nat) : (laws_markByteSS.mk k n).length = n := by simp [laws_markByteSS.mk]
theorem laws_markByteSS.mk_set (k : Int) (l : List Int) (i : Nat) (h : i < l.length) : (laws_markByteSS.mk k i ++ l.drop i).set i ((k + i) % 256) = laws_markByteSS.mk k (i + 1) ++ l.drop (i + 1) := by
 rw [List.set_append_right _ _ (by rw [laws_markByteSS.mk_len]; omega), laws_markByteSS.mk_len, Nat.sub_self, List.drop_eq_getElem_cons h, List.set_cons_zero]
 unfold laws_markByteSS.mk
 rw [List.range_succ, List.map_append, List.append_assoc]
 rfl
set_option maxHeartbeats 8000000 in
set_option maxRecDepth 100000 in
/-- markByteS: numbers are written over the bytes of an own row. -/
theorem laws_markByteSS.bytes (P : Nat → Prop) (u : Value) (l : List Int) (k0 : Int) (base : Nat) (w : World) (h : Kd.R (Kd.int .u8) 5 w base P u l) (h0 : 0 ≤ k0) (h1 : k0 + l.length ≤ 4611686018427387904) :
  Calls Try.prog 14 #[u, .int .i64 k0] w fun e w' => e = .returned (.int .i64 (k0 + l.length)) ∧ Mark P w w' ∧ Kd.R (Kd.int .u8) 5 w' base P u (laws_markByteSS.mk k0 l.length) := by
 have HO := Aside0.mk h
 clear h
 go_enter Try.func14, Try.ntmps14
 go_wp2
 go_loopg [1, 5] l.length (fun kq v1 v5 w' => ∃ i : Nat, i ≤ l.length ∧ l.length - i ≤ kq ∧ v1 = .int .i64 (k0 + i) ∧ v5 = .int .i64 i ∧ Aside0 (Kd.R (Kd.int .u8) 5 w' base P u (laws_markByteSS.mk k0 i ++ l.drop i)) ∧ Aside0 (Mark P w w'))
 case atStart => exact ⟨0, Nat.zero_le _, by omega, by simp, rfl, ⟨by simpa [laws_markByteSS.mk] using HO.out⟩, ⟨Mark.refl _ _⟩⟩
 case round =>
  clear HO
  obtain ⟨i, hi, hg, rfl, rfl, HO, HM⟩ := hrel
  have hlen : (laws_markByteSS.mk k0 i ++ l.drop i).length = l.length := by rw [List.length_append, laws_markByteSS.mk_len, List.length_drop]; omega
  by_cases hlt : i < l.length
  ·have hset := Aside0.mk (laws_markByteSS.mk_set k0 l i hlt)
   generalize laws_markByteSS.mk k0 i ++ l.drop i = xs at HO hlen hset
   obtain ⟨Ao6, co6, eo6⟩ := Kd.R_slice HO.out
   subst eo6
   have p5 : 0 ≤ (i : Int) := by omega
   have q5 : (i : Int) < ((xs.length : Int) : Int) := by omega
   obtain ⟨go5, co5, eo5, gb5, gl5, cl5, HG5⟩ := Kd.R_form HO.out (by omega)
   (first | cases eo5 | (injection eo5 with ea_ en_ ec_; (first | subst ea_ | (injection ea_ with ea_; subst ea_)); subst ec_; clear en_))
   have GG5 := Aside0.mk HG5
   clear gb5 gl5 HG5
   obtain ⟨hx5, hf5⟩ := Kd.R_celln 0 HO.out (i : Int) p5 q5
   have hti : ((i : Int)).toNat = i := by omega
   have HP7 := Aside0.mk (Kd.R_putg HO.out (i : Int) ((k0 + i) % 256))
   rw [hti] at hx5 hf5 HP7
   have HC := Aside0.mk ((blk_cell GG5.out i).symm.trans hx5)
   clear hti hlen
   have HPo := Aside0.mk (HO.out.1 go5 rfl)
   go_wp2_with (first | ((with_reducible refine gate_store (t := 5) (p := 16) rfl ?_); refine store_event (t := 5) (p := 16) (v := ?vo_w8) (w1 := (wr.setCell ⟨go5, i, none⟩ (.int .u8 ((k0 + i) % 256)))) ?hg ?ho ?hn ?hr ?_; (case ho => rfl); (case hg => rfl); (case hn => rfl); (case hr => first | (go_simp; done) | (go_simp; rfl)); intro w8 hw; replace HO : Aside0 (Kd.R (Kd.int .u8) 5 w8 base P (.slice (some ⟨go5, 0, none⟩) xs.length co6) (laws_markByteSS.mk k0 (i + 1) ++ l.drop (i + 1))) := ⟨by rw [hw, ← hset.out]; exact HP7.out.1⟩; replace HM : Aside0 (Mark P w w8) := ⟨by rw [hw]; exact HM.out.trans (Mark.set GG5.out HC.out HPo.out)⟩; clear HP7 hw))
   go_roundg (l.length - (i + 1))
   case measure => omega
   case rel => exact ⟨i + 1, by omega, by omega, by go_num, by go_num, HO, HM⟩
  ·have : i = l.length := by omega
   subst this
   rw [List.drop_of_length_le (Nat.le_refl _), List.append_nil] at HO hlen
   obtain ⟨xs, hxs⟩ : ∃ xs, laws_markByteSS.mk k0 l.length = xs := ⟨_, rfl⟩
   rw [hxs] at HO hlen
   have HX := Aside0.mk hxs
   clear hxs
   obtain ⟨Ao9, co9, eo9⟩ := Kd.R_slice HO.out
   subst eo9
   have hlz : ¬ (l.length : Int) < (xs.length : Int) := by omega
   clear hlen
   go_wp2
   go_ret
   exact ⟨rfl, HM.out, by rw [HX.out]; exact HO.out⟩
def laws_markByteSS.all (k : Int) : List (List Int) → List (List Int)
 | [] => []
 | x :: l => laws_markByteSS.mk k x.length :: laws_markByteSS.all (k + x.length) l
def laws_markByteSS.sum (l : List (List Int)) : Nat := (l.map List.length).sum
theorem laws_markByteSS.all_len (l : List (List Int)) : ∀ k, (laws_markByteSS.all k l).length = l.length := by
 induction l with
 | nil => intro k; rfl
 | cons x l ih => intro k; simp [laws_markByteSS.all, ih]
theorem laws_markByteSS.all_snoc (l : List (List Int)) (x : List Int) : ∀ k, laws_markByteSS.all k (l ++ [x]) = laws_markByteSS.all k l ++ [laws_markByteSS.mk (k + (laws_markByteSS.sum l : Int)) x.length] := by
 induction l with
 | nil => intro k; simp [laws_markByteSS.all, laws_markByteSS.sum]
 | cons y l ih =>
  intro k
  simp only [List.cons_append, laws_markByteSS.all, ih, laws_markByteSS.sum, List.map_cons, List.sum_cons]
  rw [show k + (y.length : Int) + ((l.map List.length).sum : Nat) = k + ((y.length + (l.map List.length).sum : Nat) : Int) by omega]
theorem laws_markByteSS.sum_snoc (l : List (List Int)) (x : List Int) : laws_markByteSS.sum (l ++ [x]) = laws_markByteSS.sum l + x.length := by simp [laws_markByteSS.sum]
theorem laws_markByteSS.sum_take (l : List (List Int)) (k : Nat) : laws_markByteSS.sum (l.take k) ≤ laws_markByteSS.sum l := by
 have h := congrArg laws_markByteSS.sum (List.take_append_drop k l)
 have h2 : laws_markByteSS.sum (l.take k ++ l.drop k) = laws_markByteSS.sum (l.take k) + laws_markByteSS.sum (l.drop k) := by simp only [laws_markByteSS.sum, List.map_append, List.sum_append]
 omega
def laws_markByteSS.f (l0 : List (List Int)) (a1 : Int) : Option (Int × List (List Int)) := if 0 ≤ a1 ∧ a1 + (laws_markByteSS.sum l0 : Int) ≤ 4611686018427387904 then some (a1 + (laws_markByteSS.sum l0 : Int), laws_markByteSS.all a1 l0) else none
set_option maxHeartbeats 8000000 in
set_option maxRecDepth 100000 in
theorem laws_markByteSS.marks (P0_ : Nat → Prop) (u9000_ : Value) (l0 : List (List Int)) (a1 : Int) (base : Nat) (w : World) (ho0 : Kd.S (Kd.slice 5 (Kd.int .u8)) 26 w base P0_ u9000_ l0) (h0 : 0 ≤ a1) (h1 : a1 + (laws_markByteSS.sum l0 : Int) ≤ 4611686018427387904) :
  Calls Try.prog 31 #[u9000_, .int .i64 a1] w fun e w' => e = .returned (.int .i64 (a1 + (laws_markByteSS.sum l0 : Int))) ∧ Mark P0_ w w' ∧ Kd.S (Kd.slice 5 (Kd.int .u8)) 26 w' base P0_ u9000_ (laws_markByteSS.all a1 l0) := by
 have HO := Aside0.mk ho0
 have hbig : l0.length ≤ 9223372036854775807 := by
  obtain ⟨A, c, rfl, _, hr⟩ := Kd.R_reads (Kd.S_R ho0)
  exact hr.2.1
 obtain ⟨A0, c0, rfl⟩ : ∃ A c, u9000_ = .slice A l0.length c := by
  obtain ⟨A, c, rfl, _⟩ := Kd.R_reads (Kd.S_R ho0)
  exact ⟨A, c, rfl⟩
 have H1 := Aside0.mk h1
 clear ho0 h1
 go_enter Try.func31, Try.ntmps31
 go_wp2
 go_loopg [1, 5] l0.length (fun kq v1 v5 w' => ∃ i : Nat, i ≤ l0.length ∧ l0.length - i ≤ kq ∧ v1 = .int .i64 (a1 + (laws_markByteSS.sum (l0.take i) : Int)) ∧ v5 = .int .i64 i ∧ Aside0 (Kd.S (Kd.slice 5 (Kd.int .u8)) 26 w' base P0_ (.slice A0 l0.length c0) (laws_markByteSS.all a1 (l0.take i) ++ l0.drop i)) ∧ Aside0 (Mark P0_ w w'))
 case atStart => exact ⟨0, Nat.zero_le _, by omega, by simp [laws_markByteSS.sum], rfl, ⟨by simpa [laws_markByteSS.all] using HO.out⟩, ⟨Mark.refl _ _⟩⟩
 case round =>
  clear HO
  obtain ⟨i, hi, hg, rfl, rfl, HO, HM⟩ := hrel
  have hal : (laws_markByteSS.all a1 (l0.take i)).length = i := by rw [laws_markByteSS.all_len, List.length_take]; omega
  by_cases hlt : i < l0.length
  ·have hlen : (laws_markByteSS.all a1 (l0.take i) ++ l0.drop i).length = l0.length := by rw [List.length_append, hal, List.length_drop]; omega
   obtain ⟨P, c, g, cap, hP, hv, hM, hcc, hback⟩ := S_at HO.out i (by omega)
   rw [hlen] at hv
   injection hv with e1 e2 e3
   subst e1; subst e3
   have hxe : (laws_markByteSS.all a1 (l0.take i) ++ l0.drop i)[i]'(by omega) = l0[i] := by
    rw [List.getElem_append_right (by omega)]; simp [hal]
   rw [hxe] at hM
   obtain ⟨vi, rfl, hR⟩ := hM
   obtain ⟨Ai, ci, rfl, hli, hCi⟩ := Kd.R_reads hR
   have hcell : wr.cell? ⟨g, i, none⟩ = some (.slice Ai l0[i].length ci) := by have := hcc 0 _ rfl; simpa [Kd.slice] using this
   have hset : (laws_markByteSS.all a1 (l0.take i) ++ l0.drop i).set i (laws_markByteSS.mk (a1 + (laws_markByteSS.sum (l0.take i) : Int)) l0[i].length) = laws_markByteSS.all a1 (l0.take (i + 1)) ++ l0.drop (i + 1) := by
    rw [List.take_succ_eq_append_getElem hlt, laws_markByteSS.all_snoc, List.set_append_right _ _ (by omega), hal, Nat.sub_self, List.drop_eq_getElem_cons hlt, List.set_cons_zero, List.append_assoc]
    rfl
   have hst := laws_markByteSS.sum_take l0 (i + 1)
   have hss : laws_markByteSS.sum (l0.take (i + 1)) = laws_markByteSS.sum (l0.take i) + l0[i].length := by rw [List.take_succ_eq_append_getElem hlt, laws_markByteSS.sum_snoc]
   have h1' := H1.out
   have hcall := laws_markByteSS.bytes P (.slice Ai l0[i].length ci) l0[i] (a1 + (laws_markByteSS.sum (l0.take i) : Int)) base wr hR (by omega) (by omega)
   have HBK := Aside0.mk (fun (w' : World) (hm : Mark P wr w') (hr : Kd.R (Kd.int .u8) 5 w' base P (.slice Ai l0[i].length ci) (laws_markByteSS.mk (a1 + (laws_markByteSS.sum (l0.take i) : Int)) l0[i].length)) => hback w' (laws_markByteSS.mk (a1 + (laws_markByteSS.sum (l0.take i) : Int)) l0[i].length) hm ⟨_, rfl, hr⟩)
   rw [hset] at HBK
   have HSS := Aside0.mk hss
   have HPP := Aside0.mk hP
   have hk2 : a1 + (laws_markByteSS.sum (l0.take i) : Int) + (l0[i].length : Int) = a1 + (laws_markByteSS.sum (l0.take (i + 1)) : Int) := by omega
   rw [hk2] at hcall
   clear hback hR hCi hli hset hxe hlen hal hcc HO hst hss h1' hk2 hP
   have hltz : (i : Int) < (l0.length : Int) := by omega
   have hi0 : 0 ≤ (i : Int) := by omega
   generalize l0[i] = x at hcell hcall HBK HSS
   go_wp2_with (first | (go_at_call 14; refine hcall.mono ?_; rintro e w2 ⟨rfl, hm, hr⟩; have HO := Aside0.mk (HBK.out w2 hm hr); replace HM := Aside0.mk (HM.out.trans (hm.mono HPP.out)); clear hm hr HBK hcall))
   go_roundg (l0.length - (i + 1))
   case measure => omega
   case rel => exact ⟨i + 1, by omega, by omega, rfl, by go_num, HO, HM⟩
  ·have : i = l0.length := by omega
   subst this
   rw [List.take_of_length_le (Nat.le_refl _), List.drop_of_length_le (Nat.le_refl _), List.append_nil] at HO
   rw [List.take_of_length_le (Nat.le_refl _)]
   clear hal
   have hlz : ¬ (l0.length : Int) < (l0.length : Int) := by omega
   go_wp2
   go_ret
   exact ⟨rfl, HM.out, HO.out⟩
/-! ### laws_markName: function 13 -/

def laws_markName.f (l0_0 : List (List Int)) (a1 : Int) : Option (Int × List (List Int)) := laws_markByteSS.f l0_0 a1
set_option maxHeartbeats 2000000 in
theorem laws_markName.marks (P0_ : Nat → Prop) (u9000_ : Value) (l0 : List (List Int)) (a1 : Int) (base : Nat) (w : World) (ho0 : Kd.S (Kd.slice 5 (Kd.int .u8)) 26 w base P0_ u9000_ l0) (h0 : 0 ≤ a1) (h1 : a1 + (laws_markByteSS.sum l0 : Int) ≤ 4611686018427387904) :
  Calls Try.prog 13 #[.agg #[u9000_], .int .i64 a1] w fun e w' => e = .returned (.int .i64 (a1 + (laws_markByteSS.sum l0 : Int))) ∧ Mark P0_ w w' ∧ Kd.S (Kd.slice 5 (Kd.int .u8)) 26 w' base P0_ u9000_ (laws_markByteSS.all a1 l0) := by
 have HO := Aside0.mk ho0
 have HB := Aside0.mk (Below.refl w.heap.size w)
 obtain ⟨A0, c0, rfl⟩ : ∃ A c, u9000_ = .slice A l0.length c := by
  obtain ⟨A, c, rfl, _⟩ := Kd.R_reads (Kd.S_R ho0)
  exact ⟨A, c, rfl⟩
 have H1 := Aside0.mk h1
 clear ho0 h1
 go_enter Try.func13, Try.ntmps13
 go_wp2_with (first | ((with_reducible refine gate_dst (N := 2) rfl ?_); refine boxed (N := 2) rfl rfl (cs := #[.slice A0 l0.length c0]) (t := 28) HB.out (by first | (go_simp; done) | (go_simp; rfl)) ?_; clear HB; intro gb w2 hg HB BK GE hb; clear hg hb; obtain ⟨hz0, hf0⟩ := cells1 BK.out) | (go_at_call 31; refine (laws_markByteSS.marks P0_ (.slice A0 l0.length c0) l0 a1 base _ (Kd.S_below HO.out (bw HB.out)) h0 H1.out).mono ?_; rintro e w3 ⟨rfl, hm, hs⟩))
 go_ret
 exact ⟨rfl, (Mark.of_below HB.out).trans hm, hs⟩
theorem laws_markName.calls (P0_0_ : Nat → Prop) (u9000_ : Value) (l0_0 : List (List Int)) (a1 : Int) (r1 : Int) (r2 : List (List Int)) (w0 w : World) (hB : Below w0.heap.size w0 w) (ho0_0 : Kd.S (Kd.slice 5 (Kd.int .u8)) 26 w w0.heap.size P0_0_ u9000_ l0_0) (h : laws_markName.f l0_0 a1 = some (r1, r2)) :
  Calls Try.prog 13 #[.agg #[u9000_], .int .i64 a1] w fun e w' => e = .returned (.int .i64 r1) ∧ Kd.S (Kd.slice 5 (Kd.int .u8)) 26 w' w0.heap.size P0_0_ u9000_ r2 ∧ Below w0.heap.size w0 w' ∧ Kept w w' (fun k_ => P0_0_ k_) := by
 unfold laws_markName.f laws_markByteSS.f at h
 split at h
 ·rename_i hc
  simp only [Option.some.injEq, Prod.mk.injEq] at h
  obtain ⟨rfl, rfl⟩ := h
  have hb := Kd.S_bound ho0_0
  refine (laws_markName.marks (fun k => P0_0_ k ∧ w0.heap.size ≤ k ∧ k < w.heap.size ∧ ∃ q, q ∈ 26 :: (Kd.slice 5 (Kd.int .u8)).E ∧ ∃ cells, w.heap[k]? = some (.cells cells q (0, 0))) u9000_ l0_0 a1 w0.heap.size w hb hc.1 hc.2).mono fun e w' ⟨he, hm, hs⟩ => ?_
  exact ⟨he, Kd.S_mono hs (fun k hk => hk.1), hB.trans (hm.below hB.size (fun k hk => hk.2.1)), (hm.mono (fun k hk => hk.1)).kept⟩
 ·cases h

/-! ### laws_heldByteS: function 15 -/
def laws_heldByteS.l0 : Nat → List Int → Int → Int → Option (Int)
 | 0, _, _, _ => none
 | k + 1, x0, x1, x5 => if x5 < (x0.length : Int) then (if 0 ≤ x5 then (if (rd x0 x5) = ((x1) % 256) then (laws_heldByteS.l0 k x0 (wrap64 (x1 + 1)) (wrap64 (x5 + 1))) else (some (-1))) else (none)) else (some x1)
def laws_heldByteS.f (k : Nat) (l0 : List Int) (a1 : Int) : Option (Int) := laws_heldByteS.l0 k l0 a1 0
set_option maxHeartbeats 8000000 in
set_option maxRecDepth 100000 in
theorem laws_heldByteS.calls (k : Nat) (A0 : Option Addr) (c0 : Nat) (l0 : List Int) (a1 : Int) (r : Int) (w : World) (hr0 : Kd.C (Kd.int .u8) w A0 l0.length l0) (hc0 : l0.length ≤ c0) (h : laws_heldByteS.f k l0 a1 = some r) :
  Calls Try.prog 15 #[.slice A0 l0.length c0, .int .i64 a1] w fun e w' => e = .returned (.int .i64 r) ∧ Drawn0 w w' := by
 have HR0 := ak hr0
 have HC0 := ak hc0
 clear hr0 hc0
 have H : (laws_heldByteS.l0 k l0 a1 0) = some r := h
 clear h
 have H' := ak H
 clear H
 go_enter Try.func15, Try.ntmps15
 go_wp2
 go_loopg [1, 5] k (fun kq v1 v5 w' => ∃ (x1_1 : Int) (x5_1 : Int), v1 = .int .i64 x1_1 ∧ v5 = .int .i64 x5_1 ∧ Aside0 (laws_heldByteS.l0 kq l0 x1_1 x5_1 = some r) ∧ Aside0 (kq ≤ k) ∧ Drawn0 w w')
 case atStart => exact ⟨(a1), (0), o2, o2, H', ⟨Nat.le_refl _⟩, od⟩
 case round =>
  clear H'
  obtain ⟨x1_1, x5_1, rfl, rfl, HA, HK1, ⟨m1, rfl⟩⟩ := hrel
  cases gk with
  | zero => exact absurd HA.out (by simp [laws_heldByteS.l0])
  | succ k1 =>
   have H := HA.out
   clear HA
   simp only [laws_heldByteS.l0] at H
   replace H := ip H
   obtain ⟨c3b0, H⟩ | ⟨c3b0, H⟩ := H
   ·replace H := ipN H
    obtain ⟨c4b0, H⟩ := H
    replace H := ie H
    obtain ⟨c5b0, c5b1, H⟩ | ⟨c5b0, c5b1, H⟩ := H
    ·have H' := ak H
     clear H
     obtain ⟨ad101, rfl, hx101_0, p101, q101⟩ := el0_int HR0 x5_1
     go_wp2
     go_roundg k1
     case measure => have := HK1.out; omega
     case rel => exact ⟨(wrap64 (x1_1 + 1)), (wrap64 (x5_1 + 1)), o2, o2, H', ⟨by have := HK1.out; omega⟩, od⟩
    ·obtain rfl := Option.some.inj H
     obtain ⟨ad101, rfl, hx101_0, p101, q101⟩ := el0_int HR0 x5_1
     go_wp2
     go_ret
     exact ⟨o2, od⟩
   ·obtain rfl := Option.some.inj H
    go_wp2
    go_ret
    exact ⟨o2, od⟩

/-! ### laws_FnExactNameText: function 3 -/
def laws_FnExactNameText.f (k : Nat) (l0_0 : List (List Int)) : Option (Bool) := (laws_szName.f k l0_0 1048576).bind fun t102 => (if t102 < 0 then (some true) else ((laws_toName.f k l0_0).bind fun t103 => ((spec_NameText.f k t103).bind fun t106 => ((laws_toName.f k l0_0).bind fun t109 => ((impl_NameText.f k t109).bind fun t113 => ((laws_eqByteS.f k t113 t106).bind fun t116 => (if t116 = true then ((laws_toName.f k l0_0).bind fun t117 => ((laws_eqName.f k t109 t117).bind fun t120 => (if t120 = true then ((laws_markName.f t109 1).bind fun bt121 => (if bt121.1 < 0 then (none) else ((laws_eqByteS.f k t113 t106).bind fun t123 => (if t123 = true then ((laws_markByteS.f k t113 1).bind fun bt124 => ((laws_heldByteS.f k bt124.2 1).bind fun t126 => (if t126 < 0 then (none) else (if t126 = bt124.1 then ((laws_toName.f k l0_0).bind fun t127 => ((impl_NameText.f k t127).bind fun t130 => ((laws_eqByteS.f k t130 t106).bind fun t133 => (if t133 = true then ((laws_heldByteS.f k bt124.2 1).bind fun t134 => (if t134 < 0 then (none) else (if t134 = bt124.1 then (some true) else (none)))) else (none))))) else (none))))) else (none))))) else (none)))) else (none))))))))
set_option maxHeartbeats 8000000 in
set_option maxRecDepth 100000 in
theorem laws_FnExactNameText.calls (k : Nat) (A0_0 : Option Addr) (c0_0 : Nat) (l0_0 : List (List Int)) (r : Bool) (w : World) (hr0_0 : Kd.C (Kd.slice 5 (Kd.int .u8)) w A0_0 l0_0.length l0_0) (hc0_0 : l0_0.length ≤ c0_0) (h : laws_FnExactNameText.f k l0_0 = some r) :
  Calls Try.prog 3 #[.agg #[.slice A0_0 l0_0.length c0_0]] w fun e w' => e = .returned (.bool r) ∧ Below w.heap.size w w' := by
 have hu24 := Try.underlying24
 have hu28 := Try.underlying28
 have HR0_0 := ak hr0_0
 have HC0_0 := ak hc0_0
 clear hr0_0 hc0_0
 have HB := ak (Below.refl w.heap.size w)
 have H : ((laws_szName.f k l0_0 1048576).bind fun t102 => (if t102 < 0 then (some true) else ((laws_toName.f k l0_0).bind fun t103 => ((spec_NameText.f k t103).bind fun t106 => ((laws_toName.f k l0_0).bind fun t109 => ((impl_NameText.f k t109).bind fun t113 => ((laws_eqByteS.f k t113 t106).bind fun t116 => (if t116 = true then ((laws_toName.f k l0_0).bind fun t117 => ((laws_eqName.f k t109 t117).bind fun t120 => (if t120 = true then ((laws_markName.f t109 1).bind fun bt121 => (if bt121.1 < 0 then (none) else ((laws_eqByteS.f k t113 t106).bind fun t123 => (if t123 = true then ((laws_markByteS.f k t113 1).bind fun bt124 => ((laws_heldByteS.f k bt124.2 1).bind fun t126 => (if t126 < 0 then (none) else (if t126 = bt124.1 then ((laws_toName.f k l0_0).bind fun t127 => ((impl_NameText.f k t127).bind fun t130 => ((laws_eqByteS.f k t130 t106).bind fun t133 => (if t133 = true then ((laws_heldByteS.f k bt124.2 1).bind fun t134 => (if t134 < 0 then (none) else (if t134 = bt124.1 then (some true) else (none)))) else (none))))) else (none))))) else (none))))) else (none)))) else (none))))))))) = some r := h
 clear h
 replace H := bnd H
 obtain ⟨t102, A2, H⟩ := H
 replace H := ip H
 obtain ⟨c3b0, H⟩ | ⟨c3b0, H⟩ := H
 ·obtain rfl := Option.some.inj H
  go_enter Try.func3, Try.ntmps3
  go_wp2_with (first | ((with_reducible refine gate_dst (N := 1) rfl ?_);refine bxd (N := 1) rfl HB ?_;clear HB;intro gb101 w4 hg HB BK101 GE101 hb;have GW101 := GE101;clear hb hg;obtain ⟨hcz5_0, hfz5_0⟩ := cells1 BK101.out) | ((with_reducible refine gate_callee (f := 7) rfl ?_);refine glB 13 rfl rfl Try.func7 (laws_szName.calls k _ _ l0_0 1048576 t102 _ (cv HR0_0 HB) HC0_0.out A2.out) (fun w6 hb => ?_);replace BK101 := b1 BK101 hb;replace HB := b2s bs hb;(try clear hb)))
  go_ret
  exact ⟨o1, bs⟩
 ·replace H := bnd H
  obtain ⟨t103, A7, H⟩ := H
  replace H := bnd H
  obtain ⟨t106, A8, H⟩ := H
  replace H := bnd H
  obtain ⟨t109, A9, H⟩ := H
  replace H := bnd H
  obtain ⟨t113, A10, H⟩ := H
  replace H := bnd H
  obtain ⟨t116, A11, H⟩ := H
  replace H := ibN H
  obtain ⟨rfl, H⟩ := H
  replace H := bnd H
  obtain ⟨t117, A13, H⟩ := H
  replace H := bnd H
  obtain ⟨t120, A14, H⟩ := H
  replace H := ibN H
  obtain ⟨rfl, H⟩ := H
  replace H := Option.bind_eq_some_iff.mp H
  obtain ⟨⟨t121, t122⟩, A160, H⟩ := H
  replace H : (if t121 < 0 then (none) else ((laws_eqByteS.f k t113 t106).bind fun t123 => (if t123 = true then ((laws_markByteS.f k t113 1).bind fun bt124 => ((laws_heldByteS.f k bt124.2 1).bind fun t126 => (if t126 < 0 then (none) else (if t126 = bt124.1 then ((laws_toName.f k l0_0).bind fun t127 => ((impl_NameText.f k t127).bind fun t130 => ((laws_eqByteS.f k t130 t106).bind fun t133 => (if t133 = true then ((laws_heldByteS.f k bt124.2 1).bind fun t134 => (if t134 < 0 then (none) else (if t134 = bt124.1 then (some true) else (none)))) else (none))))) else (none))))) else (none)))) = some r := H
  have A16 := ak A160
  clear A160
  by_cases c17 : t121 < 0
  ·rw [if_pos c17] at H
   exact absurd H (by simp)
  ·rw [if_neg c17] at H
   have c17b0 : decide (t121 < 0) = false := decide_eq_false c17
   clear c17
   replace H := bnd H
   obtain ⟨t123, A18, H⟩ := H
   replace H := ibN H
   obtain ⟨rfl, H⟩ := H
   replace H := Option.bind_eq_some_iff.mp H
   obtain ⟨⟨t124, t125⟩, A200, H⟩ := H
   replace H : ((laws_heldByteS.f k t125 1).bind fun t126 => (if t126 < 0 then (none) else (if t126 = t124 then ((laws_toName.f k l0_0).bind fun t127 => ((impl_NameText.f k t127).bind fun t130 => ((laws_eqByteS.f k t130 t106).bind fun t133 => (if t133 = true then ((laws_heldByteS.f k t125 1).bind fun t134 => (if t134 < 0 then (none) else (if t134 = t124 then (some true) else (none)))) else (none))))) else (none)))) = some r := H
   have A20 := ak A200
   clear A200
   replace H := bnd H
   obtain ⟨t126, A21, H⟩ := H
   by_cases c22 : t126 < 0
   ·rw [if_pos c22] at H
    exact absurd H (by simp)
   ·rw [if_neg c22] at H
    have c22b0 : decide (t126 < 0) = false := decide_eq_false c22
    clear c22
    replace H := ieN H
    obtain ⟨c23b0, c23b1, H⟩ := H
    replace H := bnd H
    obtain ⟨t127, A24, H⟩ := H
    replace H := bnd H
    obtain ⟨t130, A25, H⟩ := H
    replace H := bnd H
    obtain ⟨t133, A26, H⟩ := H
    replace H := ibN H
    obtain ⟨rfl, H⟩ := H
    replace H := bnd H
    obtain ⟨t134, A28, H⟩ := H
    by_cases c29 : t134 < 0
    ·rw [if_pos c29] at H
     exact absurd H (by simp)
    ·rw [if_neg c29] at H
     have c29b0 : decide (t134 < 0) = false := decide_eq_false c29
     clear c29
     replace H := ieN H
     obtain ⟨c30b0, c30b1, H⟩ := H
     obtain rfl := Option.some.inj H
     go_enter Try.func3, Try.ntmps3
     try go_wp2_with (first | ((with_reducible refine gate_dst (N := 1) rfl ?_);refine bxd (N := 1) rfl HB ?_;clear HB;intro gb101 w31 hg HB BK101 GE101 hb;have GW101 := GE101;clear hb hg;obtain ⟨hcz32_0, hfz32_0⟩ := cells1 BK101.out) | ((with_reducible refine gate_callee (f := 7) rfl ?_);refine glB 13 rfl rfl Try.func7 (laws_szName.calls k _ _ l0_0 1048576 t102 _ (cv HR0_0 HB) HC0_0.out A2.out) (fun w33 hb => ?_);replace BK101 := b1 BK101 hb;replace HB := b2s bs hb;(try clear hb);obtain ⟨hcz34_0, hfz34_0⟩ := cells1 BK101.out) | ((with_reducible refine gate_callee (f := 9) rfl ?_);refine glG 17 rfl rfl Try.func9 (laws_toName.calls k _ _ l0_0 t103 _ (cv HR0_0 HB) HC0_0.out A7.out) ?_;rintro e w35 ⟨v104, rfl, ho0, hb⟩;refine ⟨_, rfl, ?_⟩;have HO105 := ak (Kd.S_lower ho0 (below_size bs));replace BK101 := b1 BK101 hb;replace HB := b2s bs hb;(try clear hb);(try clear ho0);obtain ⟨Ao36, co36, eo36⟩ := Kd.S_slice HO105.out;subst eo36) | ((with_reducible refine gate_callee (f := 8) rfl ?_);refine glG 18 rfl rfl Try.func8 (spec_NameText.calls k _ _ t103 t106 _ ?side1 ?side2 A8.out) ?_;(case side1 => repeat (first | exact (Kd.S_reads' HO105.out).2.2 | (with_reducible refine Kd.C_alloc ?_ _) | (with_reducible refine Kd.C_drewN ?_ _) | (with_reducible refine Kd.C_drew ?_)));(case side2 => exact (Kd.S_reads' HO105.out).2.1);rintro e w37 ⟨v107, rfl, ho0, hb⟩;refine ⟨_, rfl, ?_⟩;replace HO105 := ak (Kd.S_elder' (sw HO105.out) (Z_base ho0) hb);have HO108 := ak (Z_lower ho0 (below_size bs));replace BK101 := b1 BK101 hb;replace HB := b2s bs hb;(try clear hb);(try clear ho0);obtain ⟨hcz38_0, hfz38_0⟩ := cells1 BK101.out) | ((with_reducible refine gate_callee (f := 9) rfl ?_);refine glG 20 rfl rfl Try.func9 (laws_toName.calls k _ _ l0_0 t109 _ (cv HR0_0 HB) HC0_0.out A9.out) ?_;rintro e w39 ⟨v110, rfl, ho0, hb⟩;refine ⟨_, rfl, ?_⟩;have HO111 := ak (Kd.S_lower (S_ge_ (Kd.S_new' (Kd.S_new' ho0 (Kd.S_lt (sw HO105.out))) (Z_lt (zw_ HO108.out)))) (below_size bs));replace HO105 := ak (Kd.S_elder' (S_lt_ (sw HO105.out)) (Kd.S_base ho0) hb);replace HO108 := ak (Z_below (zw_ HO108.out) hb);replace BK101 := b1 BK101 hb;replace HB := b2s bs hb;(try clear hb);(try clear ho0)) | ((with_reducible refine gate_dst (N := 5) rfl ?_);refine bxe (N := 5) rfl ?_;intro gb112 hg w40 hbox hb;replace HO105 := ak (Kd.S_below (sw HO105.out) hb);replace HO108 := ak (Z_below (zw_ HO108.out) hb);replace HO111 := ak (Kd.S_below (sw HO111.out) hb);have BK112 := ak (hbox);have GW112 := b3s hg bs;have GE112 := GW112;replace HB := b2s bs hb;have NB101_112 := b4 hg BK101;have NB112_101 := b5 hg BK101;replace BK101 := b1 BK101 hb;clear hb hbox hg;obtain ⟨Ao41, co41, eo41⟩ := Kd.S_slice HO111.out;subst eo41;have hnb42 := NB112_101.out;have hnc42 := NB101_112.out;obtain ⟨hcz43_0, hfz43_0⟩ := cells1 BK112.out) | ((with_reducible refine gate_callee (f := 10) rfl ?_);refine glG 22 rfl rfl Try.func10 (impl_NameText.calls k _ _ t109 t113 _ ?side1 ?side2 A10.out) ?_;(case side1 => exact (Kd.S_reads' (far1S HO111.out BK112.out (by decide))).2.2);(case side2 => exact (Kd.S_reads' HO111.out).2.1);rintro e w44 ⟨v114, rfl, ho0, hb⟩;refine ⟨_, rfl, ?_⟩;replace HO105 := ak (Kd.S_elder' (far1S HO105.out BK112.out (by decide)) (Z_base ho0) hb);replace HO111 := ak (Kd.S_elder' (far1S HO111.out BK112.out (by decide)) (Z_base ho0) hb);have HO115 := ak (Z_lower (Z_new' ho0 (Z_lt (far1Z HO108.out BK112.out (by decide)))) (below_size bs));replace HO108 := ak (Z_elder' (far1Z HO108.out BK112.out (by decide)) (Z_base ho0) hb);replace BK101 := ak (blk_below (bfar1 NB101_112.out BK101.out) hb);replace BK112 := ak (blk_below (bput1 BK112.out) hb);replace HB := b2s bs hb;(try clear hb);(try clear ho0);obtain ⟨Ao45, co45, eo45⟩ := Z_slice HO115.out;subst eo45;obtain ⟨Ao46, co46, eo46⟩ := Z_slice HO108.out;subst eo46) | ((with_reducible refine gate_callee (f := 11) rfl ?_);refine glD 25 rfl rfl Try.func11 (laws_eqByteS.calls k _ _ t113 _ _ t106 true _ ?side1 ?side2 ?side3 ?side4 A11.out) (fun nd => ?_);(case side1 => repeat (first | exact (Z_reads' HO115.out).2.2 | (with_reducible refine Kd.C_alloc ?_ _) | (with_reducible refine Kd.C_drewN ?_ _) | (with_reducible refine Kd.C_drew ?_)));(case side2 => exact (Z_reads' HO115.out).2.1);(case side3 => repeat (first | exact (Z_reads' HO108.out).2.2 | (with_reducible refine Kd.C_alloc ?_ _) | (with_reducible refine Kd.C_drewN ?_ _) | (with_reducible refine Kd.C_drew ?_)));(case side4 => exact (Z_reads' HO108.out).2.1)))
     (try (rw [drewN_self w44]; generalize hq_ : World.drewN w44 _ = w44; replace HO105 := ak (Kd.S_at hq_ HO105.out); replace HO108 := ak (Z_at hq_ HO108.out); replace HO111 := ak (Kd.S_at hq_ HO111.out); replace HO115 := ak (Z_at hq_ HO115.out); replace BK101 := ak (blk_at hq_ BK101.out); replace BK112 := ak (blk_at hq_ BK112.out); replace HB := ak (below_at hq_ HB.out); clear hq_))
     replace HO105 := ak (Kd.S_drew HO105.out)
     replace HO108 := ak (Z_drew HO108.out)
     replace HO111 := ak (Kd.S_drew HO111.out)
     replace HO115 := ak (Z_drew HO115.out)
     replace BK101 := ak (blk_drew BK101.out)
     replace BK112 := ak (blk_drew BK112.out)
     replace HB := ak (below_drew1 HB.out)
     refine start_ (n := 5) (S := fun w' => w'.cell? ⟨gb112, 0, none⟩ = some (.slice Ao41 t109.length co41) ∧ w'.cell? ⟨gb101, 0, none⟩ = some (.slice A0_0 l0_0.length c0_0)) (ds := []) #[false, false, false, false, false] (by kernel_rfl) rfl rfl ⟨(blk_cell BK112.out 0).trans rfl, (blk_cell BK101.out 0).trans rfl⟩ (fun hHeld => ?_)
     generalize w44.drew = w47 at HO105 HO108 HO111 HO115 BK101 BK112 HB hHeld ⊢
     refine take_ (i := 0) (N := some 27) (v := ?_) (a' := ?_) #[true, false, false, false, false] rfl rfl (by kernel_rfl) (fun _ _ _ h => h) (Or.inl ⟨by rfl, ?_⟩) hHeld ?_ ?_
     rotate_left; rintro w' ⟨s0, s1⟩; go_simp; with_reducible rfl; rotate_left; go_simp; rfl
     refine take_ (i := 1) (N := some 28) (v := ?_) (a' := ?_) #[true, true, false, false, false] rfl rfl (by kernel_rfl) (fun _ _ _ h => h) (Or.inl ⟨by rfl, ?_⟩) hHeld ?_ ?_
     rotate_left; rintro w' ⟨s0, s1⟩; go_simp; with_reducible rfl; rotate_left; go_simp; rfl
     refine one_ (i := 2) (N := some 29) #[true, true, true, false, false] rfl rfl (by kernel_rfl) (by decide) (fun K hK => ?_)
     refine gsG Try.func9 (laws_toName.calls k _ _ l0_0 t117 _ (cv HR0_0 HB) HC0_0.out A13.out) ?_
     rintro e w48 ⟨v118, rfl, ho0, hb⟩
     refine ⟨_, rfl, ?_⟩
     have HO119 := ak (Kd.S_lower (S_ge_ (Kd.S_new' (Kd.S_new' (Kd.S_new' (Kd.S_new' ho0 (Kd.S_lt (sw HO105.out))) (Z_lt (zw_ HO108.out))) (Kd.S_lt (sw HO111.out))) (Z_lt (zw_ HO115.out)))) (below_size bs))
     replace HO105 := ak (Kd.S_elder' (S_lt_ (sw HO105.out)) (Kd.S_base ho0) hb)
     replace HO108 := ak (Z_below (zw_ HO108.out) hb)
     replace HO111 := ak (Kd.S_elder' (S_lt_ (sw HO111.out)) (Kd.S_base ho0) hb)
     replace HO115 := ak (Z_below (zw_ HO115.out) hb)
     replace BK101 := b1 BK101 hb
     replace BK112 := b1 BK112 hb
     replace HB := b2s bs hb
     (try clear hb)
     (try clear ho0)
     obtain ⟨Ao49, co49, eo49⟩ := Kd.S_slice HO119.out
     (first | subst eo49 | (injection eo49 with f1_ f2_ f3_; have f4_ := f1_.symm; have f5_ := f3_.symm; clear f1_ f2_ f3_; subst f4_; subst f5_))
     refine hK.out _ _ ⟨(blk_cell BK112.out 0).trans rfl, (blk_cell BK101.out 0).trans rfl⟩ (fun hHeld => ?_)
     clear hK K
     refine norm_ (a' := ?_) ?_ ?_; rotate_left; go_simp; rfl
     refine one_ (i := 3) (N := some 30) #[true, true, true, true, false] rfl rfl (by kernel_rfl) (by decide) (fun K hK => ?_)
     refine gsB Try.func12 (laws_eqName.calls k _ _ t109 _ _ t117 true _ ?side1 ?side2 ?side3 ?side4 A14.out) (fun w50 hb => ?_)
     (case side1 => repeat (first | exact (Kd.S_reads' HO111.out).2.2 | (with_reducible refine Kd.C_alloc ?_ _) | (with_reducible refine Kd.C_drewN ?_ _) | (with_reducible refine Kd.C_drew ?_)))
     (case side2 => exact (Kd.S_reads' HO111.out).2.1)
     (case side3 => repeat (first | exact (Kd.S_reads' HO119.out).2.2 | (with_reducible refine Kd.C_alloc ?_ _) | (with_reducible refine Kd.C_drewN ?_ _) | (with_reducible refine Kd.C_drew ?_)))
     (case side4 => exact (Kd.S_reads' HO119.out).2.1)
     replace HO105 := ak (Kd.S_below (sw HO105.out) hb)
     replace HO108 := ak (Z_below (zw_ HO108.out) hb)
     replace HO111 := ak (Kd.S_below (sw HO111.out) hb)
     replace HO115 := ak (Z_below (zw_ HO115.out) hb)
     replace HO119 := ak (Kd.S_below (sw HO119.out) hb)
     replace BK101 := b1 BK101 hb
     replace BK112 := b1 BK112 hb
     replace HB := b2s bs hb
     refine hK.out _ _ kp (fun hHeld => ?_)
     (try clear hb)
     clear hK K
     refine norm_ (a' := ?_) ?_ ?_; rotate_left; go_simp; rfl
     refine pure_ (i := 4) (N := some 31) (v := ?_) (a' := ?_) #[true, true, true, true, true] rfl rfl (by kernel_rfl) (fun _ _ _ h => h) (Or.inl ⟨by rfl, ?_⟩) ?_ ?_
     rotate_left; intro w'; go_simp; with_reducible rfl; rotate_left; go_simp; rfl
     refine done_ (by kernel_rfl) ?_
     obtain ⟨hcz51_0, hfz51_0⟩ := cells1 BK112.out
     try go_wp2_with (first | ((with_reducible refine gate_callee (f := 13) rfl ?_);refine glG 34 rfl rfl Try.func13 (laws_markName.calls (fun k_ => ((((((True ∧ some k_ ≠ (.slice Ao36 t103.length co36 : Value).ownBlock) ∧ some k_ ≠ (.slice Ao46 t106.length co46 : Value).ownBlock) ∧ w37.heap.size ≤ k_) ∧ some k_ ≠ (.slice Ao45 t113.length co45 : Value).ownBlock) ∧ k_ < w47.heap.size) ∧ some k_ ≠ (.slice Ao49 t117.length co49 : Value).ownBlock) ∧ w.heap.size ≤ k_ ∧ k_ < w50.heap.size ∧ ∃ q_, q_ ∈ 26 :: ((Kd.slice 5 (Kd.int .u8))).E ∧ ∃ c_, w50.heap[k_]? = some (Obj.cells c_ q_ (0, 0))) (.slice Ao41 t109.length co41) t109 1 t121 t122 w _ ?side1 ?side2 A16.out) ?_;(case side1 => repeat (first | (with_reducible first | exact HB.out | apply below_alloc | apply pw_below_drewN | apply below_drew1 | refine below_set ?_ GE101.out | refine below_set ?_ GE112.out) | exact HB.out));(case side2 => (with_reducible repeat (first | apply Kd.S_alloc | apply Kd.S_drewN | apply Kd.S_drew)); exact Kd.S_bound HO111.out);rintro e w52 ⟨rfl, hy0, hb, hkp⟩;refine ⟨_, rfl, ?_⟩;replace BK101 := ak (blk_kept (bk BK101.out) hkp (fun hs_ => (fun e_ => typed_not BK101.out (by decide) e_.2.2.2) hs_));replace HO105 := ak (Kd.S_mono (ok' := fun k_ => ((((((True ∧ some k_ ≠ (.slice Ao46 t106.length co46 : Value).ownBlock) ∧ k_ < w37.heap.size) ∧ some k_ ≠ (.slice Ao41 t109.length co41 : Value).ownBlock) ∧ some k_ ≠ (.slice Ao45 t113.length co45 : Value).ownBlock) ∧ k_ < w47.heap.size) ∧ some k_ ≠ (.slice Ao49 t117.length co49 : Value).ownBlock)) (Kd.S_keptB HO105.out hkp (fun k_ hk_ hs_ => Nat.not_le.2 (hk_.1.1.1.1.2) (hs_.1.1.1.1.2))) (fun k_ hk_ => hk_.1));replace HO108 := ak (Z_mono (ok' := fun k_ => some k_ ≠ (.slice Ao45 t113.length co45 : Value).ownBlock) (Z_keptD HO108.out rfl hkp (fun k_ ek_ hk_ hs_ => (fun e_ => (e_.1.1.1.1.1.2) ek_) hs_)) (fun k_ hk_ => hk_.1.2));replace HO111 := ak (Kd.S_mono hy0 (fun k_ e_ => e_.1));replace BK112 := ak (blk_kept (bk BK112.out) hkp (fun hs_ => (fun e_ => typed_not BK112.out (by decide) e_.2.2.2) hs_));replace HO115 := ak (Z_mono (ok' := fun k_ => some k_ ≠ (.slice Ao46 t106.length co46 : Value).ownBlock) (Z_keptD HO115.out rfl hkp (fun k_ ek_ hk_ hs_ => (fun e_ => (e_.1.1.1.2) ek_) hs_)) (fun k_ hk_ => hk_.1.2));replace HO119 := ak (Kd.S_mono (ok' := fun k_ => (((((True ∧ some k_ ≠ (.slice Ao36 t103.length co36 : Value).ownBlock) ∧ some k_ ≠ (.slice Ao46 t106.length co46 : Value).ownBlock) ∧ some k_ ≠ (.slice Ao41 t109.length co41 : Value).ownBlock) ∧ some k_ ≠ (.slice Ao45 t113.length co45 : Value).ownBlock) ∧ w47.heap.size ≤ k_)) (Kd.S_keptB HO119.out hkp (fun k_ hk_ hs_ => Nat.not_lt.2 (hk_.2) (hs_.1.1.2))) (fun k_ hk_ => hk_.1));replace HB := ak (hb);(try clear hb);(try clear hkp);(try clear hy0)) | (go_at_call 11;(with_reducible refine (laws_eqByteS.calls k _ _ t113 _ _ t106 true _ ?side1 ?side2 ?side3 ?side4 A18.out).mono ?_);(case side1 => repeat (first | exact (Z_reads' HO115.out).2.2 | (with_reducible refine Kd.C_alloc ?_ _) | (with_reducible refine Kd.C_drewN ?_ _) | (with_reducible refine Kd.C_drew ?_)));(case side2 => exact (Z_reads' HO115.out).2.1);(case side3 => repeat (first | exact (Z_reads' HO108.out).2.2 | (with_reducible refine Kd.C_alloc ?_ _) | (with_reducible refine Kd.C_drewN ?_ _) | (with_reducible refine Kd.C_drew ?_)));(case side4 => exact (Z_reads' HO108.out).2.1);rintro e w' ⟨rfl, ⟨nd, rfl⟩⟩) | ((with_reducible refine gate_callee (f := 14) rfl ?_);refine glG 45 rfl rfl Try.func14 (laws_markByteS.callsZ k (fun k_ => some k_ = (.slice Ao45 t113.length co45 : Value).ownBlock) (.slice Ao45 t113.length co45) t113 1 t124 t125 w _ ?side1 ?side2 A20.out) ?_;(case side1 => repeat (first | (with_reducible first | exact HB.out | apply below_alloc | apply pw_below_drewN | apply below_drew1 | refine below_set ?_ GE101.out | refine below_set ?_ GE112.out) | exact HB.out));(case side2 => exact Z_tight rfl HO115.out);rintro e w53 ⟨rfl, hy0, hb, hkp⟩;refine ⟨_, rfl, ?_⟩;replace BK101 := ak (blk_kept (bk BK101.out) hkp (fun hs_ => (fun e_ => (Z_ne HO115.out BK101.out (by decide)) e_) hs_));replace HO105 := ak (Kd.S_mono (ok' := fun k_ => some k_ ≠ (.slice Ao46 t106.length co46 : Value).ownBlock ∧ some k_ ≠ (.slice Ao41 t109.length co41 : Value).ownBlock ∧ some k_ ≠ (.slice Ao45 t113.length co45 : Value).ownBlock ∧ some k_ ≠ (.slice Ao49 t117.length co49 : Value).ownBlock ∧ k_ < w37.heap.size ∧ k_ < w47.heap.size) (Kd.S_keptB (HO105.out) hkp (fun k_ hk_ hs_ => (hk_.1.1.2) hs_)) (fun k_ hk_ => ⟨hk_.1.1.1.1.1.1.2, hk_.1.1.1.1.2, hk_.1.1.1.2, hk_.1.2, hk_.1.1.1.1.1.2, hk_.1.1.2⟩));replace HO108 := ak (Z_mono (ok' := fun k_ => some k_ ≠ (.slice Ao45 t113.length co45 : Value).ownBlock) (Z_keptB (HO108.out) hkp (fun k_ hk_ hs_ => (hk_) hs_)) (fun k_ hk_ => hk_.1));replace HO111 := ak (Kd.S_mono (ok' := fun k_ => some k_ ≠ (.slice Ao36 t103.length co36 : Value).ownBlock ∧ some k_ ≠ (.slice Ao46 t106.length co46 : Value).ownBlock ∧ some k_ ≠ (.slice Ao45 t113.length co45 : Value).ownBlock ∧ some k_ ≠ (.slice Ao49 t117.length co49 : Value).ownBlock ∧ w37.heap.size ≤ k_ ∧ k_ < w47.heap.size) (Kd.S_keptB (HO111.out) hkp (fun k_ hk_ hs_ => (hk_.1.1.2) hs_)) (fun k_ hk_ => ⟨hk_.1.1.1.1.1.1.2, hk_.1.1.1.1.1.2, hk_.1.1.1.2, hk_.1.2, hk_.1.1.1.1.2, hk_.1.1.2⟩));replace BK112 := ak (blk_kept (bk BK112.out) hkp (fun hs_ => (fun e_ => (Z_ne HO115.out BK112.out (by decide)) e_) hs_));replace HO115 := ak (Z_reok rfl hy0 (fun k_ e_ => Z_ok HO115.out k_ e_));replace HO119 := ak (Kd.S_mono (ok' := fun k_ => some k_ ≠ (.slice Ao36 t103.length co36 : Value).ownBlock ∧ some k_ ≠ (.slice Ao46 t106.length co46 : Value).ownBlock ∧ some k_ ≠ (.slice Ao41 t109.length co41 : Value).ownBlock ∧ some k_ ≠ (.slice Ao45 t113.length co45 : Value).ownBlock ∧ w47.heap.size ≤ k_) (Kd.S_keptB (HO119.out) hkp (fun k_ hk_ hs_ => (hk_.1.2) hs_)) (fun k_ hk_ => ⟨hk_.1.1.1.1.1.2, hk_.1.1.1.1.2, hk_.1.1.1.2, hk_.1.1.2, hk_.1.2⟩));replace HB := ak (hb);(try clear hb);(try clear hkp);(try clear hy0)) | ((with_reducible refine gate_callee (f := 15) rfl ?_);refine goesL_ (some 48) rfl rfl Try.func15 (by kernel_rfl) rfl #[.slice Ao45 t125.length co45, .int .i64 1] rfl (by (try simp only [List.map_toArray, List.map_cons, List.map_nil]); first | done | (rw [show t125.length = t113.length from (Z_reads' HO115.out).1.symm] <;> rfl) | rfl | (simp only [List.length_drop, List.length_take]; rfl)) ?_;(with_reducible refine (laws_heldByteS.calls k _ _ t125 1 t126 _ ?side1 ?side2 A21.out).mono ?_);(case side1 => repeat (first | exact (Z_reads' HO115.out).2.2 | (with_reducible refine Kd.C_alloc ?_ _) | (with_reducible refine Kd.C_drewN ?_ _) | (with_reducible refine Kd.C_drew ?_)));(case side2 => rw [show t125.length = t113.length from (Z_reads' HO115.out).1.symm]; exact (Z_reads' HO115.out).2.1);rintro e w' ⟨rfl, ⟨nd, rfl⟩⟩;refine ⟨_, rfl, ?_⟩;obtain ⟨hcz54_0, hfz54_0⟩ := cells1 BK101.out) | ((with_reducible refine gate_callee (f := 9) rfl ?_);refine glG 55 rfl rfl Try.func9 (laws_toName.calls k _ _ l0_0 t127 _ ?side1 HC0_0.out A24.out) ?_;(case side1 => repeat (first | exact (Kd.C_below HR0_0.out bs) | (with_reducible refine Kd.C_alloc ?_ _) | (with_reducible refine Kd.C_drewN ?_ _) | (with_reducible refine Kd.C_drew ?_)));rintro e w55 ⟨v128, rfl, ho0, hb⟩;refine ⟨_, rfl, ?_⟩;have HO129 := ak (Kd.S_lower (S_ge_ (Kd.S_new' (Kd.S_new' (Kd.S_new' (Kd.S_new' (Kd.S_new' ho0 (Kd.S_lt (sw HO105.out))) (Z_lt (zw_ HO108.out))) (Kd.S_lt (sw HO111.out))) (Z_lt (zw_ HO115.out))) (Kd.S_lt (sw HO119.out)))) (below_size bs));replace HO105 := ak (Kd.S_elder' (S_lt_ (sw HO105.out)) (Kd.S_base ho0) hb);replace HO108 := ak (Z_below (zw_ HO108.out) hb);replace HO111 := ak (Kd.S_elder' (S_lt_ (sw HO111.out)) (Kd.S_base ho0) hb);replace HO115 := ak (Z_below (zw_ HO115.out) hb);replace HO119 := ak (Kd.S_elder' (S_lt_ (sw HO119.out)) (Kd.S_base ho0) hb);replace BK101 := b1 BK101 hb;replace BK112 := b1 BK112 hb;replace HB := b2s bs hb;(try clear hb);(try clear ho0);obtain ⟨Ao56, co56, eo56⟩ := Kd.S_slice HO129.out;subst eo56) | ((with_reducible refine gate_callee (f := 10) rfl ?_);refine glG 56 rfl rfl Try.func10 (impl_NameText.calls k _ _ t127 t130 _ ?side1 ?side2 A25.out) ?_;(case side1 => repeat (first | exact (Kd.S_reads' HO129.out).2.2 | (with_reducible refine Kd.C_alloc ?_ _) | (with_reducible refine Kd.C_drewN ?_ _) | (with_reducible refine Kd.C_drew ?_)));(case side2 => exact (Kd.S_reads' HO129.out).2.1);rintro e w57 ⟨v131, rfl, ho0, hb⟩;refine ⟨_, rfl, ?_⟩;replace HO105 := ak (Kd.S_elder' (sw HO105.out) (Z_base ho0) hb);replace HO111 := ak (Kd.S_elder' (sw HO111.out) (Z_base ho0) hb);replace HO119 := ak (Kd.S_elder' (sw HO119.out) (Z_base ho0) hb);replace HO129 := ak (Kd.S_elder' (sw HO129.out) (Z_base ho0) hb);have HO132 := ak (Z_lower (Z_new' (Z_new' ho0 (Z_lt (zw_ HO108.out))) (Z_lt (zw_ HO115.out))) (below_size bs));replace HO108 := ak (Z_elder' (zw_ HO108.out) (Z_base ho0) hb);replace HO115 := ak (Z_elder' (zw_ HO115.out) (Z_base ho0) hb);replace BK101 := b1 BK101 hb;replace BK112 := b1 BK112 hb;replace HB := b2s bs hb;(try clear hb);(try clear ho0);obtain ⟨Ao58, co58, eo58⟩ := Z_slice HO132.out;subst eo58) | ((with_reducible refine gate_callee (f := 11) rfl ?_);refine glD 59 rfl rfl Try.func11 (laws_eqByteS.calls k _ _ t130 _ _ t106 true _ ?side1 ?side2 ?side3 ?side4 A26.out) (fun nd => ?_);(case side1 => repeat (first | exact (Z_reads' HO132.out).2.2 | (with_reducible refine Kd.C_alloc ?_ _) | (with_reducible refine Kd.C_drewN ?_ _) | (with_reducible refine Kd.C_drew ?_)));(case side2 => exact (Z_reads' HO132.out).2.1);(case side3 => repeat (first | exact (Z_reads' HO108.out).2.2 | (with_reducible refine Kd.C_alloc ?_ _) | (with_reducible refine Kd.C_drewN ?_ _) | (with_reducible refine Kd.C_drew ?_)));(case side4 => exact (Z_reads' HO108.out).2.1)) | ((with_reducible refine gate_callee (f := 15) rfl ?_);refine goesL_ (some 63) rfl rfl Try.func15 (by kernel_rfl) rfl #[.slice Ao45 t125.length co45, .int .i64 1] rfl (by (try simp only [List.map_toArray, List.map_cons, List.map_nil]); first | done | (rw [show t125.length = t113.length from (Z_reads' HO115.out).1.symm] <;> rfl) | rfl | (simp only [List.length_drop, List.length_take]; rfl)) ?_;(with_reducible refine (laws_heldByteS.calls k _ _ t125 1 t134 _ ?side1 ?side2 A28.out).mono ?_);(case side1 => repeat (first | exact (Z_reads' HO115.out).2.2 | (with_reducible refine Kd.C_alloc ?_ _) | (with_reducible refine Kd.C_drewN ?_ _) | (with_reducible refine Kd.C_drew ?_)));(case side2 => rw [show t125.length = t113.length from (Z_reads' HO115.out).1.symm]; exact (Z_reads' HO115.out).2.1);rintro e w' ⟨rfl, ⟨nd, rfl⟩⟩;refine ⟨_, rfl, ?_⟩))
     go_ret
     exact ⟨o1, bs⟩

/-! ### impl_get: function 72 -/
end Go.Proofs.Ytkmchjdioplfjaa.Q
