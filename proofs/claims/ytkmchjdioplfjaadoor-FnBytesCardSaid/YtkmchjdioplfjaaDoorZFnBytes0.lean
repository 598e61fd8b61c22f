/- Printed by a program of this session (wip/myprint.py), which drives the kit's printer: functions and what their calls do. -/
import Derived.Test.YtkmchjdioplfjaaDoorProg
import Derived.Below
import Derived.Deep.Draws
import Derived.Deep.AppendLies
import Derived.Maps.AppendAt
import Derived.OwnWalk
import Derived.Laws.BytesArg
import Derived.Laws.MakeOwn
import Derived.Laws.OwnMore
import Derived.Deep.OwnRows
import Derived.Tactics
import Derived.Lib.ConvBytes
import Derived.Laws.Slices
import Derived.WalkKit
import Derived.KernelRfl
import Derived.RowKit3
import Derived.Deep.LoopGhost
import Derived.Deep.QuietTactic
import Derived.BigQuiet
import Derived.WideLaws
import Derived.Deep.DeepCutAuto
import Derived.Deep.CutBlock
import Derived.Deep.RegionHeld3
import Derived.Laws.Rows
import Derived.Lib.AppendStr
import Derived.ArgAppend
import Derived.Laws.IdiomCopy
import Derived.OrdersHeld
import Derived.Laws.BitsLemmas
import Derived.RowKit
import Derived.WalkSpells
import Derived.WalkLawsBesides
import Derived.Shelf.Abstract
import Derived.Test.YtkmchjdioplfjaaDoorVFnBytes
import Derived.Shelf.Strconv.Itoa3
import Derived.Shelf.Strings.OnBuilder
import Derived.Shelf.Slices.ReverseS
import Derived.Lib.AppendIntMem
import Derived.IntWalk
import Derived.Laws.IdiomStrings
import Derived.Lib.ItoaLen
import Derived.Shelf.Strings.SplitShaped
import Derived.Shelf.Strconv.AtoiAll
import Derived.Shelf.Strconv.AtoiErr
import Derived.Lib.AtoiTie
import Derived.Lib.AtoiErrMem
import Derived.Deep.CutRange
namespace Go.Proofs.YtkmchjdioplfjaaDoor.Q
open Go.RowKit Go Go.Proofs.YtkmchjdioplfjaaDoorW.PrintWords Go.Proofs.YtkmchjdioplfjaaDoorW.PrintLast Go.Proofs.YtkmchjdioplfjaaDoorW.PrintMore

set_option linter.unusedVariables false
set_option linter.unusedSimpArgs false

theorem info5 : (Tryd.prog.info? 5).map (fun i => (i.zero, i.size, i.bytes)) = some (some (.int .u8 0), 1, 1) := by kernel_rfl
theorem info9 : (Tryd.prog.info? 9).map (fun i => (i.zero, i.size, i.bytes)) = some (some (.string ⟨#[]⟩), 1, 16) := by kernel_rfl
-- the values' own types
/-! #### struct type 7 -/
/-! #### struct type 8 -/
/-! #### struct type 13 -/
/-! #### struct type 14 -/
def rd_L10 (xs : List (List Int)) (i : Int) : (List Int) := xs.getD i.toNat ([] : List Int)
theorem at_L10 {w : World} {A : Option Addr} {n : Nat} {xs : List (List Int)} (h : Kd.C (Kd.slice 5 (Kd.int .u8)) w A n xs) (i : Int) (h0 : 0 ≤ i) (h1 : i < n) : ∃ ad A0 c0, A = some ad ∧ w.cell? (ad.add i.toNat) = some (.slice A0 (rd_L10 xs i).length c0) ∧ (rd_L10 xs i).length ≤ c0 ∧ (Kd.int .u8).C w A0 (rd_L10 xs i).length (rd_L10 xs i) := by
  obtain ⟨ad, c, e, _, hK, hc0⟩ := Kd.C_get h ([] : List Int) i h0 h1
  have hc : ∀ j u, c[j]? = some u → w.cell? (ad.add (i.toNat * 1 + j)) = some u := hc0
  obtain ⟨A0, c0, rfl, l0, g0⟩ := hK
  exact ⟨ad, A0, c0, e, by have hq := hc 0 _ rfl; rwa [Nat.mul_one, Nat.add_zero] at hq, l0, g0⟩

/-! #### struct type 28 -/
/-! #### struct type 29 -/
/-! #### struct type 44 -/
/-! #### struct type 46 -/
/-! #### struct type 47 -/
/-! #### struct type 50 -/
/-! #### struct type 51 -/
/-! #### struct type 93 -/
/-! #### struct type 94 -/
/-! #### struct type 136 -/
/-! #### struct type 137 -/
/-! #### struct type 145 -/
/-! #### struct type 146 -/
/-- One world is another one with blocks made and draws taken. -/
def Gr (A W : World) : Prop := Below A.heap.size A W
instance Gr.refl_ (A : World) : Nonempty (Gr A A) := ⟨Below.refl _ _⟩
instance Gr.alloc_ (A W : World) (o : Obj) [h : Nonempty (Gr A W)] : Nonempty (Gr A (W.alloc o)) := h.elim fun h => ⟨below_alloc h o⟩
instance Gr.drew_ (A W : World) [h : Nonempty (Gr A W)] : Nonempty (Gr A W.drew) := h.elim fun h => ⟨below_drew h⟩
instance Gr.drewN_ (A W : World) (n : Nat) [h : Nonempty (Gr A W)] : Nonempty (Gr A (W.drewN n)) := h.elim fun h => ⟨pw_below_drewN h n⟩
section
variable {α : Type} {d : Kd α} {e base n : Nat} {ok : Nat → Prop} {w W W' : World} {v : Value} {xs : List α} {A : Option Addr}
theorem bw (h : Below w.heap.size w W) [g : Nonempty (Gr W W')] : Below w.heap.size w W' := g.elim fun g => below_step h g
theorem bk {g : Nat} {o : Obj} (h : W.heap[g]? = some o) [k : Nonempty (Gr W W')] : W'.heap[g]? = some o := k.elim fun k => blk_below h k
theorem cw (h : d.C w A n xs) (hb : Below w.heap.size w W) [g : Nonempty (Gr W W')] : d.C W' A n xs := Kd.C_below h (bw hb)
theorem rw_ (h : d.R e W base ok v xs) [g : Nonempty (Gr W W')] : d.R e W' base ok v xs := g.elim fun g => Kd.R_below h g
end
section
variable {W : World} {g t : Nat} {a b c d e f x y z : Value}
end
section
variable {P : Program} {ops : Array Oper} {rest : List Oper} {o : Oper} {a : Act} {Q : Exit → Act → World → Prop}
end
section
variable {α : Type} {d : Kd α} {e base g k t : Nat} {ok : Nat → Prop} {W : World} {v : Value} {xs : List α} {cs : Array Value} {l : List Nat}
end
section
variable {α : Type} {d : Kd α} {e base g g' t : Nat} {ok : Nat → Prop} {W W1 : World} {v : Value} {xs : List α} {cs : Array Value} {fr : Nat × Nat}
end

section
variable {α β : Type} {A B r : Option α}
theorem bnd {o : Option β} {f : β → Option α} {r : α} (h : o.bind f = some r) : ∃ x, Aside0 (o = some x) ∧ f x = some r := (Option.bind_eq_some_iff.mp h).elim fun x h => ⟨x, ⟨h.1⟩, h.2⟩
theorem bnS {x : β} {f : β → Option α} (h : (some x).bind f = r) : f x = r := h
theorem ib {t : Bool} (h : (if t = true then A else B) = r) : (t = true ∧ A = r) ∨ (t = false ∧ B = r) := by cases t; exact .inr ⟨rfl, h⟩; exact .inl ⟨rfl, h⟩
theorem ibN {t : Bool} {r : α} (h : (if t = true then A else none) = some r) : t = true ∧ A = some r := by cases t; cases h; exact ⟨rfl, h⟩
section
variable {p : Prop} [Decidable p]
theorem iq (h : (if p then A else B) = r) : (p ∧ A = r) ∨ (¬ p ∧ B = r) := by
  by_cases c : p
  · exact .inl ⟨c, by rwa [if_pos c] at h⟩
  · exact .inr ⟨c, by rwa [if_neg c] at h⟩
theorem iqN {r : α} (h : (if p then A else none) = some r) : p ∧ A = some r := by
  obtain h | h := iq h
  · exact h
  · cases h.2
theorem ip (h : (if p then A else B) = r) : (decide p = true ∧ A = r) ∨ (decide p = false ∧ B = r) := (iq h).imp (fun h => ⟨decide_eq_true h.1, h.2⟩) (fun h => ⟨decide_eq_false h.1, h.2⟩)
theorem ipN {r : α} (h : (if p then A else none) = some r) : decide p = true ∧ A = some r := ⟨decide_eq_true (iqN h).1, (iqN h).2⟩
theorem ipE {r : α} (h : (if p then A else none) = some r) : p = True ∧ decide p = true ∧ A = some r := ⟨eq_true (iqN h).1, decide_eq_true (iqN h).1, (iqN h).2⟩
end
section
variable {a b : Int}
theorem ig (h : (if a > b then A else B) = r) : (decide (b < a) = true ∧ A = r) ∨ (decide (b < a) = false ∧ B = r) := ip h
theorem ih (h : (if a ≥ b then A else B) = r) : (decide (b ≤ a) = true ∧ A = r) ∨ (decide (b ≤ a) = false ∧ B = r) := ip h
end
section
variable {τ : Type} [BEq τ] [LawfulBEq τ] {a b : τ} [Decidable (a = b)]
theorem ieN {r : α} (h : (if a = b then A else none) = some r) : (a == b) = true ∧ (a != b) = false ∧ A = some r := ⟨beq_iff_eq.mpr (iqN h).1, bne_eq_false_iff_eq.mpr (iqN h).1, (iqN h).2⟩
end
end
section
variable {α : Type} {d : Kd α} {e base n g t : Nat} {ok : Nat → Prop} {w W W' W2 : World} {v : Value} {xs : List α} {A : Option Addr} {o : Obj}
theorem ak {p : Prop} (h : p) : Aside0 p := ⟨h⟩
theorem cv (h : Aside0 (d.C w A n xs)) (hb : Aside0 (Below w.heap.size w W)) [Nonempty (Gr W W')] : d.C W' A n xs := cw h.out hb.out
theorem cd (h : Aside0 (d.C w A n xs)) [g : Nonempty (Gr w W')] : d.C W' A n xs := g.elim fun g => Kd.C_below h.out g
theorem nw (h : d.N e W base ok v xs) [g : Nonempty (Gr W W')] : d.N e W' base ok v xs := g.elim fun g => Kd.N_below h g
theorem vw (h : d.V e W base ok v xs) [g : Nonempty (Gr W W')] : d.V e W' base ok v xs := g.elim fun g => Kd.V_below h g
theorem b2 (h : Aside0 (Below w.heap.size w W)) [Nonempty (Gr W W')] (hb : Below W'.heap.size W' W2) : Aside0 (Below w.heap.size w W2) := ⟨below_step (bw h.out) hb⟩
theorem b2s (h : Below w.heap.size w W) (hb : Below W.heap.size W W2) : Aside0 (Below w.heap.size w W2) := ⟨below_step h hb⟩
end
/-- What was is still as it was: through stores into blocks that were made since. -/
theorem bs {p : Prop} (h : p := by repeat (first | (with_reducible refine below_set ?_ (Aside0.out (by with_reducible assumption))) | exact bw HB.out)) : p := h
theorem o1 {p : Prop} (h : p := by first | rfl | (simp [errW_none, errW_some] <;> rfl) | (simp [*, errW_none, errW_some] <;> rfl)) : p := h
theorem o2 {p : Prop} (h : p := by first | rfl | (simp; done) | (simp [*]; done)) : p := h
theorem od {p : Prop} (h : p := by repeat (first | exact Drawn0.refl _ | apply Drawn0.step)) : p := h
theorem o3 {p : Prop} (h : p := by first | omega | exact Nat.le_refl _) : p := h
section
variable {P : Program} {ops : Array Oper} {rest : List Oper} {oi : Oper} {a : Act} {Q : Exit → Act → World → Prop}
/-- A call. -/
theorem glG {w : World} (N : Tmp) (hd : oi.dst = some N) {f : FuncId} {fn : Func} {zs : Array Operand} {ts : Array TypeId} (hop : oi.op = .call { callee := .value (.func f), args := zs, argTypes := ts }) (hf : P.funcs[f]? = some fn) {args : Array Value} {R : Ending → World → Prop} (hc : Calls P f args w R)
    (h : ∀ e w', R e w' → ∃ v, e = .returned v ∧ wpList P ops Q rest (a.put (some N) v) w') (hg : oi.guard = none := by rfl)
    (hname : (fn.name == "runtime.NumGoroutine") = false := by kernel_rfl) (hb : fn.body.isSome = true := by rfl)
    (hargs : zs.map a.eval = args := by (try simp only [List.map_toArray, List.map_cons, List.map_nil]); first | done | rfl | (simp only [List.length_drop, List.length_take]; rfl)) : wpList P ops Q (oi :: rest) a w :=
  goesL_ (some N) hd hg hf hname hb args hop hargs (hc.mono h)
theorem glD {w : World} (N : Tmp) (hd : oi.dst = some N) {f : FuncId} {fn : Func} {zs : Array Operand} {ts : Array TypeId} (hop : oi.op = .call { callee := .value (.func f), args := zs, argTypes := ts }) (hf : P.funcs[f]? = some fn) {args : Array Value} {v : Value} (hc : Calls P f args w fun e w' => e = .returned v ∧ Drawn0 w w')
    (h : ∀ nd, wpList P ops Q rest (a.put (some N) v) (w.drewN nd)) (hg : oi.guard = none := by rfl)
    (hname : (fn.name == "runtime.NumGoroutine") = false := by kernel_rfl) (hb : fn.body.isSome = true := by rfl)
    (hargs : zs.map a.eval = args := by (try simp only [List.map_toArray, List.map_cons, List.map_nil]); first | done | rfl | (simp only [List.length_drop, List.length_take]; rfl)) : wpList P ops Q (oi :: rest) a w :=
  goesL_ (some N) hd hg hf hname hb args hop hargs (hc.mono fun e w' h2 => ⟨v, h2.1, by obtain ⟨nd, rfl⟩ := h2.2; exact h nd⟩)
theorem glB {w : World} (N : Tmp) (hd : oi.dst = some N) {f : FuncId} {fn : Func} {zs : Array Operand} {ts : Array TypeId} (hop : oi.op = .call { callee := .value (.func f), args := zs, argTypes := ts }) (hf : P.funcs[f]? = some fn) {args : Array Value} {v : Value} (hc : Calls P f args w fun e w' => e = .returned v ∧ Below w.heap.size w w')
    (h : ∀ w', Below w.heap.size w w' → wpList P ops Q rest (a.put (some N) v) w') (hg : oi.guard = none := by rfl)
    (hname : (fn.name == "runtime.NumGoroutine") = false := by kernel_rfl) (hb : fn.body.isSome = true := by rfl)
    (hargs : zs.map a.eval = args := by (try simp only [List.map_toArray, List.map_cons, List.map_nil]); first | done | rfl | (simp only [List.length_drop, List.length_take]; rfl)) : wpList P ops Q (oi :: rest) a w :=
  goesL_ (some N) hd hg hf hname hb args hop hargs (hc.mono fun e w' h2 => ⟨v, h2.1, h w' h2.2⟩)
end
section
variable {P : Program} {ops : Array Oper} {oi : Oper} {Q : Exit → Act → World → Prop} {md : Region.Mode} {S : World → Prop} {ds : List Nat} {T : Bool × List (List Nat × List Nat)} {n m fuel : Nat} {a a' : Act} {w : World}
end
section
variable {P : Program} {ops : Array Oper} {rest : List Oper} {o : Oper} {a : Act} {Q : Exit → Act → World → Prop}
end
theorem el0_int {k : IntKind} {xs : List Int} {w : World} {A : Option Addr} {n : Nat} (h : Aside0 (Kd.C (Kd.int k) w A n xs)) (i : Int) (h0 : decide (0 ≤ i) = true := by first | (with_reducible assumption) | assumption) (h1 : decide (i < n) = true := by first | (with_reducible assumption) | assumption) : ∃ ad, A = some ad ∧ w.cell? (ad.add i.toNat) = some (.int k (rd xs i)) ∧ (0 ≤ i) = True ∧ (i < n) = True := by
  obtain ⟨ad, e, x0⟩ := Kd.at_int h.out i (of_decide_eq_true h0) (of_decide_eq_true h1)
  exact ⟨ad, e, x0, eq_true (of_decide_eq_true h0), eq_true (of_decide_eq_true h1)⟩
/-! ### laws_markByteS: function 11 -/
section
variable {P P' : Nat → Prop} {w w' w2 : World} {base : Nat}
end
section
variable {α : Type} {d : Kd α} {e base a b a' b' g : Nat} {ok P : Nat → Prop} {w w' : World} {v : Value} {xs : List α} {o : Obj}
end
/-- The second form: a block that a string was laid into. -/
def Zs (e : Nat) (w : World) (base : Nat) (ok : Nat → Prop) (v : Value) (xs : List Int) : Prop :=
  ∃ g c cur, v = .slice (some ⟨g, 0, none⟩) xs.length c ∧ xs.length ≤ c ∧ ok g ∧ base ≤ g ∧ w.heap[g]? = some (.cells cur e (cur.size, cur.size + 1)) ∧ xs.length ≤ cur.size ∧ xs.length ≤ 9223372036854775807 ∧ ∀ i, i < xs.length → cur[i]? = some (.int .u8 (rd xs i))
def Zr (e : Nat) (w : World) (base : Nat) (ok : Nat → Prop) (v : Value) (xs : List Int) : Prop := Kd.R (Kd.int .u8) e w base ok v xs ∨ Zs e w base ok v xs
section
variable {e base : Nat} {w w1 W W2 : World} {ok ok' S : Nat → Prop} {v u : Value} {xs : List Int}
theorem Z_lower {base' : Nat} (h : Zr e w base ok v xs) (hb : base' ≤ base) : Zr e w base' ok v xs := by
  rcases h with h | ⟨g, c, cur, h1, h2, h3, h4, h⟩
  · exact .inl (Kd.R_lower h hb)
  · exact .inr ⟨g, c, cur, h1, h2, h3, Nat.le_trans hb h4, h⟩
theorem Z_step (h : Zr e w base ok v xs) (hm : ∀ k, ok k → k < w.heap.size → w1.heap[k]? = w.heap[k]?) : Zr e w1 base ok v xs := by
  rcases h with h | ⟨g, c, cur, h1, h2, h3, h4, h5, h⟩
  · exact .inl (Kd.R_step h hm)
  · exact .inr ⟨g, c, cur, h1, h2, h3, h4, (hm g h3 (Array.getElem?_eq_some_iff.1 h5).1).trans h5, h⟩
theorem Z_below (h : Zr e w base ok v xs) (hb : Below w.heap.size w w1) : Zr e w1 base ok v xs := Z_step h (fun k _ hk => hb.block k hk)
theorem zw_ (h : Zr e w base ok v xs) [g : Nonempty (Gr w w1)] : Zr e w1 base ok v xs := g.elim fun g => Z_below h g
theorem Z_ok (h : Zr e w base ok v xs) : ∀ k, v.ownBlock = some k → ok k := by
  rcases h with h | ⟨g, c, cur, rfl, h2, h3, h⟩
  · exact h.1
  · intro k hk; simp only [Value.ownBlock, Option.some.injEq] at hk; exact hk ▸ h3
theorem Z_lt (h : Zr e w base ok v xs) : ∀ k, v.ownBlock = some k → k < w.heap.size := by
  rcases h with h | ⟨g, c, cur, rfl, h2, h3, h4, h5, h⟩
  · exact Kd.R_lt h
  · intro k hk; simp only [Value.ownBlock, Option.some.injEq] at hk; exact hk ▸ (Array.getElem?_eq_some_iff.1 h5).1
theorem Z_base (h : Zr e w base ok v xs) : ∀ k, v.ownBlock = some k → base ≤ k := by
  rcases h with h | ⟨g, c, cur, rfl, h2, h3, h4, h⟩
  · exact Kd.R_base h
  · intro k hk; simp only [Value.ownBlock, Option.some.injEq] at hk; exact hk ▸ h4
theorem Z_all {p : Nat → Prop} (h : Zr e w base ok v xs) (hp : ∀ k, v.ownBlock = some k → p k) : Zr e w base p v xs := by
  rcases h with h | ⟨g, c, cur, rfl, h2, h3, h⟩
  · exact .inl (Kd.R_reok rfl h hp)
  · exact .inr ⟨g, c, cur, rfl, h2, hp g rfl, h⟩
theorem Z_slice (h : Zr e w base ok v xs) : ∃ A c, v = .slice A xs.length c := by
  rcases h with h | ⟨g, c, cur, h1, _⟩
  · exact Kd.R_slice h
  · exact ⟨_, _, h1⟩
theorem Z_reads' {A : Option Addr} {n c : Nat} (h : Zr e w base ok (.slice A n c) xs) : n = xs.length ∧ n ≤ c ∧ (Kd.int .u8).C w A xs.length xs := by
  rcases h with h | ⟨g, c', cur, h1, h2, h3, h4, h5, h6, h7, h8⟩
  · exact Kd.R_reads' h
  · injection h1 with e1 e2 e3
    subst e1
    subst e2
    subst e3
    refine ⟨rfl, h2, Kd.C_of_reads (enc := Value.int .u8) (d := (0 : Int)) (h1 := fun _ => rfl) ⟨rfl, h7, fun hn => ⟨_, rfl, fun j hj => ?_⟩⟩⟩
    have hx := h8 j hj
    have hc := cell_of_row w g j cur e (cur.size, cur.size + 1) h5
    rw [show (⟨g, 0, none⟩ : Addr).add j = ⟨g, j, none⟩ by unfold Addr.add; split <;> simp_all, hc, hx]
    simp [rd, List.getD_eq_getElem?_getD]
theorem Z_new' (h : Zr e w1 W.heap.size ok v xs) (hlt : ∀ k, u.ownBlock = some k → k < W.heap.size) : Zr e w1 W.heap.size (fun k => ok k ∧ some k ≠ u.ownBlock) v xs :=
  Z_all h (fun k hk => ⟨Z_ok h k hk, fun e => by have := hlt k e.symm; have := Z_base h k hk; omega⟩)
theorem Z_elder' (hu : Zr e W base ok u xs) (hbase : ∀ k, v.ownBlock = some k → W.heap.size ≤ k) (hb : Below W.heap.size W w1) : Zr e w1 base (fun k => ok k ∧ some k ≠ v.ownBlock) u xs :=
  Z_below (Z_all hu (fun k hk => ⟨Z_ok hu k hk, fun e => by have := hbase k e.symm; have := Z_lt hu k hk; omega⟩)) hb
end
section
variable {P : Program} {ops : Array Oper} {rest : List Oper} {o : Oper} {a : Act} {Q : Exit → Act → World → Prop}
/-- '[]byte("..")' of a constant: the row that was built is marked behind its end. -/
theorem Z_conv {w0 W : World} {base e t : Nat} {ok : Nat → Prop} {v : Value} {xs : List Int} (hgd : o.guard = none) {N : Tmp} (_hd : o.dst = some N) (x : Operand) (ho : o.op = .convert t t x) (ht : P.underlying t = some (.slice e)) (he : P.underlying e = some (.int .u8))
    (hx : a.eval x = v) (hR : Kd.R (Kd.int .u8) e W base ok v xs) (h0 : 0 < xs.length) (HB : Below base w0 W)
    (h : ∀ w1, Zr e w1 base ok v xs → Below base w0 w1 → W.grownBy w1 v.ownBlock → wpList P ops Q rest (a.put o.dst v) w1) : wpList P ops Q (o :: rest) a W := by
  obtain ⟨g, cap, rfl, hb, hl, cur, hg⟩ := Kd.R_form hR h0
  have hr := Kd.R_reads' hR
  have hc : ∀ i, i < xs.length → cur[i]? = some (.int .u8 (rd xs i)) := fun i hi => by
    have := (Kd.R_celln (enc := Value.int .u8) (h1 := fun _ => rfl) (0 : Int) hR (i : Int) (by omega) (by omega)).1
    rw [show ((i : Int)).toNat = i from by omega, cell_of_row W g i cur e (0, 0) hg] at this
    exact this
  have hs : xs.length ≤ cur.size := by
    have := (Array.getElem?_eq_some_iff.1 (hc (xs.length - 1) (by omega))).1
    omega
  have hw : (W.freeze ⟨g, cur.size, none⟩ 1).heap[g]? = some (.cells cur e (cur.size, cur.size + 1)) := by
    unfold World.freeze
    rw [if_neg (by decide)]
    simp only [Array.getElem?_modify, hg]
    simp
  have ho' : ∀ k, k ≠ g → (W.freeze ⟨g, cur.size, none⟩ 1).heap[k]? = W.heap[k]? := fun k hk => by
    unfold World.freeze
    rw [if_neg (by decide)]
    simp only [Array.getElem?_modify]
    rw [if_neg (fun e => hk e.symm)]
  have hsz : (W.freeze ⟨g, cur.size, none⟩ 1).heap.size = W.heap.size := by
    unfold World.freeze
    rw [if_neg (by decide)]
    simp
  have hgr : W.grownBy (W.freeze ⟨g, cur.size, none⟩ 1) (some g) := by
    refine ⟨?_, ?_, ?_, by omega, fun k _ hk => ho' k (fun e => hk (by rw [e]))⟩ <;> (unfold World.freeze; rw [if_neg (by decide)])
  have hrun : (execOp a.eval o).run P W = .ok (.value (.slice (some ⟨g, 0, none⟩) xs.length cap)) (W.freeze ⟨g, cur.size, none⟩ 1) := by
    have hsh : W.shape? g = some (e, cur.size) := by simp [World.shape?, hg]
    simp [execOp, ho, hx, convert, run_underlying ht, run_underlying he, markStringish, hsh, Result.andThen]
  refine Kd.event_run hgd hrun (h _ (.inr ⟨g, cap, cur, rfl, hr.2.1, hR.1 g rfl, hb, hw, hs, hr.2.2.2.1, hc⟩) (HB.grown hgr ?_ (fun j hj => ?_)) hgr)
  · omega
  · injection hj with hj
    omega
end


/-! ### impl_within: function 47 -/
def impl_within.f (a0 : Int) (a1 : Int) (a2 : Int) : Option (Bool) := if a1 ≤ a0 then (some (decide (a0 ≤ a2))) else (some false)
set_option maxHeartbeats 8000000 in
set_option maxRecDepth 100000 in
theorem impl_within.calls (a0 : Int) (a1 : Int) (a2 : Int) (r : Bool) (w : World) (h : impl_within.f a0 a1 a2 = some r) :
  Calls Tryd.prog 47 #[.int .i64 a0, .int .i64 a1, .int .i64 a2] w fun e w' => e = .returned (.bool r) ∧ Drawn0 w w' := by
 have H : (if a1 ≤ a0 then (some (decide (a0 ≤ a2))) else (some false)) = some r := h
 clear h
 replace H := ip H
 obtain ⟨c4b0, H⟩ | ⟨c4b0, H⟩ := H
 ·obtain rfl := Option.some.inj H
  go_enter Tryd.func47, Tryd.ntmps47
  go_wp2
  go_ret
  exact ⟨o2, od⟩
 ·obtain rfl := Option.some.inj H
  go_enter Tryd.func47, Tryd.ntmps47
  go_wp2
  go_ret
  exact ⟨o2, od⟩

/-! ### impl_isWord: function 37 -/
def impl_isWord.f (a0 : Int) : Option (Bool) := (impl_within.f a0 0 4294967295).bind fun t101 => (some t101)
set_option maxHeartbeats 8000000 in
set_option maxRecDepth 100000 in
theorem impl_isWord.calls (a0 : Int) (r : Bool) (w : World) (h : impl_isWord.f a0 = some r) :
  Calls Tryd.prog 37 #[.int .i64 a0] w fun e w' => e = .returned (.bool r) ∧ Drawn0 w w' := by
 have H : ((impl_within.f a0 0 4294967295).bind fun t101 => (some t101)) = some r := h
 clear h
 replace H := bnd H
 obtain ⟨t101, A2, H⟩ := H
 obtain rfl := Option.some.inj H
 go_enter Tryd.func37, Tryd.ntmps37
 go_wp2_with (((with_reducible refine gate_callee (f := 47) rfl ?_);refine glD 4 rfl rfl Tryd.func47 (impl_within.calls a0 0 4294967295 t101 _ A2.out) (fun nd => ?_)))
 go_ret
 exact ⟨o2, od⟩

/-! ### impl_two: function 54 -/
def impl_two.f (a0 : Int) : Option (List Int) := some (([(a0 / 256) % 256, (a0) % 256] : List Int))
set_option maxHeartbeats 8000000 in
set_option maxRecDepth 100000 in
theorem impl_two.calls (a0 : Int) (r : List Int) (w : World) (h : impl_two.f a0 = some r) :
  Calls Tryd.prog 54 #[.int .i64 a0] w fun e w' => ∃ v0_ : Value, e = .returned (v0_) ∧ Kd.R (Kd.int .u8) 5 w' w.heap.size (fun _ => True) v0_ r ∧ Below w.heap.size w w' := by
 have HB := ak (Below.refl w.heap.size w)
 have H : (some (([(a0 / 256) % 256, (a0) % 256] : List Int))) = some r := h
 clear h
 obtain ⟨y101, hy101⟩ : ∃ y_ : List Int, y_ = (([(a0 / 256) % 256, (a0) % 256] : List Int)) := ⟨_, rfl⟩
 (try with_reducible replace H := bnS H)
 (try rw [← hy101] at H)
 have Ny101 := ak hy101
 clear hy101
 obtain rfl := Option.some.inj H
 go_enter Tryd.func54, Tryd.ntmps54
 go_wp2_with (((with_reducible refine gate_dst (N := 8) rfl ?_);refine Kd.R_lit (Kd.int .u8) _ 5 ?hg (N := 8) ?hd (xs := ([(a0 / 256) % 256, (a0) % 256] : List Int)) (inner := [.int .u8 ((a0 / 256) % 256), .int .u8 ((a0) % 256)]) (ok := fun _ => True) (okp := fun _ => True) ?hr ?hp (fun _ hk => hk) trivial (Below.refl _ _) (Nat.le_refl _) (by simp) ?_;(case hd => rfl);(case hg => rfl);(case hr => first | (go_simp; done) | (go_simp; rfl));(case hp => exact (Reps.one (show Kd.M (Kd.int .u8) _ _ _ ((a0 / 256) % 256) [.int .u8 ((a0 / 256) % 256)] from rfl) (Reps.one (show Kd.M (Kd.int .u8) _ _ _ ((a0) % 256) [.int .u8 ((a0) % 256)] from rfl) (Reps.none _ _))));intro v102 w2 ho3 hb hg_ hnew_;clear hg_ hnew_;(first | rw [← Ny101.out] at ho3 | (simp only [Int.reduceToNat] at ho3; rw [← Ny101.out] at ho3));have HO103 := ak (Kd.R_lower ho3 (below_size (bw HB.out)));replace HB := b2 HB hb;clear hb ho3))
 go_ret
 exact ⟨_, o1, rw_ HO103.out, bw HB.out⟩

/-! ### impl_four: function 56 -/
def impl_four.f (a0 : Int) : Option (List Int) := (impl_two.f (a0 / 65536)).bind fun t101 => ((impl_two.f a0).bind fun t104 => (if t101.length + t104.length < 140737488355328 then (some (t101 ++ t104)) else (none)))
set_option maxHeartbeats 8000000 in
set_option maxRecDepth 100000 in
theorem impl_four.calls (a0 : Int) (r : List Int) (w : World) (h : impl_four.f a0 = some r) :
  Calls Tryd.prog 56 #[.int .i64 a0] w fun e w' => ∃ v0_ : Value, e = .returned (v0_) ∧ Kd.R (Kd.int .u8) 5 w' w.heap.size (fun _ => True) v0_ r ∧ Below w.heap.size w w' := by
 have HB := ak (Below.refl w.heap.size w)
 have H : ((impl_two.f (a0 / 65536)).bind fun t101 => ((impl_two.f a0).bind fun t104 => (if t101.length + t104.length < 140737488355328 then (some (t101 ++ t104)) else (none)))) = some r := h
 clear h
 replace H := bnd H
 obtain ⟨t101, A2, H⟩ := H
 replace H := bnd H
 obtain ⟨t104, A3, H⟩ := H
 by_cases c4 : t101.length + t104.length < 140737488355328
 ·rw [if_pos c4] at H
  have LMc4 := ak c4
  clear c4
  obtain ⟨y107, hy107⟩ : ∃ y_ : List Int, y_ = (t101 ++ t104) := ⟨_, rfl⟩
  (try with_reducible replace H := bnS H)
  (try rw [← hy107] at H)
  have Ny107 := ak hy107
  clear hy107
  obtain rfl := Option.some.inj H
  go_enter Tryd.func56, Tryd.ntmps56
  go_wp2_with (first | ((with_reducible refine gate_callee (f := 54) rfl ?_);refine glG 5 rfl rfl Tryd.func54 (impl_two.calls (a0 / 65536) t101 _ A2.out) ?_;rintro e w5 ⟨v102, rfl, ho0, hb⟩;refine ⟨_, rfl, ?_⟩;have HO103 := ak (Kd.R_lower ho0 (below_size (bw HB.out)));replace HB := b2 HB hb;(try clear hb);(try clear ho0)) | ((with_reducible refine gate_callee (f := 54) rfl ?_);refine glG 7 rfl rfl Tryd.func54 (impl_two.calls a0 t104 _ A3.out) ?_;rintro e w6 ⟨v105, rfl, ho0, hb⟩;refine ⟨_, rfl, ?_⟩;have HO106 := ak (Kd.R_lower (Kd.R_new' ho0 (Kd.R_lt (rw_ HO103.out))) (below_size (bw HB.out)));replace HO103 := ak (Kd.R_elder' (rw_ HO103.out) (Kd.R_base ho0) hb);replace HB := b2 HB hb;(try clear hb);(try clear ho0);obtain ⟨Ao8, co8, eo8⟩ := Kd.R_slice HO106.out;subst eo8) | ((with_reducible refine gate_builtin (b := .append) (xs := #[.tmp 5, .tmp 7]) rfl ?_);at_builtin;refine Kd.R_append_rows (Kd.int .u8) (w0 := w) w.heap.size rfl (.tmp 5) (.tmp 7) 22 5 (.int .u8 0) 1 rfl Tryd.underlying22 info5 rfl (by decide) (by omega) v102 t101 t104 _ _ _ (fun k_ => some k_ ≠ (.slice Ao8 t104.length co8 : Value).ownBlock) (fun _ => False) rfl rfl ?aO ?aR (fun _ _ h => h) (fun _ h => h.elim) ?aF ?aB ?aS ?aL ?_;(case aR => repeat (first | exact (Kd.R_reads' HO106.out).2.2 | (with_reducible refine Kd.C_alloc ?_ _) | (with_reducible refine Kd.C_drewN ?_ _) | (with_reducible refine Kd.C_drew ?_)));(case aB => exact (bw HB.out));(case aF => exact (fun k_ hk => Kd.fresh' (Kd.R_lt (rw_ HO106.out)) k_ hk));(case aO => exact (rw_ (Kd.R_mono HO103.out (fun _ hk => hk.2))));(case aS => exact (below_size (bw HB.out)));(case aL => have := LMc4.out; omega);intro v108 w7 ho hb hg hat;rw [← Ny107.out] at ho;replace HO106 := ak (Kd.R_after (ok := (fun _ => True)) (rw_ HO106.out) hg hat);replace HB := ak (hb);have HO109 := ak (ho);clear HO103;clear ho hb hg hat))
  go_ret
  exact ⟨_, o1, by (with_reducible repeat (first | apply Kd.R_alloc | apply Kd.R_drewN | apply Kd.R_drew)); exact Kd.R_mono HO109.out (fun _ hk => trivial), bw HB.out⟩
 ·rw [if_neg c4] at H
  exact absurd H (by simp)

def laysM171_ren : Go.Shelf.Ren := ⟨fun | 171 => 74 | 243 => 101 | 246 => 116 | 283 => 128 | 284 => 129 | 285 => 130 | 286 => 131 | 129 => 143 | 317 => 142 | 318 => 144 | 319 => 145 | 320 => 146 | 337 => 150 | 338 => 151 | n => n, fun | 3 => 3 | 9 => 9 | 2 => 2 | 4 => 4 | 171 => 127 | 0 => 0 | 53 => 118 | 37 => 22 | 5 => 5 | 173 => 130 | 212 => 140 | 51 => 141 | 20 => 20 | 213 => 142 | 46 => 68 | 232 => 152 | 233 => 153 | n => n, fun | 17 => 3 | 18 => 6 | 19 => 7 | n => n⟩
theorem laysM171 : Go.Proofs.LaysM.n171 Tryd.prog laysM171_ren := {
  mixed := (by kernel_rfl),
  f129 := Tryd.func143.trans (congrArg some (by kernel_rfl)),
  f171 := Tryd.func74.trans (congrArg some (by kernel_rfl)),
  f243 := Tryd.func101.trans (congrArg some (by kernel_rfl)),
  f246 := Tryd.func116.trans (congrArg some (by kernel_rfl)),
  f283 := Tryd.func128.trans (congrArg some (by kernel_rfl)),
  f284 := Tryd.func129.trans (congrArg some (by kernel_rfl)),
  f285 := Tryd.func130.trans (congrArg some (by kernel_rfl)),
  f286 := Tryd.func131.trans (congrArg some (by kernel_rfl)),
  f317 := Tryd.func142.trans (congrArg some (by kernel_rfl)),
  f318 := Tryd.func144.trans (congrArg some (by kernel_rfl)),
  f319 := Tryd.func145.trans (congrArg some (by kernel_rfl)),
  f320 := Tryd.func146.trans (congrArg some (by kernel_rfl)),
  f337 := Tryd.func150.trans (congrArg some (by kernel_rfl)),
  f338 := Tryd.func151.trans (congrArg some (by kernel_rfl)),
  t0 := Tryd.underlying0,
  a0 := Tryd.isAgg0,
  z0 := Tryd.sizeOf0,
  v0 := Tryd.zeroValue0,
  t2 := Tryd.underlying2,
  a2 := Tryd.isAgg2,
  z2 := Tryd.sizeOf2,
  v2 := Tryd.zeroValue2,
  t3 := Tryd.underlying3,
  a3 := Tryd.isAgg3,
  z3 := Tryd.sizeOf3,
  v3 := Tryd.zeroValue3,
  t4 := Tryd.underlying4,
  a4 := Tryd.isAgg4,
  z4 := Tryd.sizeOf4,
  v4 := Tryd.zeroValue4,
  t5 := Tryd.underlying5,
  a5 := Tryd.isAgg5,
  z5 := Tryd.sizeOf5,
  v5 := Tryd.zeroValue5,
  t9 := Tryd.underlying9,
  a9 := Tryd.isAgg9,
  z9 := Tryd.sizeOf9,
  v9 := Tryd.zeroValue9,
  t20 := Tryd.underlying20,
  a20 := Tryd.isAgg20,
  z20 := Tryd.sizeOf20,
  v20 := Tryd.zeroValue20,
  t37 := Tryd.underlying22,
  a37 := Tryd.isAgg22,
  z37 := Tryd.sizeOf22,
  v37 := Tryd.zeroValue22,
  t46 := Tryd.underlying68,
  a46 := Tryd.isAgg68,
  z46 := Tryd.sizeOf68,
  v46 := Tryd.zeroValue68,
  t51 := Tryd.underlying141,
  a51 := Tryd.isAgg141,
  z51 := Tryd.sizeOf141,
  v51 := Tryd.zeroValue141,
  t53 := Tryd.underlying118,
  a53 := Tryd.isAgg118,
  z53 := Tryd.sizeOf118,
  v53 := Tryd.zeroValue118,
  t171 := Tryd.underlying127,
  a171 := Tryd.isAgg127,
  z171 := Tryd.sizeOf127,
  v171 := Tryd.zeroValue127,
  t173 := Tryd.underlying130,
  a173 := Tryd.isAgg130,
  z173 := Tryd.sizeOf130,
  v173 := Tryd.zeroValue130,
  t212 := Tryd.underlying140,
  a212 := Tryd.isAgg140,
  z212 := Tryd.sizeOf140,
  v212 := Tryd.zeroValue140,
  t213 := Tryd.underlying142,
  a213 := Tryd.isAgg142,
  z213 := Tryd.sizeOf142,
  t232 := Tryd.underlying152,
  a232 := Tryd.isAgg152,
  z232 := Tryd.sizeOf152,
  v232 := Tryd.zeroValue152,
  t233 := Tryd.underlying153,
  a233 := Tryd.isAgg153,
  z233 := Tryd.sizeOf153,
  v233 := Tryd.zeroValue153,
  g17 := (by kernel_rfl),
  g18 := (by kernel_rfl),
  g19 := (by kernel_rfl),
  i0 := (by kernel_rfl),
  i2 := (by kernel_rfl),
  i3 := (by kernel_rfl),
  i4 := (by kernel_rfl),
  i5 := (by kernel_rfl),
  i9 := (by kernel_rfl),
  i20 := (by kernel_rfl),
  i37 := (by kernel_rfl),
  i46 := (by kernel_rfl),
  i51 := (by kernel_rfl),
  i53 := (by kernel_rfl),
  i171 := (by kernel_rfl),
  i173 := (by kernel_rfl),
  i212 := (by kernel_rfl),
  i232 := (by kernel_rfl),
  i233 := (by kernel_rfl),
  m17 := (by kernel_rfl),
  m18 := (by kernel_rfl),
  m19 := (by kernel_rfl) }
def lays156_ren : Go.Shelf.Ren := ⟨fun | 156 => 38 | 165 => 71 | 166 => 72 | 169 => 73 | 240 => 99 | 241 => 100 | 276 => 114 | 277 => 115 | n => n, fun | 31 => 57 | 9 => 9 | 3 => 3 | 4 => 4 | 0 => 0 | 20 => 20 | 72 => 86 | 76 => 65 | 70 => 84 | 37 => 22 | 75 => 64 | 127 => 100 | 164 => 111 | 5 => 5 | 80 => 82 | n => n, fun | n => n⟩
theorem lays156 : Go.Proofs.Lays.n156 Tryd.prog lays156_ren := {
  mixed := (by kernel_rfl),
  f156 := Tryd.func38.trans (congrArg some (by kernel_rfl)),
  f165 := Tryd.func71.trans (congrArg some (by kernel_rfl)),
  f166 := Tryd.func72.trans (congrArg some (by kernel_rfl)),
  f169 := Tryd.func73.trans (congrArg some (by kernel_rfl)),
  f240 := Tryd.func99.trans (congrArg some (by kernel_rfl)),
  f241 := Tryd.func100.trans (congrArg some (by kernel_rfl)),
  f276 := Tryd.func114.trans (congrArg some (by kernel_rfl)),
  f277 := Tryd.func115.trans (congrArg some (by kernel_rfl)),
  t0 := Tryd.underlying0,
  a0 := Tryd.isAgg0,
  z0 := Tryd.sizeOf0,
  v0 := Tryd.zeroValue0,
  t3 := Tryd.underlying3,
  a3 := Tryd.isAgg3,
  z3 := Tryd.sizeOf3,
  v3 := Tryd.zeroValue3,
  t4 := Tryd.underlying4,
  a4 := Tryd.isAgg4,
  z4 := Tryd.sizeOf4,
  v4 := Tryd.zeroValue4,
  t9 := Tryd.underlying9,
  a9 := Tryd.isAgg9,
  z9 := Tryd.sizeOf9,
  v9 := Tryd.zeroValue9,
  t20 := Tryd.underlying20,
  a20 := Tryd.isAgg20,
  z20 := Tryd.sizeOf20,
  v20 := Tryd.zeroValue20,
  t31 := Tryd.underlying57,
  a31 := Tryd.isAgg57,
  z31 := Tryd.sizeOf57,
  v31 := Tryd.zeroValue57,
  t37 := Tryd.underlying22,
  a37 := Tryd.isAgg22,
  z37 := Tryd.sizeOf22,
  v37 := Tryd.zeroValue22,
  t70 := Tryd.underlying84,
  a70 := Tryd.isAgg84,
  z70 := Tryd.sizeOf84,
  v70 := Tryd.zeroValue84,
  t72 := Tryd.underlying86,
  a72 := Tryd.isAgg86,
  z72 := Tryd.sizeOf86,
  v72 := Tryd.zeroValue86,
  t75 := Tryd.underlying64,
  a75 := Tryd.isAgg64,
  z75 := Tryd.sizeOf64,
  v75 := Tryd.zeroValue64,
  t76 := Tryd.underlying65,
  a76 := Tryd.isAgg65,
  z76 := Tryd.sizeOf65,
  v76 := Tryd.zeroValue65,
  t127 := Tryd.underlying100,
  a127 := Tryd.isAgg100,
  z127 := Tryd.sizeOf100,
  v127 := Tryd.zeroValue100,
  t164 := Tryd.underlying111,
  a164 := Tryd.isAgg111,
  z164 := Tryd.sizeOf111,
  v164 := Tryd.zeroValue111 }
theorem Builder_Extra_156 : Builder.Extra Tryd.prog lays156_ren := {
  sizeBuilder := (by kernel_rfl),
  liesBuilder := (by kernel_rfl),
  t5 := Tryd.underlying5,
  a5 := Tryd.isAgg5,
  z5 := Tryd.sizeOf5,
  v5 := Tryd.zeroValue5,
  infoByte := (by kernel_rfl),
  cellsByte := (by kernel_rfl),
  sizeByte := (by kernel_rfl),
  neB5 := (by decide) }
/-- strconv.Itoa, at every int. -/
theorem itoa_any (n : Int) (h0 : -9223372036854775808 ≤ n) (h1 : n ≤ 9223372036854775807) (w : World) (htab : Lib.TabIs Tryd.prog w "internal/strconv.uint64pow10" .u64 Lib.pow10Tab) :
    Calls Tryd.prog 74 #[.int .i64 n] w fun e w' => e = .returned (.string ⟨(Lib.itoa n).toArray⟩) ∧ Below w.heap.size w w' := (Any.strconv_Itoa laysM171 n h0 h1 w htab).mono fun e w' h => ⟨h.1, by obtain ⟨k, os, rfl⟩ := h.2; exact Lib.below_grow _ w (Nat.le_refl _) k os⟩
theorem join_any (bk o c : Nat) (xs : List ByteArray) (sep : ByteArray) (w : World) (hcells : ∀ (j : Nat) x, xs[j]? = some x → w.cell? ⟨bk, o + j, none⟩ = some (.string x))
    (hbk : bk < w.heap.size) (hN : xs.length ≤ 140737488355328) (hcap : xs.length ≤ c) (hlen : (Lib.join (xs.map (·.data.toList)) sep.data.toList).length ≤ 140737488355328) :
    Calls Tryd.prog 38 #[.slice (some ⟨bk, o, none⟩) xs.length c, .string sep] w fun e w' => e = .returned (.string ⟨(Lib.join (xs.map (·.data.toList)) sep.data.toList).toArray⟩) ∧ Below w.heap.size w w' :=
  Any.strings_Join lays156 Builder_Extra_156 bk o c xs sep w hcells hbk hN hcap hlen

/-- The table of powers reads as the library lays it. -/
def TabA (w : World) : Prop := Lib.TabIs Tryd.prog w "internal/strconv.uint64pow10" .u64 Lib.pow10Tab
theorem tab_below {w W : World} (h : TabA w) (hb : Below w.heap.size w W) : TabA W := Lib.tabBelow_of_tabIs h W hb
def digS (c : Int) : ByteArray := ⟨(Lib.itoa c).toArray⟩
def qd4 (x : Int) : List Int := [x / 16777216 % 256, x / 65536 % 256, x / 256 % 256, x % 256]
theorem four_eq (x : Int) (h0 : 0 ≤ x) (h1 : x < 4294967296) : impl_four.f x = some (qd4 x) := by
  unfold impl_four.f impl_two.f qd4
  simp only [Option.bind_some]
  rw [if_pos (by simp)]
  simp only [List.cons_append, List.nil_append, Option.some.injEq, List.cons.injEq, and_true]
  omega
theorem rd_atN (l : List Int) (n : Nat) (h : n < l.length) : rd l ((n : Nat) : Int) = l[n] := by simp [rd, List.getD_eq_getElem?_getD, h]
def decS (x : Int) : List ByteArray := (qd4 x).map digS
set_option maxHeartbeats 2000000 in
set_option maxRecDepth 100000 in
theorem decimals_any (a0 : Int) (h0 : 0 ≤ a0) (h1 : a0 < 4294967296) (w : World) (hT : TabA w) :
    Calls Tryd.prog 39 #[.int .i64 a0] w fun e w' => ∃ v0_ : Value, e = .returned v0_ ∧ Kd.R Kd.string 9 w' w.heap.size (fun _ => True) v0_ (decS a0) ∧ Below w.heap.size w w' := by
  have HT := ak hT
  have HB := ak (Below.refl w.heap.size w)
  clear hT
  go_enter Tryd.func39, Tryd.ntmps39
  go_wp2_with (((with_reducible refine gate_dst (N := 6) rfl ?_);refine Kd.R_lit Kd.string _ 9 ?hg (N := 6) ?hd (xs := ([] : List ByteArray)) (inner := []) (ok := fun _ => True) (okp := fun _ => True) ?hr ?hp (fun _ hk => hk) trivial (Below.refl _ _) (Nat.le_refl _) (by simp) ?_;(case hd => rfl);(case hg => rfl);(case hr => first | (go_simp; done) | (go_simp; rfl));(case hp => exact (Reps.none _ _));intro v6 w3 ho4 hb hg_ hnew_;clear hg_ hnew_;have HO := ak (Kd.R_lower ho4 (below_size HB.out));replace HB := ak (below_step HB.out hb);clear hb ho4))
  refine (impl_four.calls a0 (qd4 a0) _ (four_eq a0 h0 h1)).mono ?_
  rintro e w4 ⟨v8, rfl, ho, hb⟩
  replace HO := ak (Kd.R_below HO.out hb)
  have HS3 := ak HB.out.size
  replace HB := b2s HB.out hb
  obtain ⟨B, HBE⟩ : ∃ B, Aside0 (qd4 a0 = B) := ⟨_, ⟨rfl⟩⟩
  have HBL := ak (show B.length = 4 by rw [← HBE.out]; rfl)
  have HBB := ak (show ∀ x ∈ B, 0 ≤ x ∧ x ≤ 255 by rw [← HBE.out]; unfold qd4; intro x hx; simp only [List.mem_cons, List.not_mem_nil, or_false] at hx; rcases hx with rfl | rfl | rfl | rfl <;> omega)
  rw [HBE.out] at ho
  obtain ⟨A8, c8, eo⟩ := Kd.R_slice ho
  subst eo
  have HW := ak (Kd.R_lower ho HS3.out)
  clear ho hb
  go_wp2
  go_loopg [3, 5, 10] 5 (fun gq v3 v5 v10 W => ∃ i : Nat, i ≤ 4 ∧ 5 - i ≤ gq ∧ v10 = .int .i64 (i : Int) ∧ Aside0 (Kd.R Kd.string 9 W w.heap.size (fun _ => True) v3 ((B.take i).map digS)) ∧ Aside0 (Below w.heap.size w W) ∧ Aside0 (Kd.R (Kd.int .u8) 5 W w.heap.size (fun _ => True) (.slice A8 B.length c8) B))
  case atStart => exact ⟨0, by omega, by omega, rfl, HO, HB, HW⟩
  case round =>
    clear HO HB HW
    obtain ⟨i, hi, hg, rfl, HO, HB, HW⟩ := hrel
    have hbl := HBL.out
    by_cases hlt : i < 4
    · have hlz : (i : Int) < (B.length : Int) := by omega
      obtain ⟨ad, hA, hck⟩ := Kd.at_int (Kd.R_reads' HW.out).2.2 (i : Int) (by omega) (by omega)
      subst hA
      rw [show ((i : Int)).toNat = i from by omega] at hck
      have hx := HBB.out (rd B (i : Int)) (by rw [rd_atN B i (by omega)]; exact List.getElem_mem _)
      have HTK := ak (show (B.take i).map digS ++ [digS (rd B (i : Int))] = (B.take (i + 1)).map digS by rw [List.take_succ_eq_append_getElem (by omega), List.map_append, rd_atN B i (by omega)]; rfl)
      obtain ⟨x, HX⟩ : ∃ x, Aside0 (rd B (i : Int) = x) := ⟨_, ⟨rfl⟩⟩
      rw [HX.out] at hck hx HTK
      obtain ⟨hx0, hx1⟩ := hx
      have HLT := ak (show ((B.take i).map digS).length ≤ 4 by rw [List.length_map, List.length_take]; omega)
      obtain ⟨ds, HDS⟩ : ∃ d, Aside0 ((B.take i).map digS = d) := ⟨_, ⟨rfl⟩⟩
      rw [HDS.out] at HO HTK HLT
      obtain ⟨dg, HDG⟩ : ∃ d, Aside0 (digS x = d) := ⟨_, ⟨rfl⟩⟩
      rw [HDG.out] at HTK
      clear hbl
      go_wp2_with (fail)
      refine (itoa_any x (by omega) (by omega) _ (tab_below HT.out HB.out)).mono ?_
      rintro e w5 ⟨rfl, hb⟩
      rw [show (⟨(Lib.itoa x).toArray⟩ : ByteArray) = dg from HDG.out]
      replace HO := ak (Kd.R_below HO.out hb)
      replace HB := b2s HB.out hb
      replace HW := ak (Kd.R_below HW.out hb)
      clear hb hck
      go_wp2_with ((with_reducible refine gate_builtin (b := .append) (xs := #[.tmp 14, .tmp 18]) rfl ?_);at_builtin;refine Kd.R_append Kd.string (w0 := w) w.heap.size rfl (.tmp 14) (.tmp 18) 57 9 (.string ⟨#[]⟩) 16 rfl Tryd.underlying57 info9 rfl (by decide) (by omega) _ ds dg [.string dg] (fun _ => True) (fun _ => False) rfl rfl ?aP (fun _ hk => hk.elim) ?aF ?aO ?aB ?aS ?aL ?_;(case aP => exact rfl);(case aB => exact HB.out);(case aF => exact (fun _ _ => trivial));(case aO => exact HO.out);(case aS => exact HB.out.size);(case aL => have := HLT.out; omega);intro v19 w6 ho hb hg hat;replace HB := ak hb;replace HW := ak (Kd.R_mono (ok' := fun _ => True) (Kd.R_grown (Kd.R_apartR HW.out HO.out (by decide)) hg (fun k hk => hk.2)) (fun _ _ => trivial));replace HO := ak ho;clear ho hb hat hg)
      go_roundg (5 - (i + 1))
      case measure => omega
      case rel => exact ⟨i + 1, by omega, by omega, by go_num, ⟨by rw [← HTK.out]; exact HO.out⟩, HB, HW⟩
    · have hlz : ¬ (i : Int) < (B.length : Int) := by omega
      obtain rfl : i = 4 := by omega
      rw [List.take_of_length_le (by omega)] at HO
      clear hi hg hlt hbl
      go_wp2
      go_ret
      exact ⟨_, rfl, by unfold decS; rw [HBE.out]; exact HO.out, HB.out⟩

def strBytes (s : ByteArray) : List Int := s.data.toList.map fun b => (b.toNat : Int)
theorem strBytes_len (s : ByteArray) : (strBytes s).length = s.size := by
  unfold strBytes
  rw [List.length_map, Array.length_toList]
  rfl
theorem conv_s (s : ByteArray) (W : World) : (convert 9 22 (.string s)).run Tryd.prog W = .ok (.slice (some ⟨W.heap.size, 0, none⟩) (strBytes s).length (grownCap W s.size 0 5))
      (W.drew.alloc (.cells (bytesRow s (grownCap W s.size 0 5)) 5 ((bytesRow s (grownCap W s.size 0 5)).size, (bytesRow s (grownCap W s.size 0 5)).size + 1))) := by
  rw [strBytes_len]
  exact run_bytes_of_string W 9 22 5 s Tryd.underlying9 Tryd.underlying22 Tryd.underlying5
theorem Zs_str (W : World) (s : ByteArray) (n base : Nat) (hs : s.size ≤ 9223372036854775807) (hn : s.size ≤ n) (hb : base ≤ W.heap.size) :
    Zs 5 ((W.alloc (.cells (bytesRow s n) 5 ((bytesRow s n).size, (bytesRow s n).size + 1))).drew) base (fun _ => True) (.slice (some ⟨W.heap.size, 0, none⟩) (strBytes s).length n) (strBytes s) := by
  have hl : (bytesRow s n).size = n := by
    have : s.data.size ≤ n := hn
    have e : s.size = s.data.size := rfl
    unfold bytesRow
    rw [Array.size_append, Array.size_map, Array.size_replicate]
    omega
  refine ⟨W.heap.size, n, bytesRow s n, rfl, by rw [strBytes_len]; exact hn, trivial, hb, heap_alloc_new _ _, by rw [strBytes_len, hl]; exact hn, by rw [strBytes_len]; omega, fun j hj => ?_⟩
  have hj2 : j < s.data.size := by rw [strBytes_len] at hj; exact hj
  have hj3 : j < s.size := hj2
  simp [bytesRow, strBytes, Array.getElem?_append, rd, List.getD_eq_getElem?_getD]
  rw [if_pos hj3, Array.getElem?_eq_getElem hj2]
  rfl
/-- An address in dots. -/
def dotS (x : Int) : ByteArray := ⟨(Lib.join ((decS x).map (·.data.toList)) [46]).toArray⟩
def dotV (x : Int) : List Int := if 0 ≤ x ∧ x < 4294967296 then strBytes (dotS x) else []
theorem dot_list (x : Int) : (dotS x).data.toList = Lib.itoa (x / 16777216 % 256) ++ 46 :: (Lib.itoa (x / 65536 % 256) ++ 46 :: (Lib.itoa (x / 256 % 256) ++ 46 :: Lib.itoa (x % 256))) := by
  simp [dotS, decS, qd4, digS, Lib.join, List.intercalate]
theorem dot_size (x : Int) (h0 : 0 ≤ x) (h1 : x < 4294967296) : (dotS x).size ≤ 100 := by
  have e : (dotS x).size = (dotS x).data.toList.length := by rw [Array.length_toList]; rfl
  have a := Lib.itoa_length_le (x / 16777216 % 256) (by omega) (by omega)
  have b := Lib.itoa_length_le (x / 65536 % 256) (by omega) (by omega)
  have c := Lib.itoa_length_le (x / 256 % 256) (by omega) (by omega)
  have d := Lib.itoa_length_le (x % 256) (by omega) (by omega)
  rw [e, dot_list]
  simp only [List.length_append, List.length_cons]
  omega
set_option maxHeartbeats 2000000 in
set_option maxRecDepth 100000 in
theorem dotted_any (a0 : Int) (w : World) (hT : TabA w) :
    Calls Tryd.prog 9 #[.int .i64 a0] w fun e w' => ∃ v0_ : Value, e = .returned (v0_) ∧ Zr 5 w' w.heap.size (fun _ => True) v0_ (dotV a0) ∧ Below w.heap.size w w' := by
  have HT := ak hT
  clear hT
  by_cases hw : 0 ≤ a0 ∧ a0 < 4294967296
  · have hv : dotV a0 = strBytes (dotS a0) := by unfold dotV; rw [if_pos hw]
    have HV := ak hv
    have HWD := ak hw
    have HIS := ak (show impl_isWord.f a0 = some true by unfold impl_isWord.f impl_within.f; rw [if_pos hw.1, decide_eq_true (show a0 ≤ 4294967295 by omega)]; rfl)
    clear hv hw
    go_enter Tryd.func9, Tryd.ntmps9
    go_wp2_with (fail)
    refine (impl_isWord.calls a0 true _ HIS.out).mono ?_
    rintro e w1 ⟨rfl, ⟨nd, rfl⟩⟩
    have HB := ak (pw_below_drewN (Below.refl w.heap.size w) nd)
    generalize w.drewN nd = w1 at HB ⊢
    go_wp2_with (fail)
    refine (decimals_any a0 HWD.out.1 HWD.out.2 w1 (tab_below HT.out HB.out)).mono ?_
    rintro e w2 ⟨v7, rfl, ho, hb⟩
    replace HB := b2s HB.out hb
    obtain ⟨ds, HDS⟩ : ∃ d, Aside0 (decS a0 = d) := ⟨_, ⟨rfl⟩⟩
    have HDL := ak (show ds.length = 4 by rw [← HDS.out]; rfl)
    rw [HDS.out] at ho
    obtain ⟨g, cap, rfl, hgb, hgl, cur, hgc⟩ := Kd.R_form ho (by rw [HDL.out]; omega)
    have hcap := (Kd.R_reads' ho).2.1
    have hcells : ∀ (j : Nat) x, ds[j]? = some x → w2.cell? ⟨g, 0 + j, none⟩ = some (.string x) := fun j x hx => by
      have hj := (List.getElem?_eq_some_iff.1 hx).1
      have := (Kd.R_celln (enc := Value.string) (h1 := fun _ => rfl) ByteArray.empty ho (j : Int) (by omega) (by omega)).1
      rw [show ((j : Int)).toNat = j by omega] at this
      rw [Nat.zero_add, this]
      simp [rdOf, List.getD_eq_getElem?_getD, hx]
    have HCALL := ak (join_any g 0 cap ds ⟨#[46]⟩ w2 hcells hgl (by rw [HDL.out]; omega) hcap (by
      have h1 := dot_size a0 HWD.out.1 HWD.out.2
      have e : (dotS a0).size = (dotS a0).data.toList.length := by rw [Array.length_toList]; rfl
      rw [← HDS.out]
      have h2 : (dotS a0).data.toList = Lib.join ((decS a0).map (·.data.toList)) [46] := rfl
      rw [e, h2] at h1
      show (Lib.join ((decS a0).map (·.data.toList)) [46]).length ≤ _
      omega))
    clear ho hb hcells hgb hgl hgc hcap
    go_wp2_with (fail)
    refine HCALL.out.mono ?_
    rintro e w3 ⟨rfl, hb⟩
    replace HB := b2s HB.out hb
    rw [show (⟨(Lib.join (ds.map (·.data.toList)) (⟨#[46]⟩ : ByteArray).data.toList).toArray⟩ : ByteArray) = dotS a0 by rw [← HDS.out]; rfl]
    have HSZ := ak (dot_size a0 HWD.out.1 HWD.out.2)
    obtain ⟨s, HS⟩ : ∃ s, Aside0 (dotS a0 = s) := ⟨_, ⟨rfl⟩⟩
    rw [HS.out] at HSZ HV
    rw [HS.out]
    have hcv := conv_s s
    clear hb HCALL
    go_wp2
    have hcap := grownCap_ge w3 s.size 0 5
    generalize grownCap w3 s.size 0 5 = cap3 at hcap ⊢
    clear hcv
    go_ret
    exact ⟨_, rfl, by rw [HV.out]; exact .inr (Zs_str w3 s cap3 _ (by have := HSZ.out; omega) hcap HB.out.size), below_drew1 (below_alloc HB.out _)⟩
  · have hv : dotV a0 = [] := by unfold dotV; rw [if_neg hw]
    have HV := ak hv
    have HIS := ak (show impl_isWord.f a0 = some false by
      unfold impl_isWord.f impl_within.f
      by_cases h0 : 0 ≤ a0
      · rw [if_pos h0, decide_eq_false (show ¬ a0 ≤ 4294967295 by omega)]; rfl
      · rw [if_neg h0]; rfl)
    clear hv hw
    go_enter Tryd.func9, Tryd.ntmps9
    go_wp2_with (fail)
    refine (impl_isWord.calls a0 false _ HIS.out).mono ?_
    rintro e w1 ⟨rfl, ⟨nd, rfl⟩⟩
    have HB := ak (pw_below_drewN (Below.refl w.heap.size w) nd)
    generalize w.drewN nd = w1 at HB ⊢
    go_wp2
    go_ret
    exact ⟨_, rfl, by rw [HV.out]; exact .inl (Kd.R_nil _ _ _ _ _), HB.out⟩
/-! ### impl_Dotted: function 9 -/
def impl_Dotted.f (a0 : Int) : Option (List Int) := some (dotV a0)
theorem impl_Dotted.calls (a0 : Int) (r : List Int) (w : World) (h : impl_Dotted.f a0 = some r) (hT : TabA w) :
    Calls Tryd.prog 9 #[.int .i64 a0] w fun e w' => ∃ v0_ : Value, e = .returned (v0_) ∧ Zr 5 w' w.heap.size (fun _ => True) v0_ r ∧ Below w.heap.size w w' := by
  obtain rfl := Option.some.inj h
  exact dotted_any a0 w hT

def lays146_ren : Go.Shelf.Ren := ⟨fun | 146 => 45 | 221 => 77 | 268 => 102 | 138 => 103 | 143 => 104 | 195 => 117 | 197 => 118 | 218 => 119 | 219 => 120 | 260 => 132 | 217 => 133 | 225 => 134 | 224 => 135 | 267 => 136 | 266 => 147 | 314 => 148 | n => n, fun | 9 => 9 | 31 => 57 | 3 => 3 | 4 => 4 | 0 => 0 | 105 => 115 | 21 => 21 | 5 => 5 | 46 => 68 | 119 => 144 | 139 => 147 | 138 => 146 | 146 => 148 | 51 => 141 | n => n, fun | 1 => 2 | 3 => 4 | 4 => 5 | n => n⟩
theorem lays146 : Go.Proofs.LaysM.n146 Tryd.prog lays146_ren := {
  mixed := (by kernel_rfl),
  f138 := Tryd.func103.trans (congrArg some (by kernel_rfl)),
  f143 := Tryd.func104.trans (congrArg some (by kernel_rfl)),
  f146 := Tryd.func45.trans (congrArg some (by kernel_rfl)),
  f195 := Tryd.func117.trans (congrArg some (by kernel_rfl)),
  f197 := Tryd.func118.trans (congrArg some (by kernel_rfl)),
  f217 := Tryd.func133.trans (congrArg some (by kernel_rfl)),
  f218 := Tryd.func119.trans (congrArg some (by kernel_rfl)),
  f219 := Tryd.func120.trans (congrArg some (by kernel_rfl)),
  f221 := Tryd.func77.trans (congrArg some (by kernel_rfl)),
  f224 := Tryd.func135.trans (congrArg some (by kernel_rfl)),
  f225 := Tryd.func134.trans (congrArg some (by kernel_rfl)),
  f260 := Tryd.func132.trans (congrArg some (by kernel_rfl)),
  f266 := Tryd.func147.trans (congrArg some (by kernel_rfl)),
  f267 := Tryd.func136.trans (congrArg some (by kernel_rfl)),
  f268 := Tryd.func102.trans (congrArg some (by kernel_rfl)),
  f314 := Tryd.func148.trans (congrArg some (by kernel_rfl)),
  t0 := Tryd.underlying0,
  a0 := Tryd.isAgg0,
  z0 := Tryd.sizeOf0,
  v0 := Tryd.zeroValue0,
  t3 := Tryd.underlying3,
  a3 := Tryd.isAgg3,
  z3 := Tryd.sizeOf3,
  v3 := Tryd.zeroValue3,
  t4 := Tryd.underlying4,
  a4 := Tryd.isAgg4,
  z4 := Tryd.sizeOf4,
  v4 := Tryd.zeroValue4,
  t5 := Tryd.underlying5,
  a5 := Tryd.isAgg5,
  z5 := Tryd.sizeOf5,
  v5 := Tryd.zeroValue5,
  t9 := Tryd.underlying9,
  a9 := Tryd.isAgg9,
  z9 := Tryd.sizeOf9,
  v9 := Tryd.zeroValue9,
  t21 := Tryd.underlying21,
  a21 := Tryd.isAgg21,
  z21 := Tryd.sizeOf21,
  v21 := Tryd.zeroValue21,
  t31 := Tryd.underlying57,
  a31 := Tryd.isAgg57,
  z31 := Tryd.sizeOf57,
  v31 := Tryd.zeroValue57,
  t46 := Tryd.underlying68,
  a46 := Tryd.isAgg68,
  z46 := Tryd.sizeOf68,
  v46 := Tryd.zeroValue68,
  t51 := Tryd.underlying141,
  a51 := Tryd.isAgg141,
  z51 := Tryd.sizeOf141,
  v51 := Tryd.zeroValue141,
  t105 := Tryd.underlying115,
  a105 := Tryd.isAgg115,
  z105 := Tryd.sizeOf115,
  v105 := Tryd.zeroValue115,
  t119 := Tryd.underlying144,
  a119 := Tryd.isAgg144,
  z119 := Tryd.sizeOf144,
  t138 := Tryd.underlying146,
  a138 := Tryd.isAgg146,
  z138 := Tryd.sizeOf146,
  v138 := Tryd.zeroValue146,
  t139 := Tryd.underlying147,
  a139 := Tryd.isAgg147,
  z139 := Tryd.sizeOf147,
  v139 := Tryd.zeroValue147,
  t146 := Tryd.underlying148,
  a146 := Tryd.isAgg148,
  z146 := Tryd.sizeOf148,
  v146 := Tryd.zeroValue148,
  g1 := (by kernel_rfl),
  g3 := (by kernel_rfl),
  g4 := (by kernel_rfl),
  i0 := (by kernel_rfl),
  i3 := (by kernel_rfl),
  i4 := (by kernel_rfl),
  i5 := (by kernel_rfl),
  i9 := (by kernel_rfl),
  i21 := (by kernel_rfl),
  i31 := (by kernel_rfl),
  i46 := (by kernel_rfl),
  i51 := (by kernel_rfl),
  i105 := (by kernel_rfl),
  i138 := (by kernel_rfl),
  i139 := (by kernel_rfl),
  i146 := (by kernel_rfl),
  m1 := (by kernel_rfl),
  s1_3 := (fun w h => Go.Proofs.cell_of_shapedOpen_int (zero := #[.int .i64 0]) (t := 3) h (of_decide_eq_true (by kernel_rfl)) (by kernel_rfl) rfl (by kernel_rfl) (by kernel_rfl) Tryd.underlying3),
  m3 := (by kernel_rfl),
  m4 := (by kernel_rfl) }
def lays172_ren : Go.Shelf.Ren := ⟨fun | 172 => 46 | 244 => 78 | 245 => 79 | 247 => 105 | 279 => 106 | 280 => 107 | 281 => 108 | 282 => 109 | 287 => 121 | 316 => 122 | 171 => 74 | 205 => 123 | 321 => 137 | 322 => 138 | 243 => 101 | 246 => 116 | 283 => 128 | 284 => 129 | 285 => 130 | 286 => 131 | 129 => 143 | 317 => 142 | 318 => 144 | 319 => 145 | 320 => 146 | 337 => 150 | 338 => 151 | n => n, fun | 9 => 9 | 3 => 3 | 75 => 64 | 76 => 65 | 4 => 4 | 5 => 5 | 167 => 103 | 37 => 22 | 0 => 0 | 85 => 104 | 2 => 2 | 168 => 106 | 53 => 118 | 175 => 119 | 46 => 68 | 210 => 123 | 127 => 100 | 145 => 137 | 143 => 135 | 21 => 21 | 171 => 127 | 173 => 130 | 212 => 140 | 51 => 141 | 20 => 20 | 213 => 142 | 232 => 152 | 233 => 153 | 80 => 82 | n => n, fun | 15 => 0 | 16 => 1 | 17 => 3 | 18 => 6 | 19 => 7 | n => n⟩
theorem lays172 : Go.Proofs.LaysC.n172 Tryd.prog lays172_ren := {
  mixed := (by kernel_rfl),
  f129 := Tryd.func143.trans (congrArg some (by kernel_rfl)),
  f171 := Tryd.func74.trans (congrArg some (by kernel_rfl)),
  f172 := Tryd.func46.trans (congrArg some (by kernel_rfl)),
  f205 := Tryd.func123.trans (congrArg some (by kernel_rfl)),
  f243 := Tryd.func101.trans (congrArg some (by kernel_rfl)),
  f244 := Tryd.func78.trans (congrArg some (by kernel_rfl)),
  f245 := Tryd.func79.trans (congrArg some (by kernel_rfl)),
  f246 := Tryd.func116.trans (congrArg some (by kernel_rfl)),
  f247 := Tryd.func105.trans (congrArg some (by kernel_rfl)),
  f279 := Tryd.func106.trans (congrArg some (by kernel_rfl)),
  f280 := Tryd.func107.trans (congrArg some (by kernel_rfl)),
  f281 := Tryd.func108.trans (congrArg some (by kernel_rfl)),
  f282 := Tryd.func109.trans (congrArg some (by kernel_rfl)),
  f283 := Tryd.func128.trans (congrArg some (by kernel_rfl)),
  f284 := Tryd.func129.trans (congrArg some (by kernel_rfl)),
  f285 := Tryd.func130.trans (congrArg some (by kernel_rfl)),
  f286 := Tryd.func131.trans (congrArg some (by kernel_rfl)),
  f287 := Tryd.func121.trans (congrArg some (by kernel_rfl)),
  f316 := Tryd.func122.trans (congrArg some (by kernel_rfl)),
  f317 := Tryd.func142.trans (congrArg some (by kernel_rfl)),
  f318 := Tryd.func144.trans (congrArg some (by kernel_rfl)),
  f319 := Tryd.func145.trans (congrArg some (by kernel_rfl)),
  f320 := Tryd.func146.trans (congrArg some (by kernel_rfl)),
  f321 := Tryd.func137.trans (congrArg some (by kernel_rfl)),
  f322 := Tryd.func138.trans (congrArg some (by kernel_rfl)),
  f337 := Tryd.func150.trans (congrArg some (by kernel_rfl)),
  f338 := Tryd.func151.trans (congrArg some (by kernel_rfl)),
  t0 := Tryd.underlying0,
  a0 := Tryd.isAgg0,
  z0 := Tryd.sizeOf0,
  v0 := Tryd.zeroValue0,
  t2 := Tryd.underlying2,
  a2 := Tryd.isAgg2,
  z2 := Tryd.sizeOf2,
  v2 := Tryd.zeroValue2,
  t3 := Tryd.underlying3,
  a3 := Tryd.isAgg3,
  z3 := Tryd.sizeOf3,
  v3 := Tryd.zeroValue3,
  t4 := Tryd.underlying4,
  a4 := Tryd.isAgg4,
  z4 := Tryd.sizeOf4,
  v4 := Tryd.zeroValue4,
  t5 := Tryd.underlying5,
  a5 := Tryd.isAgg5,
  z5 := Tryd.sizeOf5,
  v5 := Tryd.zeroValue5,
  t9 := Tryd.underlying9,
  a9 := Tryd.isAgg9,
  z9 := Tryd.sizeOf9,
  v9 := Tryd.zeroValue9,
  t20 := Tryd.underlying20,
  a20 := Tryd.isAgg20,
  z20 := Tryd.sizeOf20,
  v20 := Tryd.zeroValue20,
  t21 := Tryd.underlying21,
  a21 := Tryd.isAgg21,
  z21 := Tryd.sizeOf21,
  v21 := Tryd.zeroValue21,
  t37 := Tryd.underlying22,
  a37 := Tryd.isAgg22,
  z37 := Tryd.sizeOf22,
  v37 := Tryd.zeroValue22,
  t46 := Tryd.underlying68,
  a46 := Tryd.isAgg68,
  z46 := Tryd.sizeOf68,
  v46 := Tryd.zeroValue68,
  t51 := Tryd.underlying141,
  a51 := Tryd.isAgg141,
  z51 := Tryd.sizeOf141,
  v51 := Tryd.zeroValue141,
  t53 := Tryd.underlying118,
  a53 := Tryd.isAgg118,
  z53 := Tryd.sizeOf118,
  v53 := Tryd.zeroValue118,
  t75 := Tryd.underlying64,
  a75 := Tryd.isAgg64,
  z75 := Tryd.sizeOf64,
  v75 := Tryd.zeroValue64,
  t76 := Tryd.underlying65,
  a76 := Tryd.isAgg65,
  z76 := Tryd.sizeOf65,
  v76 := Tryd.zeroValue65,
  t85 := Tryd.underlying104,
  a85 := Tryd.isAgg104,
  z85 := Tryd.sizeOf104,
  v85 := Tryd.zeroValue104,
  t127 := Tryd.underlying100,
  a127 := Tryd.isAgg100,
  z127 := Tryd.sizeOf100,
  v127 := Tryd.zeroValue100,
  t143 := Tryd.underlying135,
  a143 := Tryd.isAgg135,
  z143 := Tryd.sizeOf135,
  v143 := Tryd.zeroValue135,
  t145 := Tryd.underlying137,
  a145 := Tryd.isAgg137,
  z145 := Tryd.sizeOf137,
  v145 := Tryd.zeroValue137,
  t167 := Tryd.underlying103,
  a167 := Tryd.isAgg103,
  z167 := Tryd.sizeOf103,
  v167 := Tryd.zeroValue103,
  t168 := Tryd.underlying106,
  a168 := Tryd.isAgg106,
  z168 := Tryd.sizeOf106,
  v168 := Tryd.zeroValue106,
  t171 := Tryd.underlying127,
  a171 := Tryd.isAgg127,
  z171 := Tryd.sizeOf127,
  v171 := Tryd.zeroValue127,
  t173 := Tryd.underlying130,
  a173 := Tryd.isAgg130,
  z173 := Tryd.sizeOf130,
  v173 := Tryd.zeroValue130,
  t175 := Tryd.underlying119,
  a175 := Tryd.isAgg119,
  z175 := Tryd.sizeOf119,
  v175 := Tryd.zeroValue119,
  t210 := Tryd.underlying123,
  a210 := Tryd.isAgg123,
  z210 := Tryd.sizeOf123,
  v210 := Tryd.zeroValue123,
  t212 := Tryd.underlying140,
  a212 := Tryd.isAgg140,
  z212 := Tryd.sizeOf140,
  v212 := Tryd.zeroValue140,
  t213 := Tryd.underlying142,
  a213 := Tryd.isAgg142,
  z213 := Tryd.sizeOf142,
  t232 := Tryd.underlying152,
  a232 := Tryd.isAgg152,
  z232 := Tryd.sizeOf152,
  v232 := Tryd.zeroValue152,
  t233 := Tryd.underlying153,
  a233 := Tryd.isAgg153,
  z233 := Tryd.sizeOf153,
  v233 := Tryd.zeroValue153,
  g15 := (by kernel_rfl),
  g16 := (by kernel_rfl),
  g17 := (by kernel_rfl),
  g18 := (by kernel_rfl),
  g19 := (by kernel_rfl),
  t80 := Tryd.underlying82,
  a80 := Tryd.isAgg82,
  z80 := Tryd.sizeOf82,
  v80 := Tryd.zeroValue82,
  i0 := (by kernel_rfl),
  i2 := (by kernel_rfl),
  i3 := (by kernel_rfl),
  i4 := (by kernel_rfl),
  i5 := (by kernel_rfl),
  i9 := (by kernel_rfl),
  i20 := (by kernel_rfl),
  i21 := (by kernel_rfl),
  i37 := (by kernel_rfl),
  i46 := (by kernel_rfl),
  i51 := (by kernel_rfl),
  i53 := (by kernel_rfl),
  i75 := (by kernel_rfl),
  i76 := (by kernel_rfl),
  i80 := (by kernel_rfl),
  i85 := (by kernel_rfl),
  i127 := (by kernel_rfl),
  i143 := (by kernel_rfl),
  i145 := (by kernel_rfl),
  i167 := (by kernel_rfl),
  i168 := (by kernel_rfl),
  i171 := (by kernel_rfl),
  i173 := (by kernel_rfl),
  i175 := (by kernel_rfl),
  i210 := (by kernel_rfl),
  i212 := (by kernel_rfl),
  i232 := (by kernel_rfl),
  i233 := (by kernel_rfl),
  m15 := (by kernel_rfl),
  m16 := (by kernel_rfl),
  m17 := (by kernel_rfl),
  m18 := (by kernel_rfl),
  m19 := (by kernel_rfl),
  c0 := (by kernel_rfl),
  c2 := (by kernel_rfl),
  c3 := (by kernel_rfl),
  c4 := (by kernel_rfl),
  c5 := (by kernel_rfl),
  c9 := (by kernel_rfl),
  c20 := (by kernel_rfl),
  c21 := (by kernel_rfl),
  c37 := (by kernel_rfl),
  c46 := (by kernel_rfl),
  c51 := (by kernel_rfl),
  c53 := (by kernel_rfl),
  c75 := (by kernel_rfl),
  c76 := (by kernel_rfl),
  c80 := (by kernel_rfl),
  c85 := (by kernel_rfl),
  c127 := (by kernel_rfl),
  c143 := (by kernel_rfl),
  c145 := (by kernel_rfl),
  c167 := (by kernel_rfl),
  c168 := (by kernel_rfl),
  c171 := (by kernel_rfl),
  c173 := (by kernel_rfl),
  c175 := (by kernel_rfl),
  c210 := (by kernel_rfl),
  c212 := (by kernel_rfl),
  c213 := (by kernel_rfl),
  c232 := (by kernel_rfl),
  c233 := (by kernel_rfl) }

def dotB : ByteArray := ⟨#[46]⟩
theorem split_any (s : ByteArray) (m : Int) (w : World) (hs : s.size < 4294967281) (hm : w.cell? ⟨2, 0, none⟩ = some (.int .i64 m)) :
    Calls Tryd.prog 45 #[.string s, .string dotB] w fun e w' => e = .returned (.slice (some ⟨w.heap.size, 0, none⟩) (Lib.countB s dotB + 1) (Lib.countB s dotB + 1)) ∧ w' = w.alloc (.cells ((Lib.splitB dotB 0 (Lib.countB s dotB) s).map Value.string).toArray 9) :=
  Any.strings_Split { lays146 with } lays146.i9 s dotB m w hs hm (by decide)
theorem atoi_some (s : ByteArray) (hl : s.size ≤ 18) (n : Int) (h : Lib.atoi s.data.toList = some n) (w : World) :
    Calls Tryd.prog 46 #[.string s] w fun e w' => e = .returned (.tuple #[.int .i64 n, .nilIface]) ∧ Below w.heap.size w w' :=
  (Any.strconv_Atoi_ok lays172 s (by omega) n (by rw [Lib.atoiAll_short _ hl, h]; rfl) w).mono fun e w' h => ⟨h.1, by
    rcases h.2 with rfl | ⟨t, rfl⟩
    · exact Below.refl _ _
    · exact Lib.bytesWorld_below _ _ _⟩
theorem atoi_none (s : ByteArray) (hl : s.size ≤ 18) (h : Lib.atoi s.data.toList = none) (ev : Value) (w : World) (hv : w.cell? ⟨0, 0, none⟩ = some ev) (hev : ev = .nilIface ∨ ∃ te pe, ev = .iface te pe) :
    Calls Tryd.prog 46 #[.string s] w fun e w' => ∃ t N, e = .returned (.tuple #[.int .i64 0, .iface t (.pointer (some ⟨N, 0, none⟩))]) ∧ Below w.heap.size w w' :=
  (Any.strconv_Atoi_err lays172 s hl h ev w hv hev).mono fun e w' h => by
    obtain ⟨N, he, _, _, hb⟩ := h
    exact ⟨_, N, he, hb⟩

/-! ### bytes_Equal: function 48 -/
def bytes_Equal.f (l0 : List Int) (l1 : List Int) : Option (Bool) := some ((strOfNums l0).toList == (strOfNums l1).toList)
set_option maxHeartbeats 8000000 in
set_option maxRecDepth 100000 in
theorem bytes_Equal.calls (A0 : Option Addr) (c0 : Nat) (l0 : List Int) (A1 : Option Addr) (c1 : Nat) (l1 : List Int) (r : Bool) (w : World) (hr0 : Kd.C (Kd.int .u8) w A0 l0.length l0) (hc0 : l0.length ≤ c0) (hr1 : Kd.C (Kd.int .u8) w A1 l1.length l1) (hc1 : l1.length ≤ c1) (h : bytes_Equal.f l0 l1 = some r) :
  Calls Tryd.prog 48 #[.slice A0 l0.length c0, .slice A1 l1.length c1] w fun e w' => e = .returned (.bool r) ∧ Drawn0 w w' := by
 have HR0 := ak hr0
 have HC0 := ak hc0
 clear hr0 hc0
 have HR1 := ak hr1
 have HC1 := ak hc1
 clear hr1 hc1
 have H : (some ((strOfNums l0).toList == (strOfNums l1).toList)) = some r := h
 clear h
 obtain rfl := Option.some.inj H
 have hcv3 := Kd.C_string (P := Tryd.prog) (A := A0) (c := c0) Tryd.underlying22 Tryd.underlying5 Tryd.underlying9 HR0.out
 have hcv4 := Kd.C_string (P := Tryd.prog) (A := A1) (c := c1) Tryd.underlying22 Tryd.underlying5 Tryd.underlying9 HR1.out
 go_enter Tryd.func48, Tryd.ntmps48
 go_wp2
 go_ret
 exact ⟨o2, od⟩

/-- The numbers of the parts, laid together: none where a part is no number of a byte. -/
def foldL : Int → List (List UInt8) → Option Int
  | n, [] => some n
  | n, s :: l => match Lib.atoi s with
    | none => none
    | some k => if 0 ≤ k ∧ k ≤ 255 ∧ n < 4294967296 then foldL (n * 256 + k) l else none
def partsV (b : List Int) : List ByteArray := Lib.splitB dotB 0 (Lib.countB (strOfNums b) dotB) (strOfNums b)
def readV (b : List Int) : Int × Bool := if b.length > 15 then (0, false) else match foldL 0 ((partsV b).map (·.data.toList)) with
  | none => (0, false)
  | some n => if dotV n = b then (n, true) else (0, false)
/-- What the library's functions want of the world: the table of powers, MaxLen, ErrSyntax. -/
structure EnvR (w : World) : Prop where
  tab : TabA w
  most : ∃ m, w.cell? ⟨2, 0, none⟩ = some (.int .i64 m)
  err : ∃ ev, w.cell? ⟨0, 0, none⟩ = some ev ∧ (ev = .nilIface ∨ ∃ te pe, ev = .iface te pe)
theorem cell_b {w W : World} {p : Addr} {v : Value} (hb : Below w.heap.size w W) (h : w.cell? p = some v) : W.cell? p = some v := (hb.cell (World.block_lt_of_cell? w _ h)).trans h
theorem EnvR.below {w W : World} (h : EnvR w) (hb : Below w.heap.size w W) : EnvR W :=
  ⟨tab_below h.tab hb, h.most.imp fun _ hm => cell_b hb hm, h.err.imp fun _ he => ⟨cell_b hb he.1, he.2⟩⟩
theorem split_le (sep : ByteArray) (k : Nat) : ∀ s : ByteArray, ∀ x ∈ Lib.splitB sep 0 k s, x.size ≤ s.size := by
  induction k with
  | zero => intro s x hx; simp [Lib.splitB] at hx; rw [hx]; exact Nat.le_refl _
  | succ k ih =>
    intro s x hx
    unfold Lib.splitB at hx
    split at hx
    · simp at hx; rw [hx]; exact Nat.le_refl _
    · rcases List.mem_cons.1 hx with rfl | hx
      · rw [ByteArray.size_extract]; omega
      · have := ih _ x hx
        rw [ByteArray.size_extract] at this; omega
theorem nums_sz (l : List Int) : (strOfNums l).size = l.length := by
  unfold strOfNums
  show (List.map _ l).toArray.size = _
  rw [List.size_toArray, List.length_map]
theorem shl8 (n : Int) (h0 : 0 ≤ n) (h1 : n < 4294967296) : shl .i64 n 8 = n * 256 := by
  show IntKind.i64.wrap (n * 2 ^ min (Int.toNat 8) IntKind.i64.bits) = n * 256
  rw [show min (Int.toNat 8) IntKind.i64.bits = 8 from rfl, IntKind.wrap_i64]; omega
theorem or8 (n k : Int) (h0 : 0 ≤ n) (h1 : n < 4294967296) (k0 : 0 ≤ k) (k1 : k ≤ 255) : Go.bits .or .i64 (n * 256) k = n * 256 + k :=
  bits_join .i64 63 (by decide) (fun n h0 h1 => by rw [IntKind.wrap_i64]; omega) 8 (n * 256) k (by omega) (by omega) (by omega) (by omega) (by omega) (by omega)
theorem nums_inj (a b : List Int) (ha : ∀ x ∈ a, 0 ≤ x ∧ x ≤ 255) (hb : ∀ x ∈ b, 0 ≤ x ∧ x ≤ 255) : ((strOfNums a).toList == (strOfNums b).toList) = decide (a = b) := by
  have key : ∀ xs : List Int, (∀ x ∈ xs, 0 ≤ x ∧ x ≤ 255) → strBytes (strOfNums xs) = xs := by
    intro xs h
    unfold strBytes strOfNums
    rw [List.toList_toArray, List.map_map]
    refine (List.map_congr_left (g := id) fun x hx => ?_).trans (List.map_id _)
    have := h x hx
    show (((UInt8.ofNat x.toNat).toNat : Nat) : Int) = x
    rw [UInt8.toNat_ofNat']
    omega
  by_cases h : a = b
  · subst h; simp
  · rw [decide_eq_false h, beq_eq_false_iff_ne]
    intro e
    apply h
    rw [Go.ByteArray.toList_eq, Go.ByteArray.toList_eq] at e
    rw [← key a ha, ← key b hb]
    unfold strBytes
    rw [e]
theorem dotV_rng (x : Int) : ∀ y ∈ dotV x, 0 ≤ y ∧ y ≤ 255 := by
  unfold dotV
  split
  · intro y hy
    obtain ⟨b, _, rfl⟩ := List.mem_map.1 hy
    have := b.toNat_lt
    omega
  · intro y hy; simp at hy
set_option maxHeartbeats 8000000 in
set_option maxRecDepth 100000 in
theorem dottedread_any (A : Option Addr) (c : Nat) (b : List Int) (w : World) (hr : Kd.C (Kd.int .u8) w A b.length b) (hc : b.length ≤ c) (hl : b.length ≤ 1048576) (hby : ∀ x ∈ b, 0 ≤ x ∧ x ≤ 255) (hE : EnvR w) :
    Calls Tryd.prog 20 #[.slice A b.length c] w fun e w' => e = .returned (.tuple #[.int .i64 (readV b).1, .bool (readV b).2]) ∧ Below w.heap.size w w' := by
  have HR := ak hr
  have HC := ak hc
  have HE := ak hE
  have HBY := ak hby
  clear hr hc hE hby
  by_cases h15 : b.length > 15
  · have e1 : readV b = (0, false) := by unfold readV; rw [if_pos h15]
    have hlz : (b.length : Int) > 15 := by omega
    rw [e1]
    go_enter Tryd.func20, Tryd.ntmps20
    go_wp2
    go_ret2
    exact ⟨rfl, Below.refl _ _⟩
  have hlz : ¬ (b.length : Int) > 15 := by omega
  have hcv := Kd.C_string (P := Tryd.prog) (dst := 9) (c := c) Tryd.underlying22 Tryd.underlying5 Tryd.underlying9 HR.out
  go_enter Tryd.func20, Tryd.ntmps20
  go_wp2_with (fail)
  obtain ⟨mm, hmm⟩ := HE.out.most
  refine (split_any (strOfNums b) mm w (by rw [nums_sz]; omega) hmm).mono ?_
  rintro e w2 ⟨rfl, hw2⟩
  obtain ⟨L, hL⟩ : ∃ L, L = partsV b := ⟨_, rfl⟩
  have hlen : L.length = Lib.countB (strOfNums b) dotB + 1 := by rw [hL]; exact Lib.splitB_all dotB (by decide) 0 _ _ rfl
  have HSZ := ak (show ∀ x ∈ L, x.size ≤ 18 from fun x hx => by rw [hL] at hx; have := split_le dotB _ _ x hx; rw [nums_sz] at this; omega)
  have HLN := ak (show L.length ≤ 1000 by
    rw [hlen]
    have := Lib.countB_le dotB (by decide) _ (strOfNums b) (Nat.le_refl _)
    rw [nums_sz] at this; omega)
  have B2 := ak (show w2.heap[w.heap.size]? = some (.cells (L.map Value.string).toArray 9 (0, 0)) by rw [hw2, hL]; exact heap_alloc_new w _)
  have HB := ak (show Below w.heap.size w w2 by rw [hw2]; exact below_alloc (Below.refl _ _) _)
  rw [← hlen]
  obtain ⟨g, hg⟩ : ∃ g, g = w.heap.size := ⟨_, rfl⟩
  rw [← hg]
  rw [← hg] at B2
  obtain ⟨R, hR⟩ : ∃ R, foldL 0 (L.map (·.data.toList)) = R := ⟨_, rfl⟩
  have HRN := ak (show R = none → readV b = (0, false) from fun e => by unfold readV; rw [if_neg h15, ← hL, hR, e])
  have HRS := ak (show ∀ n, R = some n → readV b = if dotV n = b then (n, true) else (0, false) from fun n e => by unfold readV; rw [if_neg h15, ← hL, hR, e])
  clear hw2 hL hlen hmm hcv hg
  go_wp2_with (fail)
  go_loopg [4, 16] L.length (fun kq v4 v16 w' => ∃ (n : Int) (i : Nat), i ≤ L.length ∧ L.length - i ≤ kq ∧ v4 = .int .i64 n ∧ v16 = .int .i64 i ∧ (0 ≤ n ∧ n < 1099511627776) ∧ Aside0 (foldL n ((L.drop i).map (·.data.toList)) = R) ∧ Aside0 (w'.heap[g]? = some (.cells (L.map Value.string).toArray 9 (0, 0))) ∧ Aside0 (Below w.heap.size w w'))
  case atStart => exact ⟨0, 0, Nat.zero_le _, by omega, rfl, rfl, by omega, ⟨hR⟩, B2, HB⟩
  case round =>
    clear B2 HB
    obtain ⟨n, i, hi, hgm, rfl, rfl, hn, HF, B2, HB⟩ := hrel
    by_cases hlt : i < L.length
    · have hlz : (i : Int) < (L.length : Int) := by omega
      have hs := HSZ.out L[i] (List.getElem_mem hlt)
      have hf := HF.out
      rw [List.drop_eq_getElem_cons hlt, List.map_cons] at hf
      have hcell : wr.cell? ⟨g, i, none⟩ = some (.string L[i]) := (blk_cell B2.out i).trans (by simp [hlt])
      obtain ⟨s, es⟩ : ∃ s, L[i] = s := ⟨_, rfl⟩
      rw [es] at hs hf hcell
      go_wp2_with (fail)
      cases ha : Lib.atoi s.data.toList with
      | none =>
        have hRn : R = none := by rw [← hf]; simp only [foldL, ha]
        have HRn := ak (HRN.out hRn)
        obtain ⟨ev, hev, hk⟩ := (HE.out.below HB.out).err
        refine (atoi_none s hs ha ev wr hev hk).mono ?_
        rintro e w3 ⟨t, N, rfl, hb⟩
        replace HB := b2s HB.out hb
        clear hb hcell hf HF HRN HRS hRn hev hk
        go_wp2
        go_ret2
        exact ⟨by rw [HRn.out]; rfl, HB.out⟩
      | some k =>
        refine (atoi_some s hs k ha wr).mono ?_
        rintro e w3 ⟨rfl, hb⟩
        replace HB := b2s HB.out hb
        replace B2 := ak (blk_below B2.out hb)
        simp only [foldL, ha] at hf
        clear hb hcell HF
        go_wp2_with (fail)
        have hwi : impl_within.f k 0 255 = some (decide (0 ≤ k ∧ k ≤ 255)) := by
          unfold impl_within.f
          by_cases h : 0 ≤ k <;> simp [h]
        refine (impl_within.calls k 0 255 _ _ hwi).mono ?_
        by_cases hkk : 0 ≤ k ∧ k ≤ 255
        · rw [decide_eq_true hkk]
          rintro e w4 ⟨rfl, hd⟩
          replace HB := b2s HB.out hd.below
          replace B2 := ak (blk_below B2.out hd.below)
          clear hd hwi
          by_cases hn2 : n < 4294967296
          · rw [if_pos ⟨hkk.1, hkk.2, hn2⟩] at hf
            have HF := ak hf
            have hnl : ¬ (n ≥ 4294967296) := by omega
            have hsh := shl8 n hn.1 hn2
            have hor := or8 n k hn.1 hn2 hkk.1 hkk.2
            clear hf HRN HRS
            go_wp2_with (fail)
            go_roundg (L.length - (i + 1))
            case measure => omega
            case rel => exact ⟨n * 256 + k, i + 1, by omega, by omega, (by first | rfl | (rw [hor]) | (simp [hor]; done)), (by have hw : wrap64 ((i : Int) + 1) = ((i + 1 : Nat) : Int) := (by have := HLN.out; unfold wrap64; omega); first | rw [hw] | (simp [hw]; done) | (simp only [hw]; rfl)), by omega, HF, B2, HB⟩
          · rw [if_neg (by omega)] at hf
            have HRn := ak (HRN.out hf.symm)
            have hnl : n ≥ 4294967296 := by omega
            clear hf HRN HRS
            go_wp2
            go_ret2
            exact ⟨by rw [HRn.out]; rfl, HB.out⟩
        · rw [decide_eq_false hkk]
          rintro e w4 ⟨rfl, hd⟩
          replace HB := b2s HB.out hd.below
          rw [if_neg (by omega)] at hf
          have HRn := ak (HRN.out hf.symm)
          clear hd hwi hf HRN HRS
          go_wp2
          go_ret2
          exact ⟨by rw [HRn.out]; rfl, HB.out⟩
    · have hlz : ¬ (i : Int) < (L.length : Int) := by omega
      obtain rfl : i = L.length := by omega
      have hf := HF.out
      rw [List.drop_of_length_le (Nat.le_refl _)] at hf
      go_wp2_with (fail)
      refine (dotted_any n wr (HE.out.below HB.out).tab).mono ?_
      rintro e w3 ⟨v3, rfl, hz, hb⟩
      obtain ⟨A3, c3, rfl⟩ := Z_slice hz
      have hr3 := Z_reads' hz
      replace HB := b2s HB.out hb
      clear hb hz
      go_wp2_with (fail)
      refine (bytes_Equal.calls A3 c3 (dotV n) A c b (decide (dotV n = b)) w3 hr3.2.2 hr3.2.1 (Kd.C_below HR.out HB.out) HC.out ?_).mono ?_
      · unfold bytes_Equal.f
        rw [nums_inj _ _ (dotV_rng n) HBY.out]
      rintro e w4 ⟨rfl, hd⟩
      replace HB := b2s HB.out hd.below
      have HRs := ak (HRS.out n (by rw [← hf]; rfl))
      clear hd hf HF HRN HRS hr3
      by_cases he : dotV n = b
      · rw [decide_eq_true he]
        have e1 := HRs.out
        rw [if_pos he] at e1
        have E1 := ak e1
        clear e1 HRs he
        go_wp2
        go_ret2
        exact ⟨by rw [E1.out]; rfl, HB.out⟩
      · rw [decide_eq_false he]
        have e1 := HRs.out
        rw [if_neg he] at e1
        have E1 := ak e1
        clear e1 HRs he
        go_wp2
        go_ret2
        exact ⟨by rw [E1.out]; rfl, HB.out⟩

/-- A state of type 94 at block g of W; what its slices lead to came in by w0. -/
def IsS94 (w0 W : World) (g : Nat) (f0 : List Int) (f1 : Int) (f2 : Int) : Prop := ∃ A0 c0, W.heap[g]? = some (.cells #[.slice A0 f0.length c0, .int .i64 f1, .int .i64 f2] 94 (0, 0)) ∧ w0.heap.size ≤ g ∧ Kd.C (Kd.int .u8) w0 A0 f0.length f0
theorem IsS94.grown {w0 W : World} {g : Nat} {f0 : List Int} {f1 : Int} {f2 : Int} {W1 : World} {row : Option Nat} (h : IsS94 w0 W g f0 f1 f2) (hw : W.grownBy W1 row) (hne : some g ≠ row) : IsS94 w0 W1 g f0 f1 f2 := by
 obtain ⟨A0, c0, hb, hg, hr0⟩ := h
 exact ⟨A0, c0, blk_grown hb hw hne, hg, hr0⟩
theorem IsS94.below {w0 W : World} {g : Nat} {f0 : List Int} {f1 : Int} {f2 : Int} {W1 : World} (h : IsS94 w0 W g f0 f1 f2) (hw : Below W.heap.size W W1) : IsS94 w0 W1 g f0 f1 f2 := h.grown (grown_of_below hw none) (by simp)
theorem IsS94.drewN {w0 W : World} {g : Nat} {f0 : List Int} {f1 : Int} {f2 : Int} (h : IsS94 w0 W g f0 f1 f2) (m : Nat) : IsS94 w0 (W.drewN m) g f0 f1 f2 := h
theorem IsS94.apart {w0 W : World} {g : Nat} {f0 : List Int} {f1 : Int} {f2 : Int} {α : Type} {d : Kd α} {e : Nat} {base : Nat} {ok : Nat → Prop} {v : Value} {xs : List α} (h : IsS94 w0 W g f0 f1 f2) (ho : d.R e W base ok v xs) (ht : ∀ q, q ∈ e :: d.E → q ≠ 94) : d.R e W base (fun k => ok k ∧ k ≠ g) v xs := by
 obtain ⟨A0, c0, hb, hg, hr0⟩ := h
 exact Kd.R_types ho hb ht
theorem IsS94.own_ne {w0 W : World} {g : Nat} {f0 : List Int} {f1 : Int} {f2 : Int} {α : Type} {d : Kd α} {e : Nat} {base : Nat} {ok : Nat → Prop} {v : Value} {xs : List α} (h : IsS94 w0 W g f0 f1 f2) (ho : d.R e W base ok v xs) (ht : e ≠ 94) : some g ≠ v.ownBlock := by
 obtain ⟨A0, c0, hb, hg, hr0⟩ := h
 exact Kd.R_ne ho hb ht
theorem IsS94.ge {w0 W : World} {g : Nat} {f0 : List Int} {f1 : Int} {f2 : Int} (h : IsS94 w0 W g f0 f1 f2) : w0.heap.size ≤ g := by
 obtain ⟨A0, c0, hb, hg, hr0⟩ := h
 exact hg
theorem cellS94_0 {W : World} {g : Nat} {A0 : Option Addr} {c0 : Nat} {f0 : List Int} {f1 : Int} {f2 : Int} (h : W.heap[g]? = some (.cells #[.slice A0 f0.length c0, .int .i64 f1, .int .i64 f2] 94 (0, 0))) : W.cell? ⟨g, 0, none⟩ = some (.slice A0 f0.length c0) := (blk_cell h 0).trans rfl
theorem cellS94_1 {W : World} {g : Nat} {A0 : Option Addr} {c0 : Nat} {f0 : List Int} {f1 : Int} {f2 : Int} (h : W.heap[g]? = some (.cells #[.slice A0 f0.length c0, .int .i64 f1, .int .i64 f2] 94 (0, 0))) : W.cell? ⟨g, 1, none⟩ = some (.int .i64 f1) := (blk_cell h 1).trans rfl
theorem IsS94.set_1 {w0 W : World} {g : Nat} {f0 : List Int} {f1 : Int} {f2 : Int} (h : IsS94 w0 W g f0 f1 f2) (x : Int) : IsS94 w0 (W.setCell ⟨g, 1, none⟩ (.int .i64 x)) g f0 x f2 := by
 obtain ⟨A0, c0, hb, hg, hr0⟩ := h
 exact ⟨A0, c0, by simpa using blk_set hb 1 (.int .i64 x), hg, hr0⟩
theorem cellS94_2 {W : World} {g : Nat} {A0 : Option Addr} {c0 : Nat} {f0 : List Int} {f1 : Int} {f2 : Int} (h : W.heap[g]? = some (.cells #[.slice A0 f0.length c0, .int .i64 f1, .int .i64 f2] 94 (0, 0))) : W.cell? ⟨g, 2, none⟩ = some (.int .i64 f2) := (blk_cell h 2).trans rfl
theorem IsS94.set_2 {w0 W : World} {g : Nat} {f0 : List Int} {f1 : Int} {f2 : Int} (h : IsS94 w0 W g f0 f1 f2) (x : Int) : IsS94 w0 (W.setCell ⟨g, 2, none⟩ (.int .i64 x)) g f0 f1 x := by
 obtain ⟨A0, c0, hb, hg, hr0⟩ := h
 exact ⟨A0, c0, by simpa using blk_set hb 2 (.int .i64 x), hg, hr0⟩
/-! ### spec_l1New: function 49 -/
def spec_l1New.l0 : Nat → List Int → Int → Int → Option (List Int × Int × Int)
 | 0, _, _, _ => none
 | k + 1, x0, x3, x4 => if x4 < (x0.length : Int) then (if x4 < 4000 then (if 0 ≤ x4 then (spec_l1New.l0 k x0 (Go.bits .and .i64 (wrap64 ((wrap64 ((wrap64 (x3 * 131)) + (wrap64 (rd x0 x4)))) + 7)) 1073741823) (wrap64 (x4 + 1))) else (none)) else (some (x0, 0, x3))) else (some (x0, 0, x3))
def spec_l1New.f (k : Nat) (l0 : List Int) : Option (List Int × Int × Int) := spec_l1New.l0 k l0 (wrap64 (42222 + (l0.length : Int))) 0
theorem spec_l1New.mono_l : ∀ k, (∀ y0 y1 y2, LeO (spec_l1New.l0 k y0 y1 y2) (spec_l1New.l0 (k + 1) y0 y1 y2))
 | 0 => fun _ _ _ r h => by simp [spec_l1New.l0] at h
 | k + 1 => by
  have ih0 := spec_l1New.mono_l k
  ·intro y0 y1 y2
   unfold spec_l1New.l0
   repeat' first
   | (with_reducible exact ih0 _ _ _)
   | (with_reducible exact LeO.refl _)
   | (with_reducible exact LeO.none _)
   | (with_reducible refine LeO.ite ?_ ?_)
   | (with_reducible refine LeO.bind ?_ (fun _ => ?_))
   | exact ih0 _ _ _
   | exact LeO.none _
   | refine LeO.ite ?_ ?_
   | refine LeO.bind ?_ (fun _ => ?_)
theorem spec_l1New.mono : ∀ a0 k, LeO (spec_l1New.f k a0) (spec_l1New.f (k + 1) a0) := by
 intro a0 k
 have ih0 := spec_l1New.mono_l k
 unfold spec_l1New.f
 repeat' first
   | (with_reducible exact ih0 _ _ _)
   | (with_reducible exact LeO.refl _)
   | (with_reducible exact LeO.none _)
   | (with_reducible refine LeO.ite ?_ ?_)
   | (with_reducible refine LeO.bind ?_ (fun _ => ?_))
   | exact ih0 _ _ _
   | exact LeO.none _
   | refine LeO.ite ?_ ?_
   | refine LeO.bind ?_ (fun _ => ?_)
set_option maxHeartbeats 8000000 in
set_option maxRecDepth 100000 in
theorem spec_l1New.calls (k : Nat) (A0 : Option Addr) (c0 : Nat) (l0 : List Int) (r1 : List Int) (r2 : Int) (r3 : Int) (w0 w : World) (hB : Below w0.heap.size w0 w) (hr0 : Kd.C (Kd.int .u8) w0 A0 l0.length l0) (hc0 : l0.length ≤ c0) (h : spec_l1New.f k l0 = some (r1, r2, r3)) :
  Calls Tryd.prog 49 #[.slice A0 l0.length c0] w fun e w' => ∃ g_ : Nat, e = .returned (.pointer (some ⟨g_, 0, none⟩)) ∧ IsS94 w0 w' g_ r1 r2 r3 ∧ Below w0.heap.size w0 w' ∧ Below w.heap.size w w' := by
 have hu94 := Tryd.underlying94
 have HR0 := Aside0.mk hr0
 have HC0 := Aside0.mk hc0
 clear hr0 hc0
 have HBW := Aside0.mk (Below.refl w.heap.size w)
 have HW0 := Aside0.mk hB.size
 have HB := Aside0.mk hB
 clear hB
 have H : (spec_l1New.l0 k l0 (wrap64 (42222 + (l0.length : Int))) 0) = some (r1, r2, r3) := h
 clear h
 have H' := Aside0.mk H
 clear H
 go_enter Tryd.func49, Tryd.ntmps49
 go_wp2
 go_loopg [3, 4] k (fun kq v3 v4 w' => ∃ (x3_1 : Int) (x4_1 : Int), v3 = .int .i64 x3_1 ∧ v4 = .int .i64 x4_1 ∧ Aside0 (spec_l1New.l0 kq l0 x3_1 x4_1 = some (r1, r2, r3)) ∧ Aside0 (kq ≤ k) ∧ Aside0 (Below w0.heap.size w0 w') ∧ Aside0 (Below w.heap.size w w'))
 case atStart => exact ⟨(wrap64 (42222 + (l0.length : Int))), (0), (by first | rfl | (simp; done) | (simp [*]; done)), (by first | rfl | (simp; done) | (simp [*]; done)), H', ⟨Nat.le_refl _⟩, ⟨bw HB.out⟩, HBW⟩
 case round =>
  clear H'
  clear HBW
  obtain ⟨x3_1, x4_1, rfl, rfl, HA, HK1, HB, HBW⟩ := hrel
  cases gk with
  | zero => exact absurd HA.out (by simp [spec_l1New.l0])
  | succ k1 =>
   have H := HA.out
   clear HA
   simp only [spec_l1New.l0] at H
   by_cases c2 : x4_1 < (l0.length : Int)
   ·rw [if_pos c2] at H
    have c2b0 : decide (x4_1 < (l0.length : Int)) = true := decide_eq_true c2
    clear c2
    by_cases c3 : x4_1 < 4000
    ·rw [if_pos c3] at H
     have c3b0 : decide (x4_1 < 4000) = true := decide_eq_true c3
     clear c3
     by_cases c4 : 0 ≤ x4_1
     ·rw [if_pos c4] at H
      have c4b0 : decide (0 ≤ x4_1) = true := decide_eq_true c4
      clear c4
      have H' := Aside0.mk H
      clear H
      have p101 : 0 ≤ (x4_1 : Int) := of_decide_eq_true (by first | (with_reducible assumption) | assumption)
      have q101 : x4_1 < (l0.length : Int) := of_decide_eq_true (by first | (with_reducible assumption) | assumption)
      obtain ⟨ad101, e101, hx101_0⟩ := Kd.at_int HR0.out x4_1 p101 q101
      cases e101
      replace hx101_0 := pw_cell_below HB.out hx101_0
      replace p101 := eq_true p101
      replace q101 := eq_true q101
      go_wp2
      go_roundg k1
      case measure => have := HK1.out; omega
      case rel => exact ⟨(Go.bits .and .i64 (wrap64 ((wrap64 ((wrap64 (x3_1 * 131)) + (wrap64 (rd l0 x4_1)))) + 7)) 1073741823), (wrap64 (x4_1 + 1)), (by first | rfl | (simp; done) | (simp [*]; done)), (by first | rfl | (simp; done) | (simp [*]; done)), H', ⟨by have := HK1.out; omega⟩, ⟨bw HB.out⟩, ⟨bw HBW.out⟩⟩
     ·rw [if_neg c4] at H
      exact absurd H (by simp)
    ·rw [if_neg c3] at H
     have c3b0 : decide (x4_1 < 4000) = false := decide_eq_false c3
     clear c3
     simp only [Option.some.injEq, Prod.mk.injEq] at H
     obtain ⟨rfl, rfl, rfl⟩ := H
     go_wp2_with (first | ((with_reducible refine gate_dst (N := 31) rfl ?_); refine box_event ?hg (N := 31) ?hd (cs := #[.slice A0 l0.length c0, .int .i64 0, .int .i64 x3_1]) (t := 94) ?hr ?_; (case hd => rfl); (case hg => rfl); (case hr => first | (go_simp; done) | (go_simp; rfl)); intro gb102 hg w5 hbox hb; replace HB := Aside0.mk (below_step (bw HB.out) hb); have BK102 := Aside0.mk (hbox); have GW102 := Aside0.mk ((by rw [hg]; exact (below_size (by repeat (first | (with_reducible first | exact HBW.out | apply below_alloc | apply pw_below_drewN | apply below_drew1) | exact HBW.out))) : w.heap.size ≤ gb102)); have GE102 := Aside0.mk ((Nat.le_trans HW0.out (by rw [hg]; exact (below_size (by repeat (first | (with_reducible first | exact HBW.out | apply below_alloc | apply pw_below_drewN | apply below_drew1) | exact HBW.out))) : w.heap.size ≤ gb102) : w0.heap.size ≤ gb102)); replace HBW := Aside0.mk (below_step HBW.out hb); clear hb hbox hg))
     go_ret
     exact ⟨_, rfl, (show IsS94 w0 _ gb102 l0 0 x3_1 from ⟨_, _, bk BK102.out, GE102.out, HR0.out⟩), by repeat (first | exact bw HB.out | refine below_set ?_ GE102.out), by repeat (first | (with_reducible first | exact HBW.out | apply below_alloc | apply pw_below_drewN | apply below_drew1 | refine below_set ?_ GW102.out) | exact HBW.out)⟩
   ·rw [if_neg c2] at H
    have c2b0 : decide (x4_1 < (l0.length : Int)) = false := decide_eq_false c2
    clear c2
    simp only [Option.some.injEq, Prod.mk.injEq] at H
    obtain ⟨rfl, rfl, rfl⟩ := H
    go_wp2_with (first | ((with_reducible refine gate_dst (N := 31) rfl ?_); refine box_event ?hg (N := 31) ?hd (cs := #[.slice A0 l0.length c0, .int .i64 0, .int .i64 x3_1]) (t := 94) ?hr ?_; (case hd => rfl); (case hg => rfl); (case hr => first | (go_simp; done) | (go_simp; rfl)); intro gb103 hg w6 hbox hb; replace HB := Aside0.mk (below_step (bw HB.out) hb); have BK103 := Aside0.mk (hbox); have GW103 := Aside0.mk ((by rw [hg]; exact (below_size (by repeat (first | (with_reducible first | exact HBW.out | apply below_alloc | apply pw_below_drewN | apply below_drew1) | exact HBW.out))) : w.heap.size ≤ gb103)); have GE103 := Aside0.mk ((Nat.le_trans HW0.out (by rw [hg]; exact (below_size (by repeat (first | (with_reducible first | exact HBW.out | apply below_alloc | apply pw_below_drewN | apply below_drew1) | exact HBW.out))) : w.heap.size ≤ gb103) : w0.heap.size ≤ gb103)); replace HBW := Aside0.mk (below_step HBW.out hb); clear hb hbox hg))
    go_ret
    exact ⟨_, rfl, (show IsS94 w0 _ gb103 l0 0 x3_1 from ⟨_, _, bk BK103.out, GE103.out, HR0.out⟩), by repeat (first | exact bw HB.out | refine below_set ?_ GE103.out), by repeat (first | (with_reducible first | exact HBW.out | apply below_alloc | apply pw_below_drewN | apply below_drew1 | refine below_set ?_ GW103.out) | exact HBW.out)⟩


/-! ### spec_l1Byte: function 80 -/
def spec_l1Byte.f (s0_0 : List Int) (s0_1 : Int) (s0_2 : Int) : Option (Int × Int × Int) := if s0_1 < (s0_0.length : Int) then (if 0 ≤ s0_1 then (some (Go.bits .and .i64 (wrap64 ((Go.bits .and .i64 (Go.bits .xor .i64 ((wrap64 ((wrap64 (s0_2 * 6364136223846793005)) + 1442695040888963407)) / 8589934592) ((wrap64 ((wrap64 (s0_2 * 6364136223846793005)) + 1442695040888963407)) / 35184372088832)) 255) + (wrap64 (rd s0_0 s0_1)))) 255, wrap64 (s0_1 + 1), wrap64 ((wrap64 (s0_2 * 6364136223846793005)) + 1442695040888963407))) else (none)) else (some (Go.bits .and .i64 (Go.bits .xor .i64 ((wrap64 ((wrap64 (s0_2 * 6364136223846793005)) + 1442695040888963407)) / 8589934592) ((wrap64 ((wrap64 (s0_2 * 6364136223846793005)) + 1442695040888963407)) / 35184372088832)) 255, s0_1, wrap64 ((wrap64 (s0_2 * 6364136223846793005)) + 1442695040888963407)))
set_option maxHeartbeats 8000000 in
set_option maxRecDepth 100000 in
theorem spec_l1Byte.calls (g : Nat) (s0_0 : List Int) (s0_1 : Int) (s0_2 : Int) (r1 : Int) (r2 : Int) (r3 : Int) (w0 w : World) (hI : IsS94 w0 w g s0_0 s0_1 s0_2) (hB : Below w0.heap.size w0 w) (h : spec_l1Byte.f s0_0 s0_1 s0_2 = some (r1, r2, r3)) :
  Calls Tryd.prog 80 #[.pointer (some ⟨g, 0, none⟩)] w fun e w' => e = .returned (.int .i64 r1) ∧ IsS94 w0 w' g s0_0 r2 r3 ∧ Below w0.heap.size w0 w' ∧ KeepBut w w' g none := by
 have HI0 := ak hI
 have HK := ak (KeepBut.refl w g none)
 have HL := ak hB.size
 clear hI
 have HW0 := ak hB.size
 have HB := ak hB
 clear hB
 have H : (if s0_1 < (s0_0.length : Int) then (if 0 ≤ s0_1 then (some (Go.bits .and .i64 (wrap64 ((Go.bits .and .i64 (Go.bits .xor .i64 ((wrap64 ((wrap64 (s0_2 * 6364136223846793005)) + 1442695040888963407)) / 8589934592) ((wrap64 ((wrap64 (s0_2 * 6364136223846793005)) + 1442695040888963407)) / 35184372088832)) 255) + (wrap64 (rd s0_0 s0_1)))) 255, wrap64 (s0_1 + 1), wrap64 ((wrap64 (s0_2 * 6364136223846793005)) + 1442695040888963407))) else (none)) else (some (Go.bits .and .i64 (Go.bits .xor .i64 ((wrap64 ((wrap64 (s0_2 * 6364136223846793005)) + 1442695040888963407)) / 8589934592) ((wrap64 ((wrap64 (s0_2 * 6364136223846793005)) + 1442695040888963407)) / 35184372088832)) 255, s0_1, wrap64 ((wrap64 (s0_2 * 6364136223846793005)) + 1442695040888963407)))) = some (r1, r2, r3) := h
 clear h
 replace H := ip H
 obtain ⟨c2b0, H⟩ | ⟨c2b0, H⟩ := H
 ·replace H := ipN H
  obtain ⟨c3b0, H⟩ := H
  simp only [Option.some.injEq, Prod.mk.injEq] at H
  obtain ⟨rfl, rfl, rfl⟩ := H
  obtain ⟨ASz4_0, cSz4_0, HGz4, hgz4, HSz4_0⟩ := HI0.out
  have hcz4_0 := cellS94_0 HGz4
  have hcz4_1 := cellS94_1 HGz4
  have hcz4_2 := cellS94_2 HGz4
  have hfz4_1 := blk_frozen HGz4 1
  have hfz4_2 := blk_frozen HGz4 2
  clear HGz4 hgz4
  have p101 : 0 ≤ (s0_1 : Int) := of_decide_eq_true (by first | (with_reducible assumption) | assumption)
  have q101 : s0_1 < (s0_0.length : Int) := of_decide_eq_true (by first | (with_reducible assumption) | assumption)
  obtain ⟨ad101, e101, hx101_0⟩ := Kd.at_int HSz4_0 s0_1 p101 q101
  cases e101
  have hn101_0 : ad101.block ≠ g := Nat.ne_of_lt (Nat.lt_of_lt_of_le (by have := World.block_lt_of_cell? _ _ hx101_0; first | rwa [add_block] at this | exact this) (IsS94.ge HI0.out))
  replace hx101_0 := pw_cell_below HB.out hx101_0
  replace hx101_0 := (cell_far (p := ⟨g, 2, none⟩) (by first | (rw [add_block]; exact hn101_0) | (show (Addr.add _ _).block ≠ _; rw [add_block]; exact hn101_0) | exact hn101_0) (.int .i64 (wrap64 ((wrap64 (s0_2 * 6364136223846793005)) + 1442695040888963407)))).trans hx101_0
  (try have hy101_0 := fun (n_ : Nat) => (show (((w.drewN n_).setCell ⟨g, 2, none⟩ (.int .i64 (wrap64 ((wrap64 (s0_2 * 6364136223846793005)) + 1442695040888963407))))).cell? _ = some _ from hx101_0))
  clear hn101_0
  replace p101 := eq_true p101
  replace q101 := eq_true q101
  go_enter Tryd.func80, Tryd.ntmps80
  go_wp2
  repeat (go_quiet (fail); try go_wp2)
  go_ret
  exact ⟨o1, by repeat (first | (with_reducible first | exact HI0.out | apply IsS94.alloc | apply IsS94.drewN | apply IsS94.drew | apply IsS94.set_1 | apply IsS94.set_2) | exact HI0.out), by repeat (first | (with_reducible first | exact HB.out | apply below_alloc | apply pw_below_drewN | apply below_drew1 | refine below_set ?_ (IsS94.ge HI0.out)) | exact HB.out), by repeat (first | (with_reducible first | exact HK.out | apply KeepBut.set_ | apply keep_drewN | apply keep_drew | apply keep_alloc) | exact HK.out)⟩
 ·simp only [Option.some.injEq, Prod.mk.injEq] at H
  obtain ⟨rfl, rfl, rfl⟩ := H
  obtain ⟨ASz5_0, cSz5_0, HGz5, hgz5, HSz5_0⟩ := HI0.out
  have hcz5_0 := cellS94_0 HGz5
  have hcz5_1 := cellS94_1 HGz5
  have hcz5_2 := cellS94_2 HGz5
  have hfz5_1 := blk_frozen HGz5 1
  have hfz5_2 := blk_frozen HGz5 2
  clear HGz5 hgz5
  go_enter Tryd.func80, Tryd.ntmps80
  go_wp2
  repeat (go_quiet (fail); try go_wp2)
  go_ret
  exact ⟨o1, by repeat (first | (with_reducible first | exact HI0.out | apply IsS94.alloc | apply IsS94.drewN | apply IsS94.drew | apply IsS94.set_1 | apply IsS94.set_2) | exact HI0.out), by repeat (first | (with_reducible first | exact HB.out | apply below_alloc | apply pw_below_drewN | apply below_drew1 | refine below_set ?_ (IsS94.ge HI0.out)) | exact HB.out), by repeat (first | (with_reducible first | exact HK.out | apply KeepBut.set_ | apply keep_drewN | apply keep_drew | apply keep_alloc) | exact HK.out)⟩

/-! ### spec_l1Below: function 57 -/
def spec_l1Below.f (s0_0 : List Int) (s0_1 : Int) (s0_2 : Int) (a1 : Int) : Option (Int × Int × Int) := if a1 ≤ 0 then (some (0, s0_1, s0_2)) else (if a1 ≤ 256 then ((spec_l1Byte.f s0_0 s0_1 s0_2).bind fun bt101 => (if a1 = 0 then (none) else (some (Int.tmod bt101.1 a1, bt101.2.1, bt101.2.2)))) else ((spec_l1Byte.f s0_0 s0_1 s0_2).bind fun bt104 => ((spec_l1Byte.f s0_0 bt104.2.1 bt104.2.2).bind fun bt107 => ((spec_l1Byte.f s0_0 bt107.2.1 bt107.2.2).bind fun bt110 => ((spec_l1Byte.f s0_0 bt110.2.1 bt110.2.2).bind fun bt113 => (if a1 = 0 then (none) else (some (Int.tmod (wrap64 ((wrap64 ((wrap64 ((wrap64 (bt104.1 * 16777216)) + (wrap64 (bt107.1 * 65536)))) + (wrap64 (bt110.1 * 256)))) + bt113.1)) a1, bt113.2.1, bt113.2.2))))))))
set_option maxHeartbeats 8000000 in
set_option maxRecDepth 100000 in
theorem spec_l1Below.calls (g : Nat) (s0_0 : List Int) (s0_1 : Int) (s0_2 : Int) (a1 : Int) (r1 : Int) (r2 : Int) (r3 : Int) (w0 w : World) (hI : IsS94 w0 w g s0_0 s0_1 s0_2) (hB : Below w0.heap.size w0 w) (h : spec_l1Below.f s0_0 s0_1 s0_2 a1 = some (r1, r2, r3)) :
  Calls Tryd.prog 57 #[.pointer (some ⟨g, 0, none⟩), .int .i64 a1] w fun e w' => e = .returned (.int .i64 r1) ∧ IsS94 w0 w' g s0_0 r2 r3 ∧ Below w0.heap.size w0 w' ∧ KeepBut w w' g none := by
 have HI0 := ak hI
 have HK := ak (KeepBut.refl w g none)
 have HL := ak hB.size
 clear hI
 have HW0 := ak hB.size
 have HB := ak hB
 clear hB
 have H : (if a1 ≤ 0 then (some (0, s0_1, s0_2)) else (if a1 ≤ 256 then ((spec_l1Byte.f s0_0 s0_1 s0_2).bind fun bt101 => (if a1 = 0 then (none) else (some (Int.tmod bt101.1 a1, bt101.2.1, bt101.2.2)))) else ((spec_l1Byte.f s0_0 s0_1 s0_2).bind fun bt104 => ((spec_l1Byte.f s0_0 bt104.2.1 bt104.2.2).bind fun bt107 => ((spec_l1Byte.f s0_0 bt107.2.1 bt107.2.2).bind fun bt110 => ((spec_l1Byte.f s0_0 bt110.2.1 bt110.2.2).bind fun bt113 => (if a1 = 0 then (none) else (some (Int.tmod (wrap64 ((wrap64 ((wrap64 ((wrap64 (bt104.1 * 16777216)) + (wrap64 (bt107.1 * 65536)))) + (wrap64 (bt110.1 * 256)))) + bt113.1)) a1, bt113.2.1, bt113.2.2))))))))) = some (r1, r2, r3) := h
 clear h
 replace H := ip H
 obtain ⟨c3b0, H⟩ | ⟨c3b0, H⟩ := H
 ·simp only [Option.some.injEq, Prod.mk.injEq] at H
  obtain ⟨rfl, rfl, rfl⟩ := H
  go_enter Tryd.func57, Tryd.ntmps57
  go_wp2
  go_ret
  exact ⟨o1, by repeat (first | (with_reducible first | exact HI0.out | apply IsS94.alloc | apply IsS94.drewN | apply IsS94.drew | apply IsS94.set_1 | apply IsS94.set_2) | exact HI0.out), by repeat (first | (with_reducible first | exact HB.out | apply below_alloc | apply pw_below_drewN | apply below_drew1 | refine below_set ?_ (IsS94.ge HI0.out)) | exact HB.out), by repeat (first | (with_reducible first | exact HK.out | apply KeepBut.set_ | apply keep_drewN | apply keep_drew | apply keep_alloc) | exact HK.out)⟩
 ·replace H := ip H
  obtain ⟨c4b0, H⟩ | ⟨c4b0, H⟩ := H
  ·replace H := Option.bind_eq_some_iff.mp H
   obtain ⟨⟨t101, t102, t103⟩, A50, H⟩ := H
   replace H : (if a1 = 0 then (none) else (some (Int.tmod t101 a1, t102, t103))) = some (r1, r2, r3) := H
   have A5 := ak A50
   clear A50
   by_cases c6 : a1 = 0
   ·rw [if_pos c6] at H
    exact absurd H (by simp)
   ·rw [if_neg c6] at H
    have c6b0 : (a1 == 0) = false := beq_eq_false_iff_ne.mpr c6
    have c6b1 : (a1 != 0) = true := bne_iff_ne.mpr c6
    simp only [Option.some.injEq, Prod.mk.injEq] at H
    obtain ⟨rfl, rfl, rfl⟩ := H
    go_enter Tryd.func57, Tryd.ntmps57
    go_wp2_with (((with_reducible refine gate_callee (f := 80) rfl ?_);refine glG 14 rfl rfl Tryd.func80 (spec_l1Byte.calls g s0_0 s0_1 s0_2 t101 t102 t103 w0 _ ?side1 ?side2 A5.out) ?_;(case side1 => repeat (first | (with_reducible first | exact HI0.out | apply IsS94.alloc | apply IsS94.drewN | apply IsS94.drew | apply IsS94.set_1 | apply IsS94.set_2) | exact HI0.out));(case side2 => repeat (first | (with_reducible first | exact HB.out | apply below_alloc | apply pw_below_drewN | apply below_drew1 | refine below_set ?_ (IsS94.ge HI0.out)) | exact HB.out));rintro e w7 ⟨rfl, hi, hb, hk⟩;refine ⟨_, rfl, ?_⟩;replace HK := ak (KeepBut.trans (by repeat (first | (with_reducible first | exact HK.out | apply KeepBut.set_ | apply keep_drewN | apply keep_drew | apply keep_alloc) | exact HK.out)) hk (.inl rfl));replace HB := ak (hb);replace HI0 := ak (hi);(try clear hb);(try clear hb2);(try clear hk);(try clear hi)))
    go_ret
    exact ⟨o1, by repeat (first | (with_reducible first | exact HI0.out | apply IsS94.alloc | apply IsS94.drewN | apply IsS94.drew | apply IsS94.set_1 | apply IsS94.set_2) | exact HI0.out), by repeat (first | (with_reducible first | exact HB.out | apply below_alloc | apply pw_below_drewN | apply below_drew1 | refine below_set ?_ (IsS94.ge HI0.out)) | exact HB.out), by repeat (first | (with_reducible first | exact HK.out | apply KeepBut.set_ | apply keep_drewN | apply keep_drew | apply keep_alloc) | exact HK.out)⟩
  ·replace H := Option.bind_eq_some_iff.mp H
   obtain ⟨⟨t104, t105, t106⟩, A80, H⟩ := H
   replace H : ((spec_l1Byte.f s0_0 t105 t106).bind fun bt107 => ((spec_l1Byte.f s0_0 bt107.2.1 bt107.2.2).bind fun bt110 => ((spec_l1Byte.f s0_0 bt110.2.1 bt110.2.2).bind fun bt113 => (if a1 = 0 then (none) else (some (Int.tmod (wrap64 ((wrap64 ((wrap64 ((wrap64 (t104 * 16777216)) + (wrap64 (bt107.1 * 65536)))) + (wrap64 (bt110.1 * 256)))) + bt113.1)) a1, bt113.2.1, bt113.2.2)))))) = some (r1, r2, r3) := H
   have A8 := ak A80
   clear A80
   replace H := Option.bind_eq_some_iff.mp H
   obtain ⟨⟨t107, t108, t109⟩, A90, H⟩ := H
   replace H : ((spec_l1Byte.f s0_0 t108 t109).bind fun bt110 => ((spec_l1Byte.f s0_0 bt110.2.1 bt110.2.2).bind fun bt113 => (if a1 = 0 then (none) else (some (Int.tmod (wrap64 ((wrap64 ((wrap64 ((wrap64 (t104 * 16777216)) + (wrap64 (t107 * 65536)))) + (wrap64 (bt110.1 * 256)))) + bt113.1)) a1, bt113.2.1, bt113.2.2))))) = some (r1, r2, r3) := H
   have A9 := ak A90
   clear A90
   replace H := Option.bind_eq_some_iff.mp H
   obtain ⟨⟨t110, t111, t112⟩, A100, H⟩ := H
   replace H : ((spec_l1Byte.f s0_0 t111 t112).bind fun bt113 => (if a1 = 0 then (none) else (some (Int.tmod (wrap64 ((wrap64 ((wrap64 ((wrap64 (t104 * 16777216)) + (wrap64 (t107 * 65536)))) + (wrap64 (t110 * 256)))) + bt113.1)) a1, bt113.2.1, bt113.2.2)))) = some (r1, r2, r3) := H
   have A10 := ak A100
   clear A100
   replace H := Option.bind_eq_some_iff.mp H
   obtain ⟨⟨t113, t114, t115⟩, A110, H⟩ := H
   replace H : (if a1 = 0 then (none) else (some (Int.tmod (wrap64 ((wrap64 ((wrap64 ((wrap64 (t104 * 16777216)) + (wrap64 (t107 * 65536)))) + (wrap64 (t110 * 256)))) + t113)) a1, t114, t115))) = some (r1, r2, r3) := H
   have A11 := ak A110
   clear A110
   by_cases c12 : a1 = 0
   ·rw [if_pos c12] at H
    exact absurd H (by simp)
   ·rw [if_neg c12] at H
    have c12b0 : (a1 == 0) = false := beq_eq_false_iff_ne.mpr c12
    have c12b1 : (a1 != 0) = true := bne_iff_ne.mpr c12
    simp only [Option.some.injEq, Prod.mk.injEq] at H
    obtain ⟨rfl, rfl, rfl⟩ := H
    go_enter Tryd.func57, Tryd.ntmps57
    go_wp2_with (first | ((with_reducible refine gate_callee (f := 80) rfl ?_);refine glG 18 rfl rfl Tryd.func80 (spec_l1Byte.calls g s0_0 s0_1 s0_2 t104 t105 t106 w0 _ ?side1 ?side2 A8.out) ?_;(case side1 => repeat (first | (with_reducible first | exact HI0.out | apply IsS94.alloc | apply IsS94.drewN | apply IsS94.drew | apply IsS94.set_1 | apply IsS94.set_2) | exact HI0.out));(case side2 => repeat (first | (with_reducible first | exact HB.out | apply below_alloc | apply pw_below_drewN | apply below_drew1 | refine below_set ?_ (IsS94.ge HI0.out)) | exact HB.out));rintro e w13 ⟨rfl, hi, hb, hk⟩;refine ⟨_, rfl, ?_⟩;replace HK := ak (KeepBut.trans (by repeat (first | (with_reducible first | exact HK.out | apply KeepBut.set_ | apply keep_drewN | apply keep_drew | apply keep_alloc) | exact HK.out)) hk (.inl rfl));replace HB := ak (hb);replace HI0 := ak (hi);(try clear hb);(try clear hb2);(try clear hk);(try clear hi)) | ((with_reducible refine gate_callee (f := 80) rfl ?_);refine glG 20 rfl rfl Tryd.func80 (spec_l1Byte.calls g s0_0 t105 t106 t107 t108 t109 w0 _ ?side1 ?side2 A9.out) ?_;(case side1 => repeat (first | (with_reducible first | exact HI0.out | apply IsS94.alloc | apply IsS94.drewN | apply IsS94.drew | apply IsS94.set_1 | apply IsS94.set_2) | exact HI0.out));(case side2 => repeat (first | (with_reducible first | exact HB.out | apply below_alloc | apply pw_below_drewN | apply below_drew1 | refine below_set ?_ (IsS94.ge HI0.out)) | exact HB.out));rintro e w14 ⟨rfl, hi, hb, hk⟩;refine ⟨_, rfl, ?_⟩;replace HK := ak (KeepBut.trans (by repeat (first | (with_reducible first | exact HK.out | apply KeepBut.set_ | apply keep_drewN | apply keep_drew | apply keep_alloc) | exact HK.out)) hk (.inl rfl));replace HB := ak (hb);replace HI0 := ak (hi);(try clear hb);(try clear hb2);(try clear hk);(try clear hi)) | ((with_reducible refine gate_callee (f := 80) rfl ?_);refine glG 22 rfl rfl Tryd.func80 (spec_l1Byte.calls g s0_0 t108 t109 t110 t111 t112 w0 _ ?side1 ?side2 A10.out) ?_;(case side1 => repeat (first | (with_reducible first | exact HI0.out | apply IsS94.alloc | apply IsS94.drewN | apply IsS94.drew | apply IsS94.set_1 | apply IsS94.set_2) | exact HI0.out));(case side2 => repeat (first | (with_reducible first | exact HB.out | apply below_alloc | apply pw_below_drewN | apply below_drew1 | refine below_set ?_ (IsS94.ge HI0.out)) | exact HB.out));rintro e w15 ⟨rfl, hi, hb, hk⟩;refine ⟨_, rfl, ?_⟩;replace HK := ak (KeepBut.trans (by repeat (first | (with_reducible first | exact HK.out | apply KeepBut.set_ | apply keep_drewN | apply keep_drew | apply keep_alloc) | exact HK.out)) hk (.inl rfl));replace HB := ak (hb);replace HI0 := ak (hi);(try clear hb);(try clear hb2);(try clear hk);(try clear hi)) | ((with_reducible refine gate_callee (f := 80) rfl ?_);refine glG 24 rfl rfl Tryd.func80 (spec_l1Byte.calls g s0_0 t111 t112 t113 t114 t115 w0 _ ?side1 ?side2 A11.out) ?_;(case side1 => repeat (first | (with_reducible first | exact HI0.out | apply IsS94.alloc | apply IsS94.drewN | apply IsS94.drew | apply IsS94.set_1 | apply IsS94.set_2) | exact HI0.out));(case side2 => repeat (first | (with_reducible first | exact HB.out | apply below_alloc | apply pw_below_drewN | apply below_drew1 | refine below_set ?_ (IsS94.ge HI0.out)) | exact HB.out));rintro e w16 ⟨rfl, hi, hb, hk⟩;refine ⟨_, rfl, ?_⟩;replace HK := ak (KeepBut.trans (by repeat (first | (with_reducible first | exact HK.out | apply KeepBut.set_ | apply keep_drewN | apply keep_drew | apply keep_alloc) | exact HK.out)) hk (.inl rfl));replace HB := ak (hb);replace HI0 := ak (hi);(try clear hb);(try clear hb2);(try clear hk);(try clear hi)))
    go_ret
    exact ⟨o1, by repeat (first | (with_reducible first | exact HI0.out | apply IsS94.alloc | apply IsS94.drewN | apply IsS94.drew | apply IsS94.set_1 | apply IsS94.set_2) | exact HI0.out), by repeat (first | (with_reducible first | exact HB.out | apply below_alloc | apply pw_below_drewN | apply below_drew1 | refine below_set ?_ (IsS94.ge HI0.out)) | exact HB.out), by repeat (first | (with_reducible first | exact HK.out | apply KeepBut.set_ | apply keep_drewN | apply keep_drew | apply keep_alloc) | exact HK.out)⟩

/-! ### spec_l1some: function 50 -/
def spec_l1some.l0 : Nat → List Int → Int → Int → List Int → Int → Int → Option (List Int × Int × Int)
 | 0, _, _, _, _, _, _ => none
 | k + 1, x5, x6, x7, x1000, x1001, x1002 => if x7 < x6 then ((spec_l1Byte.f x1000 x1001 x1002).bind fun bt104 => (if x5.length < 140737488355328 then (spec_l1some.l0 k (x5 ++ [(bt104.1) % 256]) x6 (wrap64 (x7 + 1)) x1000 bt104.2.1 bt104.2.2) else (none))) else (some (x5, x1001, x1002))
def spec_l1some.f (k : Nat) (s0_0 : List Int) (s0_1 : Int) (s0_2 : Int) (a1 : Int) : Option (List Int × Int × Int) := (spec_l1Below.f s0_0 s0_1 s0_2 a1).bind fun bt101 => (spec_l1some.l0 k ([] : List Int) bt101.1 0 s0_0 bt101.2.1 bt101.2.2)
theorem spec_l1some.mono_l : ∀ k, (∀ y0 y1 y2 y3 y4 y5, LeO (spec_l1some.l0 k y0 y1 y2 y3 y4 y5) (spec_l1some.l0 (k + 1) y0 y1 y2 y3 y4 y5))
 | 0 => fun _ _ _ _ _ _ r h => by simp [spec_l1some.l0] at h
 | k + 1 => by
  have ih0 := spec_l1some.mono_l k
  ·intro y0 y1 y2 y3 y4 y5
   unfold spec_l1some.l0
   repeat' first
   | (with_reducible exact ih0 _ _ _ _ _ _)
   | (with_reducible exact LeO.refl _)
   | (with_reducible exact LeO.none _)
   | (with_reducible refine LeO.ite ?_ ?_)
   | (with_reducible refine LeO.bind ?_ (fun _ => ?_))
   | exact ih0 _ _ _ _ _ _
   | exact LeO.none _
   | refine LeO.ite ?_ ?_
   | refine LeO.bind ?_ (fun _ => ?_)
set_option maxHeartbeats 8000000 in
set_option maxRecDepth 100000 in
theorem spec_l1some.calls (k : Nat) (g : Nat) (s0_0 : List Int) (s0_1 : Int) (s0_2 : Int) (a1 : Int) (r1 : List Int) (r2 : Int) (r3 : Int) (w0 w : World) (hI : IsS94 w0 w g s0_0 s0_1 s0_2) (hB : Below w0.heap.size w0 w) (h : spec_l1some.f k s0_0 s0_1 s0_2 a1 = some (r1, r2, r3)) :
  Calls Tryd.prog 50 #[.pointer (some ⟨g, 0, none⟩), .int .i64 a1] w fun e w' => ∃ v0_ : Value, e = .returned (v0_) ∧ Kd.R (Kd.int .u8) 5 w' w.heap.size (fun _ => True) v0_ r1 ∧ IsS94 w0 w' g s0_0 r2 r3 ∧ Below w0.heap.size w0 w' ∧ KeepBut w w' g none := by
 have HI0 := ak hI
 have HK := ak (KeepBut.refl w g none)
 have HL := ak hB.size
 clear hI
 have HW0 := ak hB.size
 have HB := ak hB
 clear hB
 have H : ((spec_l1Below.f s0_0 s0_1 s0_2 a1).bind fun bt101 => (spec_l1some.l0 k ([] : List Int) bt101.1 0 s0_0 bt101.2.1 bt101.2.2)) = some (r1, r2, r3) := h
 clear h
 replace H := Option.bind_eq_some_iff.mp H
 obtain ⟨⟨t101, t102, t103⟩, A30, H⟩ := H
 replace H : (spec_l1some.l0 k ([] : List Int) t101 0 s0_0 t102 t103) = some (r1, r2, r3) := H
 have A3 := ak A30
 clear A30
 have H' := ak H
 clear H
 go_enter Tryd.func50, Tryd.ntmps50
 go_wp2_with (((with_reducible refine gate_callee (f := 57) rfl ?_);refine glG 10 rfl rfl Tryd.func57 (spec_l1Below.calls g s0_0 s0_1 s0_2 a1 t101 t102 t103 w0 _ ?side1 ?side2 A3.out) ?_;(case side1 => repeat (first | (with_reducible first | exact HI0.out | apply IsS94.alloc | apply IsS94.drewN | apply IsS94.drew | apply IsS94.set_1 | apply IsS94.set_2) | exact HI0.out));(case side2 => repeat (first | (with_reducible first | exact HB.out | apply below_alloc | apply pw_below_drewN | apply below_drew1 | refine below_set ?_ (IsS94.ge HI0.out)) | exact HB.out));rintro e w4 ⟨rfl, hi, hb, hk⟩;refine ⟨_, rfl, ?_⟩;replace HK := ak (KeepBut.trans (by repeat (first | (with_reducible first | exact HK.out | apply KeepBut.set_ | apply keep_drewN | apply keep_drew | apply keep_alloc) | exact HK.out)) hk (.inl rfl));replace HB := ak (hb);replace HI0 := ak (hi);(try clear hb);(try clear hb2);(try clear hk);(try clear hi)))
 go_loopg [5, 7] k (fun kq v5 v7 w' => ∃ (x5_1 : List Int) (x7_1 : Int) (x1001_1 : Int) (x1002_1 : Int), v7 = .int .i64 x7_1 ∧ Aside0 (spec_l1some.l0 kq x5_1 t101 x7_1 s0_0 x1001_1 x1002_1 = some (r1, r2, r3)) ∧ Aside0 (kq ≤ k) ∧ Aside0 (Kd.R (Kd.int .u8) 5 w' w.heap.size (fun _ => True) v5 x5_1) ∧ Aside0 (IsS94 w0 w' g s0_0 x1001_1 x1002_1) ∧ Aside0 (KeepBut w w' g none) ∧ Aside0 (Below w0.heap.size w0 w'))
 case atStart => exact ⟨(([] : List Int)), (0), (t102), (t103), o2, H', ⟨Nat.le_refl _⟩, ⟨by first | exact Kd.R_nil _ _ _ _ _ | exact Kd.N_nil _ _ _ _ _ | exact Kd.V_nil _ _ _ _ _ | exact Kd.Q_nil _ _ _ _ _ | exact Kd.S_nil _ _ _ _ _⟩, ⟨by repeat (first | (with_reducible first | exact HI0.out | apply IsS94.alloc | apply IsS94.drewN | apply IsS94.drew | apply IsS94.set_1 | apply IsS94.set_2) | exact HI0.out)⟩, ⟨by repeat (first | (with_reducible first | exact HK.out | apply KeepBut.set_ | apply keep_drewN | apply keep_drew | apply keep_alloc) | exact HK.out)⟩, ⟨by repeat (first | (with_reducible first | exact HB.out | apply below_alloc | apply pw_below_drewN | apply below_drew1 | refine below_set ?_ (IsS94.ge HI0.out)) | exact HB.out)⟩⟩
 case round =>
  clear H'
  obtain ⟨x5_1, x7_1, x1001_1, x1002_1, rfl, HA, HK1, HO_5, HI0, HK, HB⟩ := hrel
  cases gk with
  | zero => exact absurd HA.out (by simp [spec_l1some.l0])
  | succ k1 =>
   have H := HA.out
   clear HA
   simp only [spec_l1some.l0] at H
   replace H := ip H
   obtain ⟨c5b0, H⟩ | ⟨c5b0, H⟩ := H
   ·replace H := Option.bind_eq_some_iff.mp H
    obtain ⟨⟨t104, t105, t106⟩, A60, H⟩ := H
    replace H : (if x5_1.length < 140737488355328 then (spec_l1some.l0 k1 (x5_1 ++ [(t104) % 256]) t101 (wrap64 (x7_1 + 1)) s0_0 t105 t106) else (none)) = some (r1, r2, r3) := H
    have A6 := ak A60
    clear A60
    by_cases c7 : x5_1.length < 140737488355328
    ·rw [if_pos c7] at H
     have LMc7 := ak c7
     clear c7
     obtain ⟨y107, hy107⟩ : ∃ y_ : List Int, y_ = (x5_1 ++ [(t104) % 256]) := ⟨_, rfl⟩
     (try with_reducible replace H := bnS H)
     (try rw [← hy107] at H)
     have Ny107 := ak hy107
     clear hy107
     have H' := ak H
     clear H
     go_wp2_with (first | ((with_reducible refine gate_callee (f := 80) rfl ?_);refine glG 18 rfl rfl Tryd.func80 (spec_l1Byte.calls g s0_0 x1001_1 x1002_1 t104 t105 t106 w0 _ ?side1 ?side2 A6.out) ?_;(case side1 => repeat (first | (with_reducible first | exact HI0.out | apply IsS94.alloc | apply IsS94.drewN | apply IsS94.drew | apply IsS94.set_1 | apply IsS94.set_2) | exact HI0.out));(case side2 => repeat (first | (with_reducible first | exact HB.out | apply below_alloc | apply pw_below_drewN | apply below_drew1 | refine below_set ?_ (IsS94.ge HI0.out)) | exact HB.out));rintro e w8 ⟨rfl, hi, hb, hk⟩;refine ⟨_, rfl, ?_⟩;replace HO_5 := ak (Kd.R_mono (Kd.R_keep (IsS94.apart (show IsS94 w0 _ g s0_0 x1001_1 x1002_1 from by repeat (first | (with_reducible first | exact HI0.out | apply IsS94.alloc | apply IsS94.drewN | apply IsS94.drew | apply IsS94.set_1 | apply IsS94.set_2) | exact HI0.out)) (rw_ HO_5.out) (by decide)) hk (fun _ h => h.2)) (fun _ h => h.1));replace HK := ak (KeepBut.trans (by repeat (first | (with_reducible first | exact HK.out | apply KeepBut.set_ | apply keep_drewN | apply keep_drew | apply keep_alloc) | exact HK.out)) hk (.inl rfl));replace HB := ak (hb);replace HI0 := ak (hi);(try clear hb);(try clear hb2);(try clear hk);(try clear hi)) | ((with_reducible refine gate_builtin (b := .append) (xs := #[.tmp 16, .tmp 20]) rfl ?_);at_builtin;refine Kd.R_append (Kd.int .u8) w.heap.size rfl (.tmp 16) (.tmp 20) 22 5 (.int .u8 0) 1 rfl Tryd.underlying22 info5 rfl (by decide) (by omega) u5 x5_1 ((t104) % 256) [.int .u8 ((t104) % 256)] (fun _ => True) (fun _ => False) rfl rfl ?aP (fun _ hk => hk.elim) ?aF ?aO (Below.refl _ _) ?aS ?aL ?_;(case aP => exact rfl);(case aF => exact (fun _ _ => trivial));(case aO => exact (rw_ HO_5.out));(case aS => exact (keep_size (w := w) (g := g) (row := none) (by repeat (first | (with_reducible first | exact HK.out | apply KeepBut.set_ | apply keep_drewN | apply keep_drew | apply keep_alloc) | exact HK.out))));(case aL => have := LMc7.out; omega);intro v108 w9 ho hb hg hat;rw [← Ny107.out] at ho;replace HB := ak (below_weaken (by repeat (first | (with_reducible first | exact HB.out | apply below_alloc | apply pw_below_drewN | apply below_drew1 | refine below_set ?_ (IsS94.ge HI0.out)) | exact HB.out)) HL.out hb);replace HI0 := ak (IsS94.grown (by repeat (first | (with_reducible first | exact HI0.out | apply IsS94.alloc | apply IsS94.drewN | apply IsS94.drew | apply IsS94.set_1 | apply IsS94.set_2) | exact HI0.out)) hg (IsS94.own_ne HI0.out HO_5.out (by decide)));replace HK := ak (KeepBut.trans (by repeat (first | (with_reducible first | exact HK.out | apply KeepBut.set_ | apply keep_drewN | apply keep_drew | apply keep_alloc) | exact HK.out)) (KeepBut.of_grown hg g) (Kd.R_base2 HO_5.out));have HO109 := ak (ho);clear HO_5;clear ho hb hg hat))
     go_roundg k1
     case measure => have := HK1.out; omega
     case rel => exact ⟨(y107), (wrap64 (x7_1 + 1)), (t105), (t106), o2, H', ⟨by have := HK1.out; omega⟩, ⟨rw_ HO109.out⟩, ⟨by repeat (first | (with_reducible first | exact HI0.out | apply IsS94.alloc | apply IsS94.drewN | apply IsS94.drew | apply IsS94.set_1 | apply IsS94.set_2) | exact HI0.out)⟩, ⟨by repeat (first | (with_reducible first | exact HK.out | apply KeepBut.set_ | apply keep_drewN | apply keep_drew | apply keep_alloc) | exact HK.out)⟩, ⟨by repeat (first | (with_reducible first | exact HB.out | apply below_alloc | apply pw_below_drewN | apply below_drew1 | refine below_set ?_ (IsS94.ge HI0.out)) | exact HB.out)⟩⟩
    ·rw [if_neg c7] at H
     exact absurd H (by simp)
   ·simp only [Option.some.injEq, Prod.mk.injEq] at H
    obtain ⟨rfl, rfl, rfl⟩ := H
    go_wp2
    go_ret
    exact ⟨_, o1, rw_ HO_5.out, by repeat (first | (with_reducible first | exact HI0.out | apply IsS94.alloc | apply IsS94.drewN | apply IsS94.drew | apply IsS94.set_1 | apply IsS94.set_2) | exact HI0.out), by repeat (first | (with_reducible first | exact HB.out | apply below_alloc | apply pw_below_drewN | apply below_drew1 | refine below_set ?_ (IsS94.ge HI0.out)) | exact HB.out), by repeat (first | (with_reducible first | exact HK.out | apply KeepBut.set_ | apply keep_drewN | apply keep_drew | apply keep_alloc) | exact HK.out)⟩

/-! ### spec_l1PickInt: function 81 -/
def spec_l1PickInt.f (s0_0 : List Int) (s0_1 : Int) (s0_2 : Int) (l1 : List Int) : Option (Int × Int × Int) := (spec_l1Below.f s0_0 s0_1 s0_2 (l1.length : Int)).bind fun bt101 => (if 0 ≤ bt101.1 then (if bt101.1 < (l1.length : Int) then (some (rd l1 bt101.1, bt101.2.1, bt101.2.2)) else (none)) else (none))
set_option maxHeartbeats 8000000 in
set_option maxRecDepth 100000 in
theorem spec_l1PickInt.calls (g : Nat) (s0_0 : List Int) (s0_1 : Int) (s0_2 : Int) (A1 : Option Addr) (c1 : Nat) (l1 : List Int) (r1 : Int) (r2 : Int) (r3 : Int) (w0 w : World) (hI : IsS94 w0 w g s0_0 s0_1 s0_2) (hB : Below w0.heap.size w0 w) (hr1 : Kd.C (Kd.int .i64) w A1 l1.length l1) (hc1 : l1.length ≤ c1) (hf1 : ∀ ad, A1 = some ad → 0 < l1.length → ad.block ≠ g) (h : spec_l1PickInt.f s0_0 s0_1 s0_2 l1 = some (r1, r2, r3)) :
  Calls Tryd.prog 81 #[.pointer (some ⟨g, 0, none⟩), .slice A1 l1.length c1] w fun e w' => e = .returned (.int .i64 r1) ∧ IsS94 w0 w' g s0_0 r2 r3 ∧ Below w0.heap.size w0 w' ∧ KeepBut w w' g none := by
 have HR1 := ak hr1
 have HC1 := ak hc1
 clear hr1 hc1
 have HI0 := ak hI
 have HK := ak (KeepBut.refl w g none)
 have HL := ak hB.size
 clear hI
 have HW0 := ak hB.size
 have HB := ak hB
 clear hB
 have H : ((spec_l1Below.f s0_0 s0_1 s0_2 (l1.length : Int)).bind fun bt101 => (if 0 ≤ bt101.1 then (if bt101.1 < (l1.length : Int) then (some (rd l1 bt101.1, bt101.2.1, bt101.2.2)) else (none)) else (none))) = some (r1, r2, r3) := h
 clear h
 replace H := Option.bind_eq_some_iff.mp H
 obtain ⟨⟨t101, t102, t103⟩, A30, H⟩ := H
 replace H : (if 0 ≤ t101 then (if t101 < (l1.length : Int) then (some (rd l1 t101, t102, t103)) else (none)) else (none)) = some (r1, r2, r3) := H
 have A3 := ak A30
 clear A30
 replace H := ipN H
 obtain ⟨c4b0, H⟩ := H
 replace H := ipN H
 obtain ⟨c5b0, H⟩ := H
 simp only [Option.some.injEq, Prod.mk.injEq] at H
 obtain ⟨rfl, rfl, rfl⟩ := H
 go_enter Tryd.func81, Tryd.ntmps81
 go_wp2_with (((with_reducible refine gate_callee (f := 57) rfl ?_);refine glG 9 rfl rfl Tryd.func57 (spec_l1Below.calls g s0_0 s0_1 s0_2 (l1.length : Int) t101 t102 t103 w0 _ ?side1 ?side2 A3.out) ?_;(case side1 => repeat (first | (with_reducible first | exact HI0.out | apply IsS94.alloc | apply IsS94.drewN | apply IsS94.drew | apply IsS94.set_1 | apply IsS94.set_2) | exact HI0.out));(case side2 => repeat (first | (with_reducible first | exact HB.out | apply below_alloc | apply pw_below_drewN | apply below_drew1 | refine below_set ?_ (IsS94.ge HI0.out)) | exact HB.out));rintro e w6 ⟨rfl, hi, hb, hk⟩;refine ⟨_, rfl, ?_⟩;replace HK := ak (KeepBut.trans (by repeat (first | (with_reducible first | exact HK.out | apply KeepBut.set_ | apply keep_drewN | apply keep_drew | apply keep_alloc) | exact HK.out)) hk (.inl rfl));replace HB := ak (hb);replace HI0 := ak (hi);(try clear hb);(try clear hb2);(try clear hk);(try clear hi);have p104 : 0 ≤ (t101 : Int) := of_decide_eq_true (by first | (with_reducible assumption) | assumption);have q104 : t101 < (l1.length : Int) := of_decide_eq_true (by first | (with_reducible assumption) | assumption);obtain ⟨ad104, e104, hx104_0⟩ := Kd.at_int HR1.out t101 p104 q104;cases e104;replace hx104_0 := keep_cell HK.out hx104_0 (by first | (rw [add_block]; exact hf1 _ rfl (by omega)) | exact hf1 _ rfl (by omega) | exact hf1 ad104 rfl (by omega));replace p104 := eq_true p104;replace q104 := eq_true q104))
 go_ret
 exact ⟨o1, by repeat (first | (with_reducible first | exact HI0.out | apply IsS94.alloc | apply IsS94.drewN | apply IsS94.drew | apply IsS94.set_1 | apply IsS94.set_2) | exact HI0.out), by repeat (first | (with_reducible first | exact HB.out | apply below_alloc | apply pw_below_drewN | apply below_drew1 | refine below_set ?_ (IsS94.ge HI0.out)) | exact HB.out), by repeat (first | (with_reducible first | exact HK.out | apply KeepBut.set_ | apply keep_drewN | apply keep_drew | apply keep_alloc) | exact HK.out)⟩

/-! ### spec_l1num: function 51 -/
def spec_l1num.f (s0_0 : List Int) (s0_1 : Int) (s0_2 : Int) : Option (Int × Int × Int) := (spec_l1Below.f s0_0 s0_1 s0_2 1073741824).bind fun bt101 => ((spec_l1PickInt.f s0_0 bt101.2.1 bt101.2.2 (([0, 1, 255, 256, 65535, 65536, 4294967295, 4294967296, (-1), 9223372036854775807, bt101.1] : List Int))).bind fun bt107 => (some (bt107.1, bt107.2.1, bt107.2.2)))
set_option maxHeartbeats 8000000 in
set_option maxRecDepth 100000 in
theorem spec_l1num.calls (g : Nat) (s0_0 : List Int) (s0_1 : Int) (s0_2 : Int) (r1 : Int) (r2 : Int) (r3 : Int) (w0 w : World) (hI : IsS94 w0 w g s0_0 s0_1 s0_2) (hB : Below w0.heap.size w0 w) (h : spec_l1num.f s0_0 s0_1 s0_2 = some (r1, r2, r3)) :
  Calls Tryd.prog 51 #[.pointer (some ⟨g, 0, none⟩)] w fun e w' => e = .returned (.int .i64 r1) ∧ IsS94 w0 w' g s0_0 r2 r3 ∧ Below w0.heap.size w0 w' ∧ KeepBut w w' g none := by
 have HI0 := ak hI
 have HK := ak (KeepBut.refl w g none)
 have HL := ak hB.size
 clear hI
 have HW0 := ak hB.size
 have HB := ak hB
 clear hB
 have H : ((spec_l1Below.f s0_0 s0_1 s0_2 1073741824).bind fun bt101 => ((spec_l1PickInt.f s0_0 bt101.2.1 bt101.2.2 (([0, 1, 255, 256, 65535, 65536, 4294967295, 4294967296, (-1), 9223372036854775807, bt101.1] : List Int))).bind fun bt107 => (some (bt107.1, bt107.2.1, bt107.2.2)))) = some (r1, r2, r3) := h
 clear h
 replace H := Option.bind_eq_some_iff.mp H
 obtain ⟨⟨t101, t102, t103⟩, A20, H⟩ := H
 replace H : ((spec_l1PickInt.f s0_0 t102 t103 (([0, 1, 255, 256, 65535, 65536, 4294967295, 4294967296, (-1), 9223372036854775807, t101] : List Int))).bind fun bt107 => (some (bt107.1, bt107.2.1, bt107.2.2))) = some (r1, r2, r3) := H
 have A2 := ak A20
 clear A20
 obtain ⟨y104, hy104⟩ : ∃ y_ : List Int, y_ = (([0, 1, 255, 256, 65535, 65536, 4294967295, 4294967296, (-1), 9223372036854775807, t101] : List Int)) := ⟨_, rfl⟩
 (try with_reducible replace H := bnS H)
 (try rw [← hy104] at H)
 have Ny104 := ak hy104
 clear hy104
 replace H := Option.bind_eq_some_iff.mp H
 obtain ⟨⟨t107, t108, t109⟩, A30, H⟩ := H
 replace H : (some (t107, t108, t109)) = some (r1, r2, r3) := H
 have A3 := ak A30
 clear A30
 simp only [Option.some.injEq, Prod.mk.injEq] at H
 obtain ⟨rfl, rfl, rfl⟩ := H
 go_enter Tryd.func51, Tryd.ntmps51
 go_wp2_with (first | ((with_reducible refine gate_callee (f := 57) rfl ?_);refine glG 5 rfl rfl Tryd.func57 (spec_l1Below.calls g s0_0 s0_1 s0_2 1073741824 t101 t102 t103 w0 _ ?side1 ?side2 A2.out) ?_;(case side1 => repeat (first | (with_reducible first | exact HI0.out | apply IsS94.alloc | apply IsS94.drewN | apply IsS94.drew | apply IsS94.set_1 | apply IsS94.set_2) | exact HI0.out));(case side2 => repeat (first | (with_reducible first | exact HB.out | apply below_alloc | apply pw_below_drewN | apply below_drew1 | refine below_set ?_ (IsS94.ge HI0.out)) | exact HB.out));rintro e w4 ⟨rfl, hi, hb, hk⟩;refine ⟨_, rfl, ?_⟩;replace HK := ak (KeepBut.trans (by repeat (first | (with_reducible first | exact HK.out | apply KeepBut.set_ | apply keep_drewN | apply keep_drew | apply keep_alloc) | exact HK.out)) hk (.inl rfl));replace HB := ak (hb);replace HI0 := ak (hi);(try clear hb);(try clear hb2);(try clear hk);(try clear hi)) | ((with_reducible refine gate_dst (N := 6) rfl ?_);refine Kd.R_lit (Kd.int .i64) _ 3 ?hg (N := 6) ?hd (xs := ([0, 1, 255, 256, 65535, 65536, 4294967295, 4294967296, (-1), 9223372036854775807, t101] : List Int)) (inner := [.int .i64 0, .int .i64 1, .int .i64 255, .int .i64 256, .int .i64 65535, .int .i64 65536, .int .i64 4294967295, .int .i64 4294967296, .int .i64 (-1), .int .i64 9223372036854775807, .int .i64 t101]) (ok := fun _ => True) (okp := fun _ => True) ?hr ?hp (fun _ hk => hk) trivial (Below.refl _ _) (Nat.le_refl _) (by simp) ?_;(case hd => rfl);(case hg => rfl);(case hr => first | (go_simp; done) | (go_simp; rfl));(case hp => exact (Reps.one (show Kd.M (Kd.int .i64) _ _ _ 0 [.int .i64 0] from rfl) (Reps.one (show Kd.M (Kd.int .i64) _ _ _ 1 [.int .i64 1] from rfl) (Reps.one (show Kd.M (Kd.int .i64) _ _ _ 255 [.int .i64 255] from rfl) (Reps.one (show Kd.M (Kd.int .i64) _ _ _ 256 [.int .i64 256] from rfl) (Reps.one (show Kd.M (Kd.int .i64) _ _ _ 65535 [.int .i64 65535] from rfl) (Reps.one (show Kd.M (Kd.int .i64) _ _ _ 65536 [.int .i64 65536] from rfl) (Reps.one (show Kd.M (Kd.int .i64) _ _ _ 4294967295 [.int .i64 4294967295] from rfl) (Reps.one (show Kd.M (Kd.int .i64) _ _ _ 4294967296 [.int .i64 4294967296] from rfl) (Reps.one (show Kd.M (Kd.int .i64) _ _ _ (-1) [.int .i64 (-1)] from rfl) (Reps.one (show Kd.M (Kd.int .i64) _ _ _ 9223372036854775807 [.int .i64 9223372036854775807] from rfl) (Reps.one (show Kd.M (Kd.int .i64) _ _ _ t101 [.int .i64 t101] from rfl) (Reps.none _ _)))))))))))));intro v105 w5 ho6 hb hg_ hnew_;clear hg_ hnew_;(first | rw [← Ny104.out] at ho6 | (simp only [Int.reduceToNat] at ho6; rw [← Ny104.out] at ho6));have HO106 := ak (Kd.R_lower ho6 (keep_size (w := w) (g := g) (row := none) (by repeat (first | (with_reducible first | exact HK.out | apply KeepBut.set_ | apply keep_drewN | apply keep_drew | apply keep_alloc) | exact HK.out))));replace HK := ak (KeepBut.trans (by repeat (first | (with_reducible first | exact HK.out | apply KeepBut.set_ | apply keep_drewN | apply keep_drew | apply keep_alloc) | exact HK.out)) (KeepBut.of_below hb g none) (.inl rfl));replace HB := ak (below_step (by repeat (first | (with_reducible first | exact HB.out | apply below_alloc | apply pw_below_drewN | apply below_drew1 | refine below_set ?_ (IsS94.ge HI0.out)) | exact HB.out)) hb);replace HI0 := ak (IsS94.below (by repeat (first | (with_reducible first | exact HI0.out | apply IsS94.alloc | apply IsS94.drewN | apply IsS94.drew | apply IsS94.set_1 | apply IsS94.set_2) | exact HI0.out)) hb);clear hb ho6;obtain ⟨Ao7, co7, eo7⟩ := Kd.R_slice HO106.out;subst eo7) | ((with_reducible refine gate_callee (f := 81) rfl ?_);refine glG 7 rfl rfl Tryd.func81 (spec_l1PickInt.calls g s0_0 t102 t103 _ _ y104 t107 t108 t109 w0 _ ?side1 ?side2 ?side3 ?side4 ?side5 A3.out) ?_;(case side1 => repeat (first | (with_reducible first | exact HI0.out | apply IsS94.alloc | apply IsS94.drewN | apply IsS94.drew | apply IsS94.set_1 | apply IsS94.set_2) | exact HI0.out));(case side2 => repeat (first | (with_reducible first | exact HB.out | apply below_alloc | apply pw_below_drewN | apply below_drew1 | refine below_set ?_ (IsS94.ge HI0.out)) | exact HB.out));(case side3 => repeat (first | exact (Kd.R_reads' HO106.out).2.2 | (with_reducible refine Kd.C_alloc ?_ _) | (with_reducible refine Kd.C_drewN ?_ _) | (with_reducible refine Kd.C_drew ?_)));(case side4 => exact (Kd.R_reads' HO106.out).2.1);(case side5 => exact far_slice (IsS94.own_ne HI0.out HO106.out (by decide)));rintro e w8 ⟨rfl, hi, hb, hk⟩;refine ⟨_, rfl, ?_⟩;replace HO106 := ak (Kd.R_mono (Kd.R_keep (IsS94.apart (show IsS94 w0 _ g s0_0 t102 t103 from by repeat (first | (with_reducible first | exact HI0.out | apply IsS94.alloc | apply IsS94.drewN | apply IsS94.drew | apply IsS94.set_1 | apply IsS94.set_2) | exact HI0.out)) (rw_ HO106.out) (by decide)) hk (fun _ h => h.2)) (fun _ h => h.1));replace HK := ak (KeepBut.trans (by repeat (first | (with_reducible first | exact HK.out | apply KeepBut.set_ | apply keep_drewN | apply keep_drew | apply keep_alloc) | exact HK.out)) hk (.inl rfl));replace HB := ak (hb);replace HI0 := ak (hi);(try clear hb);(try clear hb2);(try clear hk);(try clear hi)))
 go_ret
 exact ⟨o1, by repeat (first | (with_reducible first | exact HI0.out | apply IsS94.alloc | apply IsS94.drewN | apply IsS94.drew | apply IsS94.set_1 | apply IsS94.set_2) | exact HI0.out), by repeat (first | (with_reducible first | exact HB.out | apply below_alloc | apply pw_below_drewN | apply below_drew1 | refine below_set ?_ (IsS94.ge HI0.out)) | exact HB.out), by repeat (first | (with_reducible first | exact HK.out | apply KeepBut.set_ | apply keep_drewN | apply keep_drew | apply keep_alloc) | exact HK.out)⟩

/-! ### spec_DrawPut16: function 21 -/
def spec_DrawPut16.f (k : Nat) (l0 : List Int) : Option (List Int × Int) := (spec_l1New.f k l0).bind fun bt101 => ((spec_l1some.f k bt101.1 bt101.2.1 bt101.2.2 4).bind fun bt105 => ((spec_l1num.f bt101.1 bt105.2.1 bt105.2.2).bind fun bt110 => (some (bt105.1, bt110.1))))
set_option maxHeartbeats 8000000 in
set_option maxRecDepth 100000 in
theorem spec_DrawPut16.calls (k : Nat) (A0 : Option Addr) (c0 : Nat) (l0 : List Int) (r1 : List Int) (r2 : Int) (w : World) (hr0 : Kd.C (Kd.int .u8) w A0 l0.length l0) (hc0 : l0.length ≤ c0) (h : spec_DrawPut16.f k l0 = some (r1, r2)) :
  Calls Tryd.prog 21 #[.slice A0 l0.length c0] w fun e w' => ∃ v0_ : Value, e = .returned (.tuple #[v0_, .int .i64 r2]) ∧ Kd.R (Kd.int .u8) 5 w' w.heap.size (fun _ => True) v0_ r1 ∧ Below w.heap.size w w' := by
 have HR0 := ak hr0
 have HC0 := ak hc0
 clear hr0 hc0
 have HB := ak (Below.refl w.heap.size w)
 have H : ((spec_l1New.f k l0).bind fun bt101 => ((spec_l1some.f k bt101.1 bt101.2.1 bt101.2.2 4).bind fun bt105 => ((spec_l1num.f bt101.1 bt105.2.1 bt105.2.2).bind fun bt110 => (some (bt105.1, bt110.1))))) = some (r1, r2) := h
 clear h
 replace H := Option.bind_eq_some_iff.mp H
 obtain ⟨⟨t101, t102, t103⟩, A20, H⟩ := H
 replace H : ((spec_l1some.f k t101 t102 t103 4).bind fun bt105 => ((spec_l1num.f t101 bt105.2.1 bt105.2.2).bind fun bt110 => (some (bt105.1, bt110.1)))) = some (r1, r2) := H
 have A2 := ak A20
 clear A20
 replace H := Option.bind_eq_some_iff.mp H
 obtain ⟨⟨t105, t108, t109⟩, A30, H⟩ := H
 replace H : ((spec_l1num.f t101 t108 t109).bind fun bt110 => (some (t105, bt110.1))) = some (r1, r2) := H
 have A3 := ak A30
 clear A30
 replace H := Option.bind_eq_some_iff.mp H
 obtain ⟨⟨t110, t111, t112⟩, A40, H⟩ := H
 replace H : (some (t105, t110)) = some (r1, r2) := H
 have A4 := ak A40
 clear A40
 simp only [Option.some.injEq, Prod.mk.injEq] at H
 obtain ⟨rfl, rfl⟩ := H
 go_enter Tryd.func21, Tryd.ntmps21
 go_wp2_with (first | ((with_reducible refine gate_callee (f := 49) rfl ?_);refine glG 6 rfl rfl Tryd.func49 (spec_l1New.calls k _ _ l0 t101 t102 t103 w _ ?side1 HR0.out HC0.out A2.out) ?_;(case side1 => repeat (first | (with_reducible first | exact HB.out | apply below_alloc | apply pw_below_drewN | apply below_drew1) | exact HB.out));rintro e w5 ⟨g104, rfl, hi, hb, hb2⟩;refine ⟨_, rfl, ?_⟩;replace HB := ak (hb);have HI104 := ak (hi);(try clear hb);(try clear hb2);(try clear hk);(try clear hi)) | ((with_reducible refine gate_callee (f := 50) rfl ?_);refine glG 8 rfl rfl Tryd.func50 (spec_l1some.calls k g104 t101 t102 t103 4 t105 t108 t109 w _ ?side1 ?side2 A3.out) ?_;(case side1 => repeat (first | (with_reducible first | exact HI104.out | apply IsS94.alloc | apply IsS94.drewN | apply IsS94.drew | apply IsS94.set_1 | apply IsS94.set_2) | exact HI104.out));(case side2 => repeat (first | (with_reducible first | exact HB.out | apply below_alloc | apply pw_below_drewN | apply below_drew1 | refine below_set ?_ (IsS94.ge HI104.out)) | exact HB.out));rintro e w6 ⟨v106, rfl, ho0, hi, hb, hk⟩;refine ⟨_, rfl, ?_⟩;have HO107 := ak (Kd.R_lower ho0 (below_size (by repeat (first | (with_reducible first | exact HB.out | apply below_alloc | apply pw_below_drewN | apply below_drew1 | refine below_set ?_ (IsS94.ge HI104.out)) | exact HB.out))));replace HB := ak (hb);replace HI104 := ak (hi);(try clear hb);(try clear hb2);(try clear hk);(try clear hi);(try clear ho0)) | ((with_reducible refine gate_callee (f := 51) rfl ?_);refine glG 10 rfl rfl Tryd.func51 (spec_l1num.calls g104 t101 t108 t109 t110 t111 t112 w _ ?side1 ?side2 A4.out) ?_;(case side1 => repeat (first | (with_reducible first | exact HI104.out | apply IsS94.alloc | apply IsS94.drewN | apply IsS94.drew | apply IsS94.set_1 | apply IsS94.set_2) | exact HI104.out));(case side2 => repeat (first | (with_reducible first | exact HB.out | apply below_alloc | apply pw_below_drewN | apply below_drew1 | refine below_set ?_ (IsS94.ge HI104.out)) | exact HB.out));rintro e w7 ⟨rfl, hi, hb, hk⟩;refine ⟨_, rfl, ?_⟩;replace HO107 := ak (Kd.R_mono (Kd.R_keep (IsS94.apart (show IsS94 w _ g104 t101 t108 t109 from by repeat (first | (with_reducible first | exact HI104.out | apply IsS94.alloc | apply IsS94.drewN | apply IsS94.drew | apply IsS94.set_1 | apply IsS94.set_2) | exact HI104.out)) (rw_ HO107.out) (by decide)) hk (fun _ h => h.2)) (fun _ h => h.1));replace HB := ak (hb);replace HI104 := ak (hi);(try clear hb);(try clear hb2);(try clear hk);(try clear hi)))
 go_ret2
 exact ⟨_, o1, rw_ HO107.out, by repeat (first | (with_reducible first | exact HB.out | apply below_alloc | apply pw_below_drewN | apply below_drew1 | refine below_set ?_ (IsS94.ge HI104.out)) | exact HB.out)⟩

/-! ### bytes_Clone: function 52 -/

def bytes_Clone.f (l0 : List Int) : Option (List Int) := if l0.length < 140737488355328 then some l0 else none
set_option maxHeartbeats 8000000 in
set_option maxRecDepth 100000 in
theorem bytes_Clone.calls (A0 : Option Addr) (c0 : Nat) (l0 : List Int) (r : List Int) (w : World) (hr0 : Kd.C (Kd.int .u8) w A0 l0.length l0) (hc0 : l0.length ≤ c0) (h : bytes_Clone.f l0 = some r) :
  Calls Tryd.prog 52 #[.slice A0 l0.length c0] w fun e w' => ∃ v0_ : Value, e = .returned (v0_) ∧ Kd.R (Kd.int .u8) 5 w' w.heap.size (fun _ => True) v0_ r ∧ Below w.heap.size w w' := by
 have HR0 := ak hr0
 have HC0 := ak hc0
 have HLM : Aside0 (l0.length < 140737488355328) := by
  unfold bytes_Clone.f at h; split at h
  ·exact ⟨by assumption⟩
  ·cases h
 have hr : l0 = r := by
  unfold bytes_Clone.f at h; rw [if_pos HLM.out] at h; exact Option.some.inj h
 subst hr
 clear hr0 hc0 h
 have HB := ak (Below.refl w.heap.size w)
 cases A0 with
 | none =>
  have hl : l0 = [] := by
   have := HR0.out.2.2
   cases l0 with
   | nil => rfl
   | cons x l => obtain ⟨ad, e, _⟩ := this (by simp); cases e
  subst hl
  have hq := fun (W : World) => Lib.run_eql_slice_nil (P := Tryd.prog) W 22 5 none 0 c0 0 0 Tryd.underlying22
  go_enter Tryd.func52, Tryd.ntmps52
  go_wp2
  go_ret
  exact ⟨_, rfl, Kd.R_nil _ _ _ _ _, bw HB.out⟩
 | some ad =>
  have hq := fun (W : World) => Lib.run_eql_slice_nil (P := Tryd.prog) W 22 5 (some ad) l0.length c0 0 0 Tryd.underlying22
  go_enter Tryd.func52, Tryd.ntmps52
  go_wp2_with (first | ((with_reducible refine gate_dst (N := 5) rfl ?_);refine Kd.R_lit (Kd.int .u8) _ 5 ?hg (N := 5) ?hd (xs := ([] : List Int)) (inner := []) (ok := fun _ => True) (okp := fun _ => True) ?hr ?hp (fun _ hk => hk) trivial (Below.refl _ _) (Nat.le_refl _) (by simp) ?_;(case hd => rfl);(case hg => rfl);(case hr => first | (go_simp; done) | (go_simp; rfl));(case hp => exact (Reps.none _ _));intro v111 w3 ho4 hb hg_ hnew_;clear hg_ hnew_;have HO112 := ak (Kd.R_lower ho4 (below_size HB.out));replace HB := ak (below_step HB.out hb);clear hb ho4) | ((with_reducible refine gate_builtin (b := .append) (xs := #[.tmp 5, .tmp 6]) rfl ?_);at_builtin;refine Kd.R_append_rows (Kd.int .u8) (w0 := w) w.heap.size rfl (.tmp 5) (.tmp 6) 22 5 (.int .u8 0) 1 rfl Tryd.underlying22 info5 rfl (by decide) (by omega) v111 [] l0 _ _ _ (fun _ => True) (fun _ => False) rfl rfl ?aO ?aR (fun _ _ h => h) (fun _ h => h.elim) ?aF ?aB ?aS ?aL ?_;(case aR => exact cw HR0.out HB.out);(case aB => exact (bw HB.out));(case aF => exact (fun _ _ => trivial));(case aO => exact (rw_ HO112.out));(case aS => exact (below_size (bw HB.out)));(case aL => have := HLM.out; simp; omega);intro v114 w5 ho hb hg hat;rw [List.nil_append] at ho;replace HB := ak (hb);have HO115 := ak (ho);clear HO112;clear ho hb hg hat))
  go_ret
  exact ⟨_, rfl, (rw_ HO115.out), bw HB.out⟩

/-! ### slices_Grow_byte_byte: function 82 -/

set_option maxHeartbeats 8000000 in
set_option maxRecDepth 100000 in
/-- Grow of nil by n: an own row without elements. -/
theorem slices_Grow_byte_byte.calls (n : Int) (w : World) (h0 : 0 ≤ n) (hn : n.toNat < 140737488355328) :
  Calls Tryd.prog 82 #[.slice none 0 0, .int .i64 n] w fun e w' => ∃ v0_ : Value, e = .returned (v0_) ∧ Kd.R (Kd.int .u8) 5 w' w.heap.size (fun _ => True) v0_ [] ∧ Below w.heap.size w w' := by
 have HN := ak hn
 have hbig : n ≤ 9223372036854775807 := by omega
 clear hn
 by_cases hp : 0 < n
 ·go_enter Tryd.func82, Tryd.ntmps82
  go_wp2_with (((with_reducible refine gate_builtin (b := .append) (xs := #[.tmp 20, .tmp 21]) rfl ?_);at_builtin;refine Kd.R_append_zeros (Kd.int .u8) (w0 := w) w.heap.size rfl (.tmp 20) (.tmp 21) 22 3 5 (.int .u8 0) 1 rfl Tryd.underlying22 Tryd.underlying3 info5 rfl (by decide) (by omega) (.slice none 0 0) [] 0 n (fun _ => True) rfl rfl ?aZ (fun _ _ => trivial) (Kd.R_nil _ _ _ _ _) h0 (Below.refl _ _) (Nat.le_refl _) ?aL ?_;(case aZ => rfl);(case aL => have := HN.out; simp; omega);intro v114 w5 ho hb hg hat;have HO := ak ho;have HB := ak hb;clear ho hb hg hat;obtain ⟨A5, c5, e5⟩ := Kd.R_slice HO.out;subst e5;have HLEN := ak (Kd.R_reads' HO.out).2.1;have hcut : ∀ W, Sem.run Tryd.prog (Instr.slice 22 (.slice A5 (([] : List Int) ++ List.replicate n.toNat 0).length c5) none (some (.int .i64 0)) none) W = .ok (.slice A5 0 c5) W := fun W => by go_simp))
  go_ret
  exact ⟨_, rfl, Kd.R_take (m := 0) HO.out (Nat.zero_le _), HB.out⟩
 ·have : n = 0 := by omega
  subst this
  go_enter Tryd.func82, Tryd.ntmps82
  go_wp2
  go_ret
  exact ⟨_, rfl, Kd.R_nil _ _ _ _ _, Below.refl _ _⟩

/-! ### slices_Concat_byte_byte: function 53 -/

def slices_Concat_byte_byte.total (ll : List (List Int)) : Nat := (ll.map List.length).sum
def slices_Concat_byte_byte.f (l0 : List (List Int)) : Option (List Int) := if slices_Concat_byte_byte.total l0 < 140737488355328 then some l0.flatten else none
theorem slices_Concat_byte_byte.total_snoc (l : List (List Int)) (x : List Int) : slices_Concat_byte_byte.total (l ++ [x]) = slices_Concat_byte_byte.total l + x.length := by simp [slices_Concat_byte_byte.total]
theorem slices_Concat_byte_byte.total_take (l : List (List Int)) (k : Nat) : slices_Concat_byte_byte.total (l.take k) ≤ slices_Concat_byte_byte.total l := by
 have h := congrArg slices_Concat_byte_byte.total (List.take_append_drop k l)
 have h2 : slices_Concat_byte_byte.total (l.take k ++ l.drop k) = slices_Concat_byte_byte.total (l.take k) + slices_Concat_byte_byte.total (l.drop k) := by simp only [slices_Concat_byte_byte.total, List.map_append, List.sum_append]
 omega
theorem slices_Concat_byte_byte.flatten_len (l : List (List Int)) : l.flatten.length = slices_Concat_byte_byte.total l := by simp [slices_Concat_byte_byte.total, List.length_flatten]
set_option maxHeartbeats 8000000 in
set_option maxRecDepth 100000 in
theorem slices_Concat_byte_byte.calls (A0 : Option Addr) (c0 : Nat) (l0 : List (List Int)) (r : List Int) (w : World) (hr0 : Kd.C (Kd.slice 5 (Kd.int .u8)) w A0 l0.length l0) (hc0 : l0.length ≤ c0) (h : slices_Concat_byte_byte.f l0 = some r) :
  Calls Tryd.prog 53 #[.slice A0 l0.length c0] w fun e w' => ∃ v0_ : Value, e = .returned (v0_) ∧ Kd.R (Kd.int .u8) 5 w' w.heap.size (fun _ => True) v0_ r ∧ Below w.heap.size w w' := by
 have HR0 := ak hr0
 have hbig : l0.length ≤ 9223372036854775807 := hr0.2.1
 have HLM : Aside0 (slices_Concat_byte_byte.total l0 < 140737488355328) := by
  unfold slices_Concat_byte_byte.f at h; split at h
  ·exact ⟨by assumption⟩
  ·cases h
 have hr : l0.flatten = r := by
  unfold slices_Concat_byte_byte.f at h; rw [if_pos HLM.out] at h; exact Option.some.inj h
 subst hr
 clear hr0 hc0 h
 go_enter Tryd.func53, Tryd.ntmps53
 go_wp2
 go_loopg [3, 11] l0.length (fun gg s3 s11 wr => ∃ kk : Nat, kk ≤ l0.length ∧ l0.length - kk ≤ gg ∧ s11 = .int .i64 kk ∧ s3 = .int .i64 (slices_Concat_byte_byte.total (l0.take kk)) ∧ w = wr)
 case atStart => exact ⟨0, Nat.zero_le _, by omega, rfl, rfl, rfl⟩
 case round =>
  obtain ⟨kk, hkk, hg, rfl, rfl, rfl⟩ := hrel
  by_cases hlt : kk < l0.length
  ·obtain ⟨ad, A1, c1, rfl, hcell, hc1, hC1⟩ := at_L10 HR0.out (kk : Int) (by omega) (by omega)
   have hx : Aside0 (l0.take (kk + 1) = l0.take kk ++ [rd_L10 l0 (kk : Int)]) := ⟨by
    rw [List.take_succ_eq_append_getElem hlt]; simp [rd_L10, List.getD_eq_getElem?_getD, hlt]⟩
   have ht1 := slices_Concat_byte_byte.total_take l0 (kk + 1)
   have hsn := slices_Concat_byte_byte.total_snoc (l0.take kk) (rd_L10 l0 (kk : Int))
   rw [← hx.out] at hsn
   have hlm := HLM.out
   rw [show ((kk : Int)).toNat = kk from by omega] at hcell
   obtain ⟨n1, hn1⟩ : ∃ n : Nat, (rd_L10 l0 (kk : Int)).length = n := ⟨_, rfl⟩
   rw [hn1] at hcell hsn
   obtain ⟨t1, e1⟩ : ∃ n : Nat, slices_Concat_byte_byte.total (l0.take kk) = n := ⟨_, rfl⟩
   obtain ⟨t2, e2⟩ : ∃ n : Nat, slices_Concat_byte_byte.total (l0.take (kk + 1)) = n := ⟨_, rfl⟩
   rw [e1] at hsn ⊢
   rw [e2] at hsn ht1
   have hb1 : (t1 : Int) + n1 ≤ 140737488355328 := by omega
   have HS := ak hsn
   have E2 := ak e2
   clear hsn ht1 hlm e1 e2 hn1 hC1 hc1 hx
   have hltz : (kk : Int) < (l0.length : Int) := by omega
   go_wp2
   go_roundg (l0.length - (kk + 1))
   case measure => omega
   case rel => exact ⟨kk + 1, by omega, by omega, by go_num, by rw [E2.out, HS.out]; go_num, rfl⟩
  ·have : kk = l0.length := by omega
   subst this
   rw [List.take_of_length_le (Nat.le_refl _)]
   obtain ⟨t1, e1⟩ : ∃ n : Nat, slices_Concat_byte_byte.total l0 = n := ⟨_, rfl⟩
   rw [e1]
   have HLM1 : Aside0 (t1 < 140737488355328) := by rw [← e1]; exact HLM
   have E1 := ak e1
   clear e1
   go_wp2_with (go_at_call 82; refine (slices_Grow_byte_byte.calls (t1 : Int) _ (by omega) (by have := HLM1.out; omega)).mono ?_; rintro e w' ⟨v1, rfl, ho, hb⟩; have HO := ak ho; have HB := ak hb; clear ho hb)
   go_loopg [6, 27] l0.length (fun gg s6 s27 w' => ∃ kk : Nat, kk ≤ l0.length ∧ l0.length - kk ≤ gg ∧ s27 = .int .i64 kk ∧ Aside0 (Kd.R (Kd.int .u8) 5 w' w.heap.size (fun _ => True) s6 (l0.take kk).flatten) ∧ Aside0 (Below w.heap.size w w'))
   case atStart => exact ⟨0, Nat.zero_le _, by omega, rfl, ⟨by simpa using HO.out⟩, HB⟩
   case round =>
    clear HO HB
    obtain ⟨kk, hkk, hg, rfl, HO, HB⟩ := hrel
    by_cases hlt : kk < l0.length
    ·obtain ⟨ad, A1, c1, rfl, hcell, hc1, hC1⟩ := at_L10 HR0.out (kk : Int) (by omega) (by omega)
     have hx : Aside0 ((l0.take (kk + 1)).flatten = (l0.take kk).flatten ++ rd_L10 l0 (kk : Int)) := ⟨by
      rw [List.take_succ_eq_append_getElem hlt, List.flatten_append]; congr 1; simp [rd_L10, List.getD_eq_getElem?_getD, hlt]⟩
     have HLL : Aside0 ((l0.take kk).flatten.length + (rd_L10 l0 (kk : Int)).length < 140737488355328) := ⟨by
      have h1 := congrArg List.length hx.out
      rw [List.length_append, slices_Concat_byte_byte.flatten_len] at h1
      have h2 := slices_Concat_byte_byte.total_take l0 (kk + 1)
      have h3 := HLM.out
      omega⟩
     replace hcell := pw_cell_below HB.out hcell
     rw [show ((kk : Int)).toNat = kk from by omega] at hcell
     have HC1 := ak (Kd.C_below hC1 HB.out)
     clear hC1
     generalize rd_L10 l0 (kk : Int) = x1 at hx HLL hcell HC1 hc1
     generalize (l0.take kk).flatten = acc at HO hx HLL
     have hltz : (kk : Int) < (l0.length : Int) := by omega
     go_wp2_with (((with_reducible refine gate_builtin (b := .append) (xs := #[.tmp 31, .tmp 32]) rfl ?_); at_builtin; refine Kd.R_append_rows (Kd.int .u8) (w0 := w) w.heap.size rfl (.tmp 31) (.tmp 32) 22 5 (.int .u8 0) 1 rfl Tryd.underlying22 info5 rfl (by decide) (by omega) _ acc x1 _ _ _ (fun _ => True) (fun _ => False) rfl rfl ?aO ?aR (fun _ _ h => h) (fun _ h => h.elim) ?aF ?aB ?aS ?aL ?_; (case aR => repeat (first | exact HC1.out | (with_reducible refine Kd.C_alloc ?_ _) | (with_reducible refine Kd.C_drewN ?_ _) | (with_reducible refine Kd.C_drew ?_))); (case aB => exact (bw HB.out)); (case aF => exact (fun _ _ => trivial)); (case aO => exact (rw_ HO.out)); (case aS => exact (below_size (bw HB.out))); (case aL => have := HLL.out; omega); intro v114 w5 ho hb hg hat; replace HB := ak (hb); have HO115 := ak (ho); clear HO; clear ho hb hg hat))
     go_roundg (l0.length - (kk + 1))
     case measure => omega
     case rel => exact ⟨kk + 1, by omega, by omega, by go_num, ⟨by rw [hx.out]; exact HO115.out⟩, HB⟩
    ·have : kk = l0.length := by omega
     subst this
     go_wp2
     go_ret
     refine ⟨_, rfl, ?_, HB.out⟩
     have := HO.out
     rw [List.take_of_length_le (Nat.le_refl _)] at this
     exact this

/-! ### impl_Put16: function 22 -/
def impl_Put16.f (l0 : List Int) (a1 : Int) : Option (List Int) := (impl_within.f a1 0 65535).bind fun t101 => (if t101 = true then ((impl_two.f a1).bind fun t102 => ((slices_Concat_byte_byte.f (([l0, t102] : List (List Int)))).bind fun t108 => (some t108))) else ((bytes_Clone.f l0).bind fun t111 => (some t111)))
set_option maxHeartbeats 8000000 in
set_option maxRecDepth 100000 in
theorem impl_Put16.calls (P0_ : Nat → Prop) (A0 : Option Addr) (c0 : Nat) (l0 : List Int) (a1 : Int) (r : List Int) (w : World) (hs0 : Kd.V (Kd.int .u8) 5 w w.heap.size (fun k_ => P0_ k_) (.slice A0 l0.length c0) l0) (h : impl_Put16.f l0 a1 = some r) :
  Calls Tryd.prog 22 #[.slice A0 l0.length c0, .int .i64 a1] w fun e w' => ∃ v0_ : Value, e = .returned (v0_) ∧ Kd.R (Kd.int .u8) 5 w' w.heap.size (fun k_ => (w.heap.size ≤ k_)) v0_ r ∧ Below w.heap.size w w' := by
 have HO0 := ak (show Kd.V (Kd.int .u8) 5 w w.heap.size (fun k_ => (P0_ k_ ∨ w.heap.size ≤ k_)) (.slice A0 l0.length c0) l0 from Kd.V_mono hs0 (fun k_ hk => .inl hk))
 have HB := ak (Below.refl w.heap.size w)
 have H : ((impl_within.f a1 0 65535).bind fun t101 => (if t101 = true then ((impl_two.f a1).bind fun t102 => ((slices_Concat_byte_byte.f (([l0, t102] : List (List Int)))).bind fun t108 => (some t108))) else ((bytes_Clone.f l0).bind fun t111 => (some t111)))) = some r := h
 clear h
 replace H := bnd H
 obtain ⟨t101, A3, H⟩ := H
 replace H := ib H
 obtain ⟨rfl, H⟩ | ⟨rfl, H⟩ := H
 ·replace H := bnd H
  obtain ⟨t102, A5, H⟩ := H
  obtain ⟨y105, hy105⟩ : ∃ y_ : List (List Int), y_ = (([l0, t102] : List (List Int))) := ⟨_, rfl⟩
  (try with_reducible replace H := bnS H)
  (try rw [← hy105] at H)
  have Ny105 := ak hy105
  clear hy105
  replace H := bnd H
  obtain ⟨t108, A6, H⟩ := H
  obtain rfl := Option.some.inj H
  go_enter Tryd.func22, Tryd.ntmps22
  go_wp2_with (first | ((with_reducible refine gate_callee (f := 47) rfl ?_);refine glD 6 rfl rfl Tryd.func47 (impl_within.calls a1 0 65535 true _ A3.out) (fun nd => ?_)) | ((with_reducible refine gate_callee (f := 54) rfl ?_);refine glG 12 rfl rfl Tryd.func54 (impl_two.calls a1 t102 _ A5.out) ?_;rintro e w7 ⟨v103, rfl, ho0, hb⟩;refine ⟨_, rfl, ?_⟩;replace HO0 := ak (Kd.V_elder' (vw HO0.out) (Kd.R_base ho0) hb);have HO104 := ak (Kd.R_lower (Kd.R_newM (M := fun k_ => (w.heap.size ≤ k_)) ho0 (below_size (bw HB.out)) (fun k_ h_ => h_)) (below_size (bw HB.out)));replace HB := b2 HB hb;(try clear hb);(try clear ho0);obtain ⟨Ao8, co8, eo8⟩ := Kd.R_slice HO104.out;subst eo8) | ((with_reducible refine gate_dst (N := 13) rfl ?_);refine Kd.N_lit (Kd.slice 5 (Kd.int .u8)) _ 22 ?hg (N' := 13) ?hd (xs := ([l0, t102] : List (List Int))) (inner := [.slice A0 l0.length c0, .slice Ao8 t102.length co8]) (ok := (fun k_ => (P0_ k_ ∨ w.heap.size ≤ k_))) (okp := (fun k_ => (P0_ k_ ∨ w.heap.size ≤ k_))) ?hr ?hp (fun _ hk => hk) ((show ∀ k_, w7.heap.size ≤ k_ → (fun k_ => (P0_ k_ ∨ w.heap.size ≤ k_)) k_ from fun k_ hk => (.inr (Nat.le_trans (below_size (bw HB.out)) hk))) _ (Nat.le_refl _)) (Below.refl _ _) (Nat.le_refl _) (by simp) ?_;(case hd => rfl);(case hg => rfl);(case hr => first | (go_simp; done) | (go_simp; rfl));(case hp => exact (Reps.one (show Kd.FK (Kd.slice 5 (Kd.int .u8)) _ _ l0 [.slice A0 l0.length c0] from (Kd.FK_slice_mk (Kd.V_reads' (Kd.V_mono (ok' := (fun k_ => (P0_ k_ ∨ w.heap.size ≤ k_))) (HO0.out) (fun k_ hk => hk.1))).2.1 (Kd.V_F (Kd.V_mono (ok' := (fun k_ => (P0_ k_ ∨ w.heap.size ≤ k_))) (HO0.out) (fun k_ hk => hk.1))))) (Reps.one (show Kd.FK (Kd.slice 5 (Kd.int .u8)) _ _ t102 [.slice Ao8 t102.length co8] from (Kd.FK_slice_mk (Kd.R_reads' (Kd.R_mono (ok' := (fun k_ => (P0_ k_ ∨ w.heap.size ≤ k_))) (HO104.out) (fun k_ hk => (.inr (hk.1))))).2.1 (Kd.R_F (Kd.R_mono (ok' := (fun k_ => (P0_ k_ ∨ w.heap.size ≤ k_))) (HO104.out) (fun k_ hk => (.inr (hk.1))))))) (Reps.none _ _))));intro v106 w9 ho10 hb hg_ hnew_;clear hg_ hnew_;(first | rw [← Ny105.out] at ho10 | (simp only [Int.reduceToNat] at ho10; rw [← Ny105.out] at ho10));replace HO0 := ak (Kd.V_elder' (vw HO0.out) (Kd.N_base ho10) hb);have HO107 := ak (Kd.N_lower ho10 (below_size (bw HB.out)));replace HB := b2 HB hb;clear HO104;clear hb ho10;obtain ⟨Ao11, co11, eo11⟩ := Kd.N_slice HO107.out;subst eo11) | ((with_reducible refine gate_callee (f := 53) rfl ?_);refine glG 14 rfl rfl Tryd.func53 (slices_Concat_byte_byte.calls _ _ y105 t108 _ ?side1 ?side2 A6.out) ?_;(case side1 => repeat (first | exact (Kd.N_reads' HO107.out).2.2 | (with_reducible refine Kd.C_alloc ?_ _) | (with_reducible refine Kd.C_drewN ?_ _) | (with_reducible refine Kd.C_drew ?_)));(case side2 => exact (Kd.N_reads' HO107.out).2.1);rintro e w12 ⟨v109, rfl, ho0, hb⟩;refine ⟨_, rfl, ?_⟩;replace HO0 := ak (Kd.V_elder' (vw HO0.out) (Kd.R_base ho0) hb);replace HO107 := ak (Kd.N_elder' (nw HO107.out) (Kd.R_base ho0) hb);have HO110 := ak (Kd.R_lower (Kd.R_newM (M := fun k_ => (w.heap.size ≤ k_)) ho0 (below_size (bw HB.out)) (fun k_ h_ => h_)) (below_size (bw HB.out)));replace HB := b2 HB hb;(try clear hb);(try clear ho0)))
  go_ret
  exact ⟨_, o1, by (with_reducible repeat (first | apply Kd.R_alloc | apply Kd.R_drewN | apply Kd.R_drew)); exact Kd.R_mono HO110.out (fun _ hk => hk.1), bw HB.out⟩
 ·replace H := bnd H
  obtain ⟨t111, A13, H⟩ := H
  obtain rfl := Option.some.inj H
  go_enter Tryd.func22, Tryd.ntmps22
  go_wp2_with (first | ((with_reducible refine gate_callee (f := 47) rfl ?_);refine glD 6 rfl rfl Tryd.func47 (impl_within.calls a1 0 65535 false _ A3.out) (fun nd => ?_)) | ((with_reducible refine gate_callee (f := 52) rfl ?_);refine glG 9 rfl rfl Tryd.func52 (bytes_Clone.calls _ _ l0 t111 _ ?side1 ?side2 A13.out) ?_;(case side1 => repeat (first | exact (Kd.V_reads' HO0.out).2.2 | (with_reducible refine Kd.C_alloc ?_ _) | (with_reducible refine Kd.C_drewN ?_ _) | (with_reducible refine Kd.C_drew ?_)));(case side2 => exact (Kd.V_reads' HO0.out).2.1);rintro e w14 ⟨v112, rfl, ho0, hb⟩;refine ⟨_, rfl, ?_⟩;replace HO0 := ak (Kd.V_elder' (vw HO0.out) (Kd.R_base ho0) hb);have HO113 := ak (Kd.R_lower (Kd.R_newM (M := fun k_ => (w.heap.size ≤ k_)) ho0 (below_size (bw HB.out)) (fun k_ h_ => h_)) (below_size (bw HB.out)));replace HB := b2 HB hb;(try clear hb);(try clear ho0)))
  go_ret
  exact ⟨_, o1, by (with_reducible repeat (first | apply Kd.R_alloc | apply Kd.R_drewN | apply Kd.R_drew)); exact Kd.R_mono HO113.out (fun _ hk => hk.1), bw HB.out⟩

/-! ### impl_get: function 55 -/
mutual
def impl_get.j0 : Nat → List Int → Int → Int → Bool → Option (Int × Int)
 | 0, _, _, _, _ => none
 | k + 1, x0, x1, x2, x20 => if x20 = true then (some (0, (-1))) else (if 0 ≤ x1 then (if x1 ≤ (wrap64 (x1 + x2)) then (if (wrap64 (x1 + x2)) ≤ (x0.length : Int) then ((some ((x0.take ((wrap64 (x1 + x2)) : Int).toNat).drop (x1 : Int).toNat : List Int)).bind fun y101 => (impl_get.l0 k x1 x2 0 y101 (y101.length : Int) 0)) else (none)) else (none)) else (none))
def impl_get.l0 : Nat → Int → Int → Int → List Int → Int → Int → Option (Int × Int)
 | 0, _, _, _, _, _, _ => none
 | k + 1, x1, x2, x8, x26, x27, x28 => if x28 < x27 then (if 0 ≤ x28 then (if x28 < (x26.length : Int) then (impl_get.l0 k x1 x2 (Go.bits .or .i64 (wrap64 (x8 * 256)) (wrap64 (rd x26 x28))) x26 x27 (wrap64 (x28 + 1))) else (none)) else (none)) else (some (x8, wrap64 (x1 + x2)))
end
def impl_get.f (k : Nat) (l0 : List Int) (a1 : Int) (a2 : Int) : Option (Int × Int) := if a1 < 0 then (impl_get.j0 k l0 a1 a2 true) else (impl_get.j0 k l0 a1 a2 (decide (a2 > (wrap64 ((l0.length : Int) - a1)))))
set_option maxHeartbeats 8000000 in
set_option maxRecDepth 100000 in
theorem impl_get.calls (k : Nat) (A0 : Option Addr) (c0 : Nat) (l0 : List Int) (a1 : Int) (a2 : Int) (r1 : Int) (r2 : Int) (w : World) (hr0 : Kd.C (Kd.int .u8) w A0 l0.length l0) (hc0 : l0.length ≤ c0) (h : impl_get.f k l0 a1 a2 = some (r1, r2)) :
  Calls Tryd.prog 55 #[.slice A0 l0.length c0, .int .i64 a1, .int .i64 a2] w fun e w' => e = .returned (.tuple #[.int .i64 r1, .int .i64 r2]) ∧ Drawn0 w w' := by
 have HR0 := ak hr0
 have HC0 := ak hc0
 clear hr0 hc0
 have H : (if a1 < 0 then (impl_get.j0 k l0 a1 a2 true) else (impl_get.j0 k l0 a1 a2 (decide (a2 > (wrap64 ((l0.length : Int) - a1)))))) = some (r1, r2) := h
 clear h
 have HC4 := ak H
 clear H
 go_enter Tryd.func55, Tryd.ntmps55
 go_upto_region 1 with (fail)
 go_cut [20] (fun v20 wc => ∃ (kq : Nat) (x20_3 : Bool), v20 = .bool x20_3 ∧ Aside0 (impl_get.j0 kq l0 a1 a2 x20_3 = some (r1, r2)) ∧ Aside0 (kq ≤ k) ∧ Drawn0 w wc)
 case first =>
  have H := HC4.out
  clear HC4
  replace H := ip H
  obtain ⟨c5b0, H⟩ | ⟨c5b0, H⟩ := H
  ·(first | rw [c5b0] | (simp only [i64_w, i32_w]; rw [c5b0]) | skip)
   have H' := ak H
   clear H
   go_wp2
   go_meet
   case rel => exact ⟨_, (true), o2, H', ⟨o3⟩, od⟩
  ·(first | rw [c5b0] | (simp only [i64_w, i32_w]; rw [c5b0]) | skip)
   have H' := ak H
   clear H
   go_wp2
   go_meet
   case rel => exact ⟨_, (decide (a2 > (wrap64 ((l0.length : Int) - a1)))), o2, H', ⟨o3⟩, od⟩
 case rest =>
  clear HC4
  obtain ⟨kq, x20_3, rfl, HA, HJ3, ⟨mc3, rfl⟩⟩ := hcut
  cases kq with
  | zero => exact absurd HA.out (by simp [impl_get.j0])
  | succ kj3 =>
   have H := HA.out
   clear HA
   simp only [impl_get.j0] at H
   replace H := ib H
   obtain ⟨rfl, H⟩ | ⟨rfl, H⟩ := H
   ·simp only [Option.some.injEq, Prod.mk.injEq] at H
    obtain ⟨rfl, rfl⟩ := H
    go_wp2
    go_ret2
    exact ⟨o2, od⟩
   ·replace H := ipE H
    obtain ⟨c7b0, c7b1, H⟩ := H
    by_cases c8 : a1 ≤ (wrap64 (a1 + a2))
    ·rw [if_pos c8] at H
     have c8b0 := eq_true c8
     have c8b1 : decide (a1 ≤ (wrap64 (a1 + a2))) = true := decide_eq_true c8
     by_cases c9 : (wrap64 (a1 + a2)) ≤ (l0.length : Int)
     ·rw [if_pos c9] at H
      have c9b0 := eq_true c9
      have c9b1 : decide ((wrap64 (a1 + a2)) ≤ (l0.length : Int)) = true := decide_eq_true c9
      obtain ⟨y101, hy101⟩ : ∃ y_ : List Int, y_ = ((l0.take ((wrap64 (a1 + a2)) : Int).toNat).drop (a1 : Int).toNat) := ⟨_, rfl⟩
      (try with_reducible replace H := bnS H)
      (try rw [← hy101] at H)
      have Ny101 := ak hy101
      clear hy101
      have H' := ak H
      clear H
      have q10 : ((wrap64 (a1 + a2)) : Int) ≤ ((l0.length : Int) : Int) := of_decide_eq_true (by first | (with_reducible assumption) | assumption)
      obtain ⟨i010, hi010, _, hsz10, _⟩ := info_parts info5
      have hroom10 : l0.length ≤ c0 := HC0.out
      have hC10 : Kd.C (Kd.int .u8) _ A0 l0.length l0 := HR0.out
      have ql10 : (a1 : Int) ≤ ((wrap64 (a1 + a2)) : Int) := of_decide_eq_true (by first | (with_reducible assumption) | assumption)
      have q010 : (0 : Int) ≤ (a1 : Int) := of_decide_eq_true (by first | (with_reducible assumption) | assumption)
      have hcut10 := cut_mid (P := Tryd.prog) 22 5 .i64 .i64 Tryd.underlying22 hi010 1 hsz10 A0 l0.length c0 a1 (wrap64 (a1 + a2)) q010 ql10 q10 hroom10
      have hr10 := Kd.C_mid (lo := (a1 : Int).toNat) (hi := ((wrap64 (a1 + a2)) : Int).toNat) (c := c0) hC10 (by omega) (by omega) hroom10
      obtain ⟨A10, hA10⟩ : ∃ A1, A1 = (if c0 = (a1 : Int).toNat then A0 else (A0 : Option Addr).map (·.add ((a1 : Int).toNat * 1))) := ⟨_, rfl⟩
      obtain ⟨c10, hc10⟩ : ∃ c1, c1 = c0 - (a1 : Int).toNat := ⟨_, rfl⟩
      have hy10 : y101.length = ((wrap64 (a1 + a2)) : Int).toNat - (a1 : Int).toNat := (by rw [Ny101.out, List.length_drop, List.length_take] <;> omega)
      rw [show ((l0).take ((wrap64 (a1 + a2)) : Int).toNat).drop (a1 : Int).toNat = y101 from Ny101.out.symm] at hr10
      replace hr10 : Kd.C (Kd.int .u8) _ A10 y101.length y101 := (by rw [hA10]; exact hr10)
      rw [← hy10, ← hA10, ← hc10] at hcut10
      have HR104 := ak hr10
      have HC104 := ak (show y101.length ≤ c10 from by rw [hy10, hc10]; exact Nat.sub_le_sub_right (Nat.le_trans (by omega) hroom10) _)
      clear hr10 hC10 hroom10 hi010 hsz10 hc10
      have KY10 := ak hy10
      have KA10 := ak hA10
      clear hy10 hA10
      replace q10 := eq_true q10
      go_wp2
      go_loopg [8, 28] kj3 (fun kq v8 v28 w' => ∃ (x8_2 : Int) (x28_2 : Int), v8 = .int .i64 x8_2 ∧ v28 = .int .i64 x28_2 ∧ Aside0 (impl_get.l0 kq a1 a2 x8_2 y101 (y101.length : Int) x28_2 = some (r1, r2)) ∧ Aside0 (kq ≤ kj3) ∧ Drawn0 w w')
      case atStart => exact ⟨(0), (0), o2, o2, H', ⟨Nat.le_refl _⟩, od⟩
      case round =>
       clear H'
       (try clear c1)
       (try clear c7b0)
       (try clear c7b1)
       (try clear c8)
       (try clear c8b0)
       (try clear c8b1)
       (try clear c9)
       (try clear c9b0)
       (try clear c9b1)
       (try clear c10)
       (try clear q10)
       (try clear q010)
       (try clear q10)
       obtain ⟨x8_2, x28_2, rfl, rfl, HA, HK2, ⟨m2, rfl⟩⟩ := hrel
       cases gk with
       | zero => exact absurd HA.out (by simp [impl_get.l0])
       | succ k2 =>
        have H := HA.out
        clear HA
        simp only [impl_get.l0] at H
        replace H := ip H
        obtain ⟨c11b0, H⟩ | ⟨c11b0, H⟩ := H
        ·replace H := ipN H
         obtain ⟨c12b0, H⟩ := H
         replace H := ipN H
         obtain ⟨c13b0, H⟩ := H
         have H' := ak H
         clear H
         obtain ⟨ad105, rfl, hx105_0, p105, q105⟩ := el0_int HR104 x28_2
         go_wp2
         go_roundg k2
         case measure => have := HJ3.out; have := HK2.out; omega
         case rel => exact ⟨(Go.bits .or .i64 (wrap64 (x8_2 * 256)) (wrap64 (rd y101 x28_2))), (wrap64 (x28_2 + 1)), o2, o2, H', ⟨by have := HJ3.out; have := HK2.out; omega⟩, od⟩
        ·simp only [Option.some.injEq, Prod.mk.injEq] at H
         obtain ⟨rfl, rfl⟩ := H
         go_wp2
         go_ret2
         exact ⟨o2, od⟩
     ·rw [if_neg c9] at H
      exact absurd H (by simp)
    ·rw [if_neg c8] at H
     exact absurd H (by simp)

/-! ### impl_Get16: function 23 -/
def impl_Get16.f (k : Nat) (l0 : List Int) (a1 : Int) : Option (Int × Int) := (impl_get.f k l0 a1 2).bind fun bt101 => (some (bt101.1, bt101.2))
set_option maxHeartbeats 8000000 in
set_option maxRecDepth 100000 in
theorem impl_Get16.calls (k : Nat) (A0 : Option Addr) (c0 : Nat) (l0 : List Int) (a1 : Int) (r1 : Int) (r2 : Int) (w : World) (hr0 : Kd.C (Kd.int .u8) w A0 l0.length l0) (hc0 : l0.length ≤ c0) (h : impl_Get16.f k l0 a1 = some (r1, r2)) :
  Calls Tryd.prog 23 #[.slice A0 l0.length c0, .int .i64 a1] w fun e w' => e = .returned (.tuple #[.int .i64 r1, .int .i64 r2]) ∧ Drawn0 w w' := by
 have HR0 := ak hr0
 have HC0 := ak hc0
 clear hr0 hc0
 have H : ((impl_get.f k l0 a1 2).bind fun bt101 => (some (bt101.1, bt101.2))) = some (r1, r2) := h
 clear h
 replace H := Option.bind_eq_some_iff.mp H
 obtain ⟨⟨t101, t102⟩, A30, H⟩ := H
 replace H : (some (t101, t102)) = some (r1, r2) := H
 have A3 := ak A30
 clear A30
 simp only [Option.some.injEq, Prod.mk.injEq] at H
 obtain ⟨rfl, rfl⟩ := H
 go_enter Tryd.func23, Tryd.ntmps23
 go_wp2_with (((with_reducible refine gate_callee (f := 55) rfl ?_);refine glD 8 rfl rfl Tryd.func55 (impl_get.calls k _ _ l0 a1 2 t101 t102 _ (cd HR0) HC0.out A3.out) (fun nd => ?_)))
 go_ret2
 exact ⟨o2, od⟩

/-! ### impl_Put32: function 24 -/
def impl_Put32.f (l0 : List Int) (a1 : Int) : Option (List Int) := (impl_isWord.f a1).bind fun t101 => (if t101 = true then ((impl_four.f a1).bind fun t102 => ((slices_Concat_byte_byte.f (([l0, t102] : List (List Int)))).bind fun t108 => (some t108))) else ((bytes_Clone.f l0).bind fun t111 => (some t111)))
set_option maxHeartbeats 8000000 in
set_option maxRecDepth 100000 in
theorem impl_Put32.calls (P0_ : Nat → Prop) (A0 : Option Addr) (c0 : Nat) (l0 : List Int) (a1 : Int) (r : List Int) (w : World) (hs0 : Kd.V (Kd.int .u8) 5 w w.heap.size (fun k_ => P0_ k_) (.slice A0 l0.length c0) l0) (h : impl_Put32.f l0 a1 = some r) :
  Calls Tryd.prog 24 #[.slice A0 l0.length c0, .int .i64 a1] w fun e w' => ∃ v0_ : Value, e = .returned (v0_) ∧ Kd.R (Kd.int .u8) 5 w' w.heap.size (fun k_ => (w.heap.size ≤ k_)) v0_ r ∧ Below w.heap.size w w' := by
 have HO0 := ak (show Kd.V (Kd.int .u8) 5 w w.heap.size (fun k_ => (P0_ k_ ∨ w.heap.size ≤ k_)) (.slice A0 l0.length c0) l0 from Kd.V_mono hs0 (fun k_ hk => .inl hk))
 have HB := ak (Below.refl w.heap.size w)
 have H : ((impl_isWord.f a1).bind fun t101 => (if t101 = true then ((impl_four.f a1).bind fun t102 => ((slices_Concat_byte_byte.f (([l0, t102] : List (List Int)))).bind fun t108 => (some t108))) else ((bytes_Clone.f l0).bind fun t111 => (some t111)))) = some r := h
 clear h
 replace H := bnd H
 obtain ⟨t101, A3, H⟩ := H
 replace H := ib H
 obtain ⟨rfl, H⟩ | ⟨rfl, H⟩ := H
 ·replace H := bnd H
  obtain ⟨t102, A5, H⟩ := H
  obtain ⟨y105, hy105⟩ : ∃ y_ : List (List Int), y_ = (([l0, t102] : List (List Int))) := ⟨_, rfl⟩
  (try with_reducible replace H := bnS H)
  (try rw [← hy105] at H)
  have Ny105 := ak hy105
  clear hy105
  replace H := bnd H
  obtain ⟨t108, A6, H⟩ := H
  obtain rfl := Option.some.inj H
  go_enter Tryd.func24, Tryd.ntmps24
  go_wp2_with (first | ((with_reducible refine gate_callee (f := 37) rfl ?_);refine glD 6 rfl rfl Tryd.func37 (impl_isWord.calls a1 true _ A3.out) (fun nd => ?_)) | ((with_reducible refine gate_callee (f := 56) rfl ?_);refine glG 12 rfl rfl Tryd.func56 (impl_four.calls a1 t102 _ A5.out) ?_;rintro e w7 ⟨v103, rfl, ho0, hb⟩;refine ⟨_, rfl, ?_⟩;replace HO0 := ak (Kd.V_elder' (vw HO0.out) (Kd.R_base ho0) hb);have HO104 := ak (Kd.R_lower (Kd.R_newM (M := fun k_ => (w.heap.size ≤ k_)) ho0 (below_size (bw HB.out)) (fun k_ h_ => h_)) (below_size (bw HB.out)));replace HB := b2 HB hb;(try clear hb);(try clear ho0);obtain ⟨Ao8, co8, eo8⟩ := Kd.R_slice HO104.out;subst eo8) | ((with_reducible refine gate_dst (N := 13) rfl ?_);refine Kd.N_lit (Kd.slice 5 (Kd.int .u8)) _ 22 ?hg (N' := 13) ?hd (xs := ([l0, t102] : List (List Int))) (inner := [.slice A0 l0.length c0, .slice Ao8 t102.length co8]) (ok := (fun k_ => (P0_ k_ ∨ w.heap.size ≤ k_))) (okp := (fun k_ => (P0_ k_ ∨ w.heap.size ≤ k_))) ?hr ?hp (fun _ hk => hk) ((show ∀ k_, w7.heap.size ≤ k_ → (fun k_ => (P0_ k_ ∨ w.heap.size ≤ k_)) k_ from fun k_ hk => (.inr (Nat.le_trans (below_size (bw HB.out)) hk))) _ (Nat.le_refl _)) (Below.refl _ _) (Nat.le_refl _) (by simp) ?_;(case hd => rfl);(case hg => rfl);(case hr => first | (go_simp; done) | (go_simp; rfl));(case hp => exact (Reps.one (show Kd.FK (Kd.slice 5 (Kd.int .u8)) _ _ l0 [.slice A0 l0.length c0] from (Kd.FK_slice_mk (Kd.V_reads' (Kd.V_mono (ok' := (fun k_ => (P0_ k_ ∨ w.heap.size ≤ k_))) (HO0.out) (fun k_ hk => hk.1))).2.1 (Kd.V_F (Kd.V_mono (ok' := (fun k_ => (P0_ k_ ∨ w.heap.size ≤ k_))) (HO0.out) (fun k_ hk => hk.1))))) (Reps.one (show Kd.FK (Kd.slice 5 (Kd.int .u8)) _ _ t102 [.slice Ao8 t102.length co8] from (Kd.FK_slice_mk (Kd.R_reads' (Kd.R_mono (ok' := (fun k_ => (P0_ k_ ∨ w.heap.size ≤ k_))) (HO104.out) (fun k_ hk => (.inr (hk.1))))).2.1 (Kd.R_F (Kd.R_mono (ok' := (fun k_ => (P0_ k_ ∨ w.heap.size ≤ k_))) (HO104.out) (fun k_ hk => (.inr (hk.1))))))) (Reps.none _ _))));intro v106 w9 ho10 hb hg_ hnew_;clear hg_ hnew_;(first | rw [← Ny105.out] at ho10 | (simp only [Int.reduceToNat] at ho10; rw [← Ny105.out] at ho10));replace HO0 := ak (Kd.V_elder' (vw HO0.out) (Kd.N_base ho10) hb);have HO107 := ak (Kd.N_lower ho10 (below_size (bw HB.out)));replace HB := b2 HB hb;clear HO104;clear hb ho10;obtain ⟨Ao11, co11, eo11⟩ := Kd.N_slice HO107.out;subst eo11) | ((with_reducible refine gate_callee (f := 53) rfl ?_);refine glG 14 rfl rfl Tryd.func53 (slices_Concat_byte_byte.calls _ _ y105 t108 _ ?side1 ?side2 A6.out) ?_;(case side1 => repeat (first | exact (Kd.N_reads' HO107.out).2.2 | (with_reducible refine Kd.C_alloc ?_ _) | (with_reducible refine Kd.C_drewN ?_ _) | (with_reducible refine Kd.C_drew ?_)));(case side2 => exact (Kd.N_reads' HO107.out).2.1);rintro e w12 ⟨v109, rfl, ho0, hb⟩;refine ⟨_, rfl, ?_⟩;replace HO0 := ak (Kd.V_elder' (vw HO0.out) (Kd.R_base ho0) hb);replace HO107 := ak (Kd.N_elder' (nw HO107.out) (Kd.R_base ho0) hb);have HO110 := ak (Kd.R_lower (Kd.R_newM (M := fun k_ => (w.heap.size ≤ k_)) ho0 (below_size (bw HB.out)) (fun k_ h_ => h_)) (below_size (bw HB.out)));replace HB := b2 HB hb;(try clear hb);(try clear ho0)))
  go_ret
  exact ⟨_, o1, by (with_reducible repeat (first | apply Kd.R_alloc | apply Kd.R_drewN | apply Kd.R_drew)); exact Kd.R_mono HO110.out (fun _ hk => hk.1), bw HB.out⟩
 ·replace H := bnd H
  obtain ⟨t111, A13, H⟩ := H
  obtain rfl := Option.some.inj H
  go_enter Tryd.func24, Tryd.ntmps24
  go_wp2_with (first | ((with_reducible refine gate_callee (f := 37) rfl ?_);refine glD 6 rfl rfl Tryd.func37 (impl_isWord.calls a1 false _ A3.out) (fun nd => ?_)) | ((with_reducible refine gate_callee (f := 52) rfl ?_);refine glG 9 rfl rfl Tryd.func52 (bytes_Clone.calls _ _ l0 t111 _ ?side1 ?side2 A13.out) ?_;(case side1 => repeat (first | exact (Kd.V_reads' HO0.out).2.2 | (with_reducible refine Kd.C_alloc ?_ _) | (with_reducible refine Kd.C_drewN ?_ _) | (with_reducible refine Kd.C_drew ?_)));(case side2 => exact (Kd.V_reads' HO0.out).2.1);rintro e w14 ⟨v112, rfl, ho0, hb⟩;refine ⟨_, rfl, ?_⟩;replace HO0 := ak (Kd.V_elder' (vw HO0.out) (Kd.R_base ho0) hb);have HO113 := ak (Kd.R_lower (Kd.R_newM (M := fun k_ => (w.heap.size ≤ k_)) ho0 (below_size (bw HB.out)) (fun k_ h_ => h_)) (below_size (bw HB.out)));replace HB := b2 HB hb;(try clear hb);(try clear ho0)))
  go_ret
  exact ⟨_, o1, by (with_reducible repeat (first | apply Kd.R_alloc | apply Kd.R_drewN | apply Kd.R_drew)); exact Kd.R_mono HO113.out (fun _ hk => hk.1), bw HB.out⟩

/-! ### impl_Get32: function 25 -/
def impl_Get32.f (k : Nat) (l0 : List Int) (a1 : Int) : Option (Int × Int) := (impl_get.f k l0 a1 4).bind fun bt101 => (some (bt101.1, bt101.2))
set_option maxHeartbeats 8000000 in
set_option maxRecDepth 100000 in
theorem impl_Get32.calls (k : Nat) (A0 : Option Addr) (c0 : Nat) (l0 : List Int) (a1 : Int) (r1 : Int) (r2 : Int) (w : World) (hr0 : Kd.C (Kd.int .u8) w A0 l0.length l0) (hc0 : l0.length ≤ c0) (h : impl_Get32.f k l0 a1 = some (r1, r2)) :
  Calls Tryd.prog 25 #[.slice A0 l0.length c0, .int .i64 a1] w fun e w' => e = .returned (.tuple #[.int .i64 r1, .int .i64 r2]) ∧ Drawn0 w w' := by
 have HR0 := ak hr0
 have HC0 := ak hc0
 clear hr0 hc0
 have H : ((impl_get.f k l0 a1 4).bind fun bt101 => (some (bt101.1, bt101.2))) = some (r1, r2) := h
 clear h
 replace H := Option.bind_eq_some_iff.mp H
 obtain ⟨⟨t101, t102⟩, A30, H⟩ := H
 replace H : (some (t101, t102)) = some (r1, r2) := H
 have A3 := ak A30
 clear A30
 simp only [Option.some.injEq, Prod.mk.injEq] at H
 obtain ⟨rfl, rfl⟩ := H
 go_enter Tryd.func25, Tryd.ntmps25
 go_wp2_with (((with_reducible refine gate_callee (f := 55) rfl ?_);refine glD 8 rfl rfl Tryd.func55 (impl_get.calls k _ _ l0 a1 4 t101 t102 _ (cd HR0) HC0.out A3.out) (fun nd => ?_)))
 go_ret2
 exact ⟨o2, od⟩

/-! ### laws_markByteSS: function 43 -/

/-! ### laws_markName: function 16 -/

section
variable {b U : Nat} {w w' : World} {v : Value} {xs : List (List Int)} {ps : List (Option Addr × Nat × Nat)} {S : Nat → Prop}
end
section
variable {ops : Array Oper} {rest : List Oper} {o : Oper} {a : Act} {Q : Exit → Act → World → Prop} {Kc : Act → World → Prop}
set_option maxRecDepth 100000 in
theorem R_str_step {w0 W : World} (base : Nat) (hw : Region.wanted o (yielded ops a.tmps) = true) (s x : Operand) (t u e : TypeId)
    (ho : o.op = .call { callee := .builtin .append, args := #[s, x], argTypes := #[t, u] })
    (ht : Tryd.prog.underlying t = some (.slice e)) (hu : Tryd.prog.underlying u = some .string) (hinfo : (Tryd.prog.info? e).map (fun i => (i.zero, i.size, i.bytes)) = some (some (.int .u8 0), 1, 1))
    (v : Value) (xs : List Int) (y : ByteArray) (hs : a.eval s = v) (hx : a.eval x = .string y)
    (HO : Kd.R (Kd.int .u8) e W base (fun _ => True) v xs) (HB : Below base w0 W) (hbase : base ≤ W.heap.size) (hl : xs.length + y.size ≤ 140737488355328)
    (h : ∀ v1 w1, Kd.R (Kd.int .u8) e w1 base (fun _ => True) v1 (xs ++ bytesOf y) → Below base w0 w1 → W.grownBy w1 v.ownBlock → Kc (a.put o.dst v1) w1) :
    if Region.wanted o (yielded ops a.tmps) = true then Oper.wp Tryd.prog o a W Kc Q else Kc (a.put o.dst undef) W := by
  rw [if_pos hw]
  obtain ⟨i0, hi, hzz⟩ := Option.map_eq_some_iff.1 hinfo
  simp only [Prod.mk.injEq] at hzz
  obtain ⟨hz0, hz1, hz2⟩ := hzz
  obtain ⟨v1, w1, hrun, hown, hg, _⟩ := Lib.run_append_own_string (P := Tryd.prog) W base t u o.type e i0 ht hu hi hz0 hz1 hz2 v xs.length (encs (Value.int .u8) xs) (Kd.own_of_R (h1 := fun _ => rfl) HO) y (by simp only [maxLen]; omega) hl hbase
  have hc : encs (Value.int .u8) (xs ++ bytesOf y) = encs (Value.int .u8) xs ++ Lib.strCells y := by
    rw [encs_append]
    congr 1
    simp [encs, bytesOf, Lib.strCells]
  have hR : Kd.R (Kd.int .u8) e w1 base (fun _ => True) v1 (xs ++ bytesOf y) := by
    refine Kd.R_of_own (h1 := fun _ => rfl) ?_ (fun _ _ => trivial)
    rw [List.length_append, bytesOf_length, hc]
    exact hown
  have hk := h v1 w1 hR (HB.grown hg hbase (fun k hk => Kd.R_base HO k hk)) hg
  unfold Oper.wp
  simp [execOp, ho, resolve, invoke, builtin, hs, hx, hrun, Result.andThen]
  exact hk
end

/-! ### spec_l2text: function 87 -/
/-! ### spec_l1digits: function 70 -/
def spec_l1digits.f : Nat → Int → Option (List Int)
 | 0, _ => none
 | k + 1, a0 => if a0 < 10 then (some (([(wrap64 (48 + a0)) % 256] : List Int))) else ((spec_l1digits.f k (wrap64 (Int.tdiv a0 10))).bind fun t104 => (if t104.length < 140737488355328 then (some (t104 ++ [(wrap64 (48 + (Int.tmod a0 10))) % 256])) else (none)))
theorem spec_l1digits.mono_l : ∀ k, (∀ y0, LeO (spec_l1digits.f k y0) (spec_l1digits.f (k + 1) y0))
 | 0 => fun _ r h => by simp [spec_l1digits.f] at h
 | k + 1 => by
  have ih0 := spec_l1digits.mono_l k
  ·intro y0
   unfold spec_l1digits.f
   repeat' first
   | (with_reducible exact ih0 _)
   | (with_reducible exact LeO.refl _)
   | (with_reducible exact LeO.none _)
   | (with_reducible refine LeO.ite ?_ ?_)
   | (with_reducible refine LeO.bind ?_ (fun _ => ?_))
   | exact ih0 _
   | exact LeO.none _
   | refine LeO.ite ?_ ?_
   | refine LeO.bind ?_ (fun _ => ?_)
theorem spec_l1digits.mono : ∀ a0 k, LeO (spec_l1digits.f k a0) (spec_l1digits.f (k + 1) a0) := by
 intro a0 k
 have ih0 := spec_l1digits.mono_l k
 exact ih0 a0
set_option maxHeartbeats 8000000 in
set_option maxRecDepth 100000 in
theorem spec_l1digits.calls (k : Nat) : ∀ (a0 : Int) (r : List Int) (w : World) (h : spec_l1digits.f k a0 = some r),
  Calls Tryd.prog 70 #[.int .i64 a0] w fun e w' => ∃ v0_ : Value, e = .returned (v0_) ∧ Kd.R (Kd.int .u8) 5 w' w.heap.size (fun _ => True) v0_ r ∧ Below w.heap.size w w' := by
 induction k using Nat.strongRecOn with
 | _ k ih =>
 intro a0 r w h
 cases k with
 | zero => exact absurd h (by simp [spec_l1digits.f])
 | succ k =>
 simp only [spec_l1digits.f] at h
 have HB := ak (Below.refl w.heap.size w)
 have H : (if a0 < 10 then (some (([(wrap64 (48 + a0)) % 256] : List Int))) else ((spec_l1digits.f k (wrap64 (Int.tdiv a0 10))).bind fun t104 => (if t104.length < 140737488355328 then (some (t104 ++ [(wrap64 (48 + (Int.tmod a0 10))) % 256])) else (none)))) = some r := h
 clear h
 replace H := ip H
 obtain ⟨c2b0, H⟩ | ⟨c2b0, H⟩ := H
 ·obtain ⟨y101, hy101⟩ : ∃ y_ : List Int, y_ = (([(wrap64 (48 + a0)) % 256] : List Int)) := ⟨_, rfl⟩
  (try with_reducible replace H := bnS H)
  (try rw [← hy101] at H)
  have Ny101 := ak hy101
  clear hy101
  obtain rfl := Option.some.inj H
  go_enter Tryd.func70, Tryd.ntmps70
  go_wp2_with (((with_reducible refine gate_dst (N := 8) rfl ?_);refine Kd.R_lit (Kd.int .u8) _ 5 ?hg (N := 8) ?hd (xs := ([(wrap64 (48 + a0)) % 256] : List Int)) (inner := [.int .u8 ((wrap64 (48 + a0)) % 256)]) (ok := fun _ => True) (okp := fun _ => True) ?hr ?hp (fun _ hk => hk) trivial (Below.refl _ _) (Nat.le_refl _) (by simp) ?_;(case hd => rfl);(case hg => rfl);(case hr => first | (go_simp; done) | (go_simp; rfl));(case hp => exact (Reps.one (show Kd.M (Kd.int .u8) _ _ _ ((wrap64 (48 + a0)) % 256) [.int .u8 ((wrap64 (48 + a0)) % 256)] from rfl) (Reps.none _ _)));intro v102 w3 ho4 hb hg_ hnew_;clear hg_ hnew_;(first | rw [← Ny101.out] at ho4 | (simp only [Int.reduceToNat] at ho4; rw [← Ny101.out] at ho4));have HO103 := ak (Kd.R_lower ho4 (below_size (bw HB.out)));replace HB := b2 HB hb;clear hb ho4))
  go_ret
  exact ⟨_, o1, rw_ HO103.out, bw HB.out⟩
 ·replace H := bnd H
  obtain ⟨t104, A5, H⟩ := H
  by_cases c6 : t104.length < 140737488355328
  ·rw [if_pos c6] at H
   have LMc6 := ak c6
   clear c6
   obtain ⟨y107, hy107⟩ : ∃ y_ : List Int, y_ = (t104 ++ [(wrap64 (48 + (Int.tmod a0 10))) % 256]) := ⟨_, rfl⟩
   (try with_reducible replace H := bnS H)
   (try rw [← hy107] at H)
   have Ny107 := ak hy107
   clear hy107
   obtain rfl := Option.some.inj H
   go_enter Tryd.func70, Tryd.ntmps70
   go_wp2_with (first | ((with_reducible refine gate_callee (f := 70) rfl ?_);refine goesL_ (some 11) rfl rfl Tryd.func70 (by kernel_rfl) rfl #[.int .i64 (wrap64 (Int.tdiv a0 10))] rfl (by (try simp only [List.map_toArray, List.map_cons, List.map_nil]); first | done | rfl | (simp only [List.length_drop, List.length_take]; rfl)) ?_;(with_reducible refine (ih k (by omega) (wrap64 (Int.tdiv a0 10)) t104 _ A5.out).mono ?_);rintro e w7 ⟨v105, rfl, ho0, hb⟩;refine ⟨_, rfl, ?_⟩;have HO106 := ak (Kd.R_lower ho0 (below_size (bw HB.out)));replace HB := b2 HB hb;(try clear hb);(try clear ho0)) | ((with_reducible refine gate_builtin (b := .append) (xs := #[.tmp 11, .tmp 16]) rfl ?_);at_builtin;refine Kd.R_append (Kd.int .u8) (w0 := w) w.heap.size rfl (.tmp 11) (.tmp 16) 22 5 (.int .u8 0) 1 rfl Tryd.underlying22 info5 rfl (by decide) (by omega) v105 t104 ((wrap64 (48 + (Int.tmod a0 10))) % 256) [.int .u8 ((wrap64 (48 + (Int.tmod a0 10))) % 256)] (fun _ => True) (fun _ => False) rfl rfl ?aP (fun _ hk => hk.elim) ?aF ?aO ?aB ?aS ?aL ?_;(case aP => exact rfl);(case aB => exact (bw HB.out));(case aF => exact (fun _ _ => trivial));(case aO => exact (rw_ HO106.out));(case aS => exact (below_size (bw HB.out)));(case aL => have := LMc6.out; omega);intro v108 w8 ho hb hg hat;rw [← Ny107.out] at ho;replace HB := ak (hb);have HO109 := ak (ho);clear HO106;clear ho hb hg hat))
   go_ret
   exact ⟨_, o1, rw_ HO109.out, bw HB.out⟩
  ·rw [if_neg c6] at H
   exact absurd H (by simp)

/-! ### spec_l3type: function 88 -/
/-! ### spec_l3named: function 89 -/
/-! ### spec_l3hex: function 90 -/
/-! ### spec_l1dotted: function 36 -/
def spec_l1dotted.l0 : Nat → Int → List Int → Int → Option (List Int)
 | 0, _, _, _ => none
 | k + 1, x0, x3, x4 => if x4 ≥ 0 then (if 0 ≤ (wrap64 (8 * x4)) then ((spec_l1digits.f k (Go.bits .and .i64 (shr .i64 x0 (wrap64 (8 * x4))) 255)).bind fun t101 => (if x3.length + t101.length < 140737488355328 then ((some (x3 ++ t101 : List Int)).bind fun y104 => (if x4 > 0 then (if y104.length < 140737488355328 then (spec_l1dotted.l0 k x0 (y104 ++ [46]) (wrap64 (x4 - 1))) else (none)) else (spec_l1dotted.l0 k x0 y104 (wrap64 (x4 - 1))))) else (none))) else (none)) else (some x3)
def spec_l1dotted.f (k : Nat) (a0 : Int) : Option (List Int) := spec_l1dotted.l0 k a0 ([] : List Int) 3
set_option maxHeartbeats 8000000 in
set_option maxRecDepth 100000 in
theorem spec_l1dotted.calls (k : Nat) (a0 : Int) (r : List Int) (w : World) (h : spec_l1dotted.f k a0 = some r) :
  Calls Tryd.prog 36 #[.int .i64 a0] w fun e w' => ∃ v0_ : Value, e = .returned (v0_) ∧ Kd.R (Kd.int .u8) 5 w' w.heap.size (fun _ => True) v0_ r ∧ Below w.heap.size w w' := by
 have HB := ak (Below.refl w.heap.size w)
 have H : (spec_l1dotted.l0 k a0 ([] : List Int) 3) = some r := h
 clear h
 have H' := ak H
 clear H
 go_enter Tryd.func36, Tryd.ntmps36
 go_wp2
 go_loopg [3, 4] k (fun kq v3 v4 w' => ∃ (x3_1 : List Int) (x4_1 : Int), v4 = .int .i64 x4_1 ∧ Aside0 (spec_l1dotted.l0 kq a0 x3_1 x4_1 = some r) ∧ Aside0 (kq ≤ k) ∧ Aside0 (Kd.R (Kd.int .u8) 5 w' w.heap.size (fun _ => True) v3 x3_1) ∧ Aside0 (Below w.heap.size w w'))
 case atStart => exact ⟨(([] : List Int)), (3), o2, H', ⟨Nat.le_refl _⟩, ⟨by first | exact Kd.R_nil _ _ _ _ _ | exact Kd.N_nil _ _ _ _ _ | exact Kd.V_nil _ _ _ _ _ | exact Kd.Q_nil _ _ _ _ _ | exact Kd.S_nil _ _ _ _ _⟩, ⟨bw HB.out⟩⟩
 case round =>
  clear H'
  obtain ⟨x3_1, x4_1, rfl, HA, HK1, HO_3, HB⟩ := hrel
  cases gk with
  | zero => exact absurd HA.out (by simp [spec_l1dotted.l0])
  | succ k1 =>
   have H := HA.out
   clear HA
   simp only [spec_l1dotted.l0] at H
   replace H := ih H
   obtain ⟨c2b0, H⟩ | ⟨c2b0, H⟩ := H
   ·obtain ⟨ji3, hji3⟩ : ∃ j_ : Int, (wrap64 (8 * x4_1)) = j_ := ⟨_, rfl⟩
    (first | rw [hji3] at H | simp only [hji3] at H)
    have hji3w : (IntKind.i64.wrap (8 * x4_1)) = ji3 := (i64_w _).trans hji3
    replace H := ipE H
    obtain ⟨c4b0, c4b1, H⟩ := H
    obtain ⟨ji5, hji5⟩ : ∃ j_ : Int, (shr .i64 a0 (ji3)) = j_ := ⟨_, rfl⟩
    (first | rw [hji5] at H | simp only [hji5] at H)
    have hji5_ : (a0 / 2 ^ min (ji3).toNat 64) = ji5 := hji5
    have hji5z : (ji3) ≤ 64 → (a0 / 2 ^ (ji3).toNat) = ji5 := shr_small hji5
    replace H := bnd H
    obtain ⟨t101, A6, H⟩ := H
    by_cases c7 : x3_1.length + t101.length < 140737488355328
    ·rw [if_pos c7] at H
     have LMc7 := ak c7
     clear c7
     obtain ⟨y104, hy104⟩ : ∃ y_ : List Int, y_ = (x3_1 ++ t101) := ⟨_, rfl⟩
     (try with_reducible replace H := bnS H)
     (try rw [← hy104] at H)
     have Ny104 := ak hy104
     clear hy104
     replace H := ig H
     obtain ⟨c8b0, H⟩ | ⟨c8b0, H⟩ := H
     ·by_cases c9 : y104.length < 140737488355328
      ·rw [if_pos c9] at H
       have LMc9 := ak c9
       clear c9
       obtain ⟨y107, hy107⟩ : ∃ y_ : List Int, y_ = (y104 ++ [46]) := ⟨_, rfl⟩
       (try with_reducible replace H := bnS H)
       (try rw [← hy107] at H)
       have Ny107 := ak hy107
       clear hy107
       have H' := ak H
       clear H
       go_wp2_with (first | ((with_reducible refine gate_callee (f := 70) rfl ?_);refine goesL_ (some 15) rfl rfl Tryd.func70 (by kernel_rfl) rfl #[.int .i64 (Go.bits .and .i64 (ji5) 255)] rfl (by (try simp only [List.map_toArray, List.map_cons, List.map_nil]); first | done | (simp only [hji5]; rfl) | rfl | (simp only [List.length_drop, List.length_take]; rfl)) ?_;(with_reducible refine (spec_l1digits.calls k1 (Go.bits .and .i64 (ji5) 255) t101 _ A6.out).mono ?_);rintro e w10 ⟨v102, rfl, ho0, hb⟩;refine ⟨_, rfl, ?_⟩;have HO103 := ak (Kd.R_lower (Kd.R_new' ho0 (Kd.R_lt (rw_ HO_3.out))) (below_size (bw HB.out)));replace HO_3 := ak (Kd.R_elder' (rw_ HO_3.out) (Kd.R_base ho0) hb);replace HB := b2 HB hb;(try clear hb);(try clear ho0);obtain ⟨Ao12, co12, eo12⟩ := Kd.R_slice HO103.out;subst eo12) | ((with_reducible refine gate_builtin (b := .append) (xs := #[.tmp 9, .tmp 15]) rfl ?_);at_builtin;refine Kd.R_append_rows (Kd.int .u8) (w0 := w) w.heap.size rfl (.tmp 9) (.tmp 15) 22 5 (.int .u8 0) 1 rfl Tryd.underlying22 info5 rfl (by decide) (by omega) u3 x3_1 t101 _ _ _ (fun k_ => some k_ ≠ (.slice Ao12 t101.length co12 : Value).ownBlock) (fun _ => False) rfl rfl ?aO ?aR (fun _ _ h => h) (fun _ h => h.elim) ?aF ?aB ?aS ?aL ?_;(case aR => repeat (first | exact (Kd.R_reads' HO103.out).2.2 | (with_reducible refine Kd.C_alloc ?_ _) | (with_reducible refine Kd.C_drewN ?_ _) | (with_reducible refine Kd.C_drew ?_)));(case aB => exact (bw HB.out));(case aF => exact (fun k_ hk => Kd.fresh' (Kd.R_lt (rw_ HO103.out)) k_ hk));(case aO => exact (rw_ (Kd.R_mono HO_3.out (fun _ hk => hk.2))));(case aS => exact (below_size (bw HB.out)));(case aL => have := LMc7.out; omega);intro v105 w11 ho hb hg hat;rw [← Ny104.out] at ho;replace HO103 := ak (Kd.R_after (ok := (fun _ => True)) (rw_ HO103.out) hg hat);replace HB := ak (hb);have HO106 := ak (ho);clear HO_3;clear ho hb hg hat) | ((with_reducible refine gate_builtin (b := .append) (xs := #[.tmp 19, .tmp 20]) rfl ?_);at_builtin;refine Kd.R_append (Kd.int .u8) (w0 := w) w.heap.size rfl (.tmp 19) (.tmp 20) 22 5 (.int .u8 0) 1 rfl Tryd.underlying22 info5 rfl (by decide) (by omega) v105 y104 46 [.int .u8 46] (fun k_ => some k_ ≠ (.slice Ao12 t101.length co12 : Value).ownBlock) (fun _ => False) rfl rfl ?aP (fun _ hk => hk.elim) ?aF ?aO ?aB ?aS ?aL ?_;(case aP => exact rfl);(case aB => exact (bw HB.out));(case aF => exact (fun k_ hk => Kd.fresh' (Kd.R_lt (rw_ HO103.out)) k_ hk));(case aO => exact (rw_ HO106.out));(case aS => exact (below_size (bw HB.out)));(case aL => have := LMc9.out; omega);intro v108 w13 ho hb hg hat;rw [← Ny107.out] at ho;replace HO103 := ak (Kd.R_after (ok := (fun _ => True)) (rw_ HO103.out) hg hat);replace HB := ak (hb);have HO109 := ak (ho);clear HO106;clear ho hb hg hat))
       go_roundg k1
       case measure => have := HK1.out; omega
       case rel => exact ⟨(y107), (wrap64 (x4_1 - 1)), o2, H', ⟨by have := HK1.out; omega⟩, ⟨by (with_reducible repeat (first | apply Kd.R_alloc | apply Kd.R_drewN | apply Kd.R_drew)); exact Kd.R_mono HO109.out (fun _ hk => trivial)⟩, ⟨bw HB.out⟩⟩
      ·rw [if_neg c9] at H
       exact absurd H (by simp)
     ·have H' := ak H
      clear H
      go_wp2_with (first | ((with_reducible refine gate_callee (f := 70) rfl ?_);refine goesL_ (some 15) rfl rfl Tryd.func70 (by kernel_rfl) rfl #[.int .i64 (Go.bits .and .i64 (ji5) 255)] rfl (by (try simp only [List.map_toArray, List.map_cons, List.map_nil]); first | done | (simp only [hji5]; rfl) | rfl | (simp only [List.length_drop, List.length_take]; rfl)) ?_;(with_reducible refine (spec_l1digits.calls k1 (Go.bits .and .i64 (ji5) 255) t101 _ A6.out).mono ?_);rintro e w14 ⟨v102, rfl, ho0, hb⟩;refine ⟨_, rfl, ?_⟩;have HO103 := ak (Kd.R_lower (Kd.R_new' ho0 (Kd.R_lt (rw_ HO_3.out))) (below_size (bw HB.out)));replace HO_3 := ak (Kd.R_elder' (rw_ HO_3.out) (Kd.R_base ho0) hb);replace HB := b2 HB hb;(try clear hb);(try clear ho0);obtain ⟨Ao16, co16, eo16⟩ := Kd.R_slice HO103.out;subst eo16) | ((with_reducible refine gate_builtin (b := .append) (xs := #[.tmp 9, .tmp 15]) rfl ?_);at_builtin;refine Kd.R_append_rows (Kd.int .u8) (w0 := w) w.heap.size rfl (.tmp 9) (.tmp 15) 22 5 (.int .u8 0) 1 rfl Tryd.underlying22 info5 rfl (by decide) (by omega) u3 x3_1 t101 _ _ _ (fun k_ => some k_ ≠ (.slice Ao16 t101.length co16 : Value).ownBlock) (fun _ => False) rfl rfl ?aO ?aR (fun _ _ h => h) (fun _ h => h.elim) ?aF ?aB ?aS ?aL ?_;(case aR => repeat (first | exact (Kd.R_reads' HO103.out).2.2 | (with_reducible refine Kd.C_alloc ?_ _) | (with_reducible refine Kd.C_drewN ?_ _) | (with_reducible refine Kd.C_drew ?_)));(case aB => exact (bw HB.out));(case aF => exact (fun k_ hk => Kd.fresh' (Kd.R_lt (rw_ HO103.out)) k_ hk));(case aO => exact (rw_ (Kd.R_mono HO_3.out (fun _ hk => hk.2))));(case aS => exact (below_size (bw HB.out)));(case aL => have := LMc7.out; omega);intro v105 w15 ho hb hg hat;rw [← Ny104.out] at ho;replace HO103 := ak (Kd.R_after (ok := (fun _ => True)) (rw_ HO103.out) hg hat);replace HB := ak (hb);have HO106 := ak (ho);clear HO_3;clear ho hb hg hat))
      go_roundg k1
      case measure => have := HK1.out; omega
      case rel => exact ⟨(y104), (wrap64 (x4_1 - 1)), o2, H', ⟨by have := HK1.out; omega⟩, ⟨by (with_reducible repeat (first | apply Kd.R_alloc | apply Kd.R_drewN | apply Kd.R_drew)); exact Kd.R_mono HO106.out (fun _ hk => trivial)⟩, ⟨bw HB.out⟩⟩
    ·rw [if_neg c7] at H
     exact absurd H (by simp)
   ·obtain rfl := Option.some.inj H
    go_wp2
    go_ret
    exact ⟨_, o1, rw_ HO_3.out, bw HB.out⟩

theorem stepR {c : Prop} [Decidable c] {A B E : Prop} (hc : c) (h : if c then A else B) : if c then A else E := by rw [if_pos hc] at h ⊢; exact h
/-! ### spec_l1Once: function 58 -/
def spec_l1Once.f (s0_0 : List Int) (s0_1 : Int) (s0_2 : Int) (a1 : Int) : Option (Bool × Int × Int) := (spec_l1Below.f s0_0 s0_1 s0_2 a1).bind fun bt101 => (some ((bt101.1 == 0), bt101.2.1, bt101.2.2))
set_option maxHeartbeats 8000000 in
set_option maxRecDepth 100000 in
theorem spec_l1Once.calls (g : Nat) (s0_0 : List Int) (s0_1 : Int) (s0_2 : Int) (a1 : Int) (r1 : Bool) (r2 : Int) (r3 : Int) (w0 w : World) (hI : IsS94 w0 w g s0_0 s0_1 s0_2) (hB : Below w0.heap.size w0 w) (h : spec_l1Once.f s0_0 s0_1 s0_2 a1 = some (r1, r2, r3)) :
  Calls Tryd.prog 58 #[.pointer (some ⟨g, 0, none⟩), .int .i64 a1] w fun e w' => e = .returned (.bool r1) ∧ IsS94 w0 w' g s0_0 r2 r3 ∧ Below w0.heap.size w0 w' ∧ KeepBut w w' g none := by
 have HI0 := ak hI
 have HK := ak (KeepBut.refl w g none)
 have HL := ak hB.size
 clear hI
 have HW0 := ak hB.size
 have HB := ak hB
 clear hB
 have H : ((spec_l1Below.f s0_0 s0_1 s0_2 a1).bind fun bt101 => (some ((bt101.1 == 0), bt101.2.1, bt101.2.2))) = some (r1, r2, r3) := h
 clear h
 replace H := Option.bind_eq_some_iff.mp H
 obtain ⟨⟨t101, t102, t103⟩, A30, H⟩ := H
 replace H : (some ((t101 == 0), t102, t103)) = some (r1, r2, r3) := H
 have A3 := ak A30
 clear A30
 simp only [Option.some.injEq, Prod.mk.injEq] at H
 obtain ⟨rfl, rfl, rfl⟩ := H
 go_enter Tryd.func58, Tryd.ntmps58
 go_wp2_with (((with_reducible refine gate_callee (f := 57) rfl ?_);refine glG 7 rfl rfl Tryd.func57 (spec_l1Below.calls g s0_0 s0_1 s0_2 a1 t101 t102 t103 w0 _ ?side1 ?side2 A3.out) ?_;(case side1 => repeat (first | (with_reducible first | exact HI0.out | apply IsS94.alloc | apply IsS94.drewN | apply IsS94.drew | apply IsS94.set_1 | apply IsS94.set_2) | exact HI0.out));(case side2 => repeat (first | (with_reducible first | exact HB.out | apply below_alloc | apply pw_below_drewN | apply below_drew1 | refine below_set ?_ (IsS94.ge HI0.out)) | exact HB.out));rintro e w4 ⟨rfl, hi, hb, hk⟩;refine ⟨_, rfl, ?_⟩;replace HK := ak (KeepBut.trans (by repeat (first | (with_reducible first | exact HK.out | apply KeepBut.set_ | apply keep_drewN | apply keep_drew | apply keep_alloc) | exact HK.out)) hk (.inl rfl));replace HB := ak (hb);replace HI0 := ak (hi);(try clear hb);(try clear hb2);(try clear hk);(try clear hi)))
 go_ret
 exact ⟨o1, by repeat (first | (with_reducible first | exact HI0.out | apply IsS94.alloc | apply IsS94.drewN | apply IsS94.drew | apply IsS94.set_1 | apply IsS94.set_2) | exact HI0.out), by repeat (first | (with_reducible first | exact HB.out | apply below_alloc | apply pw_below_drewN | apply below_drew1 | refine below_set ?_ (IsS94.ge HI0.out)) | exact HB.out), by repeat (first | (with_reducible first | exact HK.out | apply KeepBut.set_ | apply keep_drewN | apply keep_drew | apply keep_alloc) | exact HK.out)⟩

/-- What impl.DottedRead tells, of rows that a law hands it. -/
def impl_DottedRead.f (l0 : List Int) : Option (Int × Bool) := if l0.length ≤ 1048576 ∧ ∀ x ∈ l0, 0 ≤ x ∧ x ≤ 255 then some (readV l0) else none
theorem impl_DottedRead.calls (A0 : Option Addr) (c0 : Nat) (l0 : List Int) (r1 : Int) (r2 : Bool) (w : World) (hr0 : Kd.C (Kd.int .u8) w A0 l0.length l0) (hc0 : l0.length ≤ c0) (h : impl_DottedRead.f l0 = some (r1, r2)) (hE : EnvR w) :
    Calls Tryd.prog 20 #[.slice A0 l0.length c0] w fun e w' => e = .returned (.tuple #[.int .i64 r1, .bool r2]) ∧ Below w.heap.size w w' := by
  unfold impl_DottedRead.f at h
  split at h
  case isTrue g =>
    have e := Option.some.inj h
    refine (dottedread_any A0 c0 l0 w hr0 hc0 g.1 g.2 hE).mono ?_
    rintro e' w' ⟨rfl, hb⟩
    rw [e]
    exact ⟨rfl, hb⟩
  case isFalse => exact absurd h (by simp)
theorem R_empty (W : World) (base : Nat) (h : base ≤ W.heap.size) : Kd.R (Kd.int .u8) 5 (W.alloc (.cells #[] 5)) base (fun _ => True) (.slice (some ⟨W.heap.size, 0, none⟩) 0 0) [] := by
  refine ⟨fun _ _ => trivial, [], ?_, Reps.none _ _⟩
  exact World.ownsRow_lit (base := base) (e := 5) (size := 1) W #[] 0 h (by decide) (by simp)
theorem w64c_ {x : Int} (h1 : -9223372036854775808 ≤ x) (h2 : x ≤ 9223372036854775807) : wrap64 x = x := by unfold wrap64; omega
/-- The texts that a drawn address may be spoilt with. -/
def words6 : List ByteArray := [⟨#[48]⟩, ⟨#[46]⟩, ⟨#[57]⟩, ⟨#[120]⟩, ⟨#[32]⟩, ⟨#[50, 53, 54]⟩]
def spec_DrawDottedRead.f (k : Nat) (l0 : List Int) : Option (List Int) :=
  (spec_l1New.f k l0).bind fun c => (spec_l1Below.f c.1 c.2.1 c.2.2 1073741824).bind fun n => (spec_l1dotted.f k n.1).bind fun b => (spec_l1Once.f c.1 n.2.1 n.2.2 3).bind fun o =>
    if b.length ≤ 1000 then
      (if o.1 = true then (spec_l1Below.f c.1 o.2.1 o.2.2 ((b.length : Int) + 1)).bind fun i => (spec_l1Below.f c.1 i.2.1 i.2.2 6).bind fun j =>
        if 0 ≤ i.1 ∧ i.1 ≤ (b.length : Int) ∧ 0 ≤ j.1 ∧ j.1 < 6 then some (b.take i.1.toNat ++ bytesOf (words6.getD j.1.toNat ByteArray.empty) ++ b.drop i.1.toNat) else none
       else some b) else none
set_option maxHeartbeats 8000000 in
set_option maxRecDepth 100000 in
theorem spec_DrawDottedRead.calls (k : Nat) (A0 : Option Addr) (c0 : Nat) (l0 : List Int) (r : List Int) (w : World) (hr0 : Kd.C (Kd.int .u8) w A0 l0.length l0) (hc0 : l0.length ≤ c0) (h : spec_DrawDottedRead.f k l0 = some r) :
    Calls Tryd.prog 26 #[.slice A0 l0.length c0] w fun e w' => ∃ v0_ : Value, e = .returned (v0_) ∧ Kd.R (Kd.int .u8) 5 w' w.heap.size (fun _ => True) v0_ r ∧ Below w.heap.size w w' := by
  have HR := ak hr0
  have HC := ak hc0
  unfold spec_DrawDottedRead.f at h
  obtain ⟨⟨s, i0, hh⟩, h1, h⟩ := Option.bind_eq_some_iff.1 h
  obtain ⟨⟨n, i1, hh1⟩, h2, h⟩ := Option.bind_eq_some_iff.1 h
  obtain ⟨b, h3, h⟩ := Option.bind_eq_some_iff.1 h
  obtain ⟨⟨o, i2, hh2⟩, h4, h⟩ := Option.bind_eq_some_iff.1 h
  have H1 := ak h1
  have H2 := ak h2
  have H3 := ak h3
  have H4 := ak h4
  have LB := ak (show b.length ≤ 1000 by by_cases g : b.length ≤ 1000; exact g; rw [if_neg g] at h; cases h)
  rw [if_pos LB.out] at h
  have HH := ak h
  clear hr0 hc0 h1 h2 h3 h4 h
  go_enter Tryd.func26, Tryd.ntmps26
  go_wp2_with (fail)
  refine (spec_l1New.calls k A0 c0 l0 s i0 hh w _ ?side1 HR.out HC.out H1.out).mono ?_
  case side1 => exact Below.refl _ _
  rintro e w1 ⟨g, rfl, hi, hb, _⟩
  have HI := ak hi
  have HB := ak hb
  clear hi hb
  go_wp2_with (fail)
  refine (spec_l1Below.calls g s i0 hh 1073741824 n i1 hh1 w w1 HI.out HB.out H2.out).mono ?_
  rintro e w2 ⟨rfl, hi, hb, _⟩
  replace HI := ak hi
  replace HB := ak hb
  clear hi hb
  go_wp2_with (fail)
  refine (spec_l1dotted.calls k n b w2 H3.out).mono ?_
  rintro e w3 ⟨v3, rfl, ho, hb⟩
  replace HI := ak (IsS94.below HI.out hb)
  have HO := ak (Kd.R_lower ho (below_size HB.out))
  replace HB := b2s HB.out hb
  clear ho hb
  go_wp2_with (fail)
  refine (spec_l1Once.calls g s i1 hh1 3 o i2 hh2 w w3 HI.out HB.out H4.out).mono ?_
  rintro e w4 ⟨rfl, hi, hb, hk⟩
  replace HO := ak (Kd.R_mono (Kd.R_keep (IsS94.apart HI.out HO.out (by decide)) hk (fun _ h => h.2)) (fun _ h => h.1))
  replace HI := ak hi
  replace HB := ak hb
  clear hi hb hk
  obtain ⟨A3, c3, e3⟩ := Kd.R_slice HO.out
  subst e3
  cases o with
  | false =>
    obtain rfl := Option.some.inj (show some b = some r from HH.out)
    go_wp2_with (fail)
    go_ret
    exact ⟨_, rfl, HO.out, HB.out⟩
  | true =>
    obtain ⟨⟨i, i3, hh3⟩, h5, h⟩ := Option.bind_eq_some_iff.1 (show ((spec_l1Below.f s i2 hh2 ((b.length : Int) + 1)).bind fun i => (spec_l1Below.f s i.2.1 i.2.2 6).bind fun j =>
        if 0 ≤ i.1 ∧ i.1 ≤ (b.length : Int) ∧ 0 ≤ j.1 ∧ j.1 < 6 then some (b.take i.1.toNat ++ bytesOf (words6.getD j.1.toNat ByteArray.empty) ++ b.drop i.1.toNat) else none) = some r from HH.out)
    obtain ⟨⟨j, i4, hh4⟩, h6, h⟩ := Option.bind_eq_some_iff.1 h
    have gg : 0 ≤ i ∧ i ≤ (b.length : Int) ∧ 0 ≤ j ∧ j < 6 := by
      by_cases g : 0 ≤ i ∧ i ≤ (b.length : Int) ∧ 0 ≤ j ∧ j < 6
      · exact g
      · rw [if_neg g] at h; cases h
    have h := Option.some.inj ((if_pos gg).symm.trans h)
    have H5 := ak h5
    have H6 := ak h6
    have HE := ak h
    have GG := ak gg
    clear HH h5 h6 h gg
    have hwb : wrap64 ((b.length : Int) + 1) = (b.length : Int) + 1 := by have := LB.out; exact w64c_ (by omega) (by omega)
    go_wp2_with (fail)
    refine (spec_l1Below.calls g s i2 hh2 ((b.length : Int) + 1) i i3 hh3 w w4 HI.out HB.out H5.out).mono ?_
    rintro e w5 ⟨rfl, hi, hb, hk⟩
    replace HO := ak (Kd.R_mono (Kd.R_keep (IsS94.apart HI.out HO.out (by decide)) hk (fun _ h => h.2)) (fun _ h => h.1))
    replace HI := ak hi
    replace HB := ak hb
    clear hi hb hk
    go_upto_region 5 with (fail)
    go_cut [6] (fun s6 wx => s6 = .string (words6.getD j.toNat ByteArray.empty) ∧ Aside0 (Kd.R (Kd.int .u8) 5 wx w.heap.size (fun _ => True) (.slice A3 b.length c3) b) ∧ Aside0 (Below w.heap.size w wx))
    case first =>
      obtain ⟨W5, hW5⟩ : ∃ W, W = w5.alloc (.cells #[.string ⟨#[48]⟩, .string ⟨#[46]⟩, .string ⟨#[57]⟩, .string ⟨#[120]⟩, .string ⟨#[32]⟩, .string ⟨#[50, 53, 54]⟩] 9) := ⟨_, rfl⟩
      have hnew : W5.heap[w5.heap.size]? = some (.cells #[.string ⟨#[48]⟩, .string ⟨#[46]⟩, .string ⟨#[57]⟩, .string ⟨#[120]⟩, .string ⟨#[32]⟩, .string ⟨#[50, 53, 54]⟩] 9 (0, 0)) := by rw [hW5]; exact heap_alloc_new _ _
      have hb5 : Below w5.heap.size w5 W5 := by rw [hW5]; exact below_alloc (Below.refl _ _) _
      have HG := ak (show g < w5.heap.size by obtain ⟨_, _, h, _, _⟩ := HI.out; exact (Array.getElem?_eq_some_iff.1 h).1)
      replace HO := ak (Kd.R_below HO.out hb5)
      replace HI := ak (IsS94.below HI.out hb5)
      replace HB := b2s HB.out hb5
      have HN := ak hnew
      go_wp2_with (fail)
      rw [← hW5]
      clear hW5 hb5 hnew
      refine (spec_l1Below.calls g s i3 hh3 6 j i4 hh4 w W5 HI.out HB.out H6.out).mono ?_
      rintro e w6 ⟨rfl, hi, hb, hk⟩
      replace HO := ak (Kd.R_mono (Kd.R_keep (IsS94.apart HI.out HO.out (by decide)) hk (fun _ h => h.2)) (fun _ h => h.1))
      replace HB := ak hb
      have hne : w5.heap.size ≠ g := by have := HG.out; omega
      have x0 := keep_cell hk ((blk_cell HN.out 0).trans rfl) hne
      have x1 := keep_cell hk ((blk_cell HN.out 1).trans rfl) hne
      have x2 := keep_cell hk ((blk_cell HN.out 2).trans rfl) hne
      have x3 := keep_cell hk ((blk_cell HN.out 3).trans rfl) hne
      have x4 := keep_cell hk ((blk_cell HN.out 4).trans rfl) hne
      have x5 := keep_cell hk ((blk_cell HN.out 5).trans rfl) hne
      clear hi hb hk hne
      obtain rfl | rfl | rfl | rfl | rfl | rfl : j = 0 ∨ j = 1 ∨ j = 2 ∨ j = 3 ∨ j = 4 ∨ j = 5 := by have := GG.out; omega
      all_goals
        go_wp2_with (fail)
        go_meet
        exact ⟨rfl, HO, HB⟩
    case rest =>
      obtain ⟨rfl, HO, HB⟩ := hcut
      go_upto_region 6 with (fail)
      obtain ⟨iN, rfl⟩ : ∃ m : Nat, i = (m : Int) := ⟨i.toNat, by have := GG.out; omega⟩
      have HIN := ak (show iN ≤ b.length by have := GG.out; omega)
      obtain ⟨S, hS⟩ : ∃ S, S = words6.getD j.toNat ByteArray.empty := ⟨_, rfl⟩
      have HSS := ak (show S.size ≤ 3 by
        rw [hS]
        obtain rfl | rfl | rfl | rfl | rfl | rfl : j = 0 ∨ j = 1 ∨ j = 2 ∨ j = 3 ∨ j = 4 ∨ j = 5 := by have := GG.out; omega
        all_goals decide)
      replace HE := ak (show b.take iN ++ bytesOf S ++ b.drop iN = r by rw [hS]; exact HE.out)
      rw [← hS]
      clear hS
      obtain ⟨i012, hi012, _, hsz12, _⟩ := info_parts info5
      have hroom : b.length ≤ c3 := (Kd.R_reads' HO.out).2.1
      have hCb : Kd.C (Kd.int .u8) wc A3 b.length b := (Kd.R_reads' HO.out).2.2
      have hcut1 : ∀ W : World, (Instr.slice 22 (.slice A3 b.length c3) none (some (.int .i64 (iN : Int))) none).run Tryd.prog W = .ok (.slice A3 iN c3) W := fun W => (cut_to (P := Tryd.prog) 22 5 .i64 Tryd.underlying22 hi012 A3 b.length c3 iN (by omega) (by have := HIN.out; omega) hroom W).trans (by simp)
      have hcut2 : ∀ W : World, (Instr.slice 22 (.slice A3 b.length c3) (some (.int .i64 (iN : Int))) none none).run Tryd.prog W = .ok (.slice (if c3 = iN then A3 else A3.map (·.add (iN * 1))) (b.length - iN) (c3 - iN)) W := fun W => (cut_from (P := Tryd.prog) 22 5 .i64 Tryd.underlying22 hi012 1 hsz12 A3 b.length c3 iN (by omega) (by have := HIN.out; omega) W).trans (by simp)
      have HC1 := ak (show Kd.C (Kd.int .u8) wc A3 iN (b.take iN) by have h := Kd.C_take hCb (m := iN) HIN.out; rwa [show (b.take iN).length = iN by rw [List.length_take]; have := HIN.out; omega] at h)
      have HC2 := ak (Kd.C_drop (m := iN) (c := c3) hCb HIN.out hroom)
      obtain ⟨A4, hA4⟩ : ∃ A, A = (if c3 = iN then A3 else A3.map (·.add (iN * 1))) := ⟨_, rfl⟩
      replace HC2 := ak (show Kd.C (Kd.int .u8) wc A4 (b.length - iN) (b.drop iN) by rw [hA4, ← List.length_drop]; exact HC2.out)
      rw [← hA4] at hcut2
      have BW := ak (Below.refl wc.heap.size wc)
      have LT := ak (show (b.take iN).length ≤ 1000 by have := LB.out; rw [List.length_take]; omega)
      have LD := ak (show (b.drop iN).length ≤ 1000 by have := LB.out; rw [List.length_drop]; omega)
      clear hA4 hroom hCb hsz12 hi012
      go_region_law
        (first
          | (have BW1 : Below wc.heap.size wc ((wc.alloc (.cells #[] 5)).drew) := bw BW.out; have HC1' : Kd.C (Kd.int .u8) ((wc.alloc (.cells #[] 5)).drew) A3 iN (b.take iN) := Kd.C_below HC1.out BW1; have HA0 : Kd.R (Kd.int .u8) 5 ((wc.alloc (.cells #[] 5)).drew) wc.heap.size (fun _ => True) (.slice (some ⟨wc.heap.size, 0, none⟩) 0 0) [] := rw_ (R_empty wc _ (Nat.le_refl _)); refine stepR (by simp [Region.wanted]) (Kd.R_append_rows_step (Kd.int .u8) (w0 := wc) (W := (wc.alloc (.cells #[] 5)).drew) wc.heap.size (by simp [Region.wanted]) (.tmp 24) (.tmp 27) 22 5 (.int .u8 0) 1 (by rfl) Tryd.underlying22 info5 rfl (by decide) (by omega) _ [] (b.take iN) A3 iN c3 (fun _ => True) (fun _ => False) (by rfl) (by rfl) HA0 HC1' (fun _ _ h => h) (fun _ h => h.elim) (fun _ _ => trivial) BW1 (below_size BW1) (by have := LT.out; have := HIN.out; have := LB.out; simp; omega) ?_); intro v28 w28 ho hb hg hat; replace BW := ak hb; have HA := ak ho; clear ho hb hg hat BW1 HC1' HA0)
          | (refine stepR (by simp [Region.wanted]) (R_str_step (w0 := wc) (W := w28) wc.heap.size (by simp [Region.wanted]) (.tmp 28) (.tmp 29) 22 9 5 (by rfl) Tryd.underlying22 Tryd.underlying9 info5 v28 (b.take iN) S (by rfl) (by rfl) (by exact rw_ HA.out) (by exact bw BW.out) (by exact below_size (bw BW.out)) (by have := LT.out; have := HSS.out; omega) ?_); intro v30 w30 ho hb hg; replace BW := ak hb; have HA2 := ak ho; clear ho hb hg HA)
          | (have BW3 : Below wc.heap.size wc w30 := BW.out; have HC2' : Kd.C (Kd.int .u8) w30 A4 (b.length - iN) (b.drop iN) := Kd.C_below HC2.out BW3; refine stepR (by simp [Region.wanted]) (Kd.R_append_rows_step (Kd.int .u8) (w0 := wc) (W := w30) wc.heap.size (by simp [Region.wanted]) (.tmp 30) (.tmp 33) 22 5 (.int .u8 0) 1 (by rfl) Tryd.underlying22 info5 rfl (by decide) (by omega) v30 (b.take iN ++ bytesOf S) (b.drop iN) A4 (b.length - iN) (c3 - iN) (fun _ => True) (fun _ => False) (by rfl) (by rfl) HA2.out HC2' (fun _ _ h => h) (fun _ h => h.elim) (fun _ _ => trivial) BW3 (below_size BW3) (by rw [List.length_append, bytesOf_length]; have := LT.out; have := LB.out; have := HSS.out; omega) ?_); intro v34 w34 ho hb hg hat; replace BW := ak hb; have HA3 := ak ho; clear ho hb hg hat HA2 BW3 HC2')
          | fail)
      all_goals
        go_wp2_with (fail)
        go_ret
        refine ⟨_, rfl, ?_, bw (b2s HB.out BW.out).out⟩
        rw [← HE.out]
        exact Kd.R_lower HA3.out (below_size HB.out)

/-! ### impl_Lower: function 27 -/

def impl_Lower.byte (x : Int) : Int := if 65 ≤ x ∧ x ≤ 90 then x + 97 - 65 else x
def impl_Lower.f (l0 : List Int) : Option (List Int) := if l0.length < 140737488355328 then some (l0.map impl_Lower.byte) else none
theorem impl_Lower.step (l : List Int) (i : Nat) (h : i < l.length) : (l.take i).map impl_Lower.byte ++ l.drop i = (l.take i).map impl_Lower.byte ++ rd l (i : Int) :: l.drop (i + 1) := by
 rw [List.drop_eq_getElem_cons h]; simp [rd, List.getD_eq_getElem?_getD, h]
theorem impl_Lower.next (l : List Int) (i : Nat) (h : i < l.length) : ((l.take i).map impl_Lower.byte ++ l.drop i).set i (impl_Lower.byte (rd l (i : Int))) = (l.take (i + 1)).map impl_Lower.byte ++ l.drop (i + 1) := by
 rw [impl_Lower.step l i h, List.set_append_right _ _ (by simp; omega)]
 simp only [List.length_map, List.length_take, Nat.min_eq_left (Nat.le_of_lt h), Nat.sub_self, List.set_cons_zero]
 rw [List.take_succ_eq_append_getElem h, List.map_append, List.append_assoc]
 simp only [List.map_cons, List.map_nil, List.singleton_append]
 congr 2
 simp [rd, List.getD_eq_getElem?_getD, h]
theorem impl_Lower.at (l : List Int) (i : Nat) (h : i < l.length) : rdOf (0 : Int) ((l.take i).map impl_Lower.byte ++ l.drop i) (i : Int) = rd l (i : Int) := by
 rw [impl_Lower.step l i h]
 simp only [rdOf, List.getD_eq_getElem?_getD, show ((i : Int)).toNat = i from by omega]
 rw [List.getElem?_append_right (by simp; omega)]
 simp [Nat.min_eq_left (Nat.le_of_lt h)]
theorem impl_Lower.keep (l : List Int) (i : Nat) (h : i < l.length) (hb : impl_Lower.byte (rd l (i : Int)) = rd l (i : Int)) : (l.take (i + 1)).map impl_Lower.byte ++ l.drop (i + 1) = (l.take i).map impl_Lower.byte ++ l.drop i := by
 rw [← impl_Lower.next l i h, hb, impl_Lower.step l i h, List.set_append_right _ _ (by simp; omega)]
 simp [Nat.min_eq_left (Nat.le_of_lt h)]
set_option maxHeartbeats 8000000 in
set_option maxRecDepth 100000 in
theorem impl_Lower.calls (A0 : Option Addr) (c0 : Nat) (l0 : List Int) (r : List Int) (w : World) (hr0 : Kd.C (Kd.int .u8) w A0 l0.length l0) (hc0 : l0.length ≤ c0) (h : impl_Lower.f l0 = some r) :
  Calls Tryd.prog 27 #[.slice A0 l0.length c0] w fun e w' => ∃ v0_ : Value, e = .returned (v0_) ∧ Kd.R (Kd.int .u8) 5 w' w.heap.size (fun _ => True) v0_ r ∧ Below w.heap.size w w' := by
 have HR0 := ak hr0
 have HC0 := ak hc0
 have hlm : l0.length < 140737488355328 := by
  unfold impl_Lower.f at h; split at h
  ·assumption
  ·cases h
 have hr : l0.map impl_Lower.byte = r := by
  unfold impl_Lower.f at h; rw [if_pos hlm] at h; exact Option.some.inj h
 subst hr
 clear hr0 hc0 h
 go_enter Tryd.func27, Tryd.ntmps27
 go_wp2_with (go_at_call 52; refine (bytes_Clone.calls A0 c0 l0 l0 _ HR0.out HC0.out (by unfold bytes_Clone.f; rw [if_pos hlm])).mono ?_; rintro e w' ⟨v1, rfl, ho, hb⟩; have HO := ak ho; have HB := ak hb; clear ho hb; obtain ⟨A1, c1, e1⟩ := Kd.R_slice HO.out; subst e1)
 go_loopg [10] l0.length (fun gg s10 w' => ∃ kk : Nat, kk ≤ l0.length ∧ l0.length - kk ≤ gg ∧ s10 = .int .i64 kk ∧ Aside0 (Kd.R (Kd.int .u8) 5 w' w.heap.size (fun _ => True) (.slice A1 l0.length c1) ((l0.take kk).map impl_Lower.byte ++ l0.drop kk)) ∧ Aside0 (Below w.heap.size w w'))
 case atStart => exact ⟨0, Nat.zero_le _, by omega, rfl, ⟨by simpa using HO.out⟩, HB⟩
 case round =>
  clear HO HB
  obtain ⟨kk, hkk, hg, rfl, HO, HB⟩ := hrel
  by_cases hlt : kk < l0.length
  ·have hltz : (kk : Int) < (l0.length : Int) := by omega
   have hlen : ((l0.take kk).map impl_Lower.byte ++ l0.drop kk).length = l0.length := by simp; omega
   obtain ⟨g, cp, eo, hgb, hgl, cl, hgc⟩ := Kd.R_form HO.out (by omega)
   have eA : A1 = some ⟨g, 0, none⟩ := by injection eo
   subst eA
   have GB := ak hgb
   have GL := ak hgl
   have HAT := impl_Lower.at l0 kk hlt
   obtain ⟨hcell, hfr⟩ := Kd.R_celln 0 HO.out (kk : Int) (by omega) (by omega)
   rw [HAT] at hcell
   rw [show ((kk : Int)).toNat = kk from by omega] at hcell hfr
   have HP := ak (Kd.R_putn HO.out (kk : Int) (impl_Lower.byte (rd l0 (kk : Int))))
   rw [show ((kk : Int)).toNat = kk from by omega, impl_Lower.next l0 kk hlt] at HP
   have HK := ak (impl_Lower.keep l0 kk hlt)
   clear hlen eo hgb hgl hgc HAT
   generalize rd l0 (kk : Int) = x at hcell HP HK
   by_cases h1 : 65 ≤ x
   ·by_cases h2 : x ≤ 90
    ·have hbyte : impl_Lower.byte x = x + 97 - 65 := by unfold impl_Lower.byte; rw [if_pos ⟨h1, h2⟩]
     rw [hbyte] at HP
     clear HK hbyte
     go_wp2
     go_roundg (l0.length - (kk + 1))
     case measure => omega
     case rel => exact ⟨kk + 1, by omega, by omega, by go_num, ⟨HP.out⟩, ⟨below_set HB.out GB.out⟩⟩
    ·have hbyte : impl_Lower.byte x = x := by unfold impl_Lower.byte; rw [if_neg (by omega)]
     have HK2 := ak (HK.out hbyte)
     clear hbyte HK HP
     go_wp2
     go_roundg (l0.length - (kk + 1))
     case measure => omega
     case rel => exact ⟨kk + 1, by omega, by omega, by go_num, ⟨by rw [HK2.out]; exact HO.out⟩, HB⟩
   ·have hbyte : impl_Lower.byte x = x := by unfold impl_Lower.byte; rw [if_neg (by omega)]
    have HK2 := ak (HK.out hbyte)
    clear hbyte HK HP
    go_wp2
    go_roundg (l0.length - (kk + 1))
    case measure => omega
    case rel => exact ⟨kk + 1, by omega, by omega, by go_num, ⟨by rw [HK2.out]; exact HO.out⟩, HB⟩
  ·have : kk = l0.length := by omega
   subst this
   go_wp2
   go_ret
   refine ⟨_, rfl, ?_, HB.out⟩
   have := HO.out
   rw [List.take_of_length_le (Nat.le_refl _), List.drop_of_length_le (Nat.le_refl _), List.append_nil] at this
   exact this

/-! ### impl_Take: function 28 -/
def impl_Take.f (l0 : List Int) (a1 : Int) (a2 : Int) : Option (List Int × Int) := if a1 < 0 then (some (([] : List Int), (-1))) else (if a2 < 0 then (some (([] : List Int), (-1))) else (if a1 > (l0.length : Int) then (some (([] : List Int), (-1))) else (if a2 > (wrap64 ((l0.length : Int) - a1)) then (some (([] : List Int), (-1))) else (if 0 ≤ a1 then (if a1 ≤ (wrap64 (a1 + a2)) then (if (wrap64 (a1 + a2)) ≤ (l0.length : Int) then ((bytes_Clone.f ((l0.take ((wrap64 (a1 + a2)) : Int).toNat).drop (a1 : Int).toNat)).bind fun t105 => (some (t105, wrap64 (a1 + a2)))) else (none)) else (none)) else (none)))))
set_option maxHeartbeats 8000000 in
set_option maxRecDepth 100000 in
theorem impl_Take.calls (A0 : Option Addr) (c0 : Nat) (l0 : List Int) (a1 : Int) (a2 : Int) (r1 : List Int) (r2 : Int) (w : World) (hr0 : Kd.C (Kd.int .u8) w A0 l0.length l0) (hc0 : l0.length ≤ c0) (h : impl_Take.f l0 a1 a2 = some (r1, r2)) :
  Calls Tryd.prog 28 #[.slice A0 l0.length c0, .int .i64 a1, .int .i64 a2] w fun e w' => ∃ v0_ : Value, e = .returned (.tuple #[v0_, .int .i64 r2]) ∧ Kd.R (Kd.int .u8) 5 w' w.heap.size (fun _ => True) v0_ r1 ∧ Below w.heap.size w w' := by
 have HR0 := ak hr0
 have HC0 := ak hc0
 clear hr0 hc0
 have HB := ak (Below.refl w.heap.size w)
 have H : (if a1 < 0 then (some (([] : List Int), (-1))) else (if a2 < 0 then (some (([] : List Int), (-1))) else (if a1 > (l0.length : Int) then (some (([] : List Int), (-1))) else (if a2 > (wrap64 ((l0.length : Int) - a1)) then (some (([] : List Int), (-1))) else (if 0 ≤ a1 then (if a1 ≤ (wrap64 (a1 + a2)) then (if (wrap64 (a1 + a2)) ≤ (l0.length : Int) then ((bytes_Clone.f ((l0.take ((wrap64 (a1 + a2)) : Int).toNat).drop (a1 : Int).toNat)).bind fun t105 => (some (t105, wrap64 (a1 + a2)))) else (none)) else (none)) else (none)))))) = some (r1, r2) := h
 clear h
 replace H := ip H
 obtain ⟨c4b0, H⟩ | ⟨c4b0, H⟩ := H
 ·simp only [Option.some.injEq, Prod.mk.injEq] at H
  obtain ⟨rfl, rfl⟩ := H
  go_enter Tryd.func28, Tryd.ntmps28
  go_wp2
  go_ret2
  exact ⟨_, o1, by first | exact Kd.R_nil _ _ _ _ _ | exact Kd.N_nil _ _ _ _ _ | exact Kd.V_nil _ _ _ _ _ | exact Kd.Q_nil _ _ _ _ _ | exact Kd.S_nil _ _ _ _ _, bw HB.out⟩
 ·replace H := ip H
  obtain ⟨c5b0, H⟩ | ⟨c5b0, H⟩ := H
  ·simp only [Option.some.injEq, Prod.mk.injEq] at H
   obtain ⟨rfl, rfl⟩ := H
   go_enter Tryd.func28, Tryd.ntmps28
   go_wp2
   go_ret2
   exact ⟨_, o1, by first | exact Kd.R_nil _ _ _ _ _ | exact Kd.N_nil _ _ _ _ _ | exact Kd.V_nil _ _ _ _ _ | exact Kd.Q_nil _ _ _ _ _ | exact Kd.S_nil _ _ _ _ _, bw HB.out⟩
  ·replace H := ig H
   obtain ⟨c6b0, H⟩ | ⟨c6b0, H⟩ := H
   ·simp only [Option.some.injEq, Prod.mk.injEq] at H
    obtain ⟨rfl, rfl⟩ := H
    go_enter Tryd.func28, Tryd.ntmps28
    go_wp2
    go_ret2
    exact ⟨_, o1, by first | exact Kd.R_nil _ _ _ _ _ | exact Kd.N_nil _ _ _ _ _ | exact Kd.V_nil _ _ _ _ _ | exact Kd.Q_nil _ _ _ _ _ | exact Kd.S_nil _ _ _ _ _, bw HB.out⟩
   ·replace H := ig H
    obtain ⟨c7b0, H⟩ | ⟨c7b0, H⟩ := H
    ·simp only [Option.some.injEq, Prod.mk.injEq] at H
     obtain ⟨rfl, rfl⟩ := H
     go_enter Tryd.func28, Tryd.ntmps28
     go_wp2
     go_ret2
     exact ⟨_, o1, by first | exact Kd.R_nil _ _ _ _ _ | exact Kd.N_nil _ _ _ _ _ | exact Kd.V_nil _ _ _ _ _ | exact Kd.Q_nil _ _ _ _ _ | exact Kd.S_nil _ _ _ _ _, bw HB.out⟩
    ·replace H := ipE H
     obtain ⟨c8b0, c8b1, H⟩ := H
     by_cases c9 : a1 ≤ (wrap64 (a1 + a2))
     ·rw [if_pos c9] at H
      have c9b0 := eq_true c9
      have c9b1 : decide (a1 ≤ (wrap64 (a1 + a2))) = true := decide_eq_true c9
      by_cases c10 : (wrap64 (a1 + a2)) ≤ (l0.length : Int)
      ·rw [if_pos c10] at H
       have c10b0 := eq_true c10
       have c10b1 : decide ((wrap64 (a1 + a2)) ≤ (l0.length : Int)) = true := decide_eq_true c10
       obtain ⟨y101, hy101⟩ : ∃ y_ : List Int, y_ = ((l0.take ((wrap64 (a1 + a2)) : Int).toNat).drop (a1 : Int).toNat) := ⟨_, rfl⟩
       (try with_reducible replace H := bnS H)
       (try rw [← hy101] at H)
       have Ny101 := ak hy101
       clear hy101
       replace H := bnd H
       obtain ⟨t105, A11, H⟩ := H
       simp only [Option.some.injEq, Prod.mk.injEq] at H
       obtain ⟨rfl, rfl⟩ := H
       have q12 : ((wrap64 (a1 + a2)) : Int) ≤ ((l0.length : Int) : Int) := of_decide_eq_true (by first | (with_reducible assumption) | assumption)
       obtain ⟨i012, hi012, _, hsz12, _⟩ := info_parts info5
       have hroom12 : l0.length ≤ c0 := HC0.out
       have hC12 : Kd.C (Kd.int .u8) _ A0 l0.length l0 := HR0.out
       have ql12 : (a1 : Int) ≤ ((wrap64 (a1 + a2)) : Int) := of_decide_eq_true (by first | (with_reducible assumption) | assumption)
       have q012 : (0 : Int) ≤ (a1 : Int) := of_decide_eq_true (by first | (with_reducible assumption) | assumption)
       have hcut12 := cut_mid (P := Tryd.prog) 22 5 .i64 .i64 Tryd.underlying22 hi012 1 hsz12 A0 l0.length c0 a1 (wrap64 (a1 + a2)) q012 ql12 q12 hroom12
       have hr12 := Kd.C_mid (lo := (a1 : Int).toNat) (hi := ((wrap64 (a1 + a2)) : Int).toNat) (c := c0) hC12 (by omega) (by omega) hroom12
       obtain ⟨A12, hA12⟩ : ∃ A1, A1 = (if c0 = (a1 : Int).toNat then A0 else (A0 : Option Addr).map (·.add ((a1 : Int).toNat * 1))) := ⟨_, rfl⟩
       obtain ⟨c12, hc12⟩ : ∃ c1, c1 = c0 - (a1 : Int).toNat := ⟨_, rfl⟩
       have hy12 : y101.length = ((wrap64 (a1 + a2)) : Int).toNat - (a1 : Int).toNat := (by rw [Ny101.out, List.length_drop, List.length_take] <;> omega)
       rw [show ((l0).take ((wrap64 (a1 + a2)) : Int).toNat).drop (a1 : Int).toNat = y101 from Ny101.out.symm] at hr12
       replace hr12 : Kd.C (Kd.int .u8) _ A12 y101.length y101 := (by rw [hA12]; exact hr12)
       rw [← hy12, ← hA12, ← hc12] at hcut12
       have HR104 := ak hr12
       have HC104 := ak (show y101.length ≤ c12 from by rw [hy12, hc12]; exact Nat.sub_le_sub_right (Nat.le_trans (by omega) hroom12) _)
       clear hr12 hC12 hroom12 hi012 hsz12 hc12
       have KY12 := ak hy12
       have KA12 := ak hA12
       clear hy12 hA12
       replace q12 := eq_true q12
       go_enter Tryd.func28, Tryd.ntmps28
       go_wp2_with (((with_reducible refine gate_callee (f := 52) rfl ?_);refine glG 34 rfl rfl Tryd.func52 (bytes_Clone.calls _ _ y101 t105 _ (cd HR104) HC104.out A11.out) ?_;rintro e w13 ⟨v106, rfl, ho0, hb⟩;refine ⟨_, rfl, ?_⟩;have HO107 := ak (Kd.R_lower ho0 (below_size (bw HB.out)));replace HB := b2 HB hb;(try clear hb);(try clear ho0)))
       go_ret2
       exact ⟨_, o1, rw_ HO107.out, bw HB.out⟩
      ·rw [if_neg c10] at H
       exact absurd H (by simp)
     ·rw [if_neg c9] at H
      exact absurd H (by simp)

/-! ### laws_same: function 29 -/
def laws_same.f (l0 : List Int) (l1 : List Int) : Option (Bool) := some ((strOfNums l0).toList == (strOfNums l1).toList)
set_option maxHeartbeats 8000000 in
set_option maxRecDepth 100000 in
theorem laws_same.calls (A0 : Option Addr) (c0 : Nat) (l0 : List Int) (A1 : Option Addr) (c1 : Nat) (l1 : List Int) (r : Bool) (w : World) (hr0 : Kd.C (Kd.int .u8) w A0 l0.length l0) (hc0 : l0.length ≤ c0) (hr1 : Kd.C (Kd.int .u8) w A1 l1.length l1) (hc1 : l1.length ≤ c1) (h : laws_same.f l0 l1 = some r) :
  Calls Tryd.prog 29 #[.slice A0 l0.length c0, .slice A1 l1.length c1] w fun e w' => e = .returned (.bool r) ∧ Drawn0 w w' := by
 have HR0 := ak hr0
 have HC0 := ak hc0
 clear hr0 hc0
 have HR1 := ak hr1
 have HC1 := ak hc1
 clear hr1 hc1
 have H : (some ((strOfNums l0).toList == (strOfNums l1).toList)) = some r := h
 clear h
 obtain rfl := Option.some.inj H
 have hcv3 := Kd.C_string (P := Tryd.prog) (A := A0) (c := c0) Tryd.underlying22 Tryd.underlying5 Tryd.underlying9 HR0.out
 have hcv4 := Kd.C_string (P := Tryd.prog) (A := A1) (c := c1) Tryd.underlying22 Tryd.underlying5 Tryd.underlying9 HR1.out
 go_enter Tryd.func29, Tryd.ntmps29
 go_wp2
 go_ret
 exact ⟨o2, od⟩

end Go.Proofs.YtkmchjdioplfjaaDoor.Q
