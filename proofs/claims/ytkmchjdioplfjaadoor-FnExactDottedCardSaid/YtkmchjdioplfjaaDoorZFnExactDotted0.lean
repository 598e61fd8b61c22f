/- Printed by a program of this session (wip/myprint.py), which drives the kit's printer: functions and what their calls do. -/
import Derived.Test.YtkmchjdioplfjaaDoorProg
import Derived.Below
import Derived.Deep.Draws
import Derived.Deep.AppendLies
import Derived.Maps.AppendAt
import Derived.OwnWalk
import Derived.Laws.BytesArg
import Derived.Laws.MakeOwn
import Derived.Laws.OwnMore
import Derived.Deep.OwnRows
import Derived.Tactics
import Derived.Lib.ConvBytes
import Derived.Laws.Slices
import Derived.WalkKit
import Derived.KernelRfl
import Derived.RowKit3
import Derived.Deep.LoopGhost
import Derived.Deep.QuietTactic
import Derived.BigQuiet
import Derived.WideLaws
import Derived.Deep.DeepCutAuto
import Derived.Deep.CutBlock
import Derived.Deep.RegionHeld3
import Derived.Laws.Rows
import Derived.Lib.AppendStr
import Derived.ArgAppend
import Derived.Laws.IdiomCopy
import Derived.OrdersHeld
import Derived.Laws.BitsLemmas
import Derived.RowKit
import Derived.WalkSpells
import Derived.WalkLawsBesides
import Derived.Shelf.Abstract
import Derived.Test.YtkmchjdioplfjaaDoorVFnExactDotted
import Derived.Shelf.Strconv.Itoa3
import Derived.Shelf.Strings.OnBuilder
import Derived.Shelf.Slices.ReverseS
import Derived.Lib.AppendIntMem
import Derived.IntWalk
import Derived.Laws.IdiomStrings
import Derived.Lib.ItoaLen
namespace Go.Proofs.YtkmchjdioplfjaaDoor.Q
open Go.RowKit Go Go.Proofs.YtkmchjdioplfjaaDoorW.PrintWords Go.Proofs.YtkmchjdioplfjaaDoorW.PrintLast Go.Proofs.YtkmchjdioplfjaaDoorW.PrintMore

set_option linter.unusedVariables false
set_option linter.unusedSimpArgs false

theorem info5 : (Tryd.prog.info? 5).map (fun i => (i.zero, i.size, i.bytes)) = some (some (.int .u8 0), 1, 1) := by kernel_rfl
theorem info9 : (Tryd.prog.info? 9).map (fun i => (i.zero, i.size, i.bytes)) = some (some (.string ⟨#[]⟩), 1, 16) := by kernel_rfl
-- the values' own types
/-! #### struct type 7 -/
/-! #### struct type 8 -/
/-! #### struct type 13 -/
/-! #### struct type 14 -/
/-! #### struct type 28 -/
/-! #### struct type 29 -/
/-! #### struct type 44 -/
/-! #### struct type 46 -/
/-! #### struct type 47 -/
/-! #### struct type 50 -/
/-! #### struct type 51 -/
/-! #### struct type 93 -/
/-! #### struct type 94 -/
/-! #### struct type 136 -/
/-! #### struct type 137 -/
/-! #### struct type 145 -/
/-! #### struct type 146 -/
/-- One world is another one with blocks made and draws taken. -/
def Gr (A W : World) : Prop := Below A.heap.size A W
instance Gr.refl_ (A : World) : Nonempty (Gr A A) := ⟨Below.refl _ _⟩
instance Gr.alloc_ (A W : World) (o : Obj) [h : Nonempty (Gr A W)] : Nonempty (Gr A (W.alloc o)) := h.elim fun h => ⟨below_alloc h o⟩
instance Gr.drew_ (A W : World) [h : Nonempty (Gr A W)] : Nonempty (Gr A W.drew) := h.elim fun h => ⟨below_drew h⟩
instance Gr.drewN_ (A W : World) (n : Nat) [h : Nonempty (Gr A W)] : Nonempty (Gr A (W.drewN n)) := h.elim fun h => ⟨pw_below_drewN h n⟩
section
variable {α : Type} {d : Kd α} {e base n : Nat} {ok : Nat → Prop} {w W W' : World} {v : Value} {xs : List α} {A : Option Addr}
theorem bw (h : Below w.heap.size w W) [g : Nonempty (Gr W W')] : Below w.heap.size w W' := g.elim fun g => below_step h g
theorem rw_ (h : d.R e W base ok v xs) [g : Nonempty (Gr W W')] : d.R e W' base ok v xs := g.elim fun g => Kd.R_below h g
end
section
variable {W : World} {g t : Nat} {a b c d e f x y z : Value}
end
section
variable {P : Program} {ops : Array Oper} {rest : List Oper} {o : Oper} {a : Act} {Q : Exit → Act → World → Prop}
end
section
variable {α : Type} {d : Kd α} {e base g k t : Nat} {ok : Nat → Prop} {W : World} {v : Value} {xs : List α} {cs : Array Value} {l : List Nat}
end
section
variable {α : Type} {d : Kd α} {e base g g' t : Nat} {ok : Nat → Prop} {W W1 : World} {v : Value} {xs : List α} {cs : Array Value} {fr : Nat × Nat}
end

section
variable {α β : Type} {A B r : Option α}
theorem bnd {o : Option β} {f : β → Option α} {r : α} (h : o.bind f = some r) : ∃ x, Aside0 (o = some x) ∧ f x = some r := (Option.bind_eq_some_iff.mp h).elim fun x h => ⟨x, ⟨h.1⟩, h.2⟩
theorem bnS {x : β} {f : β → Option α} (h : (some x).bind f = r) : f x = r := h
theorem ibN {t : Bool} {r : α} (h : (if t = true then A else none) = some r) : t = true ∧ A = some r := by cases t; cases h; exact ⟨rfl, h⟩
section
variable {p : Prop} [Decidable p]
theorem iq (h : (if p then A else B) = r) : (p ∧ A = r) ∨ (¬ p ∧ B = r) := by
  by_cases c : p
  · exact .inl ⟨c, by rwa [if_pos c] at h⟩
  · exact .inr ⟨c, by rwa [if_neg c] at h⟩
theorem iqN {r : α} (h : (if p then A else none) = some r) : p ∧ A = some r := by
  obtain h | h := iq h
  · exact h
  · cases h.2
theorem ip (h : (if p then A else B) = r) : (decide p = true ∧ A = r) ∨ (decide p = false ∧ B = r) := (iq h).imp (fun h => ⟨decide_eq_true h.1, h.2⟩) (fun h => ⟨decide_eq_false h.1, h.2⟩)
theorem ipN {r : α} (h : (if p then A else none) = some r) : decide p = true ∧ A = some r := ⟨decide_eq_true (iqN h).1, (iqN h).2⟩
theorem ipE {r : α} (h : (if p then A else none) = some r) : p = True ∧ decide p = true ∧ A = some r := ⟨eq_true (iqN h).1, decide_eq_true (iqN h).1, (iqN h).2⟩
end
section
variable {a b : Int}
theorem ig (h : (if a > b then A else B) = r) : (decide (b < a) = true ∧ A = r) ∨ (decide (b < a) = false ∧ B = r) := ip h
theorem ih (h : (if a ≥ b then A else B) = r) : (decide (b ≤ a) = true ∧ A = r) ∨ (decide (b ≤ a) = false ∧ B = r) := ip h
end
section
variable {τ : Type} [BEq τ] [LawfulBEq τ] {a b : τ} [Decidable (a = b)]
theorem ie (h : (if a = b then A else B) = r) : ((a == b) = true ∧ (a != b) = false ∧ A = r) ∨ ((a == b) = false ∧ (a != b) = true ∧ B = r) := (iq h).imp (fun h => ⟨beq_iff_eq.mpr h.1, bne_eq_false_iff_eq.mpr h.1, h.2⟩) (fun h => ⟨beq_eq_false_iff_ne.mpr h.1, bne_iff_ne.mpr h.1, h.2⟩)
theorem ieN {r : α} (h : (if a = b then A else none) = some r) : (a == b) = true ∧ (a != b) = false ∧ A = some r := ⟨beq_iff_eq.mpr (iqN h).1, bne_eq_false_iff_eq.mpr (iqN h).1, (iqN h).2⟩
end
end
theorem lnT {a b : Nat} (h : ((a : Int) == (b : Int)) = true) : (a == b) = true := by have := beq_iff_eq.mp h; exact beq_iff_eq.mpr (by omega)
theorem lnF {a b : Nat} (h : ((a : Int) == (b : Int)) = false) : (a == b) = false := by have := beq_eq_false_iff_ne.mp h; exact beq_eq_false_iff_ne.mpr (by omega)
section
variable {α : Type} {d : Kd α} {e base n g t : Nat} {ok : Nat → Prop} {w W W' W2 : World} {v : Value} {xs : List α} {A : Option Addr} {o : Obj}
theorem ak {p : Prop} (h : p) : Aside0 p := ⟨h⟩
theorem b2 (h : Aside0 (Below w.heap.size w W)) [Nonempty (Gr W W')] (hb : Below W'.heap.size W' W2) : Aside0 (Below w.heap.size w W2) := ⟨below_step (bw h.out) hb⟩
theorem b2s (h : Below w.heap.size w W) (hb : Below W.heap.size W W2) : Aside0 (Below w.heap.size w W2) := ⟨below_step h hb⟩
end
/-- What was is still as it was: through stores into blocks that were made since. -/
theorem bs {p : Prop} (h : p := by repeat (first | (with_reducible refine below_set ?_ (Aside0.out (by with_reducible assumption))) | exact bw HB.out)) : p := h
theorem o1 {p : Prop} (h : p := by first | rfl | (simp [errW_none, errW_some] <;> rfl) | (simp [*, errW_none, errW_some] <;> rfl)) : p := h
theorem o2 {p : Prop} (h : p := by first | rfl | (simp; done) | (simp [*]; done)) : p := h
theorem od {p : Prop} (h : p := by repeat (first | exact Drawn0.refl _ | apply Drawn0.step)) : p := h
section
variable {P : Program} {ops : Array Oper} {rest : List Oper} {oi : Oper} {a : Act} {Q : Exit → Act → World → Prop}
/-- A call. -/
theorem glG {w : World} (N : Tmp) (hd : oi.dst = some N) {f : FuncId} {fn : Func} {zs : Array Operand} {ts : Array TypeId} (hop : oi.op = .call { callee := .value (.func f), args := zs, argTypes := ts }) (hf : P.funcs[f]? = some fn) {args : Array Value} {R : Ending → World → Prop} (hc : Calls P f args w R)
    (h : ∀ e w', R e w' → ∃ v, e = .returned v ∧ wpList P ops Q rest (a.put (some N) v) w') (hg : oi.guard = none := by rfl)
    (hname : (fn.name == "runtime.NumGoroutine") = false := by kernel_rfl) (hb : fn.body.isSome = true := by rfl)
    (hargs : zs.map a.eval = args := by (try simp only [List.map_toArray, List.map_cons, List.map_nil]); first | done | rfl | (simp only [List.length_drop, List.length_take]; rfl)) : wpList P ops Q (oi :: rest) a w :=
  goesL_ (some N) hd hg hf hname hb args hop hargs (hc.mono h)
theorem glD {w : World} (N : Tmp) (hd : oi.dst = some N) {f : FuncId} {fn : Func} {zs : Array Operand} {ts : Array TypeId} (hop : oi.op = .call { callee := .value (.func f), args := zs, argTypes := ts }) (hf : P.funcs[f]? = some fn) {args : Array Value} {v : Value} (hc : Calls P f args w fun e w' => e = .returned v ∧ Drawn0 w w')
    (h : ∀ nd, wpList P ops Q rest (a.put (some N) v) (w.drewN nd)) (hg : oi.guard = none := by rfl)
    (hname : (fn.name == "runtime.NumGoroutine") = false := by kernel_rfl) (hb : fn.body.isSome = true := by rfl)
    (hargs : zs.map a.eval = args := by (try simp only [List.map_toArray, List.map_cons, List.map_nil]); first | done | rfl | (simp only [List.length_drop, List.length_take]; rfl)) : wpList P ops Q (oi :: rest) a w :=
  goesL_ (some N) hd hg hf hname hb args hop hargs (hc.mono fun e w' h2 => ⟨v, h2.1, by obtain ⟨nd, rfl⟩ := h2.2; exact h nd⟩)
end
section
variable {P : Program} {ops : Array Oper} {oi : Oper} {Q : Exit → Act → World → Prop} {md : Region.Mode} {S : World → Prop} {ds : List Nat} {T : Bool × List (List Nat × List Nat)} {n m fuel : Nat} {a a' : Act} {w : World}
end
section
variable {P : Program} {ops : Array Oper} {rest : List Oper} {o : Oper} {a : Act} {Q : Exit → Act → World → Prop}
end
theorem el0_int {k : IntKind} {xs : List Int} {w : World} {A : Option Addr} {n : Nat} (h : Aside0 (Kd.C (Kd.int k) w A n xs)) (i : Int) (h0 : decide (0 ≤ i) = true := by first | (with_reducible assumption) | assumption) (h1 : decide (i < n) = true := by first | (with_reducible assumption) | assumption) : ∃ ad, A = some ad ∧ w.cell? (ad.add i.toNat) = some (.int k (rd xs i)) ∧ (0 ≤ i) = True ∧ (i < n) = True := by
  obtain ⟨ad, e, x0⟩ := Kd.at_int h.out i (of_decide_eq_true h0) (of_decide_eq_true h1)
  exact ⟨ad, e, x0, eq_true (of_decide_eq_true h0), eq_true (of_decide_eq_true h1)⟩

/-! ### laws_markByteS: function 11 -/
def laws_markByteS.l0 : Nat → List Int → Int → Int → Option (Int × List Int)
 | 0, _, _, _ => none
 | k + 1, x0, x1, x5 => if x5 < (x0.length : Int) then (if 0 ≤ x5 then (laws_markByteS.l0 k (x0.set (x5 : Int).toNat ((x1) % 256)) (wrap64 (x1 + 1)) (wrap64 (x5 + 1))) else (none)) else (some (x1, x0))
def laws_markByteS.f (k : Nat) (l0 : List Int) (a1 : Int) : Option (Int × List Int) := laws_markByteS.l0 k l0 a1 0
section
variable {P P' : Nat → Prop} {w w' w2 : World} {base : Nat}
end
section
variable {α : Type} {d : Kd α} {e base a b a' b' g : Nat} {ok P : Nat → Prop} {w w' : World} {v : Value} {xs : List α} {o : Obj}
end
/-- The second form: a block that a string was laid into. -/
def Zs (e : Nat) (w : World) (base : Nat) (ok : Nat → Prop) (v : Value) (xs : List Int) : Prop :=
  ∃ g c cur, v = .slice (some ⟨g, 0, none⟩) xs.length c ∧ xs.length ≤ c ∧ ok g ∧ base ≤ g ∧ w.heap[g]? = some (.cells cur e (cur.size, cur.size + 1)) ∧ xs.length ≤ cur.size ∧ xs.length ≤ 9223372036854775807 ∧ ∀ i, i < xs.length → cur[i]? = some (.int .u8 (rd xs i))
def Zr (e : Nat) (w : World) (base : Nat) (ok : Nat → Prop) (v : Value) (xs : List Int) : Prop := Kd.R (Kd.int .u8) e w base ok v xs ∨ Zs e w base ok v xs
theorem rd_nat (xs : List Int) (j : Nat) : rd xs (j : Int) = xs.getD j 0 := by simp [rd]
section
variable {e base : Nat} {w w1 W W2 : World} {ok ok' S : Nat → Prop} {v u : Value} {xs : List Int}
theorem Z_mono (h : Zr e w base ok v xs) (hok : ∀ k, ok k → ok' k) : Zr e w base ok' v xs := by
  rcases h with h | ⟨g, c, cur, h1, h2, h3, h⟩
  · exact .inl (Kd.R_mono h hok)
  · exact .inr ⟨g, c, cur, h1, h2, hok _ h3, h⟩
theorem Z_lower {base' : Nat} (h : Zr e w base ok v xs) (hb : base' ≤ base) : Zr e w base' ok v xs := by
  rcases h with h | ⟨g, c, cur, h1, h2, h3, h4, h⟩
  · exact .inl (Kd.R_lower h hb)
  · exact .inr ⟨g, c, cur, h1, h2, h3, Nat.le_trans hb h4, h⟩
theorem Z_step (h : Zr e w base ok v xs) (hm : ∀ k, ok k → k < w.heap.size → w1.heap[k]? = w.heap[k]?) : Zr e w1 base ok v xs := by
  rcases h with h | ⟨g, c, cur, h1, h2, h3, h4, h5, h⟩
  · exact .inl (Kd.R_step h hm)
  · exact .inr ⟨g, c, cur, h1, h2, h3, h4, (hm g h3 (Array.getElem?_eq_some_iff.1 h5).1).trans h5, h⟩
theorem Z_below (h : Zr e w base ok v xs) (hb : Below w.heap.size w w1) : Zr e w1 base ok v xs := Z_step h (fun k _ hk => hb.block k hk)
theorem zw_ (h : Zr e w base ok v xs) [g : Nonempty (Gr w w1)] : Zr e w1 base ok v xs := g.elim fun g => Z_below h g
theorem Z_ok (h : Zr e w base ok v xs) : ∀ k, v.ownBlock = some k → ok k := by
  rcases h with h | ⟨g, c, cur, rfl, h2, h3, h⟩
  · exact h.1
  · intro k hk; simp only [Value.ownBlock, Option.some.injEq] at hk; exact hk ▸ h3
theorem Z_lt (h : Zr e w base ok v xs) : ∀ k, v.ownBlock = some k → k < w.heap.size := by
  rcases h with h | ⟨g, c, cur, rfl, h2, h3, h4, h5, h⟩
  · exact Kd.R_lt h
  · intro k hk; simp only [Value.ownBlock, Option.some.injEq] at hk; exact hk ▸ (Array.getElem?_eq_some_iff.1 h5).1
theorem Z_base (h : Zr e w base ok v xs) : ∀ k, v.ownBlock = some k → base ≤ k := by
  rcases h with h | ⟨g, c, cur, rfl, h2, h3, h4, h⟩
  · exact Kd.R_base h
  · intro k hk; simp only [Value.ownBlock, Option.some.injEq] at hk; exact hk ▸ h4
theorem Z_all {p : Nat → Prop} (h : Zr e w base ok v xs) (hp : ∀ k, v.ownBlock = some k → p k) : Zr e w base p v xs := by
  rcases h with h | ⟨g, c, cur, rfl, h2, h3, h⟩
  · exact .inl (Kd.R_reok rfl h hp)
  · exact .inr ⟨g, c, cur, rfl, h2, hp g rfl, h⟩
theorem Z_slice (h : Zr e w base ok v xs) : ∃ A c, v = .slice A xs.length c := by
  rcases h with h | ⟨g, c, cur, h1, _⟩
  · exact Kd.R_slice h
  · exact ⟨_, _, h1⟩
theorem Z_reads' {A : Option Addr} {n c : Nat} (h : Zr e w base ok (.slice A n c) xs) : n = xs.length ∧ n ≤ c ∧ (Kd.int .u8).C w A xs.length xs := by
  rcases h with h | ⟨g, c', cur, h1, h2, h3, h4, h5, h6, h7, h8⟩
  · exact Kd.R_reads' h
  · injection h1 with e1 e2 e3
    subst e1
    subst e2
    subst e3
    refine ⟨rfl, h2, Kd.C_of_reads (enc := Value.int .u8) (d := (0 : Int)) (h1 := fun _ => rfl) ⟨rfl, h7, fun hn => ⟨_, rfl, fun j hj => ?_⟩⟩⟩
    have hx := h8 j hj
    have hc := cell_of_row w g j cur e (cur.size, cur.size + 1) h5
    rw [show (⟨g, 0, none⟩ : Addr).add j = ⟨g, j, none⟩ by unfold Addr.add; split <;> simp_all, hc, hx]
    simp [rd, List.getD_eq_getElem?_getD]
theorem Z_tight (hE : (Kd.int .u8).E = []) (h : Zr e w base ok v xs) : Zr e w base (fun k => some k = v.ownBlock) v xs := Z_all h (fun _ hk => hk.symm)
theorem Z_reok {ok1 : Nat → Prop} (hE : (Kd.int .u8).E = []) (h : Zr e W base ok1 v xs) (hok : ∀ k, v.ownBlock = some k → ok k) : Zr e W base ok v xs := Z_all h hok
theorem Z_new' (h : Zr e w1 W.heap.size ok v xs) (hlt : ∀ k, u.ownBlock = some k → k < W.heap.size) : Zr e w1 W.heap.size (fun k => ok k ∧ some k ≠ u.ownBlock) v xs :=
  Z_all h (fun k hk => ⟨Z_ok h k hk, fun e => by have := hlt k e.symm; have := Z_base h k hk; omega⟩)
theorem Z_elder' (hu : Zr e W base ok u xs) (hbase : ∀ k, v.ownBlock = some k → W.heap.size ≤ k) (hb : Below W.heap.size W w1) : Zr e w1 base (fun k => ok k ∧ some k ≠ v.ownBlock) u xs :=
  Z_below (Z_all hu (fun k hk => ⟨Z_ok hu k hk, fun e => by have := hbase k e.symm; have := Z_lt hu k hk; omega⟩)) hb
theorem Z_form (h : Zr e w base ok v xs) (hp : 0 < xs.length) : ∃ g cap, v = .slice (some ⟨g, 0, none⟩) xs.length cap ∧ base ≤ g ∧ g < w.heap.size ∧ ∃ cells fr, w.heap[g]? = some (.cells cells e fr) := by
  rcases h with h | ⟨g, c, cur, rfl, h2, h3, h4, h5, h⟩
  · obtain ⟨g, cap, h1, h2, h3, cells, h4⟩ := Kd.R_form h hp
    exact ⟨g, cap, h1, h2, h3, cells, _, h4⟩
  · exact ⟨g, c, rfl, h4, (Array.getElem?_eq_some_iff.1 h5).1, cur, _, h5⟩
theorem Z_celln {g n cap : Nat} (d : Int) (h : Zr e W base ok (.slice (some ⟨g, 0, none⟩) n cap) xs) (i : Int) (h0 : 0 ≤ i) (hi : i < n) : W.cell? ⟨g, i.toNat, none⟩ = some (.int .u8 (rdOf d xs i)) ∧ W.frozen? ⟨g, i.toNat, none⟩ = false := by
  rcases h with h | ⟨g', c, cur, h1, h2, h3, h4, h5, h6, h7, h8⟩
  · exact Kd.R_celln d h i h0 hi
  · injection h1 with e1 e2 e3
    injection e1 with e1
    injection e1 with e1
    subst e1
    subst e2
    subst e3
    have hl : i.toNat < xs.length := by omega
    refine ⟨?_, ?_⟩
    · rw [cell_of_row W g i.toNat cur e (cur.size, cur.size + 1) h5, h8 _ hl, rd_nat]
      simp only [rdOf, List.getD_eq_getElem?_getD, List.getElem?_eq_getElem hl, Option.getD_some]
    · simp only [World.frozen?, h5]
      simp
      omega
theorem Z_putg {g n cap : Nat} (h : Zr e W base ok (.slice (some ⟨g, 0, none⟩) n cap) xs) (i x : Int) : Zr e (W.setCell ⟨g, i.toNat, none⟩ (.int .u8 x)) base ok (.slice (some ⟨g, 0, none⟩) n cap) (xs.set i.toNat x) ∧ W.grownBy (W.setCell ⟨g, i.toNat, none⟩ (.int .u8 x)) (some g) := by
  rcases h with h | ⟨g', c, cur, h1, h2, h3, h4, h5, h6, h7, h8⟩
  · obtain ⟨a, b⟩ := Kd.R_putg (enc := Value.int .u8) (h1 := fun _ => rfl) h i x
    exact ⟨.inl a, b⟩
  · injection h1 with e1 e2 e3
    injection e1 with e1
    injection e1 with e1
    subst e1
    subst e2
    subst e3
    have hs : (W.setCell ⟨g, i.toNat, none⟩ (.int .u8 x)).heap[g]? = some (.cells (cur.setIfInBounds i.toNat (.int .u8 x)) e (cur.size, cur.size + 1)) := by
      simp only [World.setCell]
      rw [Array.getElem?_modify]
      simp [h5]
    refine ⟨.inr ⟨g, cap, cur.setIfInBounds i.toNat (.int .u8 x), by rw [List.length_set], by rw [List.length_set]; exact h2, h3, h4, by rw [Array.size_setIfInBounds]; exact hs, by rw [List.length_set, Array.size_setIfInBounds]; exact h6, by rw [List.length_set]; exact h7, fun j hj => ?_⟩, ⟨rfl, rfl, rfl, by simp [World.setCell], fun k hk hne => Below.heap_setCell W ⟨g, i.toNat, none⟩ (.int .u8 x) k (fun e => hne (by rw [e]))⟩⟩
    rw [List.length_set] at hj
    rw [Array.getElem?_setIfInBounds]
    by_cases hij : i.toNat = j
    · subst hij
      have : i.toNat < cur.size := by omega
      rw [if_pos rfl, if_pos this]
      rw [rd_nat, List.getD_eq_getElem?_getD, List.getElem?_set_self hj]
      rfl
    · rw [if_neg hij, h8 j hj]
      rw [rd_nat, rd_nat, List.getD_eq_getElem?_getD, List.getD_eq_getElem?_getD, List.getElem?_set_ne hij]
end
section
variable {P : Program} {ops : Array Oper} {rest : List Oper} {o : Oper} {a : Act} {Q : Exit → Act → World → Prop}
end

theorem laws_markByteS.callsZ (k : Nat) (P0_ : Nat → Prop) (u9000_ : Value) (l0 : List Int) (a1 : Int) (r1 : Int) (r2 : List Int) (w0 w : World) (hB : Below w0.heap.size w0 w) (ho0 : Zr 5 w w0.heap.size P0_ u9000_ l0) (h : laws_markByteS.f k l0 a1 = some (r1, r2)) :
  Calls Tryd.prog 11 #[u9000_, .int .i64 a1] w fun e w' => e = .returned (.int .i64 r1) ∧ Zr 5 w' w0.heap.size (fun k_ => (P0_ k_ ∨ w.heap.size ≤ k_)) u9000_ r2 ∧ Below w0.heap.size w0 w' ∧ Kept w w' (fun k_ => P0_ k_) := by
 have HO0 := ak (show Zr 5 w w0.heap.size (fun k_ => (P0_ k_ ∨ w.heap.size ≤ k_)) u9000_ l0 from Z_mono ho0 (fun k_ hk => (.inl hk)))
 have HK := ak (Kept.refl w (fun k_ => P0_ k_))
 have HW0 := ak hB.size
 have HB := ak hB
 clear hB
 have H : (laws_markByteS.l0 k l0 a1 0) = some (r1, r2) := h
 clear h
 have H' := ak H
 clear H
 go_enter Tryd.func11, Tryd.ntmps11
 go_wp2
 go_loopg [1, 5] k (fun kq v1 v5 w' => ∃ (x0_1 : List Int) (x1_1 : Int) (x5_1 : Int), v1 = .int .i64 x1_1 ∧ v5 = .int .i64 x5_1 ∧ Aside0 (laws_markByteS.l0 kq x0_1 x1_1 x5_1 = some (r1, r2)) ∧ Aside0 (kq ≤ k) ∧ Aside0 (Zr 5 w' w0.heap.size (fun k_ => (P0_ k_ ∨ w.heap.size ≤ k_)) u9000_ x0_1) ∧ Aside0 (Kept w w' (fun k_ => P0_ k_)) ∧ Aside0 (Below w0.heap.size w0 w'))
 case atStart => exact ⟨(l0), (a1), (0), o2, o2, H', ⟨Nat.le_refl _⟩, ⟨zw_ HO0.out⟩, ⟨by repeat (first | (with_reducible first | exact HK.out | apply Kept.alloc | apply Kept.drewN | apply Kept.drew) | exact HK.out)⟩, ⟨bw HB.out⟩⟩
 case round =>
  clear H'
  obtain ⟨x0_1, x1_1, x5_1, rfl, rfl, HA, HK1, HO_0, HK, HB⟩ := hrel
  cases gk with
  | zero => exact absurd HA.out (by simp [laws_markByteS.l0])
  | succ k1 =>
   have H := HA.out
   clear HA
   simp only [laws_markByteS.l0] at H
   replace H := ip H
   obtain ⟨c3b0, H⟩ | ⟨c3b0, H⟩ := H
   ·replace H := ipN H
    obtain ⟨c4b0, H⟩ := H
    obtain ⟨y101, hy101⟩ : ∃ y_ : List Int, y_ = (x0_1.set (x5_1 : Int).toNat ((x1_1) % 256)) := ⟨_, rfl⟩
    (try with_reducible replace H := bnS H)
    (try rw [← hy101] at H)
    have Ny101 := ak hy101
    clear hy101
    have H' := ak H
    clear H
    obtain ⟨Ao6, co6, eo6⟩ := Z_slice HO_0.out
    subst eo6
    have p5 : 0 ≤ (x5_1 : Int) := of_decide_eq_true (by first | (with_reducible assumption) | assumption)
    have q5 : (x5_1 : Int) < ((x0_1.length : Int) : Int) := of_decide_eq_true (by first | (with_reducible assumption) | assumption)
    obtain ⟨go5, co5, eo5, gb5, gl5, cl5, fr5, HG5⟩ := Z_form HO_0.out (by omega)
    (first | cases eo5 | (injection eo5 with ea_ en_ ec_; (first | subst ea_ | (injection ea_ with ea_; subst ea_)); subst ec_; clear en_))
    have GB5 := ak gb5
    have GG5 := ak HG5
    clear gb5 gl5 HG5
    have HMgo5 := ak (show (P0_ go5 ∨ w.heap.size ≤ go5) from (Z_ok HO_0.out _ rfl))
    obtain ⟨hx5_0, hf5_0⟩ := Z_celln 0 HO_0.out (x5_1 : Int) p5 q5
    replace p5 := eq_true p5
    replace q5 := eq_true q5
    have HP7 := Z_putg HO_0.out (x5_1 : Int) ((x1_1) % 256)
    go_wp2_with (((with_reducible refine gate_store (t := 5) (p := 16) rfl ?_);refine store_event (t := 5) (p := 16) (v := ?vo_w8) (w1 := (wr.setCell ⟨go5, (x5_1 : Int).toNat, none⟩ (.int .u8 ((x1_1) % 256)))) ?hg ?ho ?hn ?hr ?_;(case ho => rfl);(case hg => rfl);(case hn => rfl);(case hr => first | (go_simp; done) | (go_simp; rfl));intro w8 hw;have hg : wr.grownBy w8 (some go5) := (by rw [hw]; exact HP7.2);have hp_ : Zr 5 w8 w0.heap.size (fun k_ => (P0_ k_ ∨ w.heap.size ≤ k_)) (.slice (some ⟨go5, 0, none⟩) x0_1.length co6) y101 := (by rw [hw, Ny101.out]; exact HP7.1);clear HP7;replace HB := ak ((by rw [hw]; exact below_set (HB.out) GB5.out : Below w0.heap.size w0 w8));replace HK := ak (Kept.of_grown (S := (fun k_ => P0_ k_)) hg (by repeat (first | (with_reducible first | exact HK.out | apply Kept.alloc | apply Kept.drewN | apply Kept.drew) | exact HK.out)) (fun k_ e_ => (Z_ok HO_0.out k_ e_)));replace HO_0 := ak (hp_);clear hg hw hp_))
    go_roundg k1
    case measure => have := HK1.out; omega
    case rel => exact ⟨(y101), (wrap64 (x1_1 + 1)), (wrap64 (x5_1 + 1)), o2, o2, H', ⟨by have := HK1.out; omega⟩, ⟨zw_ HO_0.out⟩, ⟨by repeat (first | (with_reducible first | exact HK.out | apply Kept.alloc | apply Kept.drewN | apply Kept.drew) | exact HK.out)⟩, ⟨bw HB.out⟩⟩
   ·simp only [Option.some.injEq, Prod.mk.injEq] at H
    obtain ⟨rfl, rfl⟩ := H
    obtain ⟨Ao9, co9, eo9⟩ := Z_slice HO_0.out
    subst eo9
    go_wp2
    go_ret
    exact ⟨o1, zw_ HO_0.out, bw HB.out, by repeat (first | (with_reducible first | exact HK.out | apply Kept.alloc | apply Kept.drewN | apply Kept.drew) | exact HK.out)⟩

/-! ### spec_l1digits: function 70 -/
def spec_l1digits.f : Nat → Int → Option (List Int)
 | 0, _ => none
 | k + 1, a0 => if a0 < 10 then (some (([(wrap64 (48 + a0)) % 256] : List Int))) else ((spec_l1digits.f k (wrap64 (Int.tdiv a0 10))).bind fun t104 => (if t104.length < 140737488355328 then (some (t104 ++ [(wrap64 (48 + (Int.tmod a0 10))) % 256])) else (none)))
theorem spec_l1digits.mono_l : ∀ k, (∀ y0, LeO (spec_l1digits.f k y0) (spec_l1digits.f (k + 1) y0))
 | 0 => fun _ r h => by simp [spec_l1digits.f] at h
 | k + 1 => by
  have ih0 := spec_l1digits.mono_l k
  ·intro y0
   unfold spec_l1digits.f
   repeat' first
   | (with_reducible exact ih0 _)
   | (with_reducible exact LeO.refl _)
   | (with_reducible exact LeO.none _)
   | (with_reducible refine LeO.ite ?_ ?_)
   | (with_reducible refine LeO.bind ?_ (fun _ => ?_))
   | exact ih0 _
   | exact LeO.none _
   | refine LeO.ite ?_ ?_
   | refine LeO.bind ?_ (fun _ => ?_)
theorem spec_l1digits.mono : ∀ a0 k, LeO (spec_l1digits.f k a0) (spec_l1digits.f (k + 1) a0) := by
 intro a0 k
 have ih0 := spec_l1digits.mono_l k
 exact ih0 a0
set_option maxHeartbeats 8000000 in
set_option maxRecDepth 100000 in
theorem spec_l1digits.calls (k : Nat) : ∀ (a0 : Int) (r : List Int) (w : World) (h : spec_l1digits.f k a0 = some r),
  Calls Tryd.prog 70 #[.int .i64 a0] w fun e w' => ∃ v0_ : Value, e = .returned (v0_) ∧ Kd.R (Kd.int .u8) 5 w' w.heap.size (fun _ => True) v0_ r ∧ Below w.heap.size w w' := by
 induction k using Nat.strongRecOn with
 | _ k ih =>
 intro a0 r w h
 cases k with
 | zero => exact absurd h (by simp [spec_l1digits.f])
 | succ k =>
 simp only [spec_l1digits.f] at h
 have HB := ak (Below.refl w.heap.size w)
 have H : (if a0 < 10 then (some (([(wrap64 (48 + a0)) % 256] : List Int))) else ((spec_l1digits.f k (wrap64 (Int.tdiv a0 10))).bind fun t104 => (if t104.length < 140737488355328 then (some (t104 ++ [(wrap64 (48 + (Int.tmod a0 10))) % 256])) else (none)))) = some r := h
 clear h
 replace H := ip H
 obtain ⟨c2b0, H⟩ | ⟨c2b0, H⟩ := H
 ·obtain ⟨y101, hy101⟩ : ∃ y_ : List Int, y_ = (([(wrap64 (48 + a0)) % 256] : List Int)) := ⟨_, rfl⟩
  (try with_reducible replace H := bnS H)
  (try rw [← hy101] at H)
  have Ny101 := ak hy101
  clear hy101
  obtain rfl := Option.some.inj H
  go_enter Tryd.func70, Tryd.ntmps70
  go_wp2_with (((with_reducible refine gate_dst (N := 8) rfl ?_);refine Kd.R_lit (Kd.int .u8) _ 5 ?hg (N := 8) ?hd (xs := ([(wrap64 (48 + a0)) % 256] : List Int)) (inner := [.int .u8 ((wrap64 (48 + a0)) % 256)]) (ok := fun _ => True) (okp := fun _ => True) ?hr ?hp (fun _ hk => hk) trivial (Below.refl _ _) (Nat.le_refl _) (by simp) ?_;(case hd => rfl);(case hg => rfl);(case hr => first | (go_simp; done) | (go_simp; rfl));(case hp => exact (Reps.one (show Kd.M (Kd.int .u8) _ _ _ ((wrap64 (48 + a0)) % 256) [.int .u8 ((wrap64 (48 + a0)) % 256)] from rfl) (Reps.none _ _)));intro v102 w3 ho4 hb hg_ hnew_;clear hg_ hnew_;(first | rw [← Ny101.out] at ho4 | (simp only [Int.reduceToNat] at ho4; rw [← Ny101.out] at ho4));have HO103 := ak (Kd.R_lower ho4 (below_size (bw HB.out)));replace HB := b2 HB hb;clear hb ho4))
  go_ret
  exact ⟨_, o1, rw_ HO103.out, bw HB.out⟩
 ·replace H := bnd H
  obtain ⟨t104, A5, H⟩ := H
  by_cases c6 : t104.length < 140737488355328
  ·rw [if_pos c6] at H
   have LMc6 := ak c6
   clear c6
   obtain ⟨y107, hy107⟩ : ∃ y_ : List Int, y_ = (t104 ++ [(wrap64 (48 + (Int.tmod a0 10))) % 256]) := ⟨_, rfl⟩
   (try with_reducible replace H := bnS H)
   (try rw [← hy107] at H)
   have Ny107 := ak hy107
   clear hy107
   obtain rfl := Option.some.inj H
   go_enter Tryd.func70, Tryd.ntmps70
   go_wp2_with (first | ((with_reducible refine gate_callee (f := 70) rfl ?_);refine goesL_ (some 11) rfl rfl Tryd.func70 (by kernel_rfl) rfl #[.int .i64 (wrap64 (Int.tdiv a0 10))] rfl (by (try simp only [List.map_toArray, List.map_cons, List.map_nil]); first | done | rfl | (simp only [List.length_drop, List.length_take]; rfl)) ?_;(with_reducible refine (ih k (by omega) (wrap64 (Int.tdiv a0 10)) t104 _ A5.out).mono ?_);rintro e w7 ⟨v105, rfl, ho0, hb⟩;refine ⟨_, rfl, ?_⟩;have HO106 := ak (Kd.R_lower ho0 (below_size (bw HB.out)));replace HB := b2 HB hb;(try clear hb);(try clear ho0)) | ((with_reducible refine gate_builtin (b := .append) (xs := #[.tmp 11, .tmp 16]) rfl ?_);at_builtin;refine Kd.R_append (Kd.int .u8) (w0 := w) w.heap.size rfl (.tmp 11) (.tmp 16) 22 5 (.int .u8 0) 1 rfl Tryd.underlying22 info5 rfl (by decide) (by omega) v105 t104 ((wrap64 (48 + (Int.tmod a0 10))) % 256) [.int .u8 ((wrap64 (48 + (Int.tmod a0 10))) % 256)] (fun _ => True) (fun _ => False) rfl rfl ?aP (fun _ hk => hk.elim) ?aF ?aO ?aB ?aS ?aL ?_;(case aP => exact rfl);(case aB => exact (bw HB.out));(case aF => exact (fun _ _ => trivial));(case aO => exact (rw_ HO106.out));(case aS => exact (below_size (bw HB.out)));(case aL => have := LMc6.out; omega);intro v108 w8 ho hb hg hat;rw [← Ny107.out] at ho;replace HB := ak (hb);have HO109 := ak (ho);clear HO106;clear ho hb hg hat))
   go_ret
   exact ⟨_, o1, rw_ HO109.out, bw HB.out⟩
  ·rw [if_neg c6] at H
   exact absurd H (by simp)

/-! ### spec_l1dotted: function 36 -/
def spec_l1dotted.l0 : Nat → Int → List Int → Int → Option (List Int)
 | 0, _, _, _ => none
 | k + 1, x0, x3, x4 => if x4 ≥ 0 then (if 0 ≤ (wrap64 (8 * x4)) then ((spec_l1digits.f k (Go.bits .and .i64 (shr .i64 x0 (wrap64 (8 * x4))) 255)).bind fun t101 => (if x3.length + t101.length < 140737488355328 then ((some (x3 ++ t101 : List Int)).bind fun y104 => (if x4 > 0 then (if y104.length < 140737488355328 then (spec_l1dotted.l0 k x0 (y104 ++ [46]) (wrap64 (x4 - 1))) else (none)) else (spec_l1dotted.l0 k x0 y104 (wrap64 (x4 - 1))))) else (none))) else (none)) else (some x3)
def spec_l1dotted.f (k : Nat) (a0 : Int) : Option (List Int) := spec_l1dotted.l0 k a0 ([] : List Int) 3
set_option maxHeartbeats 8000000 in
set_option maxRecDepth 100000 in
theorem spec_l1dotted.calls (k : Nat) (a0 : Int) (r : List Int) (w : World) (h : spec_l1dotted.f k a0 = some r) :
  Calls Tryd.prog 36 #[.int .i64 a0] w fun e w' => ∃ v0_ : Value, e = .returned (v0_) ∧ Kd.R (Kd.int .u8) 5 w' w.heap.size (fun _ => True) v0_ r ∧ Below w.heap.size w w' := by
 have HB := ak (Below.refl w.heap.size w)
 have H : (spec_l1dotted.l0 k a0 ([] : List Int) 3) = some r := h
 clear h
 have H' := ak H
 clear H
 go_enter Tryd.func36, Tryd.ntmps36
 go_wp2
 go_loopg [3, 4] k (fun kq v3 v4 w' => ∃ (x3_1 : List Int) (x4_1 : Int), v4 = .int .i64 x4_1 ∧ Aside0 (spec_l1dotted.l0 kq a0 x3_1 x4_1 = some r) ∧ Aside0 (kq ≤ k) ∧ Aside0 (Kd.R (Kd.int .u8) 5 w' w.heap.size (fun _ => True) v3 x3_1) ∧ Aside0 (Below w.heap.size w w'))
 case atStart => exact ⟨(([] : List Int)), (3), o2, H', ⟨Nat.le_refl _⟩, ⟨by first | exact Kd.R_nil _ _ _ _ _ | exact Kd.N_nil _ _ _ _ _ | exact Kd.V_nil _ _ _ _ _ | exact Kd.Q_nil _ _ _ _ _ | exact Kd.S_nil _ _ _ _ _⟩, ⟨bw HB.out⟩⟩
 case round =>
  clear H'
  obtain ⟨x3_1, x4_1, rfl, HA, HK1, HO_3, HB⟩ := hrel
  cases gk with
  | zero => exact absurd HA.out (by simp [spec_l1dotted.l0])
  | succ k1 =>
   have H := HA.out
   clear HA
   simp only [spec_l1dotted.l0] at H
   replace H := ih H
   obtain ⟨c2b0, H⟩ | ⟨c2b0, H⟩ := H
   ·obtain ⟨ji3, hji3⟩ : ∃ j_ : Int, (wrap64 (8 * x4_1)) = j_ := ⟨_, rfl⟩
    (first | rw [hji3] at H | simp only [hji3] at H)
    have hji3w : (IntKind.i64.wrap (8 * x4_1)) = ji3 := (i64_w _).trans hji3
    replace H := ipE H
    obtain ⟨c4b0, c4b1, H⟩ := H
    obtain ⟨ji5, hji5⟩ : ∃ j_ : Int, (shr .i64 a0 (ji3)) = j_ := ⟨_, rfl⟩
    (first | rw [hji5] at H | simp only [hji5] at H)
    have hji5_ : (a0 / 2 ^ min (ji3).toNat 64) = ji5 := hji5
    have hji5z : (ji3) ≤ 64 → (a0 / 2 ^ (ji3).toNat) = ji5 := shr_small hji5
    replace H := bnd H
    obtain ⟨t101, A6, H⟩ := H
    by_cases c7 : x3_1.length + t101.length < 140737488355328
    ·rw [if_pos c7] at H
     have LMc7 := ak c7
     clear c7
     obtain ⟨y104, hy104⟩ : ∃ y_ : List Int, y_ = (x3_1 ++ t101) := ⟨_, rfl⟩
     (try with_reducible replace H := bnS H)
     (try rw [← hy104] at H)
     have Ny104 := ak hy104
     clear hy104
     replace H := ig H
     obtain ⟨c8b0, H⟩ | ⟨c8b0, H⟩ := H
     ·by_cases c9 : y104.length < 140737488355328
      ·rw [if_pos c9] at H
       have LMc9 := ak c9
       clear c9
       obtain ⟨y107, hy107⟩ : ∃ y_ : List Int, y_ = (y104 ++ [46]) := ⟨_, rfl⟩
       (try with_reducible replace H := bnS H)
       (try rw [← hy107] at H)
       have Ny107 := ak hy107
       clear hy107
       have H' := ak H
       clear H
       go_wp2_with (first | ((with_reducible refine gate_callee (f := 70) rfl ?_);refine goesL_ (some 15) rfl rfl Tryd.func70 (by kernel_rfl) rfl #[.int .i64 (Go.bits .and .i64 (ji5) 255)] rfl (by (try simp only [List.map_toArray, List.map_cons, List.map_nil]); first | done | (simp only [hji5]; rfl) | rfl | (simp only [List.length_drop, List.length_take]; rfl)) ?_;(with_reducible refine (spec_l1digits.calls k1 (Go.bits .and .i64 (ji5) 255) t101 _ A6.out).mono ?_);rintro e w10 ⟨v102, rfl, ho0, hb⟩;refine ⟨_, rfl, ?_⟩;have HO103 := ak (Kd.R_lower (Kd.R_new' ho0 (Kd.R_lt (rw_ HO_3.out))) (below_size (bw HB.out)));replace HO_3 := ak (Kd.R_elder' (rw_ HO_3.out) (Kd.R_base ho0) hb);replace HB := b2 HB hb;(try clear hb);(try clear ho0);obtain ⟨Ao12, co12, eo12⟩ := Kd.R_slice HO103.out;subst eo12) | ((with_reducible refine gate_builtin (b := .append) (xs := #[.tmp 9, .tmp 15]) rfl ?_);at_builtin;refine Kd.R_append_rows (Kd.int .u8) (w0 := w) w.heap.size rfl (.tmp 9) (.tmp 15) 22 5 (.int .u8 0) 1 rfl Tryd.underlying22 info5 rfl (by decide) (by omega) u3 x3_1 t101 _ _ _ (fun k_ => some k_ ≠ (.slice Ao12 t101.length co12 : Value).ownBlock) (fun _ => False) rfl rfl ?aO ?aR (fun _ _ h => h) (fun _ h => h.elim) ?aF ?aB ?aS ?aL ?_;(case aR => repeat (first | exact (Kd.R_reads' HO103.out).2.2 | (with_reducible refine Kd.C_alloc ?_ _) | (with_reducible refine Kd.C_drewN ?_ _) | (with_reducible refine Kd.C_drew ?_)));(case aB => exact (bw HB.out));(case aF => exact (fun k_ hk => Kd.fresh' (Kd.R_lt (rw_ HO103.out)) k_ hk));(case aO => exact (rw_ (Kd.R_mono HO_3.out (fun _ hk => hk.2))));(case aS => exact (below_size (bw HB.out)));(case aL => have := LMc7.out; omega);intro v105 w11 ho hb hg hat;rw [← Ny104.out] at ho;replace HO103 := ak (Kd.R_after (ok := (fun _ => True)) (rw_ HO103.out) hg hat);replace HB := ak (hb);have HO106 := ak (ho);clear HO_3;clear ho hb hg hat) | ((with_reducible refine gate_builtin (b := .append) (xs := #[.tmp 19, .tmp 20]) rfl ?_);at_builtin;refine Kd.R_append (Kd.int .u8) (w0 := w) w.heap.size rfl (.tmp 19) (.tmp 20) 22 5 (.int .u8 0) 1 rfl Tryd.underlying22 info5 rfl (by decide) (by omega) v105 y104 46 [.int .u8 46] (fun k_ => some k_ ≠ (.slice Ao12 t101.length co12 : Value).ownBlock) (fun _ => False) rfl rfl ?aP (fun _ hk => hk.elim) ?aF ?aO ?aB ?aS ?aL ?_;(case aP => exact rfl);(case aB => exact (bw HB.out));(case aF => exact (fun k_ hk => Kd.fresh' (Kd.R_lt (rw_ HO103.out)) k_ hk));(case aO => exact (rw_ HO106.out));(case aS => exact (below_size (bw HB.out)));(case aL => have := LMc9.out; omega);intro v108 w13 ho hb hg hat;rw [← Ny107.out] at ho;replace HO103 := ak (Kd.R_after (ok := (fun _ => True)) (rw_ HO103.out) hg hat);replace HB := ak (hb);have HO109 := ak (ho);clear HO106;clear ho hb hg hat))
       go_roundg k1
       case measure => have := HK1.out; omega
       case rel => exact ⟨(y107), (wrap64 (x4_1 - 1)), o2, H', ⟨by have := HK1.out; omega⟩, ⟨by (with_reducible repeat (first | apply Kd.R_alloc | apply Kd.R_drewN | apply Kd.R_drew)); exact Kd.R_mono HO109.out (fun _ hk => trivial)⟩, ⟨bw HB.out⟩⟩
      ·rw [if_neg c9] at H
       exact absurd H (by simp)
     ·have H' := ak H
      clear H
      go_wp2_with (first | ((with_reducible refine gate_callee (f := 70) rfl ?_);refine goesL_ (some 15) rfl rfl Tryd.func70 (by kernel_rfl) rfl #[.int .i64 (Go.bits .and .i64 (ji5) 255)] rfl (by (try simp only [List.map_toArray, List.map_cons, List.map_nil]); first | done | (simp only [hji5]; rfl) | rfl | (simp only [List.length_drop, List.length_take]; rfl)) ?_;(with_reducible refine (spec_l1digits.calls k1 (Go.bits .and .i64 (ji5) 255) t101 _ A6.out).mono ?_);rintro e w14 ⟨v102, rfl, ho0, hb⟩;refine ⟨_, rfl, ?_⟩;have HO103 := ak (Kd.R_lower (Kd.R_new' ho0 (Kd.R_lt (rw_ HO_3.out))) (below_size (bw HB.out)));replace HO_3 := ak (Kd.R_elder' (rw_ HO_3.out) (Kd.R_base ho0) hb);replace HB := b2 HB hb;(try clear hb);(try clear ho0);obtain ⟨Ao16, co16, eo16⟩ := Kd.R_slice HO103.out;subst eo16) | ((with_reducible refine gate_builtin (b := .append) (xs := #[.tmp 9, .tmp 15]) rfl ?_);at_builtin;refine Kd.R_append_rows (Kd.int .u8) (w0 := w) w.heap.size rfl (.tmp 9) (.tmp 15) 22 5 (.int .u8 0) 1 rfl Tryd.underlying22 info5 rfl (by decide) (by omega) u3 x3_1 t101 _ _ _ (fun k_ => some k_ ≠ (.slice Ao16 t101.length co16 : Value).ownBlock) (fun _ => False) rfl rfl ?aO ?aR (fun _ _ h => h) (fun _ h => h.elim) ?aF ?aB ?aS ?aL ?_;(case aR => repeat (first | exact (Kd.R_reads' HO103.out).2.2 | (with_reducible refine Kd.C_alloc ?_ _) | (with_reducible refine Kd.C_drewN ?_ _) | (with_reducible refine Kd.C_drew ?_)));(case aB => exact (bw HB.out));(case aF => exact (fun k_ hk => Kd.fresh' (Kd.R_lt (rw_ HO103.out)) k_ hk));(case aO => exact (rw_ (Kd.R_mono HO_3.out (fun _ hk => hk.2))));(case aS => exact (below_size (bw HB.out)));(case aL => have := LMc7.out; omega);intro v105 w15 ho hb hg hat;rw [← Ny104.out] at ho;replace HO103 := ak (Kd.R_after (ok := (fun _ => True)) (rw_ HO103.out) hg hat);replace HB := ak (hb);have HO106 := ak (ho);clear HO_3;clear ho hb hg hat))
      go_roundg k1
      case measure => have := HK1.out; omega
      case rel => exact ⟨(y104), (wrap64 (x4_1 - 1)), o2, H', ⟨by have := HK1.out; omega⟩, ⟨by (with_reducible repeat (first | apply Kd.R_alloc | apply Kd.R_drewN | apply Kd.R_drew)); exact Kd.R_mono HO106.out (fun _ hk => trivial)⟩, ⟨bw HB.out⟩⟩
    ·rw [if_neg c7] at H
     exact absurd H (by simp)
   ·obtain rfl := Option.some.inj H
    go_wp2
    go_ret
    exact ⟨_, o1, rw_ HO_3.out, bw HB.out⟩

/-! ### spec_Dotted: function 8 -/
def spec_Dotted.f (k : Nat) (a0 : Int) : Option (List Int) := if a0 < 0 then (some ([] : List Int)) else (if a0 ≥ 4294967296 then (some ([] : List Int)) else ((spec_l1dotted.f k a0).bind fun t101 => (some t101)))
set_option maxHeartbeats 8000000 in
set_option maxRecDepth 100000 in
theorem spec_Dotted.calls (k : Nat) (a0 : Int) (r : List Int) (w : World) (h : spec_Dotted.f k a0 = some r) :
  Calls Tryd.prog 8 #[.int .i64 a0] w fun e w' => ∃ v0_ : Value, e = .returned (v0_) ∧ Kd.R (Kd.int .u8) 5 w' w.heap.size (fun _ => True) v0_ r ∧ Below w.heap.size w w' := by
 have HB := ak (Below.refl w.heap.size w)
 have H : (if a0 < 0 then (some ([] : List Int)) else (if a0 ≥ 4294967296 then (some ([] : List Int)) else ((spec_l1dotted.f k a0).bind fun t101 => (some t101)))) = some r := h
 clear h
 replace H := ip H
 obtain ⟨c2b0, H⟩ | ⟨c2b0, H⟩ := H
 ·obtain rfl := Option.some.inj H
  go_enter Tryd.func8, Tryd.ntmps8
  go_wp2
  go_ret
  exact ⟨_, o1, by first | exact Kd.R_nil _ _ _ _ _ | exact Kd.N_nil _ _ _ _ _ | exact Kd.V_nil _ _ _ _ _ | exact Kd.Q_nil _ _ _ _ _ | exact Kd.S_nil _ _ _ _ _, bw HB.out⟩
 ·replace H := ih H
  obtain ⟨c3b0, H⟩ | ⟨c3b0, H⟩ := H
  ·obtain rfl := Option.some.inj H
   go_enter Tryd.func8, Tryd.ntmps8
   go_wp2
   go_ret
   exact ⟨_, o1, by first | exact Kd.R_nil _ _ _ _ _ | exact Kd.N_nil _ _ _ _ _ | exact Kd.V_nil _ _ _ _ _ | exact Kd.Q_nil _ _ _ _ _ | exact Kd.S_nil _ _ _ _ _, bw HB.out⟩
  ·replace H := bnd H
   obtain ⟨t101, A4, H⟩ := H
   obtain rfl := Option.some.inj H
   go_enter Tryd.func8, Tryd.ntmps8
   go_wp2_with (((with_reducible refine gate_callee (f := 36) rfl ?_);refine glG 10 rfl rfl Tryd.func36 (spec_l1dotted.calls k a0 t101 _ A4.out) ?_;rintro e w5 ⟨v102, rfl, ho0, hb⟩;refine ⟨_, rfl, ?_⟩;have HO103 := ak (Kd.R_lower ho0 (below_size (bw HB.out)));replace HB := b2 HB hb;(try clear hb);(try clear ho0)))
   go_ret
   exact ⟨_, o1, rw_ HO103.out, bw HB.out⟩

/-! ### impl_within: function 47 -/
def impl_within.f (a0 : Int) (a1 : Int) (a2 : Int) : Option (Bool) := if a1 ≤ a0 then (some (decide (a0 ≤ a2))) else (some false)
set_option maxHeartbeats 8000000 in
set_option maxRecDepth 100000 in
theorem impl_within.calls (a0 : Int) (a1 : Int) (a2 : Int) (r : Bool) (w : World) (h : impl_within.f a0 a1 a2 = some r) :
  Calls Tryd.prog 47 #[.int .i64 a0, .int .i64 a1, .int .i64 a2] w fun e w' => e = .returned (.bool r) ∧ Drawn0 w w' := by
 have H : (if a1 ≤ a0 then (some (decide (a0 ≤ a2))) else (some false)) = some r := h
 clear h
 replace H := ip H
 obtain ⟨c4b0, H⟩ | ⟨c4b0, H⟩ := H
 ·obtain rfl := Option.some.inj H
  go_enter Tryd.func47, Tryd.ntmps47
  go_wp2
  go_ret
  exact ⟨o2, od⟩
 ·obtain rfl := Option.some.inj H
  go_enter Tryd.func47, Tryd.ntmps47
  go_wp2
  go_ret
  exact ⟨o2, od⟩

/-! ### impl_isWord: function 37 -/
def impl_isWord.f (a0 : Int) : Option (Bool) := (impl_within.f a0 0 4294967295).bind fun t101 => (some t101)
set_option maxHeartbeats 8000000 in
set_option maxRecDepth 100000 in
theorem impl_isWord.calls (a0 : Int) (r : Bool) (w : World) (h : impl_isWord.f a0 = some r) :
  Calls Tryd.prog 37 #[.int .i64 a0] w fun e w' => e = .returned (.bool r) ∧ Drawn0 w w' := by
 have H : ((impl_within.f a0 0 4294967295).bind fun t101 => (some t101)) = some r := h
 clear h
 replace H := bnd H
 obtain ⟨t101, A2, H⟩ := H
 obtain rfl := Option.some.inj H
 go_enter Tryd.func37, Tryd.ntmps37
 go_wp2_with (((with_reducible refine gate_callee (f := 47) rfl ?_);refine glD 4 rfl rfl Tryd.func47 (impl_within.calls a0 0 4294967295 t101 _ A2.out) (fun nd => ?_)))
 go_ret
 exact ⟨o2, od⟩

/-! ### impl_two: function 54 -/
def impl_two.f (a0 : Int) : Option (List Int) := some (([(a0 / 256) % 256, (a0) % 256] : List Int))
set_option maxHeartbeats 8000000 in
set_option maxRecDepth 100000 in
theorem impl_two.calls (a0 : Int) (r : List Int) (w : World) (h : impl_two.f a0 = some r) :
  Calls Tryd.prog 54 #[.int .i64 a0] w fun e w' => ∃ v0_ : Value, e = .returned (v0_) ∧ Kd.R (Kd.int .u8) 5 w' w.heap.size (fun _ => True) v0_ r ∧ Below w.heap.size w w' := by
 have HB := ak (Below.refl w.heap.size w)
 have H : (some (([(a0 / 256) % 256, (a0) % 256] : List Int))) = some r := h
 clear h
 obtain ⟨y101, hy101⟩ : ∃ y_ : List Int, y_ = (([(a0 / 256) % 256, (a0) % 256] : List Int)) := ⟨_, rfl⟩
 (try with_reducible replace H := bnS H)
 (try rw [← hy101] at H)
 have Ny101 := ak hy101
 clear hy101
 obtain rfl := Option.some.inj H
 go_enter Tryd.func54, Tryd.ntmps54
 go_wp2_with (((with_reducible refine gate_dst (N := 8) rfl ?_);refine Kd.R_lit (Kd.int .u8) _ 5 ?hg (N := 8) ?hd (xs := ([(a0 / 256) % 256, (a0) % 256] : List Int)) (inner := [.int .u8 ((a0 / 256) % 256), .int .u8 ((a0) % 256)]) (ok := fun _ => True) (okp := fun _ => True) ?hr ?hp (fun _ hk => hk) trivial (Below.refl _ _) (Nat.le_refl _) (by simp) ?_;(case hd => rfl);(case hg => rfl);(case hr => first | (go_simp; done) | (go_simp; rfl));(case hp => exact (Reps.one (show Kd.M (Kd.int .u8) _ _ _ ((a0 / 256) % 256) [.int .u8 ((a0 / 256) % 256)] from rfl) (Reps.one (show Kd.M (Kd.int .u8) _ _ _ ((a0) % 256) [.int .u8 ((a0) % 256)] from rfl) (Reps.none _ _))));intro v102 w2 ho3 hb hg_ hnew_;clear hg_ hnew_;(first | rw [← Ny101.out] at ho3 | (simp only [Int.reduceToNat] at ho3; rw [← Ny101.out] at ho3));have HO103 := ak (Kd.R_lower ho3 (below_size (bw HB.out)));replace HB := b2 HB hb;clear hb ho3))
 go_ret
 exact ⟨_, o1, rw_ HO103.out, bw HB.out⟩

/-! ### impl_four: function 56 -/
def impl_four.f (a0 : Int) : Option (List Int) := (impl_two.f (a0 / 65536)).bind fun t101 => ((impl_two.f a0).bind fun t104 => (if t101.length + t104.length < 140737488355328 then (some (t101 ++ t104)) else (none)))
set_option maxHeartbeats 8000000 in
set_option maxRecDepth 100000 in
theorem impl_four.calls (a0 : Int) (r : List Int) (w : World) (h : impl_four.f a0 = some r) :
  Calls Tryd.prog 56 #[.int .i64 a0] w fun e w' => ∃ v0_ : Value, e = .returned (v0_) ∧ Kd.R (Kd.int .u8) 5 w' w.heap.size (fun _ => True) v0_ r ∧ Below w.heap.size w w' := by
 have HB := ak (Below.refl w.heap.size w)
 have H : ((impl_two.f (a0 / 65536)).bind fun t101 => ((impl_two.f a0).bind fun t104 => (if t101.length + t104.length < 140737488355328 then (some (t101 ++ t104)) else (none)))) = some r := h
 clear h
 replace H := bnd H
 obtain ⟨t101, A2, H⟩ := H
 replace H := bnd H
 obtain ⟨t104, A3, H⟩ := H
 by_cases c4 : t101.length + t104.length < 140737488355328
 ·rw [if_pos c4] at H
  have LMc4 := ak c4
  clear c4
  obtain ⟨y107, hy107⟩ : ∃ y_ : List Int, y_ = (t101 ++ t104) := ⟨_, rfl⟩
  (try with_reducible replace H := bnS H)
  (try rw [← hy107] at H)
  have Ny107 := ak hy107
  clear hy107
  obtain rfl := Option.some.inj H
  go_enter Tryd.func56, Tryd.ntmps56
  go_wp2_with (first | ((with_reducible refine gate_callee (f := 54) rfl ?_);refine glG 5 rfl rfl Tryd.func54 (impl_two.calls (a0 / 65536) t101 _ A2.out) ?_;rintro e w5 ⟨v102, rfl, ho0, hb⟩;refine ⟨_, rfl, ?_⟩;have HO103 := ak (Kd.R_lower ho0 (below_size (bw HB.out)));replace HB := b2 HB hb;(try clear hb);(try clear ho0)) | ((with_reducible refine gate_callee (f := 54) rfl ?_);refine glG 7 rfl rfl Tryd.func54 (impl_two.calls a0 t104 _ A3.out) ?_;rintro e w6 ⟨v105, rfl, ho0, hb⟩;refine ⟨_, rfl, ?_⟩;have HO106 := ak (Kd.R_lower (Kd.R_new' ho0 (Kd.R_lt (rw_ HO103.out))) (below_size (bw HB.out)));replace HO103 := ak (Kd.R_elder' (rw_ HO103.out) (Kd.R_base ho0) hb);replace HB := b2 HB hb;(try clear hb);(try clear ho0);obtain ⟨Ao8, co8, eo8⟩ := Kd.R_slice HO106.out;subst eo8) | ((with_reducible refine gate_builtin (b := .append) (xs := #[.tmp 5, .tmp 7]) rfl ?_);at_builtin;refine Kd.R_append_rows (Kd.int .u8) (w0 := w) w.heap.size rfl (.tmp 5) (.tmp 7) 22 5 (.int .u8 0) 1 rfl Tryd.underlying22 info5 rfl (by decide) (by omega) v102 t101 t104 _ _ _ (fun k_ => some k_ ≠ (.slice Ao8 t104.length co8 : Value).ownBlock) (fun _ => False) rfl rfl ?aO ?aR (fun _ _ h => h) (fun _ h => h.elim) ?aF ?aB ?aS ?aL ?_;(case aR => repeat (first | exact (Kd.R_reads' HO106.out).2.2 | (with_reducible refine Kd.C_alloc ?_ _) | (with_reducible refine Kd.C_drewN ?_ _) | (with_reducible refine Kd.C_drew ?_)));(case aB => exact (bw HB.out));(case aF => exact (fun k_ hk => Kd.fresh' (Kd.R_lt (rw_ HO106.out)) k_ hk));(case aO => exact (rw_ (Kd.R_mono HO103.out (fun _ hk => hk.2))));(case aS => exact (below_size (bw HB.out)));(case aL => have := LMc4.out; omega);intro v108 w7 ho hb hg hat;rw [← Ny107.out] at ho;replace HO106 := ak (Kd.R_after (ok := (fun _ => True)) (rw_ HO106.out) hg hat);replace HB := ak (hb);have HO109 := ak (ho);clear HO103;clear ho hb hg hat))
  go_ret
  exact ⟨_, o1, by (with_reducible repeat (first | apply Kd.R_alloc | apply Kd.R_drewN | apply Kd.R_drew)); exact Kd.R_mono HO109.out (fun _ hk => trivial), bw HB.out⟩
 ·rw [if_neg c4] at H
  exact absurd H (by simp)

def laysM171_ren : Go.Shelf.Ren := ⟨fun | 171 => 74 | 243 => 101 | 246 => 116 | 283 => 128 | 284 => 129 | 285 => 130 | 286 => 131 | 129 => 143 | 317 => 142 | 318 => 144 | 319 => 145 | 320 => 146 | 337 => 150 | 338 => 151 | n => n, fun | 3 => 3 | 9 => 9 | 2 => 2 | 4 => 4 | 171 => 127 | 0 => 0 | 53 => 118 | 37 => 22 | 5 => 5 | 173 => 130 | 212 => 140 | 51 => 141 | 20 => 20 | 213 => 142 | 46 => 68 | 232 => 152 | 233 => 153 | n => n, fun | 17 => 3 | 18 => 6 | 19 => 7 | n => n⟩
theorem laysM171 : Go.Proofs.LaysM.n171 Tryd.prog laysM171_ren := {
  mixed := (by kernel_rfl),
  f129 := Tryd.func143.trans (congrArg some (by kernel_rfl)),
  f171 := Tryd.func74.trans (congrArg some (by kernel_rfl)),
  f243 := Tryd.func101.trans (congrArg some (by kernel_rfl)),
  f246 := Tryd.func116.trans (congrArg some (by kernel_rfl)),
  f283 := Tryd.func128.trans (congrArg some (by kernel_rfl)),
  f284 := Tryd.func129.trans (congrArg some (by kernel_rfl)),
  f285 := Tryd.func130.trans (congrArg some (by kernel_rfl)),
  f286 := Tryd.func131.trans (congrArg some (by kernel_rfl)),
  f317 := Tryd.func142.trans (congrArg some (by kernel_rfl)),
  f318 := Tryd.func144.trans (congrArg some (by kernel_rfl)),
  f319 := Tryd.func145.trans (congrArg some (by kernel_rfl)),
  f320 := Tryd.func146.trans (congrArg some (by kernel_rfl)),
  f337 := Tryd.func150.trans (congrArg some (by kernel_rfl)),
  f338 := Tryd.func151.trans (congrArg some (by kernel_rfl)),
  t0 := Tryd.underlying0,
  a0 := Tryd.isAgg0,
  z0 := Tryd.sizeOf0,
  v0 := Tryd.zeroValue0,
  t2 := Tryd.underlying2,
  a2 := Tryd.isAgg2,
  z2 := Tryd.sizeOf2,
  v2 := Tryd.zeroValue2,
  t3 := Tryd.underlying3,
  a3 := Tryd.isAgg3,
  z3 := Tryd.sizeOf3,
  v3 := Tryd.zeroValue3,
  t4 := Tryd.underlying4,
  a4 := Tryd.isAgg4,
  z4 := Tryd.sizeOf4,
  v4 := Tryd.zeroValue4,
  t5 := Tryd.underlying5,
  a5 := Tryd.isAgg5,
  z5 := Tryd.sizeOf5,
  v5 := Tryd.zeroValue5,
  t9 := Tryd.underlying9,
  a9 := Tryd.isAgg9,
  z9 := Tryd.sizeOf9,
  v9 := Tryd.zeroValue9,
  t20 := Tryd.underlying20,
  a20 := Tryd.isAgg20,
  z20 := Tryd.sizeOf20,
  v20 := Tryd.zeroValue20,
  t37 := Tryd.underlying22,
  a37 := Tryd.isAgg22,
  z37 := Tryd.sizeOf22,
  v37 := Tryd.zeroValue22,
  t46 := Tryd.underlying68,
  a46 := Tryd.isAgg68,
  z46 := Tryd.sizeOf68,
  v46 := Tryd.zeroValue68,
  t51 := Tryd.underlying141,
  a51 := Tryd.isAgg141,
  z51 := Tryd.sizeOf141,
  v51 := Tryd.zeroValue141,
  t53 := Tryd.underlying118,
  a53 := Tryd.isAgg118,
  z53 := Tryd.sizeOf118,
  v53 := Tryd.zeroValue118,
  t171 := Tryd.underlying127,
  a171 := Tryd.isAgg127,
  z171 := Tryd.sizeOf127,
  v171 := Tryd.zeroValue127,
  t173 := Tryd.underlying130,
  a173 := Tryd.isAgg130,
  z173 := Tryd.sizeOf130,
  v173 := Tryd.zeroValue130,
  t212 := Tryd.underlying140,
  a212 := Tryd.isAgg140,
  z212 := Tryd.sizeOf140,
  v212 := Tryd.zeroValue140,
  t213 := Tryd.underlying142,
  a213 := Tryd.isAgg142,
  z213 := Tryd.sizeOf142,
  t232 := Tryd.underlying152,
  a232 := Tryd.isAgg152,
  z232 := Tryd.sizeOf152,
  v232 := Tryd.zeroValue152,
  t233 := Tryd.underlying153,
  a233 := Tryd.isAgg153,
  z233 := Tryd.sizeOf153,
  v233 := Tryd.zeroValue153,
  g17 := (by kernel_rfl),
  g18 := (by kernel_rfl),
  g19 := (by kernel_rfl),
  i0 := (by kernel_rfl),
  i2 := (by kernel_rfl),
  i3 := (by kernel_rfl),
  i4 := (by kernel_rfl),
  i5 := (by kernel_rfl),
  i9 := (by kernel_rfl),
  i20 := (by kernel_rfl),
  i37 := (by kernel_rfl),
  i46 := (by kernel_rfl),
  i51 := (by kernel_rfl),
  i53 := (by kernel_rfl),
  i171 := (by kernel_rfl),
  i173 := (by kernel_rfl),
  i212 := (by kernel_rfl),
  i232 := (by kernel_rfl),
  i233 := (by kernel_rfl),
  m17 := (by kernel_rfl),
  m18 := (by kernel_rfl),
  m19 := (by kernel_rfl) }
def lays156_ren : Go.Shelf.Ren := ⟨fun | 156 => 38 | 165 => 71 | 166 => 72 | 169 => 73 | 240 => 99 | 241 => 100 | 276 => 114 | 277 => 115 | n => n, fun | 31 => 57 | 9 => 9 | 3 => 3 | 4 => 4 | 0 => 0 | 20 => 20 | 72 => 86 | 76 => 65 | 70 => 84 | 37 => 22 | 75 => 64 | 127 => 100 | 164 => 111 | 5 => 5 | 80 => 82 | n => n, fun | n => n⟩
theorem lays156 : Go.Proofs.Lays.n156 Tryd.prog lays156_ren := {
  mixed := (by kernel_rfl),
  f156 := Tryd.func38.trans (congrArg some (by kernel_rfl)),
  f165 := Tryd.func71.trans (congrArg some (by kernel_rfl)),
  f166 := Tryd.func72.trans (congrArg some (by kernel_rfl)),
  f169 := Tryd.func73.trans (congrArg some (by kernel_rfl)),
  f240 := Tryd.func99.trans (congrArg some (by kernel_rfl)),
  f241 := Tryd.func100.trans (congrArg some (by kernel_rfl)),
  f276 := Tryd.func114.trans (congrArg some (by kernel_rfl)),
  f277 := Tryd.func115.trans (congrArg some (by kernel_rfl)),
  t0 := Tryd.underlying0,
  a0 := Tryd.isAgg0,
  z0 := Tryd.sizeOf0,
  v0 := Tryd.zeroValue0,
  t3 := Tryd.underlying3,
  a3 := Tryd.isAgg3,
  z3 := Tryd.sizeOf3,
  v3 := Tryd.zeroValue3,
  t4 := Tryd.underlying4,
  a4 := Tryd.isAgg4,
  z4 := Tryd.sizeOf4,
  v4 := Tryd.zeroValue4,
  t9 := Tryd.underlying9,
  a9 := Tryd.isAgg9,
  z9 := Tryd.sizeOf9,
  v9 := Tryd.zeroValue9,
  t20 := Tryd.underlying20,
  a20 := Tryd.isAgg20,
  z20 := Tryd.sizeOf20,
  v20 := Tryd.zeroValue20,
  t31 := Tryd.underlying57,
  a31 := Tryd.isAgg57,
  z31 := Tryd.sizeOf57,
  v31 := Tryd.zeroValue57,
  t37 := Tryd.underlying22,
  a37 := Tryd.isAgg22,
  z37 := Tryd.sizeOf22,
  v37 := Tryd.zeroValue22,
  t70 := Tryd.underlying84,
  a70 := Tryd.isAgg84,
  z70 := Tryd.sizeOf84,
  v70 := Tryd.zeroValue84,
  t72 := Tryd.underlying86,
  a72 := Tryd.isAgg86,
  z72 := Tryd.sizeOf86,
  v72 := Tryd.zeroValue86,
  t75 := Tryd.underlying64,
  a75 := Tryd.isAgg64,
  z75 := Tryd.sizeOf64,
  v75 := Tryd.zeroValue64,
  t76 := Tryd.underlying65,
  a76 := Tryd.isAgg65,
  z76 := Tryd.sizeOf65,
  v76 := Tryd.zeroValue65,
  t127 := Tryd.underlying100,
  a127 := Tryd.isAgg100,
  z127 := Tryd.sizeOf100,
  v127 := Tryd.zeroValue100,
  t164 := Tryd.underlying111,
  a164 := Tryd.isAgg111,
  z164 := Tryd.sizeOf111,
  v164 := Tryd.zeroValue111 }
theorem Builder_Extra_156 : Builder.Extra Tryd.prog lays156_ren := {
  sizeBuilder := (by kernel_rfl),
  liesBuilder := (by kernel_rfl),
  t5 := Tryd.underlying5,
  a5 := Tryd.isAgg5,
  z5 := Tryd.sizeOf5,
  v5 := Tryd.zeroValue5,
  infoByte := (by kernel_rfl),
  cellsByte := (by kernel_rfl),
  sizeByte := (by kernel_rfl),
  neB5 := (by decide) }
/-- strconv.Itoa, at every int. -/
theorem itoa_any (n : Int) (h0 : -9223372036854775808 ≤ n) (h1 : n ≤ 9223372036854775807) (w : World) (htab : Lib.TabIs Tryd.prog w "internal/strconv.uint64pow10" .u64 Lib.pow10Tab) :
    Calls Tryd.prog 74 #[.int .i64 n] w fun e w' => e = .returned (.string ⟨(Lib.itoa n).toArray⟩) ∧ Below w.heap.size w w' := (Any.strconv_Itoa laysM171 n h0 h1 w htab).mono fun e w' h => ⟨h.1, by obtain ⟨k, os, rfl⟩ := h.2; exact Lib.below_grow _ w (Nat.le_refl _) k os⟩
theorem join_any (bk o c : Nat) (xs : List ByteArray) (sep : ByteArray) (w : World) (hcells : ∀ (j : Nat) x, xs[j]? = some x → w.cell? ⟨bk, o + j, none⟩ = some (.string x))
    (hbk : bk < w.heap.size) (hN : xs.length ≤ 140737488355328) (hcap : xs.length ≤ c) (hlen : (Lib.join (xs.map (·.data.toList)) sep.data.toList).length ≤ 140737488355328) :
    Calls Tryd.prog 38 #[.slice (some ⟨bk, o, none⟩) xs.length c, .string sep] w fun e w' => e = .returned (.string ⟨(Lib.join (xs.map (·.data.toList)) sep.data.toList).toArray⟩) ∧ Below w.heap.size w w' :=
  Any.strings_Join lays156 Builder_Extra_156 bk o c xs sep w hcells hbk hN hcap hlen

/-- The table of powers reads as the library lays it. -/
def TabA (w : World) : Prop := Lib.TabIs Tryd.prog w "internal/strconv.uint64pow10" .u64 Lib.pow10Tab
theorem tab_below {w W : World} (h : TabA w) (hb : Below w.heap.size w W) : TabA W := Lib.tabBelow_of_tabIs h W hb
def digS (c : Int) : ByteArray := ⟨(Lib.itoa c).toArray⟩
def qd4 (x : Int) : List Int := [x / 16777216 % 256, x / 65536 % 256, x / 256 % 256, x % 256]
theorem four_eq (x : Int) (h0 : 0 ≤ x) (h1 : x < 4294967296) : impl_four.f x = some (qd4 x) := by
  unfold impl_four.f impl_two.f qd4
  simp only [Option.bind_some]
  rw [if_pos (by simp)]
  simp only [List.cons_append, List.nil_append, Option.some.injEq, List.cons.injEq, and_true]
  omega
theorem rd_atN (l : List Int) (n : Nat) (h : n < l.length) : rd l ((n : Nat) : Int) = l[n] := by simp [rd, List.getD_eq_getElem?_getD, h]
def decS (x : Int) : List ByteArray := (qd4 x).map digS
set_option maxHeartbeats 2000000 in
set_option maxRecDepth 100000 in
theorem decimals_any (a0 : Int) (h0 : 0 ≤ a0) (h1 : a0 < 4294967296) (w : World) (hT : TabA w) :
    Calls Tryd.prog 39 #[.int .i64 a0] w fun e w' => ∃ v0_ : Value, e = .returned v0_ ∧ Kd.R Kd.string 9 w' w.heap.size (fun _ => True) v0_ (decS a0) ∧ Below w.heap.size w w' := by
  have HT := ak hT
  have HB := ak (Below.refl w.heap.size w)
  clear hT
  go_enter Tryd.func39, Tryd.ntmps39
  go_wp2_with (((with_reducible refine gate_dst (N := 6) rfl ?_);refine Kd.R_lit Kd.string _ 9 ?hg (N := 6) ?hd (xs := ([] : List ByteArray)) (inner := []) (ok := fun _ => True) (okp := fun _ => True) ?hr ?hp (fun _ hk => hk) trivial (Below.refl _ _) (Nat.le_refl _) (by simp) ?_;(case hd => rfl);(case hg => rfl);(case hr => first | (go_simp; done) | (go_simp; rfl));(case hp => exact (Reps.none _ _));intro v6 w3 ho4 hb hg_ hnew_;clear hg_ hnew_;have HO := ak (Kd.R_lower ho4 (below_size HB.out));replace HB := ak (below_step HB.out hb);clear hb ho4))
  refine (impl_four.calls a0 (qd4 a0) _ (four_eq a0 h0 h1)).mono ?_
  rintro e w4 ⟨v8, rfl, ho, hb⟩
  replace HO := ak (Kd.R_below HO.out hb)
  have HS3 := ak HB.out.size
  replace HB := b2s HB.out hb
  obtain ⟨B, HBE⟩ : ∃ B, Aside0 (qd4 a0 = B) := ⟨_, ⟨rfl⟩⟩
  have HBL := ak (show B.length = 4 by rw [← HBE.out]; rfl)
  have HBB := ak (show ∀ x ∈ B, 0 ≤ x ∧ x ≤ 255 by rw [← HBE.out]; unfold qd4; intro x hx; simp only [List.mem_cons, List.not_mem_nil, or_false] at hx; rcases hx with rfl | rfl | rfl | rfl <;> omega)
  rw [HBE.out] at ho
  obtain ⟨A8, c8, eo⟩ := Kd.R_slice ho
  subst eo
  have HW := ak (Kd.R_lower ho HS3.out)
  clear ho hb
  go_wp2
  go_loopg [3, 5, 10] 5 (fun gq v3 v5 v10 W => ∃ i : Nat, i ≤ 4 ∧ 5 - i ≤ gq ∧ v10 = .int .i64 (i : Int) ∧ Aside0 (Kd.R Kd.string 9 W w.heap.size (fun _ => True) v3 ((B.take i).map digS)) ∧ Aside0 (Below w.heap.size w W) ∧ Aside0 (Kd.R (Kd.int .u8) 5 W w.heap.size (fun _ => True) (.slice A8 B.length c8) B))
  case atStart => exact ⟨0, by omega, by omega, rfl, HO, HB, HW⟩
  case round =>
    clear HO HB HW
    obtain ⟨i, hi, hg, rfl, HO, HB, HW⟩ := hrel
    have hbl := HBL.out
    by_cases hlt : i < 4
    · have hlz : (i : Int) < (B.length : Int) := by omega
      obtain ⟨ad, hA, hck⟩ := Kd.at_int (Kd.R_reads' HW.out).2.2 (i : Int) (by omega) (by omega)
      subst hA
      rw [show ((i : Int)).toNat = i from by omega] at hck
      have hx := HBB.out (rd B (i : Int)) (by rw [rd_atN B i (by omega)]; exact List.getElem_mem _)
      have HTK := ak (show (B.take i).map digS ++ [digS (rd B (i : Int))] = (B.take (i + 1)).map digS by rw [List.take_succ_eq_append_getElem (by omega), List.map_append, rd_atN B i (by omega)]; rfl)
      obtain ⟨x, HX⟩ : ∃ x, Aside0 (rd B (i : Int) = x) := ⟨_, ⟨rfl⟩⟩
      rw [HX.out] at hck hx HTK
      obtain ⟨hx0, hx1⟩ := hx
      have HLT := ak (show ((B.take i).map digS).length ≤ 4 by rw [List.length_map, List.length_take]; omega)
      obtain ⟨ds, HDS⟩ : ∃ d, Aside0 ((B.take i).map digS = d) := ⟨_, ⟨rfl⟩⟩
      rw [HDS.out] at HO HTK HLT
      obtain ⟨dg, HDG⟩ : ∃ d, Aside0 (digS x = d) := ⟨_, ⟨rfl⟩⟩
      rw [HDG.out] at HTK
      clear hbl
      go_wp2_with (fail)
      refine (itoa_any x (by omega) (by omega) _ (tab_below HT.out HB.out)).mono ?_
      rintro e w5 ⟨rfl, hb⟩
      rw [show (⟨(Lib.itoa x).toArray⟩ : ByteArray) = dg from HDG.out]
      replace HO := ak (Kd.R_below HO.out hb)
      replace HB := b2s HB.out hb
      replace HW := ak (Kd.R_below HW.out hb)
      clear hb hck
      go_wp2_with ((with_reducible refine gate_builtin (b := .append) (xs := #[.tmp 14, .tmp 18]) rfl ?_);at_builtin;refine Kd.R_append Kd.string (w0 := w) w.heap.size rfl (.tmp 14) (.tmp 18) 57 9 (.string ⟨#[]⟩) 16 rfl Tryd.underlying57 info9 rfl (by decide) (by omega) _ ds dg [.string dg] (fun _ => True) (fun _ => False) rfl rfl ?aP (fun _ hk => hk.elim) ?aF ?aO ?aB ?aS ?aL ?_;(case aP => exact rfl);(case aB => exact HB.out);(case aF => exact (fun _ _ => trivial));(case aO => exact HO.out);(case aS => exact HB.out.size);(case aL => have := HLT.out; omega);intro v19 w6 ho hb hg hat;replace HB := ak hb;replace HW := ak (Kd.R_mono (ok' := fun _ => True) (Kd.R_grown (Kd.R_apartR HW.out HO.out (by decide)) hg (fun k hk => hk.2)) (fun _ _ => trivial));replace HO := ak ho;clear ho hb hat hg)
      go_roundg (5 - (i + 1))
      case measure => omega
      case rel => exact ⟨i + 1, by omega, by omega, by go_num, ⟨by rw [← HTK.out]; exact HO.out⟩, HB, HW⟩
    · have hlz : ¬ (i : Int) < (B.length : Int) := by omega
      obtain rfl : i = 4 := by omega
      rw [List.take_of_length_le (by omega)] at HO
      clear hi hg hlt hbl
      go_wp2
      go_ret
      exact ⟨_, rfl, by unfold decS; rw [HBE.out]; exact HO.out, HB.out⟩

def strBytes (s : ByteArray) : List Int := s.data.toList.map fun b => (b.toNat : Int)
theorem strBytes_len (s : ByteArray) : (strBytes s).length = s.size := by
  unfold strBytes
  rw [List.length_map, Array.length_toList]
  rfl
theorem conv_s (s : ByteArray) (W : World) : (convert 9 22 (.string s)).run Tryd.prog W = .ok (.slice (some ⟨W.heap.size, 0, none⟩) (strBytes s).length (grownCap W s.size 0 5))
      (W.drew.alloc (.cells (bytesRow s (grownCap W s.size 0 5)) 5 ((bytesRow s (grownCap W s.size 0 5)).size, (bytesRow s (grownCap W s.size 0 5)).size + 1))) := by
  rw [strBytes_len]
  exact run_bytes_of_string W 9 22 5 s Tryd.underlying9 Tryd.underlying22 Tryd.underlying5
theorem Zs_str (W : World) (s : ByteArray) (n base : Nat) (hs : s.size ≤ 9223372036854775807) (hn : s.size ≤ n) (hb : base ≤ W.heap.size) :
    Zs 5 ((W.alloc (.cells (bytesRow s n) 5 ((bytesRow s n).size, (bytesRow s n).size + 1))).drew) base (fun _ => True) (.slice (some ⟨W.heap.size, 0, none⟩) (strBytes s).length n) (strBytes s) := by
  have hl : (bytesRow s n).size = n := by
    have : s.data.size ≤ n := hn
    have e : s.size = s.data.size := rfl
    unfold bytesRow
    rw [Array.size_append, Array.size_map, Array.size_replicate]
    omega
  refine ⟨W.heap.size, n, bytesRow s n, rfl, by rw [strBytes_len]; exact hn, trivial, hb, heap_alloc_new _ _, by rw [strBytes_len, hl]; exact hn, by rw [strBytes_len]; omega, fun j hj => ?_⟩
  have hj2 : j < s.data.size := by rw [strBytes_len] at hj; exact hj
  have hj3 : j < s.size := hj2
  simp [bytesRow, strBytes, Array.getElem?_append, rd, List.getD_eq_getElem?_getD]
  rw [if_pos hj3, Array.getElem?_eq_getElem hj2]
  rfl
/-- An address in dots. -/
def dotS (x : Int) : ByteArray := ⟨(Lib.join ((decS x).map (·.data.toList)) [46]).toArray⟩
def dotV (x : Int) : List Int := if 0 ≤ x ∧ x < 4294967296 then strBytes (dotS x) else []
theorem dot_list (x : Int) : (dotS x).data.toList = Lib.itoa (x / 16777216 % 256) ++ 46 :: (Lib.itoa (x / 65536 % 256) ++ 46 :: (Lib.itoa (x / 256 % 256) ++ 46 :: Lib.itoa (x % 256))) := by
  simp [dotS, decS, qd4, digS, Lib.join, List.intercalate]
theorem dot_size (x : Int) (h0 : 0 ≤ x) (h1 : x < 4294967296) : (dotS x).size ≤ 100 := by
  have e : (dotS x).size = (dotS x).data.toList.length := by rw [Array.length_toList]; rfl
  have a := Lib.itoa_length_le (x / 16777216 % 256) (by omega) (by omega)
  have b := Lib.itoa_length_le (x / 65536 % 256) (by omega) (by omega)
  have c := Lib.itoa_length_le (x / 256 % 256) (by omega) (by omega)
  have d := Lib.itoa_length_le (x % 256) (by omega) (by omega)
  rw [e, dot_list]
  simp only [List.length_append, List.length_cons]
  omega
set_option maxHeartbeats 2000000 in
set_option maxRecDepth 100000 in
theorem dotted_any (a0 : Int) (w : World) (hT : TabA w) :
    Calls Tryd.prog 9 #[.int .i64 a0] w fun e w' => ∃ v0_ : Value, e = .returned (v0_) ∧ Zr 5 w' w.heap.size (fun _ => True) v0_ (dotV a0) ∧ Below w.heap.size w w' := by
  have HT := ak hT
  clear hT
  by_cases hw : 0 ≤ a0 ∧ a0 < 4294967296
  · have hv : dotV a0 = strBytes (dotS a0) := by unfold dotV; rw [if_pos hw]
    have HV := ak hv
    have HWD := ak hw
    have HIS := ak (show impl_isWord.f a0 = some true by unfold impl_isWord.f impl_within.f; rw [if_pos hw.1, decide_eq_true (show a0 ≤ 4294967295 by omega)]; rfl)
    clear hv hw
    go_enter Tryd.func9, Tryd.ntmps9
    go_wp2_with (fail)
    refine (impl_isWord.calls a0 true _ HIS.out).mono ?_
    rintro e w1 ⟨rfl, ⟨nd, rfl⟩⟩
    have HB := ak (pw_below_drewN (Below.refl w.heap.size w) nd)
    generalize w.drewN nd = w1 at HB ⊢
    go_wp2_with (fail)
    refine (decimals_any a0 HWD.out.1 HWD.out.2 w1 (tab_below HT.out HB.out)).mono ?_
    rintro e w2 ⟨v7, rfl, ho, hb⟩
    replace HB := b2s HB.out hb
    obtain ⟨ds, HDS⟩ : ∃ d, Aside0 (decS a0 = d) := ⟨_, ⟨rfl⟩⟩
    have HDL := ak (show ds.length = 4 by rw [← HDS.out]; rfl)
    rw [HDS.out] at ho
    obtain ⟨g, cap, rfl, hgb, hgl, cur, hgc⟩ := Kd.R_form ho (by rw [HDL.out]; omega)
    have hcap := (Kd.R_reads' ho).2.1
    have hcells : ∀ (j : Nat) x, ds[j]? = some x → w2.cell? ⟨g, 0 + j, none⟩ = some (.string x) := fun j x hx => by
      have hj := (List.getElem?_eq_some_iff.1 hx).1
      have := (Kd.R_celln (enc := Value.string) (h1 := fun _ => rfl) ByteArray.empty ho (j : Int) (by omega) (by omega)).1
      rw [show ((j : Int)).toNat = j by omega] at this
      rw [Nat.zero_add, this]
      simp [rdOf, List.getD_eq_getElem?_getD, hx]
    have HCALL := ak (join_any g 0 cap ds ⟨#[46]⟩ w2 hcells hgl (by rw [HDL.out]; omega) hcap (by
      have h1 := dot_size a0 HWD.out.1 HWD.out.2
      have e : (dotS a0).size = (dotS a0).data.toList.length := by rw [Array.length_toList]; rfl
      rw [← HDS.out]
      have h2 : (dotS a0).data.toList = Lib.join ((decS a0).map (·.data.toList)) [46] := rfl
      rw [e, h2] at h1
      show (Lib.join ((decS a0).map (·.data.toList)) [46]).length ≤ _
      omega))
    clear ho hb hcells hgb hgl hgc hcap
    go_wp2_with (fail)
    refine HCALL.out.mono ?_
    rintro e w3 ⟨rfl, hb⟩
    replace HB := b2s HB.out hb
    rw [show (⟨(Lib.join (ds.map (·.data.toList)) (⟨#[46]⟩ : ByteArray).data.toList).toArray⟩ : ByteArray) = dotS a0 by rw [← HDS.out]; rfl]
    have HSZ := ak (dot_size a0 HWD.out.1 HWD.out.2)
    obtain ⟨s, HS⟩ : ∃ s, Aside0 (dotS a0 = s) := ⟨_, ⟨rfl⟩⟩
    rw [HS.out] at HSZ HV
    rw [HS.out]
    have hcv := conv_s s
    clear hb HCALL
    go_wp2
    have hcap := grownCap_ge w3 s.size 0 5
    generalize grownCap w3 s.size 0 5 = cap3 at hcap ⊢
    clear hcv
    go_ret
    exact ⟨_, rfl, by rw [HV.out]; exact .inr (Zs_str w3 s cap3 _ (by have := HSZ.out; omega) hcap HB.out.size), below_drew1 (below_alloc HB.out _)⟩
  · have hv : dotV a0 = [] := by unfold dotV; rw [if_neg hw]
    have HV := ak hv
    have HIS := ak (show impl_isWord.f a0 = some false by
      unfold impl_isWord.f impl_within.f
      by_cases h0 : 0 ≤ a0
      · rw [if_pos h0, decide_eq_false (show ¬ a0 ≤ 4294967295 by omega)]; rfl
      · rw [if_neg h0]; rfl)
    clear hv hw
    go_enter Tryd.func9, Tryd.ntmps9
    go_wp2_with (fail)
    refine (impl_isWord.calls a0 false _ HIS.out).mono ?_
    rintro e w1 ⟨rfl, ⟨nd, rfl⟩⟩
    have HB := ak (pw_below_drewN (Below.refl w.heap.size w) nd)
    generalize w.drewN nd = w1 at HB ⊢
    go_wp2
    go_ret
    exact ⟨_, rfl, by rw [HV.out]; exact .inl (Kd.R_nil _ _ _ _ _), HB.out⟩
/-! ### impl_Dotted: function 9 -/
def impl_Dotted.f (a0 : Int) : Option (List Int) := some (dotV a0)
theorem impl_Dotted.calls (a0 : Int) (r : List Int) (w : World) (h : impl_Dotted.f a0 = some r) (hT : TabA w) :
    Calls Tryd.prog 9 #[.int .i64 a0] w fun e w' => ∃ v0_ : Value, e = .returned (v0_) ∧ Zr 5 w' w.heap.size (fun _ => True) v0_ r ∧ Below w.heap.size w w' := by
  obtain rfl := Option.some.inj h
  exact dotted_any a0 w hT

/-! ### laws_eqByteS: function 10 -/
def laws_eqByteS.l0 : Nat → List Int → List Int → Int → Option (Bool)
 | 0, _, _, _ => none
 | k + 1, x0, x1, x5 => if x5 < (x0.length : Int) then (if 0 ≤ x5 then (if x5 < (x1.length : Int) then (if (rd x0 x5) = (rd x1 x5) then (laws_eqByteS.l0 k x0 x1 (wrap64 (x5 + 1))) else (some false)) else (none)) else (none)) else (some true)
def laws_eqByteS.f (k : Nat) (l0 : List Int) (l1 : List Int) : Option (Bool) := if (l0.length : Int) = (l1.length : Int) then (laws_eqByteS.l0 k l0 l1 0) else (some false)
set_option maxHeartbeats 8000000 in
set_option maxRecDepth 100000 in
theorem laws_eqByteS.calls (k : Nat) (A0 : Option Addr) (c0 : Nat) (l0 : List Int) (A1 : Option Addr) (c1 : Nat) (l1 : List Int) (r : Bool) (w : World) (hr0 : Kd.C (Kd.int .u8) w A0 l0.length l0) (hc0 : l0.length ≤ c0) (hr1 : Kd.C (Kd.int .u8) w A1 l1.length l1) (hc1 : l1.length ≤ c1) (h : laws_eqByteS.f k l0 l1 = some r) :
  Calls Tryd.prog 10 #[.slice A0 l0.length c0, .slice A1 l1.length c1] w fun e w' => e = .returned (.bool r) ∧ Drawn0 w w' := by
 have HR0 := ak hr0
 have HC0 := ak hc0
 clear hr0 hc0
 have HR1 := ak hr1
 have HC1 := ak hc1
 clear hr1 hc1
 have H : (if (l0.length : Int) = (l1.length : Int) then (laws_eqByteS.l0 k l0 l1 0) else (some false)) = some r := h
 clear h
 replace H := ie H
 obtain ⟨c3b0, c3b1, H⟩ | ⟨c3b0, c3b1, H⟩ := H
 ·have c3b2 : (l0.length == l1.length) = true := lnT c3b0
  have H' := ak H
  clear H
  go_enter Tryd.func10, Tryd.ntmps10
  go_wp2
  repeat (go_quiet (fail); try go_wp2)
  go_loopg [5] k (fun kq v5 w' => ∃ (x5_1 : Int), v5 = .int .i64 x5_1 ∧ Aside0 (laws_eqByteS.l0 kq l0 l1 x5_1 = some r) ∧ Aside0 (kq ≤ k) ∧ Drawn0 w w')
  case atStart => exact ⟨(0), o2, H', ⟨Nat.le_refl _⟩, od⟩
  case round =>
   clear H'
   (try clear c1)
   (try clear c3b0)
   (try clear c3b1)
   (try clear c3b2)
   obtain ⟨x5_1, rfl, HA, HK1, ⟨m1, rfl⟩⟩ := hrel
   cases gk with
   | zero => exact absurd HA.out (by simp [laws_eqByteS.l0])
   | succ k1 =>
    have H := HA.out
    clear HA
    simp only [laws_eqByteS.l0] at H
    replace H := ip H
    obtain ⟨c4b0, H⟩ | ⟨c4b0, H⟩ := H
    ·replace H := ipN H
     obtain ⟨c5b0, H⟩ := H
     replace H := ipN H
     obtain ⟨c6b0, H⟩ := H
     replace H := ie H
     obtain ⟨c7b0, c7b1, H⟩ | ⟨c7b0, c7b1, H⟩ := H
     ·have H' := ak H
      clear H
      obtain ⟨ad101, rfl, hx101_0, p101, q101⟩ := el0_int HR0 x5_1
      obtain ⟨ad102, rfl, hx102_0, p102, q102⟩ := el0_int HR1 x5_1
      go_wp2
      repeat (go_quiet (fail); try go_wp2)
      go_roundg k1
      case measure => have := HK1.out; omega
      case rel => exact ⟨(wrap64 (x5_1 + 1)), o2, H', ⟨by have := HK1.out; omega⟩, od⟩
     ·obtain rfl := Option.some.inj H
      obtain ⟨ad101, rfl, hx101_0, p101, q101⟩ := el0_int HR0 x5_1
      obtain ⟨ad102, rfl, hx102_0, p102, q102⟩ := el0_int HR1 x5_1
      go_wp2
      repeat (go_quiet (fail); try go_wp2)
      go_ret
      exact ⟨o2, od⟩
    ·obtain rfl := Option.some.inj H
     go_wp2
     repeat (go_quiet (fail); try go_wp2)
     go_ret
     exact ⟨o2, od⟩
 ·have c3b2 : (l0.length == l1.length) = false := lnF c3b0
  obtain rfl := Option.some.inj H
  go_enter Tryd.func10, Tryd.ntmps10
  go_wp2
  repeat (go_quiet (fail); try go_wp2)
  go_ret
  exact ⟨o2, od⟩

/-! ### laws_heldByteS: function 12 -/
def laws_heldByteS.l0 : Nat → List Int → Int → Int → Option (Int)
 | 0, _, _, _ => none
 | k + 1, x0, x1, x5 => if x5 < (x0.length : Int) then (if 0 ≤ x5 then (if (rd x0 x5) = ((x1) % 256) then (laws_heldByteS.l0 k x0 (wrap64 (x1 + 1)) (wrap64 (x5 + 1))) else (some (-1))) else (none)) else (some x1)
def laws_heldByteS.f (k : Nat) (l0 : List Int) (a1 : Int) : Option (Int) := laws_heldByteS.l0 k l0 a1 0
set_option maxHeartbeats 8000000 in
set_option maxRecDepth 100000 in
theorem laws_heldByteS.calls (k : Nat) (A0 : Option Addr) (c0 : Nat) (l0 : List Int) (a1 : Int) (r : Int) (w : World) (hr0 : Kd.C (Kd.int .u8) w A0 l0.length l0) (hc0 : l0.length ≤ c0) (h : laws_heldByteS.f k l0 a1 = some r) :
  Calls Tryd.prog 12 #[.slice A0 l0.length c0, .int .i64 a1] w fun e w' => e = .returned (.int .i64 r) ∧ Drawn0 w w' := by
 have HR0 := ak hr0
 have HC0 := ak hc0
 clear hr0 hc0
 have H : (laws_heldByteS.l0 k l0 a1 0) = some r := h
 clear h
 have H' := ak H
 clear H
 go_enter Tryd.func12, Tryd.ntmps12
 go_wp2
 go_loopg [1, 5] k (fun kq v1 v5 w' => ∃ (x1_1 : Int) (x5_1 : Int), v1 = .int .i64 x1_1 ∧ v5 = .int .i64 x5_1 ∧ Aside0 (laws_heldByteS.l0 kq l0 x1_1 x5_1 = some r) ∧ Aside0 (kq ≤ k) ∧ Drawn0 w w')
 case atStart => exact ⟨(a1), (0), o2, o2, H', ⟨Nat.le_refl _⟩, od⟩
 case round =>
  clear H'
  obtain ⟨x1_1, x5_1, rfl, rfl, HA, HK1, ⟨m1, rfl⟩⟩ := hrel
  cases gk with
  | zero => exact absurd HA.out (by simp [laws_heldByteS.l0])
  | succ k1 =>
   have H := HA.out
   clear HA
   simp only [laws_heldByteS.l0] at H
   replace H := ip H
   obtain ⟨c3b0, H⟩ | ⟨c3b0, H⟩ := H
   ·replace H := ipN H
    obtain ⟨c4b0, H⟩ := H
    replace H := ie H
    obtain ⟨c5b0, c5b1, H⟩ | ⟨c5b0, c5b1, H⟩ := H
    ·have H' := ak H
     clear H
     obtain ⟨ad101, rfl, hx101_0, p101, q101⟩ := el0_int HR0 x5_1
     go_wp2
     go_roundg k1
     case measure => have := HK1.out; omega
     case rel => exact ⟨(wrap64 (x1_1 + 1)), (wrap64 (x5_1 + 1)), o2, o2, H', ⟨by have := HK1.out; omega⟩, od⟩
    ·obtain rfl := Option.some.inj H
     obtain ⟨ad101, rfl, hx101_0, p101, q101⟩ := el0_int HR0 x5_1
     go_wp2
     go_ret
     exact ⟨o2, od⟩
   ·obtain rfl := Option.some.inj H
    go_wp2
    go_ret
    exact ⟨o2, od⟩

/-! ### laws_FnExactDotted: function 3 -/
def laws_FnExactDotted.f (k : Nat) (a0 : Int) : Option (Bool) := (spec_Dotted.f k a0).bind fun t101 => ((impl_Dotted.f a0).bind fun t104 => ((laws_eqByteS.f k t104 t101).bind fun t107 => (if t107 = true then ((laws_markByteS.f k t104 1).bind fun bt108 => ((laws_heldByteS.f k bt108.2 1).bind fun t110 => (if t110 < 0 then (none) else (if t110 = bt108.1 then ((impl_Dotted.f a0).bind fun t111 => ((laws_eqByteS.f k t111 t101).bind fun t114 => (if t114 = true then ((laws_heldByteS.f k bt108.2 1).bind fun t115 => (if t115 < 0 then (none) else (if t115 = bt108.1 then (some true) else (none)))) else (none)))) else (none))))) else (none))))
set_option maxHeartbeats 8000000 in
set_option maxRecDepth 100000 in
theorem laws_FnExactDotted.calls (k : Nat) (a0 : Int) (r : Bool) (w : World) (h : laws_FnExactDotted.f k a0 = some r) (htab : TabA w) :
  Calls Tryd.prog 3 #[.int .i64 a0] w fun e w' => e = .returned (.bool r) ∧ Below w.heap.size w w' := by
 have HTAB := ak htab
 clear htab
 have HB := ak (Below.refl w.heap.size w)
 have H : ((spec_Dotted.f k a0).bind fun t101 => ((impl_Dotted.f a0).bind fun t104 => ((laws_eqByteS.f k t104 t101).bind fun t107 => (if t107 = true then ((laws_markByteS.f k t104 1).bind fun bt108 => ((laws_heldByteS.f k bt108.2 1).bind fun t110 => (if t110 < 0 then (none) else (if t110 = bt108.1 then ((impl_Dotted.f a0).bind fun t111 => ((laws_eqByteS.f k t111 t101).bind fun t114 => (if t114 = true then ((laws_heldByteS.f k bt108.2 1).bind fun t115 => (if t115 < 0 then (none) else (if t115 = bt108.1 then (some true) else (none)))) else (none)))) else (none))))) else (none))))) = some r := h
 clear h
 replace H := bnd H
 obtain ⟨t101, A2, H⟩ := H
 replace H := bnd H
 obtain ⟨t104, A3, H⟩ := H
 replace H := bnd H
 obtain ⟨t107, A4, H⟩ := H
 replace H := ibN H
 obtain ⟨rfl, H⟩ := H
 replace H := Option.bind_eq_some_iff.mp H
 obtain ⟨⟨t108, t109⟩, A60, H⟩ := H
 replace H : ((laws_heldByteS.f k t109 1).bind fun t110 => (if t110 < 0 then (none) else (if t110 = t108 then ((impl_Dotted.f a0).bind fun t111 => ((laws_eqByteS.f k t111 t101).bind fun t114 => (if t114 = true then ((laws_heldByteS.f k t109 1).bind fun t115 => (if t115 < 0 then (none) else (if t115 = t108 then (some true) else (none)))) else (none)))) else (none)))) = some r := H
 have A6 := ak A60
 clear A60
 replace H := bnd H
 obtain ⟨t110, A7, H⟩ := H
 by_cases c8 : t110 < 0
 ·rw [if_pos c8] at H
  exact absurd H (by simp)
 ·rw [if_neg c8] at H
  have c8b0 : decide (t110 < 0) = false := decide_eq_false c8
  clear c8
  replace H := ieN H
  obtain ⟨c9b0, c9b1, H⟩ := H
  replace H := bnd H
  obtain ⟨t111, A10, H⟩ := H
  replace H := bnd H
  obtain ⟨t114, A11, H⟩ := H
  replace H := ibN H
  obtain ⟨rfl, H⟩ := H
  replace H := bnd H
  obtain ⟨t115, A13, H⟩ := H
  by_cases c14 : t115 < 0
  ·rw [if_pos c14] at H
   exact absurd H (by simp)
  ·rw [if_neg c14] at H
   have c14b0 : decide (t115 < 0) = false := decide_eq_false c14
   clear c14
   replace H := ieN H
   obtain ⟨c15b0, c15b1, H⟩ := H
   obtain rfl := Option.some.inj H
   go_enter Tryd.func3, Tryd.ntmps3
   go_wp2_with (first | ((with_reducible refine gate_callee (f := 8) rfl ?_);refine glG 9 rfl rfl Tryd.func8 (spec_Dotted.calls k a0 t101 _ A2.out) ?_;rintro e w16 ⟨v102, rfl, ho0, hb⟩;refine ⟨_, rfl, ?_⟩;have HO103 := ak (Kd.R_lower ho0 (below_size (bw HB.out)));replace HB := b2 HB hb;(try clear hb);(try clear ho0)) | ((with_reducible refine gate_callee (f := 9) rfl ?_);refine glG 11 rfl rfl Tryd.func9 (impl_Dotted.calls a0 t104 _ A3.out (tab_below HTAB.out bs)) ?_;rintro e w17 ⟨v105, rfl, ho0, hb⟩;refine ⟨_, rfl, ?_⟩;have HO106 := ak (Z_lower (Z_new' ho0 (Kd.R_lt (rw_ HO103.out))) (below_size (bw HB.out)));replace HO103 := ak (Kd.R_elder' (rw_ HO103.out) (Z_base ho0) hb);replace HB := b2 HB hb;(try clear hb);(try clear ho0);obtain ⟨Ao18, co18, eo18⟩ := Z_slice HO106.out;subst eo18;obtain ⟨Ao19, co19, eo19⟩ := Kd.R_slice HO103.out;subst eo19) | ((with_reducible refine gate_callee (f := 10) rfl ?_);refine glD 14 rfl rfl Tryd.func10 (laws_eqByteS.calls k _ _ t104 _ _ t101 true _ ?side1 ?side2 ?side3 ?side4 A4.out) (fun nd => ?_);(case side1 => repeat (first | exact (Z_reads' HO106.out).2.2 | (with_reducible refine Kd.C_alloc ?_ _) | (with_reducible refine Kd.C_drewN ?_ _) | (with_reducible refine Kd.C_drew ?_)));(case side2 => exact (Z_reads' HO106.out).2.1);(case side3 => repeat (first | exact (Kd.R_reads' HO103.out).2.2 | (with_reducible refine Kd.C_alloc ?_ _) | (with_reducible refine Kd.C_drewN ?_ _) | (with_reducible refine Kd.C_drew ?_)));(case side4 => exact (Kd.R_reads' HO103.out).2.1)) | ((with_reducible refine gate_callee (f := 11) rfl ?_);refine glG 18 rfl rfl Tryd.func11 (laws_markByteS.callsZ k (fun k_ => some k_ = (.slice Ao18 t104.length co18 : Value).ownBlock) (.slice Ao18 t104.length co18) t104 1 t108 t109 w _ ?side1 ?side2 A6.out) ?_;(case side1 => repeat (first | (with_reducible first | exact HB.out | apply below_alloc | apply pw_below_drewN | apply below_drew1) | exact HB.out));(case side2 => exact Z_tight rfl HO106.out);rintro e w20 ⟨rfl, hy0, hb, hkp⟩;refine ⟨_, rfl, ?_⟩;replace HO103 := ak (Kd.R_mono (ok' := fun k_ => some k_ ≠ (.slice Ao18 t104.length co18 : Value).ownBlock) (Kd.R_keptB (HO103.out) hkp (fun k_ hk_ hs_ => (hk_.2) hs_)) (fun k_ hk_ => hk_.1.2));replace HO106 := ak (Z_reok rfl hy0 (fun k_ e_ => Z_ok HO106.out k_ e_));replace HB := ak (hb);(try clear hb);(try clear hkp);(try clear hy0)) | ((with_reducible refine gate_callee (f := 12) rfl ?_);refine goesL_ (some 21) rfl rfl Tryd.func12 (by kernel_rfl) rfl #[.slice Ao18 t109.length co18, .int .i64 1] rfl (by (try simp only [List.map_toArray, List.map_cons, List.map_nil]); first | done | (rw [show t109.length = t104.length from (Z_reads' HO106.out).1.symm] <;> rfl) | rfl | (simp only [List.length_drop, List.length_take]; rfl)) ?_;(with_reducible refine (laws_heldByteS.calls k _ _ t109 1 t110 _ ?side1 ?side2 A7.out).mono ?_);(case side1 => repeat (first | exact (Z_reads' HO106.out).2.2 | (with_reducible refine Kd.C_alloc ?_ _) | (with_reducible refine Kd.C_drewN ?_ _) | (with_reducible refine Kd.C_drew ?_)));(case side2 => rw [show t109.length = t104.length from (Z_reads' HO106.out).1.symm]; exact (Z_reads' HO106.out).2.1);rintro e w' ⟨rfl, ⟨nd, rfl⟩⟩;refine ⟨_, rfl, ?_⟩) | ((with_reducible refine gate_callee (f := 9) rfl ?_);refine glG 28 rfl rfl Tryd.func9 (impl_Dotted.calls a0 t111 _ A10.out (tab_below HTAB.out bs)) ?_;rintro e w21 ⟨v112, rfl, ho0, hb⟩;refine ⟨_, rfl, ?_⟩;have HO113 := ak (Z_lower (Z_new' (Z_new' ho0 (Kd.R_lt (rw_ HO103.out))) (Z_lt (zw_ HO106.out))) (below_size (bw HB.out)));replace HO103 := ak (Kd.R_elder' (rw_ HO103.out) (Z_base ho0) hb);replace HO106 := ak (Z_elder' (zw_ HO106.out) (Z_base ho0) hb);replace HB := b2 HB hb;(try clear hb);(try clear ho0);obtain ⟨Ao22, co22, eo22⟩ := Z_slice HO113.out;subst eo22) | ((with_reducible refine gate_callee (f := 10) rfl ?_);refine glD 31 rfl rfl Tryd.func10 (laws_eqByteS.calls k _ _ t111 _ _ t101 true _ ?side1 ?side2 ?side3 ?side4 A11.out) (fun nd => ?_);(case side1 => repeat (first | exact (Z_reads' HO113.out).2.2 | (with_reducible refine Kd.C_alloc ?_ _) | (with_reducible refine Kd.C_drewN ?_ _) | (with_reducible refine Kd.C_drew ?_)));(case side2 => exact (Z_reads' HO113.out).2.1);(case side3 => repeat (first | exact (Kd.R_reads' HO103.out).2.2 | (with_reducible refine Kd.C_alloc ?_ _) | (with_reducible refine Kd.C_drewN ?_ _) | (with_reducible refine Kd.C_drew ?_)));(case side4 => exact (Kd.R_reads' HO103.out).2.1)) | ((with_reducible refine gate_callee (f := 12) rfl ?_);refine goesL_ (some 35) rfl rfl Tryd.func12 (by kernel_rfl) rfl #[.slice Ao18 t109.length co18, .int .i64 1] rfl (by (try simp only [List.map_toArray, List.map_cons, List.map_nil]); first | done | (rw [show t109.length = t104.length from (Z_reads' HO106.out).1.symm] <;> rfl) | rfl | (simp only [List.length_drop, List.length_take]; rfl)) ?_;(with_reducible refine (laws_heldByteS.calls k _ _ t109 1 t115 _ ?side1 ?side2 A13.out).mono ?_);(case side1 => repeat (first | exact (Z_reads' HO106.out).2.2 | (with_reducible refine Kd.C_alloc ?_ _) | (with_reducible refine Kd.C_drewN ?_ _) | (with_reducible refine Kd.C_drew ?_)));(case side2 => rw [show t109.length = t104.length from (Z_reads' HO106.out).1.symm]; exact (Z_reads' HO106.out).2.1);rintro e w' ⟨rfl, ⟨nd, rfl⟩⟩;refine ⟨_, rfl, ?_⟩))
   go_ret
   exact ⟨o1, bw HB.out⟩
/-- THE ONE PURE STATEMENT of laws_FnExactDotted: yours. -/
def laws_FnExactDotted.Pure : Prop := ∀ (a0 : Int), (Lit.int .i64 a0).wf = true → ∃ k, laws_FnExactDotted.f k a0 = some true
theorem laws_FnExactDotted.walk (P : laws_FnExactDotted.Pure) (a0 : Int) (w : World) (w0 : (Lit.int .i64 a0).wf = true) (htab : TabA w) :
  Calls Tryd.prog 3 #[.int .i64 a0] w fun e w' => e = .returned (.bool true) ∧ Below w.heap.size w w' := by
 obtain ⟨k, h⟩ := P a0 w0
 refine (laws_FnExactDotted.calls k a0 true w h htab).mono ?_
 rintro e w' ⟨rfl, hd⟩
 exact ⟨rfl, hd⟩


end Go.Proofs.YtkmchjdioplfjaaDoor.Q
