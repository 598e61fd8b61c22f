/- Printed by a program of this session (wip/myprint.py), which drives the kit's printer: functions and what their calls do. -/
import Derived.Test.YtagedmajlppohaaProg
import Derived.Below
import Derived.Deep.Draws
import Derived.Deep.AppendLies
import Derived.Maps.AppendAt
import Derived.OwnWalk
import Derived.Laws.BytesArg
import Derived.Laws.MakeOwn
import Derived.Laws.OwnMore
import Derived.Deep.OwnRows
import Derived.Tactics
import Derived.Lib.ConvBytes
import Derived.Laws.Slices
import Derived.WalkKit
import Derived.KernelRfl
import Derived.RowKit3
import Derived.Deep.LoopGhost
import Derived.Deep.QuietTactic
import Derived.BigQuiet
import Derived.WideLaws
import Derived.Deep.DeepCutAuto
import Derived.Deep.CutBlock
import Derived.Deep.RegionHeld3
import Derived.Laws.Rows
import Derived.Lib.AppendStr
import Derived.ArgAppend
import Derived.Laws.IdiomCopy
import Derived.OrdersHeld
import Derived.Laws.BitsLemmas
import Derived.RowKit
import Derived.WalkSpells
import Derived.WalkLawsBesides
import Derived.Shelf.Abstract
import Derived.Test.YtagedmajlppohaaVFnExactDataGet
namespace Go.Proofs.Ytagedmajlppohaa.Q
open Go.RowKit Go Go.Proofs.YtagedmajlppohaaW.PrintWords Go.Proofs.YtagedmajlppohaaW.PrintLast Go.Proofs.YtagedmajlppohaaW.PrintMore

set_option linter.unusedVariables false
set_option linter.unusedSimpArgs false

theorem qpe : (Try.prog.info? 3).map (fun i => (i.zero, i.size, i.bytes)) = some (some (.int .i64 0), 1, 8) := by kernel_rfl
theorem Zm : (Try.prog.info? 5).map (fun i => (i.zero, i.size, i.bytes)) = some (some (.int .u8 0), 1, 1) := by kernel_rfl
theorem qfr : (Try.prog.info? 25).map (fun i => (i.zero, i.size, i.bytes)) = some (some (.slice none 0 0), 1, 24) := by kernel_rfl
-- the values' own types
/-! #### struct type 7 -/
/-! #### struct type 8 -/
/-! #### struct type 13 -/
/-! #### struct type 14 -/
def jr (xs : List (List Int)) (i : Int) : (List Int) := xs.getD i.toNat ([] : List Int)
theorem qbN {w : World} {A : Option Addr} {n : Nat} {xs : List (List Int)} (h : Kd.C (Kd.slice 5 (Kd.int .u8)) w A n xs) (i : Int) (h0 : 0 ≤ i) (h1 : i < n) : ∃ ad A0 c0, A = some ad ∧ w.cell? (ad.add i.toNat) = some (.slice A0 (jr xs i).length c0) ∧ (jr xs i).length ≤ c0 ∧ (Kd.int .u8).C w A0 (jr xs i).length (jr xs i) := by
  obtain ⟨ad, c, e, _, hK, hc0⟩ := Kd.C_get h ([] : List Int) i h0 h1;have hc : ∀ j u, c[j]? = some u → w.cell? (ad.add (i.toNat * 1 + j)) = some u := hc0;obtain ⟨A0, c0, rfl, l0, g0⟩ := hK;exact ⟨ad, A0, c0, e, by have hq := hc 0 _ rfl; rwa [Nat.mul_one, Nat.add_zero] at hq, l0, g0⟩

/-! #### struct type 23 -/
/-! #### struct type 24 -/
/-! #### struct type 27 -/
/-! #### struct type 28 -/
/-! #### struct type 31 -/
/-! #### struct type 32 -/
/-! #### struct type 33 -/
/-! #### struct type 53 -/
/-! #### struct type 54 -/
/-! #### struct type 58 -/
/-! #### struct type 59 -/
/-! #### struct type 190 -/
/-! #### struct type 73 -/
/-! #### struct type 74 -/
/-! #### struct type 141 -/
/-! #### struct type 78 -/
/-! #### struct type 79 -/
/-! #### struct type 195 -/
/-! #### struct type 198 -/
/-! #### struct type 85 -/
/-! #### struct type 86 -/
/-! #### struct type 200 -/
/-! #### struct type 205 -/
/-! #### struct type 91 -/
/-! #### struct type 92 -/
/-! #### struct type 122 -/
/-! #### struct type 123 -/
/-! #### struct type 140 -/
/-! #### struct type 179 -/
/-! #### struct type 180 -/
/-! #### struct type 189 -/
/-! #### struct type 194 -/
/-! #### struct type 197 -/
/-! #### struct type 199 -/
/-! #### struct type 204 -/
/-- One world is another one with blocks made and draws taken. -/
def Gr (A W : World) : Prop := Below A.heap.size A W
instance Gr.refl_ (A : World) : Nonempty (Gr A A) := ⟨Below.refl _ _⟩
instance Gr.alloc_ (A W : World) (o : Obj) [h : Nonempty (Gr A W)] : Nonempty (Gr A (W.alloc o)) := h.elim fun h => ⟨below_alloc h o⟩
instance Gr.drew_ (A W : World) [h : Nonempty (Gr A W)] : Nonempty (Gr A W.drew) := h.elim fun h => ⟨below_drew h⟩
instance Gr.drewN_ (A W : World) (n : Nat) [h : Nonempty (Gr A W)] : Nonempty (Gr A (W.drewN n)) := h.elim fun h => ⟨pw_below_drewN h n⟩
section
variable {α : Type} {d : Kd α} {e base n : Nat} {ok : Nat → Prop} {w W W' : World} {v : Value} {xs : List α} {A : Option Addr}
theorem bw (h : Below w.heap.size w W) [g : Nonempty (Gr W W')] : Below w.heap.size w W' := g.elim fun g => below_step h g
theorem bk {g : Nat} {o : Obj} (h : W.heap[g]? = some o) [k : Nonempty (Gr W W')] : W'.heap[g]? = some o := k.elim fun k => blk_below h k
theorem cw (h : d.C w A n xs) (hb : Below w.heap.size w W) [g : Nonempty (Gr W W')] : d.C W' A n xs := Kd.C_below h (bw hb)
theorem rw_ (h : d.R e W base ok v xs) [g : Nonempty (Gr W W')] : d.R e W' base ok v xs := g.elim fun g => Kd.R_below h g
theorem sw (h : d.S e W base ok v xs) [g : Nonempty (Gr W W')] : d.S e W' base ok v xs := g.elim fun g => Kd.S_below h g
end
section
variable {W : World} {g t : Nat} {a b c d e f x y z : Value}
theorem cells1 (h : W.heap[g]? = some (.cells #[a] t (0, 0))) : W.cell? ⟨g, 0, none⟩ = some a ∧ W.frozen? ⟨g, 0, none⟩ = false := ⟨(blk_cell h 0).trans rfl, blk_frozen h 0⟩
theorem cells7 (h : W.heap[g]? = some (.cells #[a, b, c, d, e, f, x] t (0, 0))) : W.cell? ⟨g, 0, none⟩ = some a ∧ W.cell? ⟨g, 1, none⟩ = some b ∧ W.cell? ⟨g, 2, none⟩ = some c ∧ W.cell? ⟨g, 3, none⟩ = some d ∧ W.cell? ⟨g, 4, none⟩ = some e ∧ W.cell? ⟨g, 5, none⟩ = some f ∧ W.cell? ⟨g, 6, none⟩ = some x ∧ W.frozen? ⟨g, 0, none⟩ = false ∧ W.frozen? ⟨g, 1, none⟩ = false ∧ W.frozen? ⟨g, 2, none⟩ = false ∧ W.frozen? ⟨g, 3, none⟩ = false ∧ W.frozen? ⟨g, 4, none⟩ = false ∧ W.frozen? ⟨g, 5, none⟩ = false ∧ W.frozen? ⟨g, 6, none⟩ = false :=
  ⟨(blk_cell h 0).trans rfl, (blk_cell h 1).trans rfl, (blk_cell h 2).trans rfl, (blk_cell h 3).trans rfl, (blk_cell h 4).trans rfl, (blk_cell h 5).trans rfl, (blk_cell h 6).trans rfl, blk_frozen h 0, blk_frozen h 1, blk_frozen h 2, blk_frozen h 3, blk_frozen h 4, blk_frozen h 5, blk_frozen h 6⟩
end
section
variable {P : Program} {ops : Array Oper} {rest : List Oper} {o : Oper} {a : Act} {Q : Exit → Act → World → Prop}
/-- A struct's variable is made. -/
theorem boxed {w W0 W : World} {N : Tmp} (_hN : o.dst = some N) (hgd : o.guard = none) {cs : Array Value} {t : TypeId} (hB : Below w.heap.size w W0) [gr : Nonempty (Gr W0 W)]
    (hrun : (execOp a.eval o).run P W = .ok (.value (.pointer (some ⟨W.heap.size, 0, none⟩))) (W.alloc (.cells cs t (0, 0))))
    (h : ∀ g, ∀ w1, g = W.heap.size → Aside0 (Below w.heap.size w w1) → Aside0 (w1.heap[g]? = some (.cells cs t (0, 0))) → Aside0 (w.heap.size ≤ g) → Below W.heap.size W w1 → wpList P ops Q rest (a.put o.dst (.pointer (some ⟨g, 0, none⟩))) w1) : wpList P ops Q (o :: rest) a W := by
  have hB' : Below w.heap.size w W := bw hB;exact box_event hgd _hN hrun (fun g hg w1 hbox hb => h g w1 hg ⟨below_step hB' hb⟩ ⟨hbox⟩ ⟨by rw [hg]; exact hB'.size⟩ hb)
end
section
variable {α : Type} {d : Kd α} {e base g k t : Nat} {ok : Nat → Prop} {W : World} {v : Value} {xs : List α} {cs : Array Value} {l : List Nat}
theorem typed_not (hb : W.heap[g]? = some (.cells cs t (0, 0))) (ht : ∀ q, q ∈ l → q ≠ t) (h : ∃ q, q ∈ l ∧ ∃ c, W.heap[g]? = some (Obj.cells c q (0, 0))) : False := by
  obtain ⟨q, hq, c, hc⟩ := h;rw [hb] at hc;injection hc with hc
  injection hc with _ h2
  exact ht q hq h2.symm
theorem row_not (h : d.R e W base ok v xs) (ht : ∀ q, q ∈ l → q ≠ e) (hk : some k = v.ownBlock) (h2 : ∃ q, q ∈ l ∧ ∃ c, W.heap[k]? = some (Obj.cells c q (0, 0))) : False := by
  obtain ⟨c, hc⟩ := Kd.R_typed h k hk.symm;exact typed_not hc ht h2
end
/-- Which operations of a region are done: n places, told by a number's bits. -/
def bA (n m : Nat) : Array Bool := ((List.range n).map fun i => m.testBit i).toArray
section
variable {α : Type} {d : Kd α} {e base g g' t : Nat} {ok : Nat → Prop} {W W1 : World} {v : Value} {xs : List α} {cs : Array Value} {fr : Nat × Nat}
theorem qfg {v0 : Value} (hn : g ≠ g') (h : W.heap[g]? = some (.cells cs t (0, 0))) [k : Nonempty (Gr W W1)] : (W1.setCell ⟨g', 0, none⟩ v0).heap[g]? = some (.cells cs t (0, 0)) := (blk_far (bk h) hn _)
theorem yb {v0 z0 : Value} (h : W.heap[g]? = some (.cells #[z0] t (0, 0))) [k : Nonempty (Gr W W1)] : (W1.setCell ⟨g, 0, none⟩ v0).heap[g]? = some (.cells #[v0] t (0, 0)) := (blk_put (cs' := #[v0]) (bk h) 0 v0 rfl)
theorem far7R {v0 v1 v2 v3 v4 v5 v6 : Value} (h : Kd.R d e W base ok v xs) [k : Nonempty (Gr W W1)] (hb : W1.heap[g]? = some (.cells cs t (0, 0))) (ht : ∀ q, q ∈ e :: d.E → q ≠ t) : Kd.R d e (((((((W1.setCell ⟨g, 0, none⟩ v0).setCell ⟨g, 1, none⟩ v1).setCell ⟨g, 2, none⟩ v2).setCell ⟨g, 3, none⟩ v3).setCell ⟨g, 4, none⟩ v4).setCell ⟨g, 5, none⟩ v5).setCell ⟨g, 6, none⟩ v6) base ok v xs :=
  Kd.R_mono (Kd.R_far (p := ⟨g, 6, none⟩) (Kd.R_far (p := ⟨g, 5, none⟩) (Kd.R_far (p := ⟨g, 4, none⟩) (Kd.R_far (p := ⟨g, 3, none⟩) (Kd.R_far (p := ⟨g, 2, none⟩) (Kd.R_far (p := ⟨g, 1, none⟩) (Kd.R_far (p := ⟨g, 0, none⟩) (Kd.R_types (rw_ h) hb ht) (fun _ hk => hk.2) _) (fun _ hk => hk.2) _) (fun _ hk => hk.2) _) (fun _ hk => hk.2) _) (fun _ hk => hk.2) _) (fun _ hk => hk.2) _) (fun _ hk => hk.2) _) (fun _ h_ => h_.1)
theorem far7S {v0 v1 v2 v3 v4 v5 v6 : Value} (h : Kd.S d e W base ok v xs) [k : Nonempty (Gr W W1)] (hb : W1.heap[g]? = some (.cells cs t (0, 0))) (ht : ∀ q, q ∈ e :: d.E → q ≠ t) : Kd.S d e (((((((W1.setCell ⟨g, 0, none⟩ v0).setCell ⟨g, 1, none⟩ v1).setCell ⟨g, 2, none⟩ v2).setCell ⟨g, 3, none⟩ v3).setCell ⟨g, 4, none⟩ v4).setCell ⟨g, 5, none⟩ v5).setCell ⟨g, 6, none⟩ v6) base ok v xs :=
  Kd.S_mono (Kd.S_far (p := ⟨g, 6, none⟩) (Kd.S_far (p := ⟨g, 5, none⟩) (Kd.S_far (p := ⟨g, 4, none⟩) (Kd.S_far (p := ⟨g, 3, none⟩) (Kd.S_far (p := ⟨g, 2, none⟩) (Kd.S_far (p := ⟨g, 1, none⟩) (Kd.S_far (p := ⟨g, 0, none⟩) (Kd.S_types (sw h) hb ht) (fun _ hk => hk.2) _) (fun _ hk => hk.2) _) (fun _ hk => hk.2) _) (fun _ hk => hk.2) _) (fun _ hk => hk.2) _) (fun _ hk => hk.2) _) (fun _ hk => hk.2) _) (fun _ h_ => h_.1)
theorem yq {v0 v1 v2 v3 v4 v5 v6 : Value} (hn : g ≠ g') (h : W.heap[g]? = some (.cells cs t (0, 0))) [k : Nonempty (Gr W W1)] : (((((((W1.setCell ⟨g', 0, none⟩ v0).setCell ⟨g', 1, none⟩ v1).setCell ⟨g', 2, none⟩ v2).setCell ⟨g', 3, none⟩ v3).setCell ⟨g', 4, none⟩ v4).setCell ⟨g', 5, none⟩ v5).setCell ⟨g', 6, none⟩ v6).heap[g]? = some (.cells cs t (0, 0)) := (blk_far (blk_far (blk_far (blk_far (blk_far (blk_far (blk_far (bk h) hn _) hn _) hn _) hn _) hn _) hn _) hn _)
theorem jp {v0 v1 v2 v3 v4 v5 v6 z0 z1 z2 z3 z4 z5 z6 : Value} (h : W.heap[g]? = some (.cells #[z0, z1, z2, z3, z4, z5, z6] t (0, 0))) [k : Nonempty (Gr W W1)] : (((((((W1.setCell ⟨g, 0, none⟩ v0).setCell ⟨g, 1, none⟩ v1).setCell ⟨g, 2, none⟩ v2).setCell ⟨g, 3, none⟩ v3).setCell ⟨g, 4, none⟩ v4).setCell ⟨g, 5, none⟩ v5).setCell ⟨g, 6, none⟩ v6).heap[g]? = some (.cells #[v0, v1, v2, v3, v4, v5, v6] t (0, 0)) := (blk_put (cs' := #[v0, v1, v2, v3, v4, v5, v6]) (blk_put (cs' := #[v0, v1, v2, v3, v4, v5, z6]) (blk_put (cs' := #[v0, v1, v2, v3, v4, z5, z6]) (blk_put (cs' := #[v0, v1, v2, v3, z4, z5, z6]) (blk_put (cs' := #[v0, v1, v2, z3, z4, z5, z6]) (blk_put (cs' := #[v0, v1, z2, z3, z4, z5, z6]) (blk_put (cs' := #[v0, z1, z2, z3, z4, z5, z6]) (bk h) 0 v0 rfl) 1 v1 rfl) 2 v2 rfl) 3 v3 rfl) 4 v4 rfl) 5 v5 rfl) 6 v6 rfl)
end

section
variable {α β : Type} {A B r : Option α}
theorem bnd {o : Option β} {f : β → Option α} {r : α} (h : o.bind f = some r) : ∃ x, Aside0 (o = some x) ∧ f x = some r := (Option.bind_eq_some_iff.mp h).elim fun x h => ⟨x, ⟨h.1⟩, h.2⟩
theorem bnS {x : β} {f : β → Option α} (h : (some x).bind f = r) : f x = r := h
theorem ib {t : Bool} (h : (if t = true then A else B) = r) : (t = true ∧ A = r) ∨ (t = false ∧ B = r) := by cases t; exact .inr ⟨rfl, h⟩; exact .inl ⟨rfl, h⟩
theorem ibN {t : Bool} {r : α} (h : (if t = true then A else none) = some r) : t = true ∧ A = some r := by cases t; cases h; exact ⟨rfl, h⟩
section
variable {p : Prop} [Decidable p]
theorem iq (h : (if p then A else B) = r) : (p ∧ A = r) ∨ (¬ p ∧ B = r) := by
  by_cases c : p
  · exact .inl ⟨c, by rwa [if_pos c] at h⟩
  · exact .inr ⟨c, by rwa [if_neg c] at h⟩
theorem iqN {r : α} (h : (if p then A else none) = some r) : p ∧ A = some r := by
  obtain h | h := iq h
  · exact h
  · cases h.2
theorem ip (h : (if p then A else B) = r) : (decide p = true ∧ A = r) ∨ (decide p = false ∧ B = r) := (iq h).imp (fun h => ⟨decide_eq_true h.1, h.2⟩) (fun h => ⟨decide_eq_false h.1, h.2⟩)
theorem ipN {r : α} (h : (if p then A else none) = some r) : decide p = true ∧ A = some r := ⟨decide_eq_true (iqN h).1, (iqN h).2⟩
theorem ipE {r : α} (h : (if p then A else none) = some r) : p = True ∧ decide p = true ∧ A = some r := ⟨eq_true (iqN h).1, decide_eq_true (iqN h).1, (iqN h).2⟩
end
section
variable {a b : Int}
theorem ig (h : (if a > b then A else B) = r) : (decide (b < a) = true ∧ A = r) ∨ (decide (b < a) = false ∧ B = r) := ip h
theorem ih (h : (if a ≥ b then A else B) = r) : (decide (b ≤ a) = true ∧ A = r) ∨ (decide (b ≤ a) = false ∧ B = r) := ip h
end
section
variable {τ : Type} [BEq τ] [LawfulBEq τ] {a b : τ} [Decidable (a = b)]
theorem ie (h : (if a = b then A else B) = r) : ((a == b) = true ∧ (a != b) = false ∧ A = r) ∨ ((a == b) = false ∧ (a != b) = true ∧ B = r) := (iq h).imp (fun h => ⟨beq_iff_eq.mpr h.1, bne_eq_false_iff_eq.mpr h.1, h.2⟩) (fun h => ⟨beq_eq_false_iff_ne.mpr h.1, bne_iff_ne.mpr h.1, h.2⟩)
theorem ieN {r : α} (h : (if a = b then A else none) = some r) : (a == b) = true ∧ (a != b) = false ∧ A = some r := ⟨beq_iff_eq.mpr (iqN h).1, bne_eq_false_iff_eq.mpr (iqN h).1, (iqN h).2⟩
end
end
theorem lnT {a b : Nat} (h : ((a : Int) == (b : Int)) = true) : (a == b) = true := by have := beq_iff_eq.mp h; exact beq_iff_eq.mpr (by omega)
theorem lnF {a b : Nat} (h : ((a : Int) == (b : Int)) = false) : (a == b) = false := by have := beq_eq_false_iff_ne.mp h; exact beq_eq_false_iff_ne.mpr (by omega)
section
variable {α : Type} {d : Kd α} {e base n g t : Nat} {ok : Nat → Prop} {w W W' W2 : World} {v : Value} {xs : List α} {A : Option Addr} {o : Obj}
theorem ak {p : Prop} (h : p) : Aside0 p := ⟨h⟩
theorem cv (h : Aside0 (d.C w A n xs)) (hb : Aside0 (Below w.heap.size w W)) [Nonempty (Gr W W')] : d.C W' A n xs := cw h.out hb.out
theorem cd (h : Aside0 (d.C w A n xs)) [g : Nonempty (Gr w W')] : d.C W' A n xs := g.elim fun g => Kd.C_below h.out g
theorem b1 (h : Aside0 (W.heap[g]? = some o)) [Nonempty (Gr W W')] (hb : Below W'.heap.size W' W2) : Aside0 (W2.heap[g]? = some o) := ⟨blk_below (bk h.out) hb⟩
theorem b2 (h : Aside0 (Below w.heap.size w W)) [Nonempty (Gr W W')] (hb : Below W'.heap.size W' W2) : Aside0 (Below w.heap.size w W2) := ⟨below_step (bw h.out) hb⟩
theorem b2s (h : Below w.heap.size w W) (hb : Below W.heap.size W W2) : Aside0 (Below w.heap.size w W2) := ⟨below_step h hb⟩
theorem b3 (hg : g = W'.heap.size) (h : Aside0 (Below w.heap.size w W)) [Nonempty (Gr W W')] : Aside0 (w.heap.size ≤ g) := ⟨by rw [hg]; exact below_size (bw h.out)⟩
theorem b3s (hg : g = W.heap.size) (h : Below w.heap.size w W) : Aside0 (w.heap.size ≤ g) := ⟨by rw [hg]; exact below_size h⟩
theorem b4 {g1 : Nat} (hg : g = W'.heap.size) (h : Aside0 (W.heap[g1]? = some o)) [Nonempty (Gr W W')] : Aside0 (g1 ≠ g) := ⟨by rw [hg]; exact Nat.ne_of_lt (blk_lt (bk h.out))⟩
theorem b5 {g1 : Nat} (hg : g = W'.heap.size) (h : Aside0 (W.heap[g1]? = some o)) [Nonempty (Gr W W')] : Aside0 (g ≠ g1) := ⟨by rw [hg]; exact Nat.ne_of_gt (blk_lt (bk h.out))⟩
end
/-- What was is still as it was: through stores into blocks that were made since. -/
theorem bs {p : Prop} (h : p := by repeat (first | (with_reducible refine below_set ?_ (Aside0.out (by with_reducible assumption))) | exact bw HB.out)) : p := h
theorem o1 {p : Prop} (h : p := by first | rfl | (simp [errW_none, errW_some] <;> rfl) | (simp [*, errW_none, errW_some] <;> rfl)) : p := h
theorem o2 {p : Prop} (h : p := by first | rfl | (simp; done) | (simp [*]; done)) : p := h
theorem od {p : Prop} (h : p := by repeat (first | exact Drawn0.refl _ | apply Drawn0.step)) : p := h
theorem kq {p : Prop} (h : p := by (repeat' apply And.intro) <;> first | (with_reducible assumption) | exact (blk_cell (Aside0.out (by with_reducible assumption)) _).trans rfl | exact pw_cell_below HB.out (by with_reducible assumption)) : p := h
theorem o3 {p : Prop} (h : p := by first | omega | exact Nat.le_refl _) : p := h
section
variable {P : Program} {ops : Array Oper} {rest : List Oper} {oi : Oper} {a : Act} {Q : Exit → Act → World → Prop}
/-- A call. -/
theorem glG {w : World} (N : Tmp) (hd : oi.dst = some N) {f : FuncId} {fn : Func} {zs : Array Operand} {ts : Array TypeId} (hop : oi.op = .call { callee := .value (.func f), args := zs, argTypes := ts }) (hf : P.funcs[f]? = some fn) {args : Array Value} {R : Ending → World → Prop} (hc : Calls P f args w R)
    (h : ∀ e w', R e w' → ∃ v, e = .returned v ∧ wpList P ops Q rest (a.put (some N) v) w') (hg : oi.guard = none := by rfl)
    (hname : (fn.name == "runtime.NumGoroutine") = false := by kernel_rfl) (hb : fn.body.isSome = true := by rfl)
    (hargs : zs.map a.eval = args := by (try simp only [List.map_toArray, List.map_cons, List.map_nil]); first | done | rfl | (simp only [List.length_drop, List.length_take]; rfl)) : wpList P ops Q (oi :: rest) a w :=
  goesL_ (some N) hd hg hf hname hb args hop hargs (hc.mono h)
theorem glD {w : World} (N : Tmp) (hd : oi.dst = some N) {f : FuncId} {fn : Func} {zs : Array Operand} {ts : Array TypeId} (hop : oi.op = .call { callee := .value (.func f), args := zs, argTypes := ts }) (hf : P.funcs[f]? = some fn) {args : Array Value} {v : Value} (hc : Calls P f args w fun e w' => e = .returned v ∧ Drawn0 w w')
    (h : ∀ nd, wpList P ops Q rest (a.put (some N) v) (w.drewN nd)) (hg : oi.guard = none := by rfl)
    (hname : (fn.name == "runtime.NumGoroutine") = false := by kernel_rfl) (hb : fn.body.isSome = true := by rfl)
    (hargs : zs.map a.eval = args := by (try simp only [List.map_toArray, List.map_cons, List.map_nil]); first | done | rfl | (simp only [List.length_drop, List.length_take]; rfl)) : wpList P ops Q (oi :: rest) a w :=
  goesL_ (some N) hd hg hf hname hb args hop hargs (hc.mono fun e w' h2 => ⟨v, h2.1, by obtain ⟨nd, rfl⟩ := h2.2; exact h nd⟩)
theorem glB {w : World} (N : Tmp) (hd : oi.dst = some N) {f : FuncId} {fn : Func} {zs : Array Operand} {ts : Array TypeId} (hop : oi.op = .call { callee := .value (.func f), args := zs, argTypes := ts }) (hf : P.funcs[f]? = some fn) {args : Array Value} {v : Value} (hc : Calls P f args w fun e w' => e = .returned v ∧ Below w.heap.size w w')
    (h : ∀ w', Below w.heap.size w w' → wpList P ops Q rest (a.put (some N) v) w') (hg : oi.guard = none := by rfl)
    (hname : (fn.name == "runtime.NumGoroutine") = false := by kernel_rfl) (hb : fn.body.isSome = true := by rfl)
    (hargs : zs.map a.eval = args := by (try simp only [List.map_toArray, List.map_cons, List.map_nil]); first | done | rfl | (simp only [List.length_drop, List.length_take]; rfl)) : wpList P ops Q (oi :: rest) a w :=
  goesL_ (some N) hd hg hf hname hb args hop hargs (hc.mono fun e w' h2 => ⟨v, h2.1, h w' h2.2⟩)
end
section
variable {P : Program} {ops : Array Oper} {oi : Oper} {Q : Exit → Act → World → Prop} {md : Region.Mode} {S : World → Prop} {ds : List Nat} {T : Bool × List (List Nat × List Nat)} {n m fuel : Nat} {a a' : Act} {w : World}
/-- Steps of a region: one that yields a value; one that is not wanted; a load; a call. -/
theorem pu (hT : Aside0 (rtab md ops = T)) (i : Nat) {N : Nat} {v : Value} (h : wpAnyLast P md ops Q S ds fuel (bA n (m + 2 ^ i)) a' w) (hi : ops[i]? = some oi := by rfl) (hN : oi.dst = some N := by rfl)
    (hc : anyT T (bA n m).toList (bA n (m + 2 ^ i)).toList i = true := by kernel_rfl) (hw : Region.wanted oi (yielded ops a.tmps) = true := by rfl)
    (hy : ∀ w, (execOp a.eval oi).run P w = .ok (.value v) w := by intro w'; go_simp; with_reducible rfl) (ha : a.put (some N) v = a' := by go_simp; rfl)
    (hQ : ∀ c a w, Q (.panic c) (a.put oi.dst v) w → Q (.panic c) a w := by exact fun _ _ _ h => h) : wpAnyLast P md ops Q S ds (fuel + 1) (bA n m) a w :=
  pure_ (i := i) _ hi hN (any_of hT.out hc) hQ (.inl ⟨hw, hy⟩) ha h
theorem sk (hT : Aside0 (rtab md ops = T)) (i : Nat) {N : Nat} (h : wpAnyLast P md ops Q S ds fuel (bA n (m + 2 ^ i)) a' w) (hi : ops[i]? = some oi := by rfl) (hN : oi.dst = some N := by rfl)
    (hc : anyT T (bA n m).toList (bA n (m + 2 ^ i)).toList i = true := by kernel_rfl) (hw : Region.wanted oi (yielded ops a.tmps) = false := by rfl) (ha : a.put (some N) undef = a' := by go_simp; rfl)
    (hQ : ∀ c a w, Q (.panic c) (a.put oi.dst undef) w → Q (.panic c) a w := by exact fun _ _ _ h => h) : wpAnyLast P md ops Q S ds (fuel + 1) (bA n m) a w :=
  pure_ (i := i) _ hi hN (any_of hT.out hc) hQ (.inr ⟨hw, rfl⟩) ha h
theorem ta {B : List Nat} (hT : Aside0 (rtab md ops = T)) (hB : Aside0 (waitsOk T.2 B = true)) (hS : S w) (i : Nat) {N : Nat} {v : Value} (h : wpAnyLast P md ops Q S ds fuel (bA n (m + 2 ^ i)) a' w) (hi : ops[i]? = some oi := by rfl) (hN : oi.dst = some N := by rfl)
    (hc : takeW T B ds (bA n m).toList (bA n (m + 2 ^ i)).toList i = true := by kernel_rfl) (hw : Region.wanted oi (yielded ops a.tmps) = true := by rfl)
    (hy : ∀ w, S w → (execOp a.eval oi).run P w = .ok (.value v) w := by intro w' hS; (repeat (obtain ⟨_, hS⟩ := hS)); go_simp; with_reducible rfl) (ha : a.put (some N) v = a' := by go_simp; rfl)
    (hQ : ∀ c a w, Q (.panic c) (a.put oi.dst v) w → Q (.panic c) a w := by exact fun _ _ _ h => h) : wpAnyLast P md ops Q S ds (fuel + 1) (bA n m) a w :=
  take_ (i := i) _ hi hN (take_ofW hT.out hB.out hc) hQ (.inl ⟨hw, hy⟩) hS ha h
theorem on (hT : Aside0 (rtab md ops = T)) (i : Nat) {N : Option Tmp}
    (h : ∀ K : Act → World → Prop, Shut (∀ a' w', S w' → (S w' → wpAnyLast P md ops Q S ds fuel (bA n (m + 2 ^ i)) a' w') → K a' w') → if Region.wanted oi (yielded ops a.tmps) = true then Oper.wp P oi a w K Q else K (a.put N undef) w)
    (hi : ops[i]? = some oi := by rfl) (hN : oi.dst = N := by rfl) (hc : (readyT T.2 (bA n m).toList == [i] && (bA n m).toList.set i true == (bA n (m + 2 ^ i)).toList) = true := by kernel_rfl) (hd : i ∉ ds := by decide) : wpAnyLast P md ops Q S ds (fuel + 1) (bA n m) a w :=
  one_ (i := i) _ hi hN (one_of hT.out hc) hd h
theorem gsG {K : Act → World → Prop} {f : FuncId} {fn : Func} (hf : P.funcs[f]? = some fn) {zs : Array Operand} {ts : Array TypeId} {args : Array Value} {N : Option Tmp} {R : Ending → World → Prop} (hc : Calls P f args w R)
    (h : ∀ e w', R e w' → ∃ v, e = .returned v ∧ K (a.put N v) w') (hop : oi.op = .call { callee := .value (.func f), args := zs, argTypes := ts } := by rfl) (hN : oi.dst = N := by rfl) (hw : Region.wanted oi (yielded ops a.tmps) = true := by rfl)
    (hname : (fn.name == "runtime.NumGoroutine") = false := by kernel_rfl) (hb : fn.body.isSome = true := by rfl)
    (hargs : zs.map a.eval = args := by (try simp only [List.map_toArray, List.map_cons, List.map_nil]); first | done | rfl | (simp only [List.length_drop, List.length_take]; rfl)) : if Region.wanted oi (yielded ops a.tmps) = true then Oper.wp P oi a w K Q else K (a.put N undef) w :=
  goes_ hf hname hb args hw hN hop hargs (hc.mono h)
theorem kp {p : Prop} (h : p := by (have h_ := hHeld); (repeat (obtain ⟨_, h_⟩ := h_)); ((repeat' apply And.intro) <;> exact pw_cell_below hb (by with_reducible assumption))) : p := h
end
section
variable {P : Program} {ops : Array Oper} {rest : List Oper} {o : Oper} {a : Act} {Q : Exit → Act → World → Prop}
/-- A struct's variable is made. -/
theorem bxe {W : World} {N : Tmp} (hd : o.dst = some N) {cs : Array Value} {t : TypeId}
    (h : ∀ g, g = W.heap.size → ∀ w1, w1.heap[g]? = some (.cells cs t (0, 0)) → Below W.heap.size W w1 → wpList P ops Q rest (a.put o.dst (.pointer (some ⟨g, 0, none⟩))) w1) (hgd : o.guard = none := by rfl)
    (hrun : (execOp a.eval o).run P W = .ok (.value (.pointer (some ⟨W.heap.size, 0, none⟩))) (W.alloc (.cells cs t (0, 0))) := by first | (go_simp; done) | (go_simp; rfl)) : wpList P ops Q (o :: rest) a W := box_event hgd hd hrun h
theorem bxd {w W0 W : World} {N : Tmp} (hd : o.dst = some N) {cs : Array Value} {t : TypeId} (hB : Aside0 (Below w.heap.size w W0)) [gr : Nonempty (Gr W0 W)]
    (h : ∀ g, ∀ w1, g = W.heap.size → Aside0 (Below w.heap.size w w1) → Aside0 (w1.heap[g]? = some (.cells cs t (0, 0))) → Aside0 (w.heap.size ≤ g) → Below W.heap.size W w1 → wpList P ops Q rest (a.put o.dst (.pointer (some ⟨g, 0, none⟩))) w1) (hgd : o.guard = none := by rfl)
    (hrun : (execOp a.eval o).run P W = .ok (.value (.pointer (some ⟨W.heap.size, 0, none⟩))) (W.alloc (.cells cs t (0, 0))) := by first | (go_simp; done) | (go_simp; rfl)) : wpList P ops Q (o :: rest) a W := boxed hd hgd hB.out hrun h
end
theorem el_int {k : IntKind} {xs : List Int} {w W : World} {A : Option Addr} {n : Nat} (h : Aside0 (Kd.C (Kd.int k) w A n xs)) (hb : Aside0 (Below w.heap.size w W)) (i : Int) (h0 : decide (0 ≤ i) = true := by first | (with_reducible assumption) | assumption) (h1 : decide (i < n) = true := by first | (with_reducible assumption) | assumption) : ∃ ad, A = some ad ∧ W.cell? (ad.add i.toNat) = some (.int k (rd xs i)) ∧ (0 ≤ i) = True ∧ (i < n) = True := by
  obtain ⟨ad, e, x0⟩ := Kd.at_int h.out i (of_decide_eq_true h0) (of_decide_eq_true h1);exact ⟨ad, e, pw_cell_below hb.out x0, eq_true (of_decide_eq_true h0), eq_true (of_decide_eq_true h1)⟩
theorem el0_int {k : IntKind} {xs : List Int} {w : World} {A : Option Addr} {n : Nat} (h : Aside0 (Kd.C (Kd.int k) w A n xs)) (i : Int) (h0 : decide (0 ≤ i) = true := by first | (with_reducible assumption) | assumption) (h1 : decide (i < n) = true := by first | (with_reducible assumption) | assumption) : ∃ ad, A = some ad ∧ w.cell? (ad.add i.toNat) = some (.int k (rd xs i)) ∧ (0 ≤ i) = True ∧ (i < n) = True := by
  obtain ⟨ad, e, x0⟩ := Kd.at_int h.out i (of_decide_eq_true h0) (of_decide_eq_true h1);exact ⟨ad, e, x0, eq_true (of_decide_eq_true h0), eq_true (of_decide_eq_true h1)⟩
theorem el20_int {k : IntKind} {xs : List Int} {w : World} {ad : Addr} {n : Nat} (h : Aside0 (Kd.C (Kd.int k) w (some ad) n xs)) (i : Int) (h0 : decide (0 ≤ i) = true := by first | (with_reducible assumption) | assumption) (h1 : decide (i < n) = true := by first | (with_reducible assumption) | assumption) : w.cell? (ad.add i.toNat) = some (.int k (rd xs i)) ∧ (0 ≤ i) = True ∧ (i < n) = True := by
  obtain ⟨ad', e, x0⟩ := Kd.at_int h.out i (of_decide_eq_true h0) (of_decide_eq_true h1);obtain rfl := Option.some.inj e;exact ⟨x0, eq_true (of_decide_eq_true h0), eq_true (of_decide_eq_true h1)⟩
theorem el_L10 {xs : List (List Int)} {w W : World} {A : Option Addr} {n : Nat} (h : Aside0 (Kd.C (Kd.slice 5 (Kd.int .u8)) w A n xs)) (hb : Aside0 (Below w.heap.size w W)) (i : Int) (h0 : decide (0 ≤ i) = true := by first | (with_reducible assumption) | assumption) (h1 : decide (i < n) = true := by first | (with_reducible assumption) | assumption) : ∃ ad A0 c0, A = some ad ∧ W.cell? (ad.add i.toNat) = some (.slice A0 (jr xs i).length c0) ∧ Aside0 ((jr xs i).length ≤ c0) ∧ Aside0 ((Kd.int .u8).C w A0 (jr xs i).length (jr xs i)) ∧ (0 ≤ i) = True ∧ (i < n) = True := by
  obtain ⟨ad, A0, c0, e, x0, y0, y1⟩ := qbN h.out i (of_decide_eq_true h0) (of_decide_eq_true h1);exact ⟨ad, A0, c0, e, pw_cell_below hb.out x0, ⟨y0⟩, ⟨y1⟩, eq_true (of_decide_eq_true h0), eq_true (of_decide_eq_true h1)⟩
theorem el0_L10 {xs : List (List Int)} {w : World} {A : Option Addr} {n : Nat} (h : Aside0 (Kd.C (Kd.slice 5 (Kd.int .u8)) w A n xs)) (i : Int) (h0 : decide (0 ≤ i) = true := by first | (with_reducible assumption) | assumption) (h1 : decide (i < n) = true := by first | (with_reducible assumption) | assumption) : ∃ ad A0 c0, A = some ad ∧ w.cell? (ad.add i.toNat) = some (.slice A0 (jr xs i).length c0) ∧ Aside0 ((jr xs i).length ≤ c0) ∧ Aside0 ((Kd.int .u8).C w A0 (jr xs i).length (jr xs i)) ∧ (0 ≤ i) = True ∧ (i < n) = True := by
  obtain ⟨ad, A0, c0, e, x0, y0, y1⟩ := qbN h.out i (of_decide_eq_true h0) (of_decide_eq_true h1);exact ⟨ad, A0, c0, e, x0, ⟨y0⟩, ⟨y1⟩, eq_true (of_decide_eq_true h0), eq_true (of_decide_eq_true h1)⟩
/-! ### qA: function 28 -/
def qA.l0 : Nat → List Int → List Int → Int → Option (Bool)
 | 0, _, _, _ => none
 | k + 1, x0, x1, x5 => if x5 < (x0.length : Int) then (if 0 ≤ x5 then (if x5 < (x1.length : Int) then (if (rd x0 x5) = (rd x1 x5) then (qA.l0 k x0 x1 (wrap64 (x5 + 1))) else (some false)) else (none)) else (none)) else (some true)
def qA.f (k : Nat) (l0 : List Int) (l1 : List Int) : Option (Bool) := if (l0.length : Int) = (l1.length : Int) then (qA.l0 k l0 l1 0) else (some false)
set_option maxHeartbeats 8000000 in
set_option maxRecDepth 100000 in
theorem qA.calls (k : Nat) (A0 : Option Addr) (c0 : Nat) (l0 : List Int) (A1 : Option Addr) (c1 : Nat) (l1 : List Int) (r : Bool) (w : World) (hr0 : Kd.C (Kd.int .u8) w A0 l0.length l0) (hc0 : l0.length ≤ c0) (hr1 : Kd.C (Kd.int .u8) w A1 l1.length l1) (hc1 : l1.length ≤ c1) (h : qA.f k l0 l1 = some r) :
  Calls Try.prog 28 #[.slice A0 l0.length c0, .slice A1 l1.length c1] w fun e w' => e = .returned (.bool r) ∧ Drawn0 w w' := by
 have HR0 := ak hr0;have HC0 := ak hc0;clear hr0 hc0;have HR1 := ak hr1;have HC1 := ak hc1;clear hr1 hc1;have H : (if (l0.length : Int) = (l1.length : Int) then (qA.l0 k l0 l1 0) else (some false)) = some r := h;clear h;replace H := ie H;obtain ⟨c3b0, c3b1, H⟩ | ⟨c3b0, c3b1, H⟩ := H
 ·have c3b2 : (l0.length == l1.length) = true := lnT c3b0;have H' := ak H;clear H;go_enter Try.func28, Try.ntmps28;go_wp2;repeat (go_quiet (fail); try go_wp2)
  go_loopg [5] k (fun kq v5 w' => ∃ (qR : Int), v5 = .int .i64 qR ∧ Aside0 (qA.l0 kq l0 l1 qR = some r) ∧ Aside0 (kq ≤ k) ∧ Drawn0 w w')
  case atStart => exact ⟨(0), o2, H', ⟨Nat.le_refl _⟩, od⟩
  case round =>
   clear H';(try clear c1)
   (try clear c3b0)
   (try clear c3b1)
   (try clear c3b2)
   obtain ⟨qR, rfl, HA, HK1, ⟨m1, rfl⟩⟩ := hrel;cases gk with
   | zero => exact absurd HA.out (by simp [qA.l0])
   | succ k1 =>
    have H := HA.out;clear HA;simp only [qA.l0] at H;replace H := ip H;obtain ⟨c4b0, H⟩ | ⟨c4b0, H⟩ := H
    ·replace H := ipN H;obtain ⟨c5b0, H⟩ := H;replace H := ipN H;obtain ⟨c6b0, H⟩ := H;replace H := ie H;obtain ⟨c7b0, c7b1, H⟩ | ⟨c7b0, c7b1, H⟩ := H
     ·have H' := ak H;clear H;obtain ⟨zO, rfl, zk, yi, yh⟩ := el0_int HR0 qR;obtain ⟨Zv, rfl, zZ, QJ, QH⟩ := el0_int HR1 qR;go_wp2;repeat (go_quiet (fail); try go_wp2)
      go_roundg k1;case measure => have := HK1.out; omega
      case rel => exact ⟨(wrap64 (qR + 1)), o2, H', ⟨by have := HK1.out; omega⟩, od⟩
     ·obtain rfl := Option.some.inj H;obtain ⟨zO, rfl, zk, yi, yh⟩ := el0_int HR0 qR;obtain ⟨Zv, rfl, zZ, QJ, QH⟩ := el0_int HR1 qR;go_wp2;repeat (go_quiet (fail); try go_wp2)
      go_ret;exact ⟨o2, od⟩
    ·obtain rfl := Option.some.inj H;go_wp2;repeat (go_quiet (fail); try go_wp2)
     go_ret;exact ⟨o2, od⟩
 ·have c3b2 : (l0.length == l1.length) = false := lnF c3b0;obtain rfl := Option.some.inj H;go_enter Try.func28, Try.ntmps28;go_wp2;repeat (go_quiet (fail); try go_wp2)
  go_ret;exact ⟨o2, od⟩

/-! ### qV: function 109 -/
def qV.l0 : Nat → List (List Int) → List (List Int) → Int → Option (Bool)
 | 0, _, _, _ => none
 | k + 1, x0, x1, x5 => if x5 < (x0.length : Int) then (if 0 ≤ x5 then (if x5 < (x1.length : Int) then ((qA.f k (jr x0 x5) (jr x1 x5)).bind fun qz => (if qz = true then (qV.l0 k x0 x1 (wrap64 (x5 + 1))) else (some false))) else (none)) else (none)) else (some true)
def qV.f (k : Nat) (l0 : List (List Int)) (l1 : List (List Int)) : Option (Bool) := if (l0.length : Int) = (l1.length : Int) then (qV.l0 k l0 l1 0) else (some false)
set_option maxHeartbeats 8000000 in
set_option maxRecDepth 100000 in
theorem qV.calls (k : Nat) (A0 : Option Addr) (c0 : Nat) (l0 : List (List Int)) (A1 : Option Addr) (c1 : Nat) (l1 : List (List Int)) (r : Bool) (w : World) (hr0 : Kd.C (Kd.slice 5 (Kd.int .u8)) w A0 l0.length l0) (hc0 : l0.length ≤ c0) (hr1 : Kd.C (Kd.slice 5 (Kd.int .u8)) w A1 l1.length l1) (hc1 : l1.length ≤ c1) (h : qV.f k l0 l1 = some r) :
  Calls Try.prog 109 #[.slice A0 l0.length c0, .slice A1 l1.length c1] w fun e w' => e = .returned (.bool r) ∧ Drawn0 w w' := by
 have HR0 := ak hr0;have HC0 := ak hc0;clear hr0 hc0;have HR1 := ak hr1;have HC1 := ak hc1;clear hr1 hc1;have H : (if (l0.length : Int) = (l1.length : Int) then (qV.l0 k l0 l1 0) else (some false)) = some r := h;clear h;replace H := ie H;obtain ⟨c3b0, c3b1, H⟩ | ⟨c3b0, c3b1, H⟩ := H
 ·have c3b2 : (l0.length == l1.length) = true := lnT c3b0;have H' := ak H;clear H;go_enter Try.func109, Try.ntmps109;go_wp2;repeat (go_quiet (fail); try go_wp2)
  go_loopg [5] k (fun kq v5 w' => ∃ (qR : Int), v5 = .int .i64 qR ∧ Aside0 (qV.l0 kq l0 l1 qR = some r) ∧ Aside0 (kq ≤ k) ∧ Drawn0 w w')
  case atStart => exact ⟨(0), o2, H', ⟨Nat.le_refl _⟩, od⟩
  case round =>
   clear H';(try clear c1)
   (try clear c3b0)
   (try clear c3b1)
   (try clear c3b2)
   obtain ⟨qR, rfl, HA, HK1, ⟨m1, rfl⟩⟩ := hrel;cases gk with
   | zero => exact absurd HA.out (by simp [qV.l0])
   | succ k1 =>
    have H := HA.out;clear HA;simp only [qV.l0] at H;replace H := ip H;obtain ⟨c4b0, H⟩ | ⟨c4b0, H⟩ := H
    ·replace H := ipN H;obtain ⟨c5b0, H⟩ := H;replace H := ipN H;obtain ⟨c6b0, H⟩ := H;replace H := bnd H;obtain ⟨qz, A7, H⟩ := H;replace H := ib H;obtain ⟨rfl, H⟩ | ⟨rfl, H⟩ := H
     ·have H' := ak H;clear H;obtain ⟨zO, qbV, qbM, rfl, zk, yR, yP, yi, yh⟩ := el0_L10 HR0 qR;obtain ⟨Zv, qbU, qbL, rfl, zZ, yQ, yO, QJ, QH⟩ := el0_L10 HR1 qR;go_wp2_with ((go_at_call 28;(with_reducible refine (qA.calls k1 _ _ (jr l0 qR) _ _ (jr l1 qR) true _ (cd yP) yR.out (cd yO) yQ.out A7.out).mono ?_);rintro e w' ⟨rfl, ⟨nd, rfl⟩⟩;(try first | exact ⟨rfl, _, World.drewN_drewN _ _ _⟩ | exact ⟨rfl, _, Eq.trans (World.drewN_drewN _ _ _) (congrArg (World.drewN _) (Nat.add_assoc _ _ _))⟩)));repeat (go_quiet ((go_at_call 28;(with_reducible refine (qA.calls k1 _ _ (jr l0 qR) _ _ (jr l1 qR) true _ (cd yP) yR.out (cd yO) yQ.out A7.out).mono ?_);rintro e w' ⟨rfl, ⟨nd, rfl⟩⟩;(try first | exact ⟨rfl, _, World.drewN_drewN _ _ _⟩ | exact ⟨rfl, _, Eq.trans (World.drewN_drewN _ _ _) (congrArg (World.drewN _) (Nat.add_assoc _ _ _))⟩))); try go_wp2_with ((go_at_call 28;(with_reducible refine (qA.calls k1 _ _ (jr l0 qR) _ _ (jr l1 qR) true _ (cd yP) yR.out (cd yO) yQ.out A7.out).mono ?_);rintro e w' ⟨rfl, ⟨nd, rfl⟩⟩;(try first | exact ⟨rfl, _, World.drewN_drewN _ _ _⟩ | exact ⟨rfl, _, Eq.trans (World.drewN_drewN _ _ _) (congrArg (World.drewN _) (Nat.add_assoc _ _ _))⟩))))
      go_roundg k1;case measure => have := HK1.out; omega
      case rel => exact ⟨(wrap64 (qR + 1)), o2, H', ⟨by have := HK1.out; omega⟩, od⟩
     ·obtain rfl := Option.some.inj H;obtain ⟨zO, qbV, qbM, rfl, zk, yR, yP, yi, yh⟩ := el0_L10 HR0 qR;obtain ⟨Zv, qbU, qbL, rfl, zZ, yQ, yO, QJ, QH⟩ := el0_L10 HR1 qR;go_wp2_with ((go_at_call 28;(with_reducible refine (qA.calls k1 _ _ (jr l0 qR) _ _ (jr l1 qR) false _ (cd yP) yR.out (cd yO) yQ.out A7.out).mono ?_);rintro e w' ⟨rfl, ⟨nd, rfl⟩⟩;(try first | exact ⟨rfl, _, World.drewN_drewN _ _ _⟩ | exact ⟨rfl, _, Eq.trans (World.drewN_drewN _ _ _) (congrArg (World.drewN _) (Nat.add_assoc _ _ _))⟩)));repeat (go_quiet ((go_at_call 28;(with_reducible refine (qA.calls k1 _ _ (jr l0 qR) _ _ (jr l1 qR) false _ (cd yP) yR.out (cd yO) yQ.out A7.out).mono ?_);rintro e w' ⟨rfl, ⟨nd, rfl⟩⟩;(try first | exact ⟨rfl, _, World.drewN_drewN _ _ _⟩ | exact ⟨rfl, _, Eq.trans (World.drewN_drewN _ _ _) (congrArg (World.drewN _) (Nat.add_assoc _ _ _))⟩))); try go_wp2_with ((go_at_call 28;(with_reducible refine (qA.calls k1 _ _ (jr l0 qR) _ _ (jr l1 qR) false _ (cd yP) yR.out (cd yO) yQ.out A7.out).mono ?_);rintro e w' ⟨rfl, ⟨nd, rfl⟩⟩;(try first | exact ⟨rfl, _, World.drewN_drewN _ _ _⟩ | exact ⟨rfl, _, Eq.trans (World.drewN_drewN _ _ _) (congrArg (World.drewN _) (Nat.add_assoc _ _ _))⟩))))
      go_ret;exact ⟨o2, od⟩
    ·obtain rfl := Option.some.inj H;go_wp2;repeat (go_quiet (fail); try go_wp2)
     go_ret;exact ⟨o2, od⟩
 ·have c3b2 : (l0.length == l1.length) = false := lnF c3b0;obtain rfl := Option.some.inj H;go_enter Try.func109, Try.ntmps109;go_wp2;repeat (go_quiet (fail); try go_wp2)
  go_ret;exact ⟨o2, od⟩

/-! ### je: function 43 -/
def je.f (k : Nat) (ql : List (List Int)) (zY : List (List Int)) : Option (Bool) := (qV.f k ql zY).bind fun qz => (if qz = true then (some true) else (some false))
set_option maxHeartbeats 8000000 in
set_option maxRecDepth 100000 in
theorem je.calls (k : Nat) (zC : Option Addr) (zB : Nat) (ql : List (List Int)) (qbT : Option Addr) (qbK : Nat) (zY : List (List Int)) (r : Bool) (w : World) (zF : Kd.C (Kd.slice 5 (Kd.int .u8)) w zC ql.length ql) (zN : ql.length ≤ zB) (YV : Kd.C (Kd.slice 5 (Kd.int .u8)) w qbT zY.length zY) (YZ : zY.length ≤ qbK) (h : je.f k ql zY = some r) :
  Calls Try.prog 43 #[.agg #[.slice zC ql.length zB], .agg #[.slice qbT zY.length qbK]] w fun e w' => e = .returned (.bool r) ∧ Below w.heap.size w w' := by
 have JF := Try.underlying31;have zd := ak zF;have zp := ak zN;clear zF zN;have QW := ak YV;have QY := ak YZ;clear YV YZ;have HB := ak (Below.refl w.heap.size w);have H : ((qV.f k ql zY).bind fun qz => (if qz = true then (some true) else (some false))) = some r := h;clear h;replace H := bnd H;obtain ⟨qz, A3, H⟩ := H;replace H := ib H;obtain ⟨rfl, H⟩ | ⟨rfl, H⟩ := H
 ·obtain rfl := Option.some.inj H;go_enter Try.func43, Try.ntmps43;go_wp2_with (first | ((with_reducible refine gate_dst (N := 2) rfl ?_);refine bxd (N := 2) rfl HB ?_;clear HB;intro qb w5 hg HB qc qE hb;have jX := qE;clear hb hg) | ((with_reducible refine gate_dst (N := 3) rfl ?_);refine bxe (N := 3) rfl ?_;intro qg hg w6 hbox hb;have qf := ak (hbox);have jP := b3s hg bs;have yk := jP;replace HB := b2s bs hb;have qe := b4 hg qc;have qa := b5 hg qc;replace qc := b1 qc hb;clear hb hbox hg;have qMg := qe.out;have qMd := qa.out;obtain ⟨qoq, qoi⟩ := cells1 qc.out;obtain ⟨qbz, qbr⟩ := cells1 qf.out) | ((with_reducible refine gate_callee (f := 109) rfl ?_);refine glD 9 rfl rfl Try.func109 (qV.calls k _ _ ql _ _ zY true _ (cv zd HB) zp.out (cv QW HB) QY.out A3.out) (fun nd => ?_)));go_ret;exact ⟨o1, bs⟩
 ·obtain rfl := Option.some.inj H;go_enter Try.func43, Try.ntmps43;go_wp2_with (first | ((with_reducible refine gate_dst (N := 2) rfl ?_);refine bxd (N := 2) rfl HB ?_;clear HB;intro qb w10 hg HB qc qE hb;have jX := qE;clear hb hg) | ((with_reducible refine gate_dst (N := 3) rfl ?_);refine bxe (N := 3) rfl ?_;intro qg hg w11 hbox hb;have qf := ak (hbox);have jP := b3s hg bs;have yk := jP;replace HB := b2s bs hb;have qe := b4 hg qc;have qa := b5 hg qc;replace qc := b1 qc hb;clear hb hbox hg;have qgp := qe.out;have qgn := qa.out;obtain ⟨Je, Jd⟩ := cells1 qc.out;obtain ⟨qnF, qj3⟩ := cells1 qf.out) | ((with_reducible refine gate_callee (f := 109) rfl ?_);refine glD 9 rfl rfl Try.func109 (qV.calls k _ _ ql _ _ zY false _ (cv zd HB) zp.out (cv QW HB) QY.out A3.out) (fun nd => ?_)));go_ret;exact ⟨o1, bs⟩

/-! ### jE: function 65 -/
def jE.l0 : Nat → List Int → List Int → Int → Option (Bool)
 | 0, _, _, _ => none
 | k + 1, x0, x1, x5 => if x5 < (x0.length : Int) then (if 0 ≤ x5 then (if x5 < (x1.length : Int) then (if (rd x0 x5) = (rd x1 x5) then (jE.l0 k x0 x1 (wrap64 (x5 + 1))) else (some false)) else (none)) else (none)) else (some true)
def jE.f (k : Nat) (l0 : List Int) (l1 : List Int) : Option (Bool) := if (l0.length : Int) = (l1.length : Int) then (jE.l0 k l0 l1 0) else (some false)
set_option maxHeartbeats 8000000 in
set_option maxRecDepth 100000 in
theorem jE.calls (k : Nat) (A0 : Option Addr) (c0 : Nat) (l0 : List Int) (A1 : Option Addr) (c1 : Nat) (l1 : List Int) (r : Bool) (w : World) (hr0 : Kd.C (Kd.int .i64) w A0 l0.length l0) (hc0 : l0.length ≤ c0) (hr1 : Kd.C (Kd.int .i64) w A1 l1.length l1) (hc1 : l1.length ≤ c1) (h : jE.f k l0 l1 = some r) :
  Calls Try.prog 65 #[.slice A0 l0.length c0, .slice A1 l1.length c1] w fun e w' => e = .returned (.bool r) ∧ Drawn0 w w' := by
 have HR0 := ak hr0;have HC0 := ak hc0;clear hr0 hc0;have HR1 := ak hr1;have HC1 := ak hc1;clear hr1 hc1;have H : (if (l0.length : Int) = (l1.length : Int) then (jE.l0 k l0 l1 0) else (some false)) = some r := h;clear h;replace H := ie H;obtain ⟨c3b0, c3b1, H⟩ | ⟨c3b0, c3b1, H⟩ := H
 ·have c3b2 : (l0.length == l1.length) = true := lnT c3b0;have H' := ak H;clear H;go_enter Try.func65, Try.ntmps65;go_wp2;repeat (go_quiet (fail); try go_wp2)
  go_loopg [5] k (fun kq v5 w' => ∃ (qR : Int), v5 = .int .i64 qR ∧ Aside0 (jE.l0 kq l0 l1 qR = some r) ∧ Aside0 (kq ≤ k) ∧ Drawn0 w w')
  case atStart => exact ⟨(0), o2, H', ⟨Nat.le_refl _⟩, od⟩
  case round =>
   clear H';(try clear c1)
   (try clear c3b0)
   (try clear c3b1)
   (try clear c3b2)
   obtain ⟨qR, rfl, HA, HK1, ⟨m1, rfl⟩⟩ := hrel;cases gk with
   | zero => exact absurd HA.out (by simp [jE.l0])
   | succ k1 =>
    have H := HA.out;clear HA;simp only [jE.l0] at H;replace H := ip H;obtain ⟨c4b0, H⟩ | ⟨c4b0, H⟩ := H
    ·replace H := ipN H;obtain ⟨c5b0, H⟩ := H;replace H := ipN H;obtain ⟨c6b0, H⟩ := H;replace H := ie H;obtain ⟨c7b0, c7b1, H⟩ | ⟨c7b0, c7b1, H⟩ := H
     ·have H' := ak H;clear H;obtain ⟨zO, rfl, zk, yi, yh⟩ := el0_int HR0 qR;obtain ⟨Zv, rfl, zZ, QJ, QH⟩ := el0_int HR1 qR;go_wp2;repeat (go_quiet (fail); try go_wp2)
      go_roundg k1;case measure => have := HK1.out; omega
      case rel => exact ⟨(wrap64 (qR + 1)), o2, H', ⟨by have := HK1.out; omega⟩, od⟩
     ·obtain rfl := Option.some.inj H;obtain ⟨zO, rfl, zk, yi, yh⟩ := el0_int HR0 qR;obtain ⟨Zv, rfl, zZ, QJ, QH⟩ := el0_int HR1 qR;go_wp2;repeat (go_quiet (fail); try go_wp2)
      go_ret;exact ⟨o2, od⟩
    ·obtain rfl := Option.some.inj H;go_wp2;repeat (go_quiet (fail); try go_wp2)
     go_ret;exact ⟨o2, od⟩
 ·have c3b2 : (l0.length == l1.length) = false := lnF c3b0;obtain rfl := Option.some.inj H;go_enter Try.func65, Try.ntmps65;go_wp2;repeat (go_quiet (fail); try go_wp2)
  go_ret;exact ⟨o2, od⟩

/-! ### jA: function 17 -/
def jA.f (k : Nat) (ql : List (List Int)) (qN : Int) (jl : Int) (jk : Int) (qF : List (List Int)) (qH : List Int) (qB : List Int) (zY : List (List Int)) (qbQ : Int) (qbP : Int) (qbO : Int) (Jq : List (List Int)) (JE : List Int) (JR : List Int) : Option (Bool) := (je.f k ql zY).bind fun qz => (if qz = true then (if qN = qbQ then (if jl = qbP then (if jk = qbO then ((je.f k qF Jq).bind fun qW => (if qW = true then ((qA.f k qH JE).bind fun za => (if za = true then ((jE.f k qB JR).bind fun jG => (if jG = true then (some true) else (some false))) else (some false))) else (some false))) else (some false)) else (some false)) else (some false)) else (some false))
set_option maxHeartbeats 8000000 in
set_option maxRecDepth 100000 in
theorem jA.calls (k : Nat) (zC : Option Addr) (zB : Nat) (ql : List (List Int)) (qN : Int) (jl : Int) (jk : Int) (yG : Option Addr) (yC : Nat) (qF : List (List Int)) (yF : Option Addr) (yB : Nat) (qH : List Int) (yE : Option Addr) (yA : Nat) (qB : List Int) (qbT : Option Addr) (qbK : Nat) (zY : List (List Int)) (qbQ : Int) (qbP : Int) (qbO : Int) (qo6 : Option Addr) (qoL : Nat) (Jq : List (List Int)) (qo5 : Option Addr) (qoK : Nat) (JE : List Int) (qo4 : Option Addr) (qoJ : Nat) (JR : List Int) (r : Bool) (w : World) (zF : Kd.C (Kd.slice 5 (Kd.int .u8)) w zC ql.length ql) (zN : ql.length ≤ zB) (Qf : Kd.C (Kd.slice 5 (Kd.int .u8)) w yG qF.length qF) (Qi : qF.length ≤ yC) (Qe : Kd.C (Kd.int .u8) w yF qH.length qH) (Qh : qH.length ≤ yB) (Qd : Kd.C (Kd.int .i64) w yE qB.length qB) (Qg : qB.length ≤ yA) (YV : Kd.C (Kd.slice 5 (Kd.int .u8)) w qbT zY.length zY) (YZ : zY.length ≤ qbK) (qgk : Kd.C (Kd.slice 5 (Kd.int .u8)) w qo6 Jq.length Jq) (qgv : Jq.length ≤ qoL) (qgj : Kd.C (Kd.int .u8) w qo5 JE.length JE) (qgu : JE.length ≤ qoK) (qgi : Kd.C (Kd.int .i64) w qo4 JR.length JR) (qgt : JR.length ≤ qoJ) (h : jA.f k ql qN jl jk qF qH qB zY qbQ qbP qbO Jq JE JR = some r) :
  Calls Try.prog 17 #[.agg #[.slice zC ql.length zB, .int .i64 qN, .int .i64 jl, .int .i64 jk, .slice yG qF.length yC, .slice yF qH.length yB, .slice yE qB.length yA], .agg #[.slice qbT zY.length qbK, .int .i64 qbQ, .int .i64 qbP, .int .i64 qbO, .slice qo6 Jq.length qoL, .slice qo5 JE.length qoK, .slice qo4 JR.length qoJ]] w fun e w' => e = .returned (.bool r) ∧ Below w.heap.size w w' := by
 have ZK := Try.underlying33;have JF := Try.underlying31;have zd := ak zF;have zp := ak zN;clear zF zN;have yI := ak Qf;have yJ := ak Qi;clear Qf Qi;have QX := ak Qe;have QZ := ak Qh;clear Qe Qh;have zW := ak Qd;have Jx := ak Qg;clear Qd Qg;have QW := ak YV;have QY := ak YZ;clear YV YZ;have qbc := ak qgk;have qbd := ak qgv;clear qgk qgv;have qfi := ak qgj;have qfn := ak qgu;clear qgj qgu;have qgC := ak qgi;have qgD := ak qgt;clear qgi qgt;have HB := ak (Below.refl w.heap.size w);have H : ((je.f k ql zY).bind fun qz => (if qz = true then (if qN = qbQ then (if jl = qbP then (if jk = qbO then ((je.f k qF Jq).bind fun qW => (if qW = true then ((qA.f k qH JE).bind fun za => (if za = true then ((jE.f k qB JR).bind fun jG => (if jG = true then (some true) else (some false))) else (some false))) else (some false))) else (some false)) else (some false)) else (some false)) else (some false))) = some r := h;clear h;replace H := bnd H;obtain ⟨qz, A3, H⟩ := H;replace H := ib H;obtain ⟨rfl, H⟩ | ⟨rfl, H⟩ := H
 ·replace H := ie H;obtain ⟨c5b0, c5b1, H⟩ | ⟨c5b0, c5b1, H⟩ := H
  ·replace H := ie H;obtain ⟨c6b0, c6b1, H⟩ | ⟨c6b0, c6b1, H⟩ := H
   ·replace H := ie H;obtain ⟨c7b0, c7b1, H⟩ | ⟨c7b0, c7b1, H⟩ := H
    ·replace H := bnd H;obtain ⟨qW, A8, H⟩ := H;replace H := ib H;obtain ⟨rfl, H⟩ | ⟨rfl, H⟩ := H
     ·replace H := bnd H;obtain ⟨za, A10, H⟩ := H;replace H := ib H;obtain ⟨rfl, H⟩ | ⟨rfl, H⟩ := H
      ·replace H := bnd H;obtain ⟨jG, A12, H⟩ := H;replace H := ib H;obtain ⟨rfl, H⟩ | ⟨rfl, H⟩ := H
       ·obtain rfl := Option.some.inj H;go_enter Try.func17, Try.ntmps17;go_wp2_with (first | ((with_reducible refine gate_dst (N := 2) rfl ?_);refine bxd (N := 2) rfl HB ?_;clear HB;intro qb w14 hg HB qc qE hb;have jX := qE;clear hb hg) | ((with_reducible refine gate_dst (N := 3) rfl ?_);refine bxe (N := 3) rfl ?_;intro qg hg w15 hbox hb;have qf := ak (hbox);have jP := b3s hg bs;have yk := jP;replace HB := b2s bs hb;have qe := b4 hg qc;have qa := b5 hg qc;replace qc := b1 qc hb;clear hb hbox hg;have qpv := qe.out;have qpn := qa.out;obtain ⟨qeK, qnE, qnD, qnC, qnB, qnA, qnz, qdk, qj2, qj1, qj0, qjZ, qjY, qjX⟩ := cells7 qc.out;obtain ⟨qeJ, qeI, qeH, qeG, qeF, qeE, qeD, qdj, qdi, qdh, qdg, qdf, qde, qdd⟩ := cells7 qf.out) | ((with_reducible refine gate_callee (f := 43) rfl ?_);refine glB 9 rfl rfl Try.func43 (je.calls k _ _ ql _ _ zY true _ (cv zd HB) zp.out (cv QW HB) QY.out A3.out) (fun w19 hb => ?_);replace qc := b1 qc hb;replace qf := b1 qf hb;replace HB := b2s bs hb;(try clear hb);obtain ⟨Yr, qaR, qaQ, qaP, qaO, qaN, qaM, Yb, XW, XV, XU, XT, XS, XR⟩ := cells7 qc.out;obtain ⟨qaL, qnr, qnq, qnp, qno, qnn, qnm, XQ, qjP, qjO, qjN, qjM, qjL, qjK⟩ := cells7 qf.out) | ((with_reducible refine gate_callee (f := 43) rfl ?_);refine glB 30 rfl rfl Try.func43 (je.calls k _ _ qF _ _ Jq true _ (cv yI HB) yJ.out (cv qbc HB) qbd.out A8.out) (fun w22 hb => ?_);replace qc := b1 qc hb;replace qf := b1 qf hb;replace HB := b2s bs hb;(try clear hb);obtain ⟨qeC, qnl, qnk, qnj, qni, qnh, qng, qdc, qjJ, qjI, qjH, qjG, qjF, qjE⟩ := cells7 qc.out;obtain ⟨qeB, qnf, qne, qnd, qnc, qnb, qna, qdb, qjD, qjC, qjB, qjA, qjz, qjy⟩ := cells7 qf.out) | ((with_reducible refine gate_callee (f := 28) rfl ?_);refine glD 36 rfl rfl Try.func28 (qA.calls k _ _ qH _ _ JE true _ (cv QX HB) QZ.out (cv qfi HB) qfn.out A10.out) (fun nd => ?_)) | ((with_reducible refine gate_callee (f := 65) rfl ?_);refine glD 42 rfl rfl Try.func65 (jE.calls k _ _ qB _ _ JR true _ ?qC Jx.out ?jD qgD.out A12.out) (fun nd => ?_);(case qC => repeat (first | exact (Kd.C_below zW.out bs) | (with_reducible refine Kd.C_alloc ?_ _) | (with_reducible refine Kd.C_drewN ?_ _) | (with_reducible refine Kd.C_drew ?_)));(case jD => repeat (first | exact (Kd.C_below qgC.out bs) | (with_reducible refine Kd.C_alloc ?_ _) | (with_reducible refine Kd.C_drewN ?_ _) | (with_reducible refine Kd.C_drew ?_)))));go_ret;exact ⟨o1, bs⟩
       ·obtain rfl := Option.some.inj H;go_enter Try.func17, Try.ntmps17;go_wp2_with (first | ((with_reducible refine gate_dst (N := 2) rfl ?_);refine bxd (N := 2) rfl HB ?_;clear HB;intro qb w25 hg HB qc qE hb;have jX := qE;clear hb hg) | ((with_reducible refine gate_dst (N := 3) rfl ?_);refine bxe (N := 3) rfl ?_;intro qg hg w26 hbox hb;have qf := ak (hbox);have jP := b3s hg bs;have yk := jP;replace HB := b2s bs hb;have qe := b4 hg qc;have qa := b5 hg qc;replace qc := b1 qc hb;clear hb hbox hg;have qKc := qe.out;have qJK := qa.out;obtain ⟨qmX, qmW, qmV, qmU, qmT, qmS, qmR, qjl, qjk, qjj, qji, qjh, qjg, qjf⟩ := cells7 qc.out;obtain ⟨Yq, Yp, Yo, Yn, Ym, Yl, Yk, Ya, ZZ, ZY, ZX, ZW, ZV, ZU⟩ := cells7 qf.out) | ((with_reducible refine gate_callee (f := 43) rfl ?_);refine glB 9 rfl rfl Try.func43 (je.calls k _ _ ql _ _ zY true _ (cv zd HB) zp.out (cv QW HB) QY.out A3.out) (fun w30 hb => ?_);replace qc := b1 qc hb;replace qf := b1 qf hb;replace HB := b2s bs hb;(try clear hb);obtain ⟨qmQ, qmP, qmO, qmN, qmM, qmL, qmK, qje, qjd, qjc, qjb, qja, qi9, qi8⟩ := cells7 qc.out;obtain ⟨qaJ, qaI, qaH, qaG, qaF, qaE, qaD, XO, XN, XM, XL, XK, XJ, XI⟩ := cells7 qf.out) | ((with_reducible refine gate_callee (f := 43) rfl ?_);refine glB 30 rfl rfl Try.func43 (je.calls k _ _ qF _ _ Jq true _ (cv yI HB) yJ.out (cv qbc HB) qbd.out A8.out) (fun w33 hb => ?_);replace qc := b1 qc hb;replace qf := b1 qf hb;replace HB := b2s bs hb;(try clear hb);obtain ⟨qaB, qmJ, qmI, qmH, qmG, qmF, qmE, XG, qi7, qi6, qi5, qi4, qi3, qi2⟩ := cells7 qc.out;obtain ⟨qaA, qaz, qay, qax, qaw, qav, qau, XF, XE, XD, XC, XB, XA, Xz⟩ := cells7 qf.out) | ((with_reducible refine gate_callee (f := 28) rfl ?_);refine glD 36 rfl rfl Try.func28 (qA.calls k _ _ qH _ _ JE true _ (cv QX HB) QZ.out (cv qfi HB) qfn.out A10.out) (fun nd => ?_)) | ((with_reducible refine gate_callee (f := 65) rfl ?_);refine glD 42 rfl rfl Try.func65 (jE.calls k _ _ qB _ _ JR false _ ?qC Jx.out ?jD qgD.out A12.out) (fun nd => ?_);(case qC => repeat (first | exact (Kd.C_below zW.out bs) | (with_reducible refine Kd.C_alloc ?_ _) | (with_reducible refine Kd.C_drewN ?_ _) | (with_reducible refine Kd.C_drew ?_)));(case jD => repeat (first | exact (Kd.C_below qgC.out bs) | (with_reducible refine Kd.C_alloc ?_ _) | (with_reducible refine Kd.C_drewN ?_ _) | (with_reducible refine Kd.C_drew ?_)))));go_ret;exact ⟨o1, bs⟩
      ·obtain rfl := Option.some.inj H;go_enter Try.func17, Try.ntmps17;go_wp2_with (first | ((with_reducible refine gate_dst (N := 2) rfl ?_);refine bxd (N := 2) rfl HB ?_;clear HB;intro qb w36 hg HB qc qE hb;have jX := qE;clear hb hg) | ((with_reducible refine gate_dst (N := 3) rfl ?_);refine bxe (N := 3) rfl ?_;intro qg hg w37 hbox hb;have qf := ak (hbox);have jP := b3s hg bs;have yk := jP;replace HB := b2s bs hb;have qe := b4 hg qc;have qa := b5 hg qc;replace qc := b1 qc hb;clear hb hbox hg;have qJ5 := qe.out;have qJD := qa.out;obtain ⟨qat, qee, qed, qec, qeb, qea, qd9, Xy, qcO, qcN, qcM, qcL, qcK, qcJ⟩ := cells7 qc.out;obtain ⟨qd8, qmq, qmp, qmo, qmn, qmm, qml, qcI, qiO, qiN, qiM, qiL, qiK, qiJ⟩ := cells7 qf.out) | ((with_reducible refine gate_callee (f := 43) rfl ?_);refine glB 9 rfl rfl Try.func43 (je.calls k _ _ ql _ _ zY true _ (cv zd HB) zp.out (cv QW HB) QY.out A3.out) (fun w41 hb => ?_);replace qc := b1 qc hb;replace qf := b1 qf hb;replace HB := b2s bs hb;(try clear hb);obtain ⟨qmk, qmj, qmi, qmh, qmg, qmf, qme, qiI, qiH, qiG, qiF, qiE, qiD, qiC⟩ := cells7 qc.out;obtain ⟨qd7, qmd, qmc, qmb, qma, ql9, ql8, qcH, qiB, qiA, qiz, qiy, qix, qiw⟩ := cells7 qf.out) | ((with_reducible refine gate_callee (f := 43) rfl ?_);refine glB 30 rfl rfl Try.func43 (je.calls k _ _ qF _ _ Jq true _ (cv yI HB) yJ.out (cv qbc HB) qbd.out A8.out) (fun w44 hb => ?_);replace qc := b1 qc hb;replace qf := b1 qf hb;replace HB := b2s bs hb;(try clear hb);obtain ⟨qd6, qd5, qd4, qd3, qd2, qd1, qd0, qcG, qcF, qcE, qcD, qcC, qcB, qcA⟩ := cells7 qc.out;obtain ⟨qdZ, qdY, qdX, qdW, qdV, qdU, qdT, qcz, qcy, qcx, qcw, qcv, qcu, qct⟩ := cells7 qf.out) | ((with_reducible refine gate_callee (f := 28) rfl ?_);refine glD 36 rfl rfl Try.func28 (qA.calls k _ _ qH _ _ JE false _ (cv QX HB) QZ.out (cv qfi HB) qfn.out A10.out) (fun nd => ?_)));go_ret;exact ⟨o1, bs⟩
     ·obtain rfl := Option.some.inj H;go_enter Try.func17, Try.ntmps17;go_wp2_with (first | ((with_reducible refine gate_dst (N := 2) rfl ?_);refine bxd (N := 2) rfl HB ?_;clear HB;intro qb w47 hg HB qc qE hb;have jX := qE;clear hb hg) | ((with_reducible refine gate_dst (N := 3) rfl ?_);refine bxe (N := 3) rfl ?_;intro qg hg w48 hbox hb;have qf := ak (hbox);have jP := b3s hg bs;have yk := jP;replace HB := b2s bs hb;have qe := b4 hg qc;have qa := b5 hg qc;replace qc := b1 qc hb;clear hb hbox hg;have qJ3 := qe.out;have qJB := qa.out;obtain ⟨qE1, qE0, qEZ, qEY, qEX, qEW, qEV, qBt, qBs, qBr, qBq, qBp, qBo, qBn⟩ := cells7 qc.out;obtain ⟨qdR, ql1, ql0, qlZ, qlY, qlX, qlW, qcr, qip, qio, qin, qim, qil, qik⟩ := cells7 qf.out) | ((with_reducible refine gate_callee (f := 43) rfl ?_);refine glB 9 rfl rfl Try.func43 (je.calls k _ _ ql _ _ zY true _ (cv zd HB) zp.out (cv QW HB) QY.out A3.out) (fun w52 hb => ?_);replace qc := b1 qc hb;replace qf := b1 qf hb;replace HB := b2s bs hb;(try clear hb);obtain ⟨qlV, qlU, qlT, qlS, qlR, qlQ, qlP, qij, qii, qih, qig, qif, qie, qid⟩ := cells7 qc.out;obtain ⟨qlO, qlN, qlM, qlL, qlK, qlJ, qlI, qic, qib, qia, qh9, qh8, qh7, qh6⟩ := cells7 qf.out) | ((with_reducible refine gate_callee (f := 43) rfl ?_);refine glB 30 rfl rfl Try.func43 (je.calls k _ _ qF _ _ Jq false _ (cv yI HB) yJ.out (cv qbc HB) qbd.out A8.out) (fun w55 hb => ?_);replace qc := b1 qc hb;replace qf := b1 qf hb;replace HB := b2s bs hb;(try clear hb)));go_ret;exact ⟨o1, bs⟩
    ·obtain rfl := Option.some.inj H;go_enter Try.func17, Try.ntmps17;go_wp2_with (first | ((with_reducible refine gate_dst (N := 2) rfl ?_);refine bxd (N := 2) rfl HB ?_;clear HB;intro qb w56 hg HB qc qE hb;have jX := qE;clear hb hg) | ((with_reducible refine gate_dst (N := 3) rfl ?_);refine bxe (N := 3) rfl ?_;intro qg hg w57 hbox hb;have qf := ak (hbox);have jP := b3s hg bs;have yk := jP;replace HB := b2s bs hb;have qe := b4 hg qc;have qa := b5 hg qc;replace qc := b1 qc hb;clear hb hbox hg;have qJY := qe.out;have qJw := qa.out;obtain ⟨qlv, qlu, qlt, qls, qlr, qlq, qlp, qhT, qhS, qhR, qhQ, qhP, qhO, qhN⟩ := cells7 qc.out;obtain ⟨qal, qdH, qdG, qdF, qdE, qdD, qdC, Xq, qch, qcg, qcf, qce, qcd, qcc⟩ := cells7 qf.out) | ((with_reducible refine gate_callee (f := 43) rfl ?_);refine glB 9 rfl rfl Try.func43 (je.calls k _ _ ql _ _ zY true _ (cv zd HB) zp.out (cv QW HB) QY.out A3.out) (fun w61 hb => ?_);replace qc := b1 qc hb;replace qf := b1 qf hb;replace HB := b2s bs hb;(try clear hb);obtain ⟨qln, qlm, qll, qlk, qlj, qli, qlh, qhL, qhK, qhJ, qhI, qhH, qhG, qhF⟩ := cells7 qc.out;obtain ⟨qdB, qdA, qdz, qdy, qdx, qdw, qdv, qcb, qca, qb9, qb8, qb7, qb6, qb5⟩ := cells7 qf.out));go_ret;exact ⟨o1, bs⟩
   ·obtain rfl := Option.some.inj H;go_enter Try.func17, Try.ntmps17;go_wp2_with (first | ((with_reducible refine gate_dst (N := 2) rfl ?_);refine bxd (N := 2) rfl HB ?_;clear HB;intro qb w64 hg HB qc qE hb;have jX := qE;clear hb hg) | ((with_reducible refine gate_dst (N := 3) rfl ?_);refine bxe (N := 3) rfl ?_;intro qg hg w65 hbox hb;have qf := ak (hbox);have jP := b3s hg bs;have yk := jP;replace HB := b2s bs hb;have qe := b4 hg qc;have qa := b5 hg qc;replace qc := b1 qc hb;clear hb hbox hg;have qpr := qe.out;have qpj := qa.out;obtain ⟨qdu, qdt, qds, qdr, qdq, qdp, qdo, qb4, qb3, qb2, qb1, qb0, qbZ, qbY⟩ := cells7 qc.out;obtain ⟨qEn, qEm, qEl, qEk, qEj, qEi, qEh, qAP, qAO, qAN, qAM, qAL, qAK, qAJ⟩ := cells7 qf.out) | ((with_reducible refine gate_callee (f := 43) rfl ?_);refine glB 9 rfl rfl Try.func43 (je.calls k _ _ ql _ _ zY true _ (cv zd HB) zp.out (cv QW HB) QY.out A3.out) (fun w69 hb => ?_);replace qc := b1 qc hb;replace qf := b1 qf hb;replace HB := b2s bs hb;(try clear hb);obtain ⟨qak, qaj, qai, qah, qag, qaf, qae, Xp, Xo, Xn, Xm, Xl, Xk, Xj⟩ := cells7 qc.out;obtain ⟨qdn, qk7, qk6, qk5, qk4, qk3, qk2, qbX, qhv, qhu, qht, qhs, qhr, qhq⟩ := cells7 qf.out));go_ret;exact ⟨o1, bs⟩
  ·obtain rfl := Option.some.inj H;go_enter Try.func17, Try.ntmps17;go_wp2_with (first | ((with_reducible refine gate_dst (N := 2) rfl ?_);refine bxd (N := 2) rfl HB ?_;clear HB;intro qb w72 hg HB qc qE hb;have jX := qE;clear hb hg) | ((with_reducible refine gate_dst (N := 3) rfl ?_);refine bxe (N := 3) rfl ?_;intro qg hg w73 hbox hb;have qf := ak (hbox);have jP := b3s hg bs;have yk := jP;replace HB := b2s bs hb;have qe := b4 hg qc;have qa := b5 hg qc;replace qc := b1 qc hb;clear hb hbox hg;have qJR := qe.out;have qJp := qa.out;obtain ⟨qEg, qEf, qEe, qEd, qEc, qEb, qEa, qAI, qAH, qAG, qAF, qAE, qAD, qAC⟩ := cells7 qc.out;obtain ⟨qkN, qkM, qkL, qkK, qkJ, qkI, qkH, qhb, qha, qg9, qg8, qg7, qg6, qg5⟩ := cells7 qf.out) | ((with_reducible refine gate_callee (f := 43) rfl ?_);refine glB 9 rfl rfl Try.func43 (je.calls k _ _ ql _ _ zY true _ (cv zd HB) zp.out (cv QW HB) QY.out A3.out) (fun w77 hb => ?_);replace qc := b1 qc hb;replace qf := b1 qf hb;replace HB := b2s bs hb;(try clear hb);obtain ⟨qkG, qkF, qkE, qkD, qkC, qkB, qkA, qg4, qg3, qg2, qg1, qg0, qgZ, qgY⟩ := cells7 qc.out;obtain ⟨qD9, qD8, qD7, qD6, qD5, qD4, qD3, qAB, qAA, qAz, qAy, qAx, qAw, qAv⟩ := cells7 qf.out));go_ret;exact ⟨o1, bs⟩
 ·obtain rfl := Option.some.inj H;go_enter Try.func17, Try.ntmps17;go_wp2_with (first | ((with_reducible refine gate_dst (N := 2) rfl ?_);refine bxd (N := 2) rfl HB ?_;clear HB;intro qb w80 hg HB qc qE hb;have jX := qE;clear hb hg) | ((with_reducible refine gate_dst (N := 3) rfl ?_);refine bxe (N := 3) rfl ?_;intro qg hg w81 hbox hb;have qf := ak (hbox);have jP := b3s hg bs;have yk := jP;replace HB := b2s bs hb;have qe := b4 hg qc;have qa := b5 hg qc;replace qc := b1 qc hb;clear hb hbox hg;have qJP := qe.out;have qJn := qa.out;obtain ⟨qD2, qD1, qD0, qDZ, qDY, qDX, qDW, qAu, qAt, qAs, qAr, qAq, qAp, qAo⟩ := cells7 qc.out;obtain ⟨qkz, qky, qkx, qkw, qkv, qku, qkt, qgX, qgW, qgV, qgU, qgT, qgS, qgR⟩ := cells7 qf.out) | ((with_reducible refine gate_callee (f := 43) rfl ?_);refine glB 9 rfl rfl Try.func43 (je.calls k _ _ ql _ _ zY false _ (cv zd HB) zp.out (cv QW HB) QY.out A3.out) (fun w85 hb => ?_);replace qc := b1 qc hb;replace qf := b1 qf hb;replace HB := b2s bs hb;(try clear hb)));go_ret;exact ⟨o1, bs⟩

/-! ### jL: function 80 -/
def jL.f (a0 : Int) : Option (Bool) := if a0 = 1 then (some true) else (if a0 = 2 then (some true) else (if a0 = 5 then (some true) else (if a0 = 6 then (some true) else (if a0 = 12 then (some true) else (if a0 = 16 then (some true) else (if a0 = 49 then (some true) else (some false)))))))
set_option maxHeartbeats 8000000 in
set_option maxRecDepth 100000 in
theorem jL.calls (a0 : Int) (r : Bool) (w : World) (h : jL.f a0 = some r) :
  Calls Try.prog 80 #[.int .i64 a0] w fun e w' => e = .returned (.bool r) ∧ Drawn0 w w' := by
 have H : (if a0 = 1 then (some true) else (if a0 = 2 then (some true) else (if a0 = 5 then (some true) else (if a0 = 6 then (some true) else (if a0 = 12 then (some true) else (if a0 = 16 then (some true) else (if a0 = 49 then (some true) else (some false)))))))) = some r := h;clear h;replace H := ie H;obtain ⟨c2b0, c2b1, H⟩ | ⟨c2b0, c2b1, H⟩ := H
 ·obtain rfl := Option.some.inj H;go_enter Try.func80, Try.ntmps80;go_wp2;go_ret;exact ⟨o2, od⟩
 ·replace H := ie H;obtain ⟨c3b0, c3b1, H⟩ | ⟨c3b0, c3b1, H⟩ := H
  ·obtain rfl := Option.some.inj H;go_enter Try.func80, Try.ntmps80;go_wp2;go_ret;exact ⟨o2, od⟩
  ·replace H := ie H;obtain ⟨c4b0, c4b1, H⟩ | ⟨c4b0, c4b1, H⟩ := H
   ·obtain rfl := Option.some.inj H;go_enter Try.func80, Try.ntmps80;go_wp2;go_ret;exact ⟨o2, od⟩
   ·replace H := ie H;obtain ⟨c5b0, c5b1, H⟩ | ⟨c5b0, c5b1, H⟩ := H
    ·obtain rfl := Option.some.inj H;go_enter Try.func80, Try.ntmps80;go_wp2;go_ret;exact ⟨o2, od⟩
    ·replace H := ie H;obtain ⟨c6b0, c6b1, H⟩ | ⟨c6b0, c6b1, H⟩ := H
     ·obtain rfl := Option.some.inj H;go_enter Try.func80, Try.ntmps80;go_wp2;go_ret;exact ⟨o2, od⟩
     ·replace H := ie H;obtain ⟨c7b0, c7b1, H⟩ | ⟨c7b0, c7b1, H⟩ := H
      ·obtain rfl := Option.some.inj H;go_enter Try.func80, Try.ntmps80;go_wp2;go_ret;exact ⟨o2, od⟩
      ·replace H := ie H;obtain ⟨c8b0, c8b1, H⟩ | ⟨c8b0, c8b1, H⟩ := H
       ·obtain rfl := Option.some.inj H;go_enter Try.func80, Try.ntmps80;go_wp2;go_ret;exact ⟨o2, od⟩
       ·obtain rfl := Option.some.inj H;go_enter Try.func80, Try.ntmps80;go_wp2;go_ret;exact ⟨o2, od⟩

/-! ### qu: function 157 -/
mutual
def qu.j0 : Nat → List Int → Bool → Option (Bool)
 | 0, _, _ => none
 | k + 1, x0, x11 => if x11 = true then (some false) else (qu.l0 k x0 0)
def qu.l0 : Nat → List Int → Int → Option (Bool)
 | 0, _, _ => none
 | k + 1, x0, x3 => if x3 < (x0.length : Int) then (if 0 ≤ x3 then (if (rd x0 x3) ≥ 97 then (if ((rd x0 x3) ≤ 122) then (qu.l0 k x0 (wrap64 (x3 + 1))) else (if (rd x0 x3) ≥ 48 then (if ((rd x0 x3) ≤ 57) then (qu.l0 k x0 (wrap64 (x3 + 1))) else (if (rd x0 x3) = 45 then (qu.l0 k x0 (wrap64 (x3 + 1))) else (some false))) else (if (rd x0 x3) = 45 then (qu.l0 k x0 (wrap64 (x3 + 1))) else (some false)))) else (if (rd x0 x3) ≥ 48 then (if ((rd x0 x3) ≤ 57) then (qu.l0 k x0 (wrap64 (x3 + 1))) else (if (rd x0 x3) = 45 then (qu.l0 k x0 (wrap64 (x3 + 1))) else (some false))) else (if (rd x0 x3) = 45 then (qu.l0 k x0 (wrap64 (x3 + 1))) else (some false)))) else (none)) else (some true)
end
def qu.f (k : Nat) (l0 : List Int) : Option (Bool) := if (l0.length : Int) < 1 then (qu.j0 k l0 true) else (qu.j0 k l0 (decide ((l0.length : Int) > 15)))
set_option maxHeartbeats 8000000 in
set_option maxRecDepth 100000 in
theorem qu.calls (k : Nat) (A0 : Option Addr) (c0 : Nat) (l0 : List Int) (r : Bool) (w : World) (hr0 : Kd.C (Kd.int .u8) w A0 l0.length l0) (hc0 : l0.length ≤ c0) (h : qu.f k l0 = some r) :
  Calls Try.prog 157 #[.slice A0 l0.length c0] w fun e w' => e = .returned (.bool r) ∧ Drawn0 w w' := by
 have HR0 := ak hr0;have HC0 := ak hc0;clear hr0 hc0;have H : (if (l0.length : Int) < 1 then (qu.j0 k l0 true) else (qu.j0 k l0 (decide ((l0.length : Int) > 15)))) = some r := h;clear h;have HC2 := ak H;clear H;go_enter Try.func157, Try.ntmps157;go_upto_region 1 with (fail)
 go_cut [11] (fun v11 wc => ∃ (kq : Nat) (qeU : Bool), v11 = .bool qeU ∧ Aside0 (qu.j0 kq l0 qeU = some r) ∧ Aside0 (kq ≤ k) ∧ Drawn0 w wc)
 case first =>
  have H := HC2.out;clear HC2;replace H := ip H;obtain ⟨c3b0, H⟩ | ⟨c3b0, H⟩ := H
  ·have c3b1 : decide (l0.length < 1) = true := decide_eq_true (by have := of_decide_eq_true c3b0; omega);(first | rw [c3b0] | (simp only [i64_w, i32_w]; rw [c3b0]) | skip)
   have H' := ak H;clear H;go_wp2;go_meet
   case rel => exact ⟨_, (true), o2, H', ⟨o3⟩, od⟩
  ·have c3b1 : decide (l0.length < 1) = false := decide_eq_false (by have := of_decide_eq_false c3b0; omega);(first | rw [c3b0] | (simp only [i64_w, i32_w]; rw [c3b0]) | skip)
   have H' := ak H;clear H;go_wp2;go_meet
   case rel => exact ⟨_, (decide ((l0.length : Int) > 15)), o2, H', ⟨o3⟩, od⟩
 case rest =>
  clear HC2;obtain ⟨kq, qeU, rfl, HA, HJ1, ⟨mc1, rfl⟩⟩ := hcut;cases kq with
  | zero => exact absurd HA.out (by simp [qu.j0])
  | succ kj1 =>
   have H := HA.out;clear HA;simp only [qu.j0] at H;replace H := ib H;obtain ⟨rfl, H⟩ | ⟨rfl, H⟩ := H
   ·obtain rfl := Option.some.inj H;go_wp2;go_ret;exact ⟨o2, od⟩
   ·have H' := ak H;clear H;go_wp2;go_loopg [3] kj1 (fun kq v3 w' => ∃ (jN : Int), v3 = .int .i64 jN ∧ Aside0 (qu.l0 kq l0 jN = some r) ∧ Aside0 (kq ≤ kj1) ∧ Drawn0 w w')
    case atStart => exact ⟨(0), o2, H', ⟨Nat.le_refl _⟩, od⟩
    case round =>
     clear H';obtain ⟨jN, rfl, HA, HK2, ⟨m2, rfl⟩⟩ := hrel;cases gk with
     | zero => exact absurd HA.out (by simp [qu.l0])
     | succ k2 =>
      have H := HA.out;clear HA;simp only [qu.l0] at H;replace H := ip H;obtain ⟨c5b0, H⟩ | ⟨c5b0, H⟩ := H
      ·replace H := ipN H;obtain ⟨c6b0, H⟩ := H;replace H := ih H;obtain ⟨c7b0, H⟩ | ⟨c7b0, H⟩ := H
       ·replace H := ip H;obtain ⟨c8b0, H⟩ | ⟨c8b0, H⟩ := H
        ·have H' := ak H;clear H;obtain ⟨zO, rfl, zk, yi, yh⟩ := el0_int HR0 jN;obtain ⟨zZ, QJ, QH⟩ := el20_int HR0 jN;go_wp2;go_roundg k2;case measure => have := HJ1.out; have := HK2.out; omega
         case rel => exact ⟨(wrap64 (jN + 1)), o2, H', ⟨by have := HJ1.out; have := HK2.out; omega⟩, od⟩
        ·replace H := ih H;obtain ⟨c9b0, H⟩ | ⟨c9b0, H⟩ := H
         ·replace H := ip H;obtain ⟨c10b0, H⟩ | ⟨c10b0, H⟩ := H
          ·have H' := ak H;clear H;obtain ⟨zO, rfl, zk, yi, yh⟩ := el0_int HR0 jN;obtain ⟨zZ, QJ, QH⟩ := el20_int HR0 jN;obtain ⟨zt, yp, yo⟩ := el20_int HR0 jN;obtain ⟨ZR, qeY, qeX⟩ := el20_int HR0 jN;go_wp2;go_roundg k2;case measure => have := HJ1.out; have := HK2.out; omega
           case rel => exact ⟨(wrap64 (jN + 1)), o2, H', ⟨by have := HJ1.out; have := HK2.out; omega⟩, od⟩
          ·replace H := ie H;obtain ⟨c11b0, c11b1, H⟩ | ⟨c11b0, c11b1, H⟩ := H
           ·have H' := ak H;clear H;obtain ⟨zO, rfl, zk, yi, yh⟩ := el0_int HR0 jN;obtain ⟨zZ, QJ, QH⟩ := el20_int HR0 jN;obtain ⟨zt, yp, yo⟩ := el20_int HR0 jN;obtain ⟨ZR, qeY, qeX⟩ := el20_int HR0 jN;obtain ⟨ju, zK, zJ⟩ := el20_int HR0 jN;go_wp2;go_roundg k2;case measure => have := HJ1.out; have := HK2.out; omega
            case rel => exact ⟨(wrap64 (jN + 1)), o2, H', ⟨by have := HJ1.out; have := HK2.out; omega⟩, od⟩
           ·obtain rfl := Option.some.inj H;obtain ⟨zO, rfl, zk, yi, yh⟩ := el0_int HR0 jN;obtain ⟨zZ, QJ, QH⟩ := el20_int HR0 jN;obtain ⟨zt, yp, yo⟩ := el20_int HR0 jN;obtain ⟨ZR, qeY, qeX⟩ := el20_int HR0 jN;obtain ⟨ju, zK, zJ⟩ := el20_int HR0 jN;go_wp2;go_ret;exact ⟨o2, od⟩
         ·replace H := ie H;obtain ⟨c12b0, c12b1, H⟩ | ⟨c12b0, c12b1, H⟩ := H
          ·have H' := ak H;clear H;obtain ⟨zO, rfl, zk, yi, yh⟩ := el0_int HR0 jN;obtain ⟨zZ, QJ, QH⟩ := el20_int HR0 jN;obtain ⟨zt, yp, yo⟩ := el20_int HR0 jN;obtain ⟨zT, Qv, Qu⟩ := el20_int HR0 jN;go_wp2;go_roundg k2;case measure => have := HJ1.out; have := HK2.out; omega
           case rel => exact ⟨(wrap64 (jN + 1)), o2, H', ⟨by have := HJ1.out; have := HK2.out; omega⟩, od⟩
          ·obtain rfl := Option.some.inj H;obtain ⟨zO, rfl, zk, yi, yh⟩ := el0_int HR0 jN;obtain ⟨zZ, QJ, QH⟩ := el20_int HR0 jN;obtain ⟨zt, yp, yo⟩ := el20_int HR0 jN;obtain ⟨zT, Qv, Qu⟩ := el20_int HR0 jN;go_wp2;go_ret;exact ⟨o2, od⟩
       ·replace H := ih H;obtain ⟨c13b0, H⟩ | ⟨c13b0, H⟩ := H
        ·replace H := ip H;obtain ⟨c14b0, H⟩ | ⟨c14b0, H⟩ := H
         ·have H' := ak H;clear H;obtain ⟨zO, rfl, zk, yi, yh⟩ := el0_int HR0 jN;obtain ⟨zr, zR, zQ⟩ := el20_int HR0 jN;obtain ⟨yZ, QI, QG⟩ := el20_int HR0 jN;go_wp2;go_roundg k2;case measure => have := HJ1.out; have := HK2.out; omega
          case rel => exact ⟨(wrap64 (jN + 1)), o2, H', ⟨by have := HJ1.out; have := HK2.out; omega⟩, od⟩
         ·replace H := ie H;obtain ⟨c15b0, c15b1, H⟩ | ⟨c15b0, c15b1, H⟩ := H
          ·have H' := ak H;clear H;obtain ⟨zO, rfl, zk, yi, yh⟩ := el0_int HR0 jN;obtain ⟨zr, zR, zQ⟩ := el20_int HR0 jN;obtain ⟨yZ, QI, QG⟩ := el20_int HR0 jN;obtain ⟨Xi, qbk, qbj⟩ := el20_int HR0 jN;go_wp2;go_roundg k2;case measure => have := HJ1.out; have := HK2.out; omega
           case rel => exact ⟨(wrap64 (jN + 1)), o2, H', ⟨by have := HJ1.out; have := HK2.out; omega⟩, od⟩
          ·obtain rfl := Option.some.inj H;obtain ⟨zO, rfl, zk, yi, yh⟩ := el0_int HR0 jN;obtain ⟨zr, zR, zQ⟩ := el20_int HR0 jN;obtain ⟨yZ, QI, QG⟩ := el20_int HR0 jN;obtain ⟨Xi, qbk, qbj⟩ := el20_int HR0 jN;go_wp2;go_ret;exact ⟨o2, od⟩
        ·replace H := ie H;obtain ⟨c16b0, c16b1, H⟩ | ⟨c16b0, c16b1, H⟩ := H
         ·have H' := ak H;clear H;obtain ⟨zO, rfl, zk, yi, yh⟩ := el0_int HR0 jN;obtain ⟨zr, zR, zQ⟩ := el20_int HR0 jN;obtain ⟨qgJ, qp9, qp6⟩ := el20_int HR0 jN;go_wp2;go_roundg k2;case measure => have := HJ1.out; have := HK2.out; omega
          case rel => exact ⟨(wrap64 (jN + 1)), o2, H', ⟨by have := HJ1.out; have := HK2.out; omega⟩, od⟩
         ·obtain rfl := Option.some.inj H;obtain ⟨zO, rfl, zk, yi, yh⟩ := el0_int HR0 jN;obtain ⟨zr, zR, zQ⟩ := el20_int HR0 jN;obtain ⟨qgJ, qp9, qp6⟩ := el20_int HR0 jN;go_wp2;go_ret;exact ⟨o2, od⟩
      ·obtain rfl := Option.some.inj H;go_wp2;go_ret;exact ⟨o2, od⟩

/-! ### qD: function 76 -/
def qD.l0 : Nat → Int → List (List Int) → Option (Bool)
 | 0, _, _ => none
 | k + 1, x3, zi => if x3 < (zi.length : Int) then (if 0 ≤ x3 then ((qu.f k (jr zi x3)).bind fun qz => (if qz = true then (qD.l0 k (wrap64 (x3 + 1)) zi) else (some false))) else (none)) else (some true)
def qD.f (k : Nat) (ql : List (List Int)) : Option (Bool) := if (ql.length : Int) > 6 then (some false) else (qD.l0 k 0 ql)
set_option maxHeartbeats 8000000 in
set_option maxRecDepth 100000 in
theorem qD.calls (k : Nat) (zC : Option Addr) (zB : Nat) (ql : List (List Int)) (r : Bool) (w : World) (zF : Kd.C (Kd.slice 5 (Kd.int .u8)) w zC ql.length ql) (zN : ql.length ≤ zB) (h : qD.f k ql = some r) :
  Calls Try.prog 76 #[.agg #[.slice zC ql.length zB]] w fun e w' => e = .returned (.bool r) ∧ Below w.heap.size w w' := by
 have JF := Try.underlying31;have zd := ak zF;have zp := ak zN;clear zF zN;have HB := ak (Below.refl w.heap.size w);have H : (if (ql.length : Int) > 6 then (some false) else (qD.l0 k 0 ql)) = some r := h;clear h;replace H := ig H;obtain ⟨c2b0, H⟩ | ⟨c2b0, H⟩ := H
 ·have c2b1 : decide (6 < ql.length) = true := decide_eq_true (by have := of_decide_eq_true c2b0; omega);obtain rfl := Option.some.inj H;go_enter Try.func76, Try.ntmps76;go_wp2_with (((with_reducible refine gate_dst (N := 1) rfl ?_);refine bxd (N := 1) rfl HB ?_;clear HB;intro qb w3 hg HB qc qE hb;have jX := qE;clear hb hg;obtain ⟨YY, YX⟩ := cells1 qc.out));go_ret;exact ⟨o1, bs⟩
 ·have c2b1 : decide (6 < ql.length) = false := decide_eq_false (by have := of_decide_eq_false c2b0; omega);have H' := ak H;clear H;go_enter Try.func76, Try.ntmps76;go_wp2_with (((with_reducible refine gate_dst (N := 1) rfl ?_);refine bxd (N := 1) rfl HB ?_;clear HB;intro qb w5 hg HB qc qE hb;have jX := qE;clear hb hg;obtain ⟨qbA, qbs⟩ := cells1 qc.out));go_loopg [3] k (fun kq v3 w' => ∃ (zH : Int), v3 = .int .i64 zH ∧ Aside0 (qD.l0 kq zH ql = some r) ∧ Aside0 (kq ≤ k) ∧ Aside0 (w'.heap[qb]? = some (.cells #[(.slice zC ql.length zB)] 31 (0, 0))) ∧ Aside0 (Below w.heap.size w w'))
  case atStart => exact ⟨(0), o2, H', ⟨Nat.le_refl _⟩, ⟨bk qc.out⟩, ⟨bs⟩⟩
  case round =>
   clear H';(try clear c2b0)
   (try clear c2b1)
   (try clear qbA)
   (try clear qbs)
   obtain ⟨zH, rfl, HA, HK1, qc, HB⟩ := hrel;cases gk with
   | zero => exact absurd HA.out (by simp [qD.l0])
   | succ k1 =>
    have H := HA.out;clear HA;simp only [qD.l0] at H;replace H := ip H;obtain ⟨c7b0, H⟩ | ⟨c7b0, H⟩ := H
    ·replace H := ipN H;obtain ⟨c8b0, H⟩ := H;replace H := bnd H;obtain ⟨qz, A9, H⟩ := H;replace H := ib H;obtain ⟨rfl, H⟩ | ⟨rfl, H⟩ := H
     ·have H' := ak H;clear H;obtain ⟨qeM, qdm⟩ := cells1 qc.out;obtain ⟨Zv, qbU, qbL, rfl, zZ, yQ, yO, QJ, QH⟩ := el_L10 zd HB zH;go_wp2_with (((with_reducible refine gate_callee (f := 157) rfl ?_);refine glD 20 rfl rfl Try.func157 (qu.calls k1 _ _ (jr ql zH) true _ (cv yO HB) yQ.out A9.out) (fun nd => ?_)));go_roundg k1;case measure => have := HK1.out; omega
      case rel => exact ⟨(wrap64 (zH + 1)), o2, H', ⟨by have := HK1.out; omega⟩, ⟨bk qc.out⟩, ⟨bs⟩⟩
     ·obtain rfl := Option.some.inj H;obtain ⟨qeL, qdl⟩ := cells1 qc.out;obtain ⟨Zv, qbU, qbL, rfl, zZ, yQ, yO, QJ, QH⟩ := el_L10 zd HB zH;go_wp2_with (((with_reducible refine gate_callee (f := 157) rfl ?_);refine glD 20 rfl rfl Try.func157 (qu.calls k1 _ _ (jr ql zH) false _ (cv yO HB) yQ.out A9.out) (fun nd => ?_)));go_ret;exact ⟨o1, bs⟩
    ·obtain rfl := Option.some.inj H;obtain ⟨Je, Jd⟩ := cells1 qc.out;go_wp2;go_ret;exact ⟨o1, bs⟩

/-! ### zb: function 159 -/
def zb.f (a0 : Int) : Option (Bool) := if a0 = 2 then (some true) else (if a0 = 5 then (some true) else (if a0 = 6 then (some true) else (some (a0 == 12))))
set_option maxHeartbeats 8000000 in
set_option maxRecDepth 100000 in
theorem zb.calls (a0 : Int) (r : Bool) (w : World) (h : zb.f a0 = some r) :
  Calls Try.prog 159 #[.int .i64 a0] w fun e w' => e = .returned (.bool r) ∧ Drawn0 w w' := by
 have H : (if a0 = 2 then (some true) else (if a0 = 5 then (some true) else (if a0 = 6 then (some true) else (some (a0 == 12))))) = some r := h;clear h;replace H := ie H;obtain ⟨c2b0, c2b1, H⟩ | ⟨c2b0, c2b1, H⟩ := H
 ·obtain rfl := Option.some.inj H;go_enter Try.func159, Try.ntmps159;go_wp2;go_ret;exact ⟨o2, od⟩
 ·replace H := ie H;obtain ⟨c3b0, c3b1, H⟩ | ⟨c3b0, c3b1, H⟩ := H
  ·obtain rfl := Option.some.inj H;go_enter Try.func159, Try.ntmps159;go_wp2;go_ret;exact ⟨o2, od⟩
  ·replace H := ie H;obtain ⟨c4b0, c4b1, H⟩ | ⟨c4b0, c4b1, H⟩ := H
   ·obtain rfl := Option.some.inj H;go_enter Try.func159, Try.ntmps159;go_wp2;go_ret;exact ⟨o2, od⟩
   ·obtain rfl := Option.some.inj H;go_enter Try.func159, Try.ntmps159;go_wp2;go_ret;exact ⟨o2, od⟩

/-! ### yf: function 205 -/
def yf.f (a0 : Int) : Option (Bool) := if a0 = 16 then (some true) else (some (a0 == 49))
set_option maxHeartbeats 8000000 in
set_option maxRecDepth 100000 in
theorem yf.calls (a0 : Int) (r : Bool) (w : World) (h : yf.f a0 = some r) :
  Calls Try.prog 205 #[.int .i64 a0] w fun e w' => e = .returned (.bool r) ∧ Drawn0 w w' := by
 have H : (if a0 = 16 then (some true) else (some (a0 == 49))) = some r := h;clear h;replace H := ie H;obtain ⟨c2b0, c2b1, H⟩ | ⟨c2b0, c2b1, H⟩ := H
 ·obtain rfl := Option.some.inj H;go_enter Try.func205, Try.ntmps205;go_wp2;go_ret;exact ⟨o2, od⟩
 ·obtain rfl := Option.some.inj H;go_enter Try.func205, Try.ntmps205;go_wp2;go_ret;exact ⟨o2, od⟩

/-! ### qy: function 134 -/
mutual
def qy.j0 : Nat → List (List Int) → Int → Int → Int → List (List Int) → List Int → List Int → Option (Bool)
 | 0, _, _, _, _, _, _, _ => none
 | k + 1, zi, jT, zD, zv, zh, zg, jh => (zb.f jT).bind fun jC => (if jC = true then ((qD.f k zh).bind fun qz => (if qz = true then (qy.j1 k zi jT zD zv zh zg jh) else (some false))) else (if (zh.length : Int) > 0 then (some false) else (qy.j1 k zi jT zD zv zh zg jh)))
def qy.j1 : Nat → List (List Int) → Int → Int → Int → List (List Int) → List Int → List Int → Option (Bool)
 | 0, _, _, _, _, _, _, _ => none
 | k + 1, zi, jT, zD, zv, zh, zg, jh => (yf.f jT).bind fun qW => (if qW = true then (if (zg.length : Int) > 40 then (some false) else (qy.j2 k zi jT zD zv zh zg jh)) else (if (zg.length : Int) > 0 then (some false) else (qy.j2 k zi jT zD zv zh zg jh)))
def qy.j2 : Nat → List (List Int) → Int → Int → Int → List (List Int) → List Int → List Int → Option (Bool)
 | 0, _, _, _, _, _, _, _ => none
 | k + 1, zi, jT, zD, zv, zh, zg, jh => if jT = 6 then (if (jh.length : Int) = 2 then (if 0 < (jh.length : Int) then (if (rd jh 0) < 0 then (some false) else (if (rd jh 0) ≥ 4294967296 then (some false) else (if 1 < (jh.length : Int) then (if (rd jh 1) ≥ 0 then (some (decide ((rd jh 1) ≤ 100000))) else (some false)) else (none)))) else (none)) else (some false)) else (some ((jh.length : Int) == 0))
end
def qy.f (k : Nat) (ql : List (List Int)) (qN : Int) (jl : Int) (jk : Int) (qF : List (List Int)) (qH : List Int) (qB : List Int) : Option (Bool) := if qN = 1 then (if jk < 0 then (some false) else (if jk ≥ 4294967296 then (some false) else (qy.j0 k ql qN jl jk qF qH qB))) else (if jk = 0 then (qy.j0 k ql qN jl jk qF qH qB) else (some false))
set_option maxHeartbeats 8000000 in
set_option maxRecDepth 100000 in
theorem qy.calls (k : Nat) (zC : Option Addr) (zB : Nat) (ql : List (List Int)) (qN : Int) (jl : Int) (jk : Int) (yG : Option Addr) (yC : Nat) (qF : List (List Int)) (yF : Option Addr) (yB : Nat) (qH : List Int) (yE : Option Addr) (yA : Nat) (qB : List Int) (r : Bool) (w : World) (zF : Kd.C (Kd.slice 5 (Kd.int .u8)) w zC ql.length ql) (zN : ql.length ≤ zB) (Qf : Kd.C (Kd.slice 5 (Kd.int .u8)) w yG qF.length qF) (Qi : qF.length ≤ yC) (Qe : Kd.C (Kd.int .u8) w yF qH.length qH) (Qh : qH.length ≤ yB) (Qd : Kd.C (Kd.int .i64) w yE qB.length qB) (Qg : qB.length ≤ yA) (h : qy.f k ql qN jl jk qF qH qB = some r) :
  Calls Try.prog 134 #[.agg #[.slice zC ql.length zB, .int .i64 qN, .int .i64 jl, .int .i64 jk, .slice yG qF.length yC, .slice yF qH.length yB, .slice yE qB.length yA]] w fun e w' => e = .returned (.bool r) ∧ Below w.heap.size w w' := by
 have ZK := Try.underlying33;have JF := Try.underlying31;have zd := ak zF;have zp := ak zN;clear zF zN;have yI := ak Qf;have yJ := ak Qi;clear Qf Qi;have QX := ak Qe;have QZ := ak Qh;clear Qe Qh;have zW := ak Qd;have Jx := ak Qg;clear Qd Qg;have HB := ak (Below.refl w.heap.size w);have H : (if qN = 1 then (if jk < 0 then (some false) else (if jk ≥ 4294967296 then (some false) else (qy.j0 k ql qN jl jk qF qH qB))) else (if jk = 0 then (qy.j0 k ql qN jl jk qF qH qB) else (some false))) = some r := h;clear h;have HC2 := ak H;clear H;go_enter Try.func134, Try.ntmps134;go_upto_if 5 with (((with_reducible refine gate_dst (N := 1) rfl ?_);refine bxd (N := 1) rfl HB ?_;clear HB;intro qb w3 hg HB qc qE hb;have jX := qE;clear hb hg;obtain ⟨YY, qbG, qbF, qbE, qbD, qbC, qbB, YX, qby, qbx, qbw, qbv, qbu, qbt⟩ := cells7 qc.out))
 (try simp only [Act.put, List.setIfInBounds_toArray, List.set_cons_zero, List.set_cons_succ])
 go_cut [] (fun wc => ∃ (kq : Nat), Aside0 (qy.j0 kq ql qN jl jk qF qH qB = some r) ∧ Aside0 (kq ≤ k) ∧ Aside0 (wc.heap[qb]? = some (.cells #[(.slice zC ql.length zB), .int .i64 qN, .int .i64 jl, .int .i64 jk, (.slice yG qF.length yC), (.slice yF qH.length yB), (.slice yE qB.length yA)] 33 (0, 0))) ∧ Aside0 (Below w.heap.size w wc))
 case first =>
  have H := HC2.out;clear HC2;replace H := ie H;obtain ⟨c5b0, c5b1, H⟩ | ⟨c5b0, c5b1, H⟩ := H
  ·(first | rw [c5b0] | (simp only [i64_w, i32_w]; rw [c5b0]) | skip)
   replace H := ip H;obtain ⟨c6b0, H⟩ | ⟨c6b0, H⟩ := H
   ·obtain rfl := Option.some.inj H;obtain ⟨qor, qIm, qIl, qIk, qIj, qIi, qIh, qoj, qHj, qHi, qHh, qHg, qHf, qHe⟩ := cells7 qc.out;go_wp2;go_ret;exact ⟨o1, bs⟩
   ·replace H := ih H;obtain ⟨c8b0, H⟩ | ⟨c8b0, H⟩ := H
    ·obtain rfl := Option.some.inj H;obtain ⟨qbz, qop, qoo, qon, qom, qol, qok, qbr, qoh, qog, qof, qoe, qod, qoc⟩ := cells7 qc.out;go_wp2;go_ret;exact ⟨o1, bs⟩
    ·have H' := ak H;clear H;obtain ⟨Yy, qnX, qnW, qnV, qnU, qnT, qnS, Yi, qkl, qkk, qkj, qki, qkh, qkg⟩ := cells7 qc.out;go_wp2;go_meet
     case rel => exact ⟨_, H', ⟨o3⟩, ⟨bk qc.out⟩, ⟨bs⟩⟩
  ·(first | rw [c5b0] | (simp only [i64_w, i32_w]; rw [c5b0]) | skip)
   replace H := ie H;obtain ⟨c11b0, c11b1, H⟩ | ⟨c11b0, c11b1, H⟩ := H
   ·have H' := ak H;clear H;obtain ⟨qeL, qnL, qnK, qnJ, qnI, qnH, qnG, qdl, qj9, qj8, qj7, qj6, qj5, qj4⟩ := cells7 qc.out;go_wp2;go_meet
    case rel => exact ⟨_, H', ⟨o3⟩, ⟨bk qc.out⟩, ⟨bs⟩⟩
   ·obtain rfl := Option.some.inj H;obtain ⟨Je, Yx, Yw, Yv, Yu, Yt, Ys, Jd, Yh, Yg, Yf, Ye, Yd, Yc⟩ := cells7 qc.out;go_wp2;go_ret;exact ⟨o1, bs⟩
 case rest =>
  clear HC2;(try clear YY)
  (try clear qbG)
  (try clear qbF)
  (try clear qbE)
  (try clear qbD)
  (try clear qbC)
  (try clear qbB)
  (try clear YX)
  (try clear qby)
  (try clear qbx)
  (try clear qbw)
  (try clear qbv)
  (try clear qbu)
  (try clear qbt)
  obtain ⟨kq, HA, HJ1, qc, HB⟩ := hcut;cases kq with
  | zero => exact absurd HA.out (by simp [qy.j0])
  | succ kj1 =>
   have H := HA.out;clear HA;simp only [qy.j0] at H;replace H := bnd H;obtain ⟨jC, A14, H⟩ := H;have qf3 := ak H;clear H;obtain ⟨qaY, qaX, qaW, qaV, qaU, qaT, qaS, qad, qac, qab, qaa, XZ, XY, XX⟩ := cells7 qc.out;go_upto_if 19 with (((with_reducible refine gate_callee (f := 159) rfl ?_);refine glD 19 rfl rfl Try.func159 (zb.calls qN jC _ A14.out) (fun nd => ?_)))
   (try simp only [Act.put, List.setIfInBounds_toArray, List.set_cons_zero, List.set_cons_succ])
   go_cut [] (fun wc => ∃ (kq : Nat), Aside0 (qy.j1 kq ql qN jl jk qF qH qB = some r) ∧ Aside0 (kq ≤ kj1) ∧ Aside0 (wc.heap[qb]? = some (.cells #[(.slice zC ql.length zB), .int .i64 qN, .int .i64 jl, .int .i64 jk, (.slice yG qF.length yC), (.slice yF qH.length yB), (.slice yE qB.length yA)] 33 (0, 0))) ∧ Aside0 (Below w.heap.size w wc))
   case first =>
    have H := qf3.out;clear qf3;replace H := ib H;obtain ⟨rfl, H⟩ | ⟨rfl, H⟩ := H
    ·replace H := bnd H;obtain ⟨qz, A18, H⟩ := H;replace H := ib H;obtain ⟨rfl, H⟩ | ⟨rfl, H⟩ := H
     ·have H' := ak H;clear H;obtain ⟨Yr, qaR, qaQ, qaP, qaO, qaN, qaM, Yb, XW, XV, XU, XT, XS, XR⟩ := cells7 qc.out;go_wp2_with (((with_reducible refine gate_callee (f := 76) rfl ?_);refine glB 22 rfl rfl Try.func76 (qD.calls kj1 _ _ qF true _ (cv yI HB) yJ.out A18.out) (fun w21 hb => ?_);replace qc := b1 qc hb;replace HB := b2s bs hb;(try clear hb)));go_meet
      case rel => exact ⟨_, H', ⟨by have := HJ1.out; first | omega | exact Nat.le_refl _⟩, ⟨bk qc.out⟩, ⟨bs⟩⟩
     ·obtain rfl := Option.some.inj H;obtain ⟨Zk, Zj, Zi, Zh, Zg, Zf, Ze, Zd, Zc, Zb, Za, JZ, JY, JX⟩ := cells7 qc.out;go_wp2_with (((with_reducible refine gate_callee (f := 76) rfl ?_);refine glB 22 rfl rfl Try.func76 (qD.calls kj1 _ _ qF false _ (cv yI HB) yJ.out A18.out) (fun w23 hb => ?_);replace qc := b1 qc hb;replace HB := b2s bs hb;(try clear hb)));go_ret;exact ⟨o1, bs⟩
    ·replace H := ig H;obtain ⟨c24b0, H⟩ | ⟨c24b0, H⟩ := H
     ·have c24b1 : decide (0 < qF.length) = true := decide_eq_true (by have := of_decide_eq_true c24b0; omega);(first | rw [c24b0] | (simp only [i64_w, i32_w]; rw [c24b0]) | skip)
      obtain rfl := Option.some.inj H;obtain ⟨qeA, qm9, qm8, qm7, qm6, qm5, qm4, qda, qjx, qjw, qjv, qju, qjt, qjs⟩ := cells7 qc.out;go_wp2;go_ret;exact ⟨o1, bs⟩
     ·have c24b1 : decide (0 < qF.length) = false := decide_eq_false (by have := of_decide_eq_false c24b0; omega);(first | rw [c24b0] | (simp only [i64_w, i32_w]; rw [c24b0]) | skip)
      have H' := ak H;clear H;obtain ⟨qez, qm3, qm2, qm1, qm0, qmZ, qmY, qc9, qjr, qjq, qjp, qjo, qjn, qjm⟩ := cells7 qc.out;go_wp2;go_meet
      case rel => exact ⟨_, H', ⟨by have := HJ1.out; first | omega | exact Nat.le_refl _⟩, ⟨bk qc.out⟩, ⟨bs⟩⟩
   case rest =>
    clear qf3;(try clear qaY)
    (try clear qaX)
    (try clear qaW)
    (try clear qaV)
    (try clear qaU)
    (try clear qaT)
    (try clear qaS)
    (try clear YY)
    (try clear qbG)
    (try clear qbF)
    (try clear qbE)
    (try clear qbD)
    (try clear qbC)
    (try clear qbB)
    (try clear qad)
    (try clear qac)
    (try clear qab)
    (try clear qaa)
    (try clear XZ)
    (try clear XY)
    (try clear XX)
    (try clear YX)
    (try clear qby)
    (try clear qbx)
    (try clear qbw)
    (try clear qbv)
    (try clear qbu)
    (try clear qbt)
    obtain ⟨kq, HA, qoN, qc, HB⟩ := hcut;cases kq with
    | zero => exact absurd HA.out (by simp [qy.j1])
    | succ qqc =>
     have H := HA.out;clear HA;simp only [qy.j1] at H;replace H := bnd H;obtain ⟨qW, A27, H⟩ := H;have qf1 := ak H;clear H;obtain ⟨Yq, Yp, Yo, Yn, Ym, Yl, Yk, Ya, ZZ, ZY, ZX, ZW, ZV, ZU⟩ := cells7 qc.out;go_upto_if 31 with (((with_reducible refine gate_callee (f := 205) rfl ?_);refine glD 31 rfl rfl Try.func205 (yf.calls qN qW _ A27.out) (fun nd => ?_)))
     (try simp only [Act.put, List.setIfInBounds_toArray, List.set_cons_zero, List.set_cons_succ])
     go_cut [] (fun wc => ∃ (kq : Nat), Aside0 (qy.j2 kq ql qN jl jk qF qH qB = some r) ∧ Aside0 (kq ≤ qqc) ∧ Aside0 (wc.heap[qb]? = some (.cells #[(.slice zC ql.length zB), .int .i64 qN, .int .i64 jl, .int .i64 jk, (.slice yG qF.length yC), (.slice yF qH.length yB), (.slice yE qB.length yA)] 33 (0, 0))) ∧ Aside0 (Below w.heap.size w wc))
     case first =>
      have H := qf1.out;clear qf1;replace H := ib H;obtain ⟨rfl, H⟩ | ⟨rfl, H⟩ := H
      ·replace H := ig H;obtain ⟨c31b0, H⟩ | ⟨c31b0, H⟩ := H
       ·have c31b1 : decide (40 < qH.length) = true := decide_eq_true (by have := of_decide_eq_true c31b0; omega);(first | rw [c31b0] | (simp only [i64_w, i32_w]; rw [c31b0]) | skip)
        obtain rfl := Option.some.inj H;obtain ⟨qaJ, qaI, qaH, qaG, qaF, qaE, qaD, XO, XN, XM, XL, XK, XJ, XI⟩ := cells7 qc.out;go_wp2;go_ret;exact ⟨o1, bs⟩
       ·have c31b1 : decide (40 < qH.length) = false := decide_eq_false (by have := of_decide_eq_false c31b0; omega);(first | rw [c31b0] | (simp only [i64_w, i32_w]; rw [c31b0]) | skip)
        have H' := ak H;clear H;obtain ⟨qaC, qem, qel, qek, qej, qei, qeh, XH, qcW, qcV, qcU, qcT, qcS, qcR⟩ := cells7 qc.out;go_wp2;go_meet
        case rel => exact ⟨_, H', ⟨by have := HJ1.out; have := qoN.out; first | omega | exact Nat.le_refl _⟩, ⟨bk qc.out⟩, ⟨bs⟩⟩
      ·replace H := ig H;obtain ⟨c34b0, H⟩ | ⟨c34b0, H⟩ := H
       ·have c34b1 : decide (0 < qH.length) = true := decide_eq_true (by have := of_decide_eq_true c34b0; omega);obtain rfl := Option.some.inj H;obtain ⟨qaA, qaz, qay, qax, qaw, qav, qau, XF, XE, XD, XC, XB, XA, Xz⟩ := cells7 qc.out;go_wp2;go_ret;exact ⟨o1, bs⟩
       ·have c34b1 : decide (0 < qH.length) = false := decide_eq_false (by have := of_decide_eq_false c34b0; omega);have H' := ak H;clear H;obtain ⟨qeg, qmD, qmC, qmB, qmA, qmz, qmy, qcQ, qi1, qi0, qiZ, qiY, qiX, qiW⟩ := cells7 qc.out;go_wp2;go_meet
        case rel => exact ⟨_, H', ⟨by have := HJ1.out; have := qoN.out; first | omega | exact Nat.le_refl _⟩, ⟨bk qc.out⟩, ⟨bs⟩⟩
     case rest =>
      clear qf1;(try clear qaY)
      (try clear qaX)
      (try clear qaW)
      (try clear qaV)
      (try clear qaU)
      (try clear qaT)
      (try clear qaS)
      (try clear Yq)
      (try clear Yp)
      (try clear Yo)
      (try clear Yn)
      (try clear Ym)
      (try clear Yl)
      (try clear Yk)
      (try clear YY)
      (try clear qbG)
      (try clear qbF)
      (try clear qbE)
      (try clear qbD)
      (try clear qbC)
      (try clear qbB)
      (try clear qad)
      (try clear qac)
      (try clear qab)
      (try clear qaa)
      (try clear XZ)
      (try clear XY)
      (try clear XX)
      (try clear Ya)
      (try clear ZZ)
      (try clear ZY)
      (try clear ZX)
      (try clear ZW)
      (try clear ZV)
      (try clear ZU)
      (try clear YX)
      (try clear qby)
      (try clear qbx)
      (try clear qbw)
      (try clear qbv)
      (try clear qbu)
      (try clear qbt)
      obtain ⟨kq, HA, qMH, qc, HB⟩ := hcut;cases kq with
      | zero => exact absurd HA.out (by simp [qy.j2])
      | succ qLz =>
       have H := HA.out;clear HA;simp only [qy.j2] at H;replace H := ie H;obtain ⟨c37b0, c37b1, H⟩ | ⟨c37b0, c37b1, H⟩ := H
       ·replace H := ie H;obtain ⟨c38b0, c38b1, H⟩ | ⟨c38b0, c38b1, H⟩ := H
        ·replace H := ipN H;obtain ⟨c39b0, H⟩ := H;have c39b1 : decide (0 < qB.length) = true := decide_eq_true (by have := of_decide_eq_true c39b0; omega);replace H := ip H;obtain ⟨c40b0, H⟩ | ⟨c40b0, H⟩ := H
         ·obtain rfl := Option.some.inj H;obtain ⟨qFf, qFe, qFd, qFc, qFb, qFa, qE9, qBH, qBG, qBF, qBE, qBD, qBC, qBB⟩ := cells7 qc.out;obtain ⟨Zu, rfl, ju, zK, zJ⟩ := el0_int zW 0 (h0 := by decide);replace zK := of_eq_true zK;replace zJ := of_eq_true zJ;have YU : (0 < qB.length) = True := eq_true (by omega);(try rw [show ((0 : Int)).toNat = 0 from rfl] at ju)
          (try rw [Addr.add_zero'] at ju)
          replace ju := pw_cell_below HB.out ju;replace zK := eq_true zK;replace zJ := eq_true zJ;go_wp2;go_ret;exact ⟨o1, bs⟩
         ·replace H := ih H;obtain ⟨c42b0, H⟩ | ⟨c42b0, H⟩ := H
          ·obtain rfl := Option.some.inj H;obtain ⟨qd7, qmd, qmc, qmb, qma, ql9, ql8, qcH, qiB, qiA, qiz, qiy, qix, qiw⟩ := cells7 qc.out;obtain ⟨Zu, rfl, ju, zK, zJ⟩ := el0_int zW 0 (h0 := by decide);replace zK := of_eq_true zK;replace zJ := of_eq_true zJ;have YU : (0 < qB.length) = True := eq_true (by omega);(try rw [show ((0 : Int)).toNat = 0 from rfl] at ju)
           (try rw [Addr.add_zero'] at ju)
           replace ju := pw_cell_below HB.out ju;replace zK := eq_true zK;replace zJ := eq_true zJ;obtain ⟨zT, Qv, Qu⟩ := el20_int zW 0 (h0 := by decide);replace Qv := of_eq_true Qv;replace Qu := of_eq_true Qu;have qgd : (0 < qB.length) = True := eq_true (by omega);(try rw [show ((0 : Int)).toNat = 0 from rfl] at zT)
           (try rw [Addr.add_zero'] at zT)
           replace zT := pw_cell_below HB.out zT;replace Qv := eq_true Qv;replace Qu := eq_true Qu;go_wp2;go_ret;exact ⟨o1, bs⟩
          ·replace H := ipN H;obtain ⟨c44b0, H⟩ := H;have c44b1 : decide (1 < qB.length) = true := decide_eq_true (by have := of_decide_eq_true c44b0; omega);replace H := ih H;obtain ⟨c45b0, H⟩ | ⟨c45b0, H⟩ := H
           ·obtain rfl := Option.some.inj H;obtain ⟨qdZ, qdY, qdX, qdW, qdV, qdU, qdT, qcz, qcy, qcx, qcw, qcv, qcu, qct⟩ := cells7 qc.out;obtain ⟨Zu, rfl, ju, zK, zJ⟩ := el0_int zW 0 (h0 := by decide);replace zK := of_eq_true zK;replace zJ := of_eq_true zJ;have YU : (0 < qB.length) = True := eq_true (by omega);(try rw [show ((0 : Int)).toNat = 0 from rfl] at ju)
            (try rw [Addr.add_zero'] at ju)
            replace ju := pw_cell_below HB.out ju;replace zK := eq_true zK;replace zJ := eq_true zJ;obtain ⟨zT, Qv, Qu⟩ := el20_int zW 0 (h0 := by decide);replace Qv := of_eq_true Qv;replace Qu := of_eq_true Qu;have qgd : (0 < qB.length) = True := eq_true (by omega);(try rw [show ((0 : Int)).toNat = 0 from rfl] at zT)
            (try rw [Addr.add_zero'] at zT)
            replace zT := pw_cell_below HB.out zT;replace Qv := eq_true Qv;replace Qu := eq_true Qu;obtain ⟨zr, zR, zQ⟩ := el20_int zW 1 (h0 := by decide);replace zR := of_eq_true zR;replace zQ := of_eq_true zQ;(try simp only [show (1 : Int).toNat = 1 from rfl, Nat.reduceMul, Nat.reduceEqDiff, Go.Addr.add, ↓reduceIte] at zr)
            have qgc : (1 < qB.length) = True := eq_true (by omega);(try rw [show ((1 : Int)).toNat = 1 from rfl] at zr)
            replace zr := pw_cell_below HB.out zr;replace zR := eq_true zR;replace zQ := eq_true zQ;obtain ⟨yZ, QI, QG⟩ := el20_int zW 1 (h0 := by decide);replace QI := of_eq_true QI;replace QG := of_eq_true QG;(try simp only [show (1 : Int).toNat = 1 from rfl, Nat.reduceMul, Nat.reduceEqDiff, Go.Addr.add, ↓reduceIte] at yZ)
            have qIt : (1 < qB.length) = True := eq_true (by omega);(try rw [show ((1 : Int)).toNat = 1 from rfl] at yZ)
            replace yZ := pw_cell_below HB.out yZ;replace QI := eq_true QI;replace QG := eq_true QG;go_wp2;go_ret;exact ⟨o1, bs⟩
           ·obtain rfl := Option.some.inj H;obtain ⟨qdS, ql7, ql6, ql5, ql4, ql3, ql2, qcs, qiv, qiu, qit, qis, qir, qiq⟩ := cells7 qc.out;obtain ⟨Zu, rfl, ju, zK, zJ⟩ := el0_int zW 0 (h0 := by decide);replace zK := of_eq_true zK;replace zJ := of_eq_true zJ;have YU : (0 < qB.length) = True := eq_true (by omega);(try rw [show ((0 : Int)).toNat = 0 from rfl] at ju)
            (try rw [Addr.add_zero'] at ju)
            replace ju := pw_cell_below HB.out ju;replace zK := eq_true zK;replace zJ := eq_true zJ;obtain ⟨zT, Qv, Qu⟩ := el20_int zW 0 (h0 := by decide);replace Qv := of_eq_true Qv;replace Qu := of_eq_true Qu;have qgd : (0 < qB.length) = True := eq_true (by omega);(try rw [show ((0 : Int)).toNat = 0 from rfl] at zT)
            (try rw [Addr.add_zero'] at zT)
            replace zT := pw_cell_below HB.out zT;replace Qv := eq_true Qv;replace Qu := eq_true Qu;obtain ⟨zr, zR, zQ⟩ := el20_int zW 1 (h0 := by decide);replace zR := of_eq_true zR;replace zQ := of_eq_true zQ;(try simp only [show (1 : Int).toNat = 1 from rfl, Nat.reduceMul, Nat.reduceEqDiff, Go.Addr.add, ↓reduceIte] at zr)
            have qgc : (1 < qB.length) = True := eq_true (by omega);(try rw [show ((1 : Int)).toNat = 1 from rfl] at zr)
            replace zr := pw_cell_below HB.out zr;replace zR := eq_true zR;replace zQ := eq_true zQ;go_wp2;go_ret;exact ⟨o1, bs⟩
        ·obtain rfl := Option.some.inj H;obtain ⟨qas, qar, qaq, qap, qao, qan, qam, Xx, Xw, Xv, Xu, Xt, Xs, Xr⟩ := cells7 qc.out;go_wp2;go_ret;exact ⟨o1, bs⟩
       ·obtain rfl := Option.some.inj H;obtain ⟨qE8, qE7, qE6, qE5, qE4, qE3, qE2, qBA, qBz, qBy, qBx, qBw, qBv, qBu⟩ := cells7 qc.out;go_wp2;go_ret;exact ⟨o1, bs⟩

/-! ### jQ: function 60 -/
def jQ.f (k : Nat) (ql : List (List Int)) (qN : Int) (jl : Int) (jk : Int) (qF : List (List Int)) (qH : List Int) (qB : List Int) : Option (Bool) := (qD.f k ql).bind fun jC => (if jC = true then ((jL.f qN).bind fun qz => (if qz = true then (if jl ≥ 0 then (if jl ≤ 100000 then ((qy.f k ql qN jl jk qF qH qB).bind fun qW => (some qW)) else (some false)) else (some false)) else (some false))) else (some false))
set_option maxHeartbeats 8000000 in
set_option maxRecDepth 100000 in
theorem jQ.calls (k : Nat) (zC : Option Addr) (zB : Nat) (ql : List (List Int)) (qN : Int) (jl : Int) (jk : Int) (yG : Option Addr) (yC : Nat) (qF : List (List Int)) (yF : Option Addr) (yB : Nat) (qH : List Int) (yE : Option Addr) (yA : Nat) (qB : List Int) (r : Bool) (w : World) (zF : Kd.C (Kd.slice 5 (Kd.int .u8)) w zC ql.length ql) (zN : ql.length ≤ zB) (Qf : Kd.C (Kd.slice 5 (Kd.int .u8)) w yG qF.length qF) (Qi : qF.length ≤ yC) (Qe : Kd.C (Kd.int .u8) w yF qH.length qH) (Qh : qH.length ≤ yB) (Qd : Kd.C (Kd.int .i64) w yE qB.length qB) (Qg : qB.length ≤ yA) (h : jQ.f k ql qN jl jk qF qH qB = some r) :
  Calls Try.prog 60 #[.agg #[.slice zC ql.length zB, .int .i64 qN, .int .i64 jl, .int .i64 jk, .slice yG qF.length yC, .slice yF qH.length yB, .slice yE qB.length yA]] w fun e w' => e = .returned (.bool r) ∧ Below w.heap.size w w' := by
 have ZK := Try.underlying33;have JF := Try.underlying31;have zd := ak zF;have zp := ak zN;clear zF zN;have yI := ak Qf;have yJ := ak Qi;clear Qf Qi;have QX := ak Qe;have QZ := ak Qh;clear Qe Qh;have zW := ak Qd;have Jx := ak Qg;clear Qd Qg;have HB := ak (Below.refl w.heap.size w);have H : ((qD.f k ql).bind fun jC => (if jC = true then ((jL.f qN).bind fun qz => (if qz = true then (if jl ≥ 0 then (if jl ≤ 100000 then ((qy.f k ql qN jl jk qF qH qB).bind fun qW => (some qW)) else (some false)) else (some false)) else (some false))) else (some false))) = some r := h;clear h;replace H := bnd H;obtain ⟨jC, A2, H⟩ := H;replace H := ib H;obtain ⟨rfl, H⟩ | ⟨rfl, H⟩ := H
 ·replace H := bnd H;obtain ⟨qz, A4, H⟩ := H;replace H := ib H;obtain ⟨rfl, H⟩ | ⟨rfl, H⟩ := H
  ·replace H := ih H;obtain ⟨c6b0, H⟩ | ⟨c6b0, H⟩ := H
   ·replace H := ip H;obtain ⟨c7b0, H⟩ | ⟨c7b0, H⟩ := H
    ·replace H := bnd H;obtain ⟨qW, A8, H⟩ := H;obtain rfl := Option.some.inj H;go_enter Try.func60, Try.ntmps60;go_wp2_with (first | ((with_reducible refine gate_dst (N := 1) rfl ?_);refine bxd (N := 1) rfl HB ?_;clear HB;intro qb w9 hg HB qc qE hb;have jX := qE;clear hb hg;obtain ⟨Yy, qnX, qnW, qnV, qnU, qnT, qnS, Yi, qkl, qkk, qkj, qki, qkh, qkg⟩ := cells7 qc.out) | ((with_reducible refine gate_callee (f := 76) rfl ?_);refine glB 5 rfl rfl Try.func76 (qD.calls k _ _ ql true _ (cv zd HB) zp.out A2.out) (fun w11 hb => ?_);replace qc := b1 qc hb;replace HB := b2s bs hb;(try clear hb);obtain ⟨qeL, qnL, qnK, qnJ, qnI, qnH, qnG, qdl, qj9, qj8, qj7, qj6, qj5, qj4⟩ := cells7 qc.out) | (go_at_call 80;(with_reducible refine (jL.calls qN true _ A4.out).mono ?_);rintro e w' ⟨rfl, ⟨nd, rfl⟩⟩) | (go_at_call 134;(with_reducible refine (qy.calls k _ _ ql qN jl jk _ _ qF _ _ qH _ _ qB qW _ ?qC zp.out ?jD yJ.out ?jV QZ.out ?zc Jx.out A8.out).mono ?_);(case qC => repeat (first | exact (Kd.C_below zd.out bs) | (with_reducible refine Kd.C_alloc ?_ _) | (with_reducible refine Kd.C_drewN ?_ _) | (with_reducible refine Kd.C_drew ?_)));(case jD => repeat (first | exact (Kd.C_below yI.out bs) | (with_reducible refine Kd.C_alloc ?_ _) | (with_reducible refine Kd.C_drewN ?_ _) | (with_reducible refine Kd.C_drew ?_)));(case jV => repeat (first | exact (Kd.C_below QX.out bs) | (with_reducible refine Kd.C_alloc ?_ _) | (with_reducible refine Kd.C_drewN ?_ _) | (with_reducible refine Kd.C_drew ?_)));(case zc => repeat (first | exact (Kd.C_below zW.out bs) | (with_reducible refine Kd.C_alloc ?_ _) | (with_reducible refine Kd.C_drewN ?_ _) | (with_reducible refine Kd.C_drew ?_)));rintro e w13 ⟨rfl, hb⟩;replace qc := b1 qc hb;replace HB := b2s bs hb;(try clear hb)));go_ret;exact ⟨o1, bs⟩
    ·obtain rfl := Option.some.inj H;go_enter Try.func60, Try.ntmps60;go_wp2_with (first | ((with_reducible refine gate_dst (N := 1) rfl ?_);refine bxd (N := 1) rfl HB ?_;clear HB;intro qb w14 hg HB qc qE hb;have jX := qE;clear hb hg;obtain ⟨qFs, qFr, qFq, qFp, qFo, qFn, qFm, qBU, qBT, qBS, qBR, qBQ, qBP, qBO⟩ := cells7 qc.out) | ((with_reducible refine gate_callee (f := 76) rfl ?_);refine glB 5 rfl rfl Try.func76 (qD.calls k _ _ ql true _ (cv zd HB) zp.out A2.out) (fun w16 hb => ?_);replace qc := b1 qc hb;replace HB := b2s bs hb;(try clear hb);obtain ⟨qeK, qnE, qnD, qnC, qnB, qnA, qnz, qdk, qj2, qj1, qj0, qjZ, qjY, qjX⟩ := cells7 qc.out) | (go_at_call 80;(with_reducible refine (jL.calls qN true _ A4.out).mono ?_);rintro e w' ⟨rfl, ⟨nd, rfl⟩⟩));go_ret;exact ⟨o1, bs⟩
   ·obtain rfl := Option.some.inj H;go_enter Try.func60, Try.ntmps60;go_wp2_with (first | ((with_reducible refine gate_dst (N := 1) rfl ?_);refine bxd (N := 1) rfl HB ?_;clear HB;intro qb w18 hg HB qc qE hb;have jX := qE;clear hb hg;obtain ⟨qny, qnx, qnw, qnv, qnu, qnt, qns, qjW, qjV, qjU, qjT, qjS, qjR, qjQ⟩ := cells7 qc.out) | ((with_reducible refine gate_callee (f := 76) rfl ?_);refine glB 5 rfl rfl Try.func76 (qD.calls k _ _ ql true _ (cv zd HB) zp.out A2.out) (fun w20 hb => ?_);replace qc := b1 qc hb;replace HB := b2s bs hb;(try clear hb);obtain ⟨qaL, qnr, qnq, qnp, qno, qnn, qnm, XQ, qjP, qjO, qjN, qjM, qjL, qjK⟩ := cells7 qc.out) | (go_at_call 80;(with_reducible refine (jL.calls qN true _ A4.out).mono ?_);rintro e w' ⟨rfl, ⟨nd, rfl⟩⟩));go_ret;exact ⟨o1, bs⟩
  ·obtain rfl := Option.some.inj H;go_enter Try.func60, Try.ntmps60;go_wp2_with (first | ((with_reducible refine gate_dst (N := 1) rfl ?_);refine bxd (N := 1) rfl HB ?_;clear HB;intro qb w22 hg HB qc qE hb;have jX := qE;clear hb hg;obtain ⟨qeC, qnl, qnk, qnj, qni, qnh, qng, qdc, qjJ, qjI, qjH, qjG, qjF, qjE⟩ := cells7 qc.out) | ((with_reducible refine gate_callee (f := 76) rfl ?_);refine glB 5 rfl rfl Try.func76 (qD.calls k _ _ ql true _ (cv zd HB) zp.out A2.out) (fun w24 hb => ?_);replace qc := b1 qc hb;replace HB := b2s bs hb;(try clear hb);obtain ⟨qeA, qm9, qm8, qm7, qm6, qm5, qm4, qda, qjx, qjw, qjv, qju, qjt, qjs⟩ := cells7 qc.out) | (go_at_call 80;(with_reducible refine (jL.calls qN false _ A4.out).mono ?_);rintro e w' ⟨rfl, ⟨nd, rfl⟩⟩));go_ret;exact ⟨o1, bs⟩
 ·obtain rfl := Option.some.inj H;go_enter Try.func60, Try.ntmps60;go_wp2_with (first | ((with_reducible refine gate_dst (N := 1) rfl ?_);refine bxd (N := 1) rfl HB ?_;clear HB;intro qb w26 hg HB qc qE hb;have jX := qE;clear hb hg;obtain ⟨qaK, qey, qex, qew, qev, qeu, qet, XP, qc8, qc7, qc6, qc5, qc4, qc3⟩ := cells7 qc.out) | ((with_reducible refine gate_callee (f := 76) rfl ?_);refine glB 5 rfl rfl Try.func76 (qD.calls k _ _ ql false _ (cv zd HB) zp.out A2.out) (fun w28 hb => ?_);replace qc := b1 qc hb;replace HB := b2s bs hb;(try clear hb)));go_ret;exact ⟨o1, bs⟩

/-! ### jm: function 158 -/
def jm.f (l0 : List Int) (a1 : Int) : Option (Int × Int) := if a1 < 0 then (some (0, (-1))) else (if a1 > (wrap64 ((l0.length : Int) - 4)) then (some (0, (-1))) else (if 0 ≤ a1 then (if a1 < (l0.length : Int) then (if 0 ≤ (wrap64 (a1 + 1)) then (if (wrap64 (a1 + 1)) < (l0.length : Int) then (if 0 ≤ (wrap64 (a1 + 2)) then (if (wrap64 (a1 + 2)) < (l0.length : Int) then (if 0 ≤ (wrap64 (a1 + 3)) then (if (wrap64 (a1 + 3)) < (l0.length : Int) then (some (wrap64 ((wrap64 ((wrap64 ((wrap64 ((wrap64 (rd l0 a1)) * 16777216)) + (wrap64 ((wrap64 (rd l0 (wrap64 (a1 + 1)))) * 65536)))) + (wrap64 ((wrap64 (rd l0 (wrap64 (a1 + 2)))) * 256)))) + (wrap64 (rd l0 (wrap64 (a1 + 3))))), wrap64 (a1 + 4))) else (none)) else (none)) else (none)) else (none)) else (none)) else (none)) else (none)) else (none)))
set_option maxHeartbeats 8000000 in
set_option maxRecDepth 100000 in
theorem jm.calls (A0 : Option Addr) (c0 : Nat) (l0 : List Int) (a1 : Int) (r1 : Int) (r2 : Int) (w : World) (hr0 : Kd.C (Kd.int .u8) w A0 l0.length l0) (hc0 : l0.length ≤ c0) (h : jm.f l0 a1 = some (r1, r2)) :
  Calls Try.prog 158 #[.slice A0 l0.length c0, .int .i64 a1] w fun e w' => e = .returned (.tuple #[.int .i64 r1, .int .i64 r2]) ∧ Drawn0 w w' := by
 have HR0 := ak hr0;have HC0 := ak hc0;clear hr0 hc0;have H : (if a1 < 0 then (some (0, (-1))) else (if a1 > (wrap64 ((l0.length : Int) - 4)) then (some (0, (-1))) else (if 0 ≤ a1 then (if a1 < (l0.length : Int) then (if 0 ≤ (wrap64 (a1 + 1)) then (if (wrap64 (a1 + 1)) < (l0.length : Int) then (if 0 ≤ (wrap64 (a1 + 2)) then (if (wrap64 (a1 + 2)) < (l0.length : Int) then (if 0 ≤ (wrap64 (a1 + 3)) then (if (wrap64 (a1 + 3)) < (l0.length : Int) then (some (wrap64 ((wrap64 ((wrap64 ((wrap64 ((wrap64 (rd l0 a1)) * 16777216)) + (wrap64 ((wrap64 (rd l0 (wrap64 (a1 + 1)))) * 65536)))) + (wrap64 ((wrap64 (rd l0 (wrap64 (a1 + 2)))) * 256)))) + (wrap64 (rd l0 (wrap64 (a1 + 3))))), wrap64 (a1 + 4))) else (none)) else (none)) else (none)) else (none)) else (none)) else (none)) else (none)) else (none)))) = some (r1, r2) := h;clear h;replace H := ip H;obtain ⟨c3b0, H⟩ | ⟨c3b0, H⟩ := H
 ·simp only [Option.some.injEq, Prod.mk.injEq] at H;obtain ⟨rfl, rfl⟩ := H;go_enter Try.func158, Try.ntmps158;go_wp2;repeat (go_quiet (fail); try go_wp2)
  go_ret2;exact ⟨o2, od⟩
 ·replace H := ig H;obtain ⟨c4b0, H⟩ | ⟨c4b0, H⟩ := H
  ·simp only [Option.some.injEq, Prod.mk.injEq] at H;obtain ⟨rfl, rfl⟩ := H;go_enter Try.func158, Try.ntmps158;go_wp2;repeat (go_quiet (fail); try go_wp2)
   go_ret2;exact ⟨o2, od⟩
  ·replace H := ipN H;obtain ⟨c5b0, H⟩ := H;replace H := ipN H;obtain ⟨c6b0, H⟩ := H;obtain ⟨ji7, Zo⟩ : ∃ j_ : Int, (wrap64 (a1 + 1)) = j_ := ⟨_, rfl⟩;(first | rw [Zo] at H | simp only [Zo] at H)
   have hji7w : (IntKind.i64.wrap (a1 + 1)) = ji7 := (i64_w _).trans Zo;replace H := ipN H;obtain ⟨c8b0, H⟩ := H;replace H := ipN H;obtain ⟨c9b0, H⟩ := H;obtain ⟨qoa, qa8⟩ : ∃ j_ : Int, (wrap64 (a1 + 2)) = j_ := ⟨_, rfl⟩;(first | rw [qa8] at H | simp only [qa8] at H)
   have hji10w : (IntKind.i64.wrap (a1 + 2)) = qoa := (i64_w _).trans qa8;replace H := ipN H;obtain ⟨c11b0, H⟩ := H;replace H := ipN H;obtain ⟨c12b0, H⟩ := H;obtain ⟨qn9, qa7⟩ : ∃ j_ : Int, (wrap64 (a1 + 3)) = j_ := ⟨_, rfl⟩;(first | rw [qa7] at H | simp only [qa7] at H)
   have hji13w : (IntKind.i64.wrap (a1 + 3)) = qn9 := (i64_w _).trans qa7;replace H := ipN H;obtain ⟨c14b0, H⟩ := H;replace H := ipN H;obtain ⟨c15b0, H⟩ := H;simp only [Option.some.injEq, Prod.mk.injEq] at H;obtain ⟨rfl, rfl⟩ := H;obtain ⟨zO, rfl, zk, yi, yh⟩ := el0_int HR0 a1;obtain ⟨zZ, QJ, QH⟩ := el20_int HR0 (ji7);obtain ⟨zt, yp, yo⟩ := el20_int HR0 (qoa);obtain ⟨ZR, qeY, qeX⟩ := el20_int HR0 (qn9);go_enter Try.func158, Try.ntmps158;go_wp2;repeat (go_quiet (fail); try go_wp2)
   go_ret2;exact ⟨by first | rfl | (simp; done) | (simp only [← Zo, ← qa8, ← qa7] <;> (first | rfl | simp)) | (simp [*]; done), od⟩

/-! ### jY: function 161 -/
def jY.f (l0 : List Int) (a1 : Int) (a2 : Int) : Option (List Int × Int) := if a1 < 0 then (some (([] : List Int), (-1))) else (if a2 < 0 then (some (([] : List Int), (-1))) else (if a1 > (l0.length : Int) then (some (([] : List Int), (-1))) else (if a2 > (wrap64 ((l0.length : Int) - a1)) then (some (([] : List Int), (-1))) else ((some (([] : List Int) : List Int)).bind fun jM => (if 0 ≤ a1 then (if a1 ≤ (wrap64 (a1 + a2)) then (if (wrap64 (a1 + a2)) ≤ (l0.length : Int) then ((some ((l0.take ((wrap64 (a1 + a2)) : Int).toNat).drop (a1 : Int).toNat : List Int)).bind fun yS => (if jM.length + yS.length < 140737488355328 then (some ((jM ++ yS), wrap64 (a1 + a2))) else (none))) else (none)) else (none)) else (none))))))
set_option maxHeartbeats 8000000 in
set_option maxRecDepth 100000 in
theorem jY.calls (A0 : Option Addr) (c0 : Nat) (l0 : List Int) (a1 : Int) (a2 : Int) (r1 : List Int) (r2 : Int) (w : World) (hr0 : Kd.C (Kd.int .u8) w A0 l0.length l0) (hc0 : l0.length ≤ c0) (h : jY.f l0 a1 a2 = some (r1, r2)) :
  Calls Try.prog 161 #[.slice A0 l0.length c0, .int .i64 a1, .int .i64 a2] w fun e w' => ∃ v0_ : Value, e = .returned (.tuple #[v0_, .int .i64 r2]) ∧ Kd.R (Kd.int .u8) 5 w' w.heap.size (fun _ => True) v0_ r1 ∧ Below w.heap.size w w' := by
 have HR0 := ak hr0;have HC0 := ak hc0;clear hr0 hc0;have HB := ak (Below.refl w.heap.size w);have H : (if a1 < 0 then (some (([] : List Int), (-1))) else (if a2 < 0 then (some (([] : List Int), (-1))) else (if a1 > (l0.length : Int) then (some (([] : List Int), (-1))) else (if a2 > (wrap64 ((l0.length : Int) - a1)) then (some (([] : List Int), (-1))) else ((some (([] : List Int) : List Int)).bind fun jM => (if 0 ≤ a1 then (if a1 ≤ (wrap64 (a1 + a2)) then (if (wrap64 (a1 + a2)) ≤ (l0.length : Int) then ((some ((l0.take ((wrap64 (a1 + a2)) : Int).toNat).drop (a1 : Int).toNat : List Int)).bind fun yS => (if jM.length + yS.length < 140737488355328 then (some ((jM ++ yS), wrap64 (a1 + a2))) else (none))) else (none)) else (none)) else (none))))))) = some (r1, r2) := h;clear h;replace H := ip H;obtain ⟨c4b0, H⟩ | ⟨c4b0, H⟩ := H
 ·simp only [Option.some.injEq, Prod.mk.injEq] at H;obtain ⟨rfl, rfl⟩ := H;go_enter Try.func161, Try.ntmps161;go_wp2;go_ret2;exact ⟨_, o1, by first | exact Kd.R_nil _ _ _ _ _ | exact Kd.N_nil _ _ _ _ _ | exact Kd.V_nil _ _ _ _ _ | exact Kd.Q_nil _ _ _ _ _ | exact Kd.S_nil _ _ _ _ _, bw HB.out⟩
 ·replace H := ip H;obtain ⟨c5b0, H⟩ | ⟨c5b0, H⟩ := H
  ·simp only [Option.some.injEq, Prod.mk.injEq] at H;obtain ⟨rfl, rfl⟩ := H;go_enter Try.func161, Try.ntmps161;go_wp2;go_ret2;exact ⟨_, o1, by first | exact Kd.R_nil _ _ _ _ _ | exact Kd.N_nil _ _ _ _ _ | exact Kd.V_nil _ _ _ _ _ | exact Kd.Q_nil _ _ _ _ _ | exact Kd.S_nil _ _ _ _ _, bw HB.out⟩
  ·replace H := ig H;obtain ⟨c6b0, H⟩ | ⟨c6b0, H⟩ := H
   ·simp only [Option.some.injEq, Prod.mk.injEq] at H;obtain ⟨rfl, rfl⟩ := H;go_enter Try.func161, Try.ntmps161;go_wp2;go_ret2;exact ⟨_, o1, by first | exact Kd.R_nil _ _ _ _ _ | exact Kd.N_nil _ _ _ _ _ | exact Kd.V_nil _ _ _ _ _ | exact Kd.Q_nil _ _ _ _ _ | exact Kd.S_nil _ _ _ _ _, bw HB.out⟩
   ·replace H := ig H;obtain ⟨c7b0, H⟩ | ⟨c7b0, H⟩ := H
    ·simp only [Option.some.injEq, Prod.mk.injEq] at H;obtain ⟨rfl, rfl⟩ := H;go_enter Try.func161, Try.ntmps161;go_wp2;go_ret2;exact ⟨_, o1, by first | exact Kd.R_nil _ _ _ _ _ | exact Kd.N_nil _ _ _ _ _ | exact Kd.V_nil _ _ _ _ _ | exact Kd.Q_nil _ _ _ _ _ | exact Kd.S_nil _ _ _ _ _, bw HB.out⟩
    ·replace H : ∃ jM : List Int, jM = (([] : List Int)) ∧ (if 0 ≤ a1 then (if a1 ≤ (wrap64 (a1 + a2)) then (if (wrap64 (a1 + a2)) ≤ (l0.length : Int) then ((some ((l0.take ((wrap64 (a1 + a2)) : Int).toNat).drop (a1 : Int).toNat : List Int)).bind fun yS => (if jM.length + yS.length < 140737488355328 then (some ((jM ++ yS), wrap64 (a1 + a2))) else (none))) else (none)) else (none)) else (none)) = some (r1, r2) := ⟨_, rfl, H⟩;obtain ⟨jM, ya, H⟩ := H;have yH := ak ya;clear ya;replace H := ipE H;obtain ⟨c8b0, c8b1, H⟩ := H;by_cases c9 : a1 ≤ (wrap64 (a1 + a2))
     ·rw [if_pos c9] at H;have c9b0 := eq_true c9;have c9b1 : decide (a1 ≤ (wrap64 (a1 + a2))) = true := decide_eq_true c9;by_cases c10 : (wrap64 (a1 + a2)) ≤ (l0.length : Int)
      ·rw [if_pos c10] at H;have c10b0 := eq_true c10;have c10b1 : decide ((wrap64 (a1 + a2)) ≤ (l0.length : Int)) = true := decide_eq_true c10;obtain ⟨yS, Zn⟩ : ∃ y_ : List Int, y_ = ((l0.take ((wrap64 (a1 + a2)) : Int).toNat).drop (a1 : Int).toNat) := ⟨_, rfl⟩;(try with_reducible replace H := bnS H)
       (try rw [← Zn] at H)
       have qbb := ak Zn;clear Zn;by_cases c11 : jM.length + yS.length < 140737488355328
       ·rw [if_pos c11] at H;have qpL := ak c11;clear c11;obtain ⟨qK2, qe4⟩ : ∃ y_ : List Int, y_ = (jM ++ yS) := ⟨_, rfl⟩;(try with_reducible replace H := bnS H)
        (try rw [← qe4] at H)
        have qpG := ak qe4;clear qe4;simp only [Option.some.injEq, Prod.mk.injEq] at H;obtain ⟨rfl, rfl⟩ := H;go_enter Try.func161, Try.ntmps161;go_wp2_with (first | ((with_reducible refine gate_dst (N := 28) rfl ?_);(try (refine gate_guard (by rfl) ?_; dsimp only));refine Kd.R_lit (Kd.int .u8) _ 5 ?hg (N := 28) ?hd (xs := ([] : List Int)) (inner := []) (ok := fun _ => True) (okp := fun _ => True) ?hr ?hp (fun _ hk => hk) trivial (Below.refl _ _) (Nat.le_refl _) (by simp) ?_;(case hd => rfl);(case hg => rfl);(case hr => first | (go_simp; done) | (go_simp; rfl));(case hp => exact (Reps.none _ _));intro Xf w12 qbq hb hg_ hnew_;clear hg_ hnew_;(first | rw [← yH.out] at qbq | (simp only [Int.reduceToNat] at qbq; rw [← yH.out] at qbq));have qS := ak (Kd.R_lower qbq (below_size (bw HB.out)));replace HB := b2 HB hb;clear hb qbq;have q14 : ((wrap64 (a1 + a2)) : Int) ≤ ((l0.length : Int) : Int) := of_decide_eq_true (by first | (with_reducible assumption) | assumption);obtain ⟨qLA, qgq, _, qgf, _⟩ := info_parts Zm;have hroom14 : l0.length ≤ c0 := HC0.out;have qov : Kd.C (Kd.int .u8) _ A0 l0.length l0 := HR0.out;have qp3 : (a1 : Int) ≤ ((wrap64 (a1 + a2)) : Int) := of_decide_eq_true (by first | (with_reducible assumption) | assumption);have qp7 : (0 : Int) ≤ (a1 : Int) := of_decide_eq_true (by first | (with_reducible assumption) | assumption);have qos := cut_mid (P := Try.prog) 25 5 .i64 .i64 Try.underlying25 qgq 1 qgf A0 l0.length c0 a1 (wrap64 (a1 + a2)) qp7 qp3 q14 hroom14;have qbl := Kd.C_mid (lo := (a1 : Int).toNat) (hi := ((wrap64 (a1 + a2)) : Int).toNat) (c := c0) qov (by omega) (by omega) hroom14;obtain ⟨A14, qe9⟩ : ∃ A1, A1 = (if c0 = (a1 : Int).toNat then A0 else (A0 : Option Addr).map (·.add ((a1 : Int).toNat * 1))) := ⟨_, rfl⟩;obtain ⟨c14, qfD⟩ : ∃ c1, c1 = c0 - (a1 : Int).toNat := ⟨_, rfl⟩;have qe1 : yS.length = ((wrap64 (a1 + a2)) : Int).toNat - (a1 : Int).toNat := (by rw [qbb.out, List.length_drop, List.length_take] <;> omega);rw [show ((l0).take ((wrap64 (a1 + a2)) : Int).toNat).drop (a1 : Int).toNat = yS from qbb.out.symm] at qbl;replace qbl : Kd.C (Kd.int .u8) _ A14 yS.length yS := (by rw [qe9]; exact qbl);rw [← qe1, ← qe9, ← qfD] at qos;have qpM := ak qbl;have qKW := ak (show yS.length ≤ c14 from by rw [qe1, qfD]; exact Nat.sub_le_sub_right (Nat.le_trans (by omega) hroom14) _);clear qbl qov hroom14 qgq qgf qfD;have qMz := ak qe1;have qMC := ak qe9;clear qe1 qe9;replace q14 := eq_true q14) | ((with_reducible refine gate_builtin (b := .append) (xs := #[.tmp 28, .tmp 34]) rfl ?_);(try (refine gate_guard (by rfl) ?_; dsimp only));at_builtin;refine Kd.R_append_rows (Kd.int .u8) (w0 := w) w.heap.size rfl (.tmp 28) (.tmp 34) 25 5 (.int .u8 0) 1 rfl Try.underlying25 Zm rfl (by decide) (by omega) Xf jM yS _ _ _ (fun _ => True) (fun _ => False) rfl rfl ?aO ?aR (fun _ _ h => h) (fun _ h => h.elim) ?aF ?aB ?aS ?aL ?_;(case aR => exact cw qpM.out HB.out);(case aB => exact (bw HB.out));(case aF => exact (fun _ _ => trivial));(case aO => exact (rw_ qS.out));(case aS => exact (below_size (bw HB.out)));(case aL => have := qpL.out; omega);intro qLv w15 ho hb hg hat;rw [← qpG.out] at ho;replace HB := ak (hb);have qpN := ak (ho);clear qS;clear ho hb hg hat));go_ret2;exact ⟨_, o1, rw_ qpN.out, bw HB.out⟩
       ·rw [if_neg c11] at H;exact absurd H (by simp)
      ·rw [if_neg c10] at H;exact absurd H (by simp)
     ·rw [if_neg c9] at H;exact absurd H (by simp)

/-! ### yu: function 166 -/
def yu.f (l0 : List Int) (a1 : Int) : Option (Int × Int) := if a1 < 0 then (some (0, (-1))) else (if a1 > (wrap64 ((l0.length : Int) - 2)) then (some (0, (-1))) else (if 0 ≤ a1 then (if a1 < (l0.length : Int) then (if 0 ≤ (wrap64 (a1 + 1)) then (if (wrap64 (a1 + 1)) < (l0.length : Int) then (some (wrap64 ((wrap64 ((wrap64 (rd l0 a1)) * 256)) + (wrap64 (rd l0 (wrap64 (a1 + 1))))), wrap64 (a1 + 2))) else (none)) else (none)) else (none)) else (none)))
set_option maxHeartbeats 8000000 in
set_option maxRecDepth 100000 in
theorem yu.calls (A0 : Option Addr) (c0 : Nat) (l0 : List Int) (a1 : Int) (r1 : Int) (r2 : Int) (w : World) (hr0 : Kd.C (Kd.int .u8) w A0 l0.length l0) (hc0 : l0.length ≤ c0) (h : yu.f l0 a1 = some (r1, r2)) :
  Calls Try.prog 166 #[.slice A0 l0.length c0, .int .i64 a1] w fun e w' => e = .returned (.tuple #[.int .i64 r1, .int .i64 r2]) ∧ Drawn0 w w' := by
 have HR0 := ak hr0;have HC0 := ak hc0;clear hr0 hc0;have H : (if a1 < 0 then (some (0, (-1))) else (if a1 > (wrap64 ((l0.length : Int) - 2)) then (some (0, (-1))) else (if 0 ≤ a1 then (if a1 < (l0.length : Int) then (if 0 ≤ (wrap64 (a1 + 1)) then (if (wrap64 (a1 + 1)) < (l0.length : Int) then (some (wrap64 ((wrap64 ((wrap64 (rd l0 a1)) * 256)) + (wrap64 (rd l0 (wrap64 (a1 + 1))))), wrap64 (a1 + 2))) else (none)) else (none)) else (none)) else (none)))) = some (r1, r2) := h;clear h;replace H := ip H;obtain ⟨c3b0, H⟩ | ⟨c3b0, H⟩ := H
 ·simp only [Option.some.injEq, Prod.mk.injEq] at H;obtain ⟨rfl, rfl⟩ := H;go_enter Try.func166, Try.ntmps166;go_wp2;repeat (go_quiet (fail); try go_wp2)
  go_ret2;exact ⟨o2, od⟩
 ·replace H := ig H;obtain ⟨c4b0, H⟩ | ⟨c4b0, H⟩ := H
  ·simp only [Option.some.injEq, Prod.mk.injEq] at H;obtain ⟨rfl, rfl⟩ := H;go_enter Try.func166, Try.ntmps166;go_wp2;repeat (go_quiet (fail); try go_wp2)
   go_ret2;exact ⟨o2, od⟩
  ·replace H := ipN H;obtain ⟨c5b0, H⟩ := H;replace H := ipN H;obtain ⟨c6b0, H⟩ := H;obtain ⟨ji7, Zo⟩ : ∃ j_ : Int, (wrap64 (a1 + 1)) = j_ := ⟨_, rfl⟩;(first | rw [Zo] at H | simp only [Zo] at H)
   have hji7w : (IntKind.i64.wrap (a1 + 1)) = ji7 := (i64_w _).trans Zo;replace H := ipN H;obtain ⟨c8b0, H⟩ := H;replace H := ipN H;obtain ⟨c9b0, H⟩ := H;simp only [Option.some.injEq, Prod.mk.injEq] at H;obtain ⟨rfl, rfl⟩ := H;obtain ⟨zO, rfl, zk, yi, yh⟩ := el0_int HR0 a1;obtain ⟨zZ, QJ, QH⟩ := el20_int HR0 (ji7);go_enter Try.func166, Try.ntmps166;go_wp2;repeat (go_quiet (fail); try go_wp2)
   go_ret2;exact ⟨by first | rfl | (simp; done) | (simp only [← Zo] <;> (first | rfl | simp)) | (simp [*]; done), od⟩

/-! ### jv: function 222 -/
def jv.l0 : Nat → List Int → Int → Option (List Int)
 | 0, _, _ => none
 | k + 1, x3, x4 => if x4 < (x3.length : Int) then (if 0 ≤ x4 then (if (rd x3 x4) ≥ 65 then (if (rd x3 x4) ≤ 90 then (jv.l0 k (x3.set (x4 : Int).toNat (((rd x3 x4) + 32) % 256)) (wrap64 (x4 + 1))) else (jv.l0 k x3 (wrap64 (x4 + 1)))) else (jv.l0 k x3 (wrap64 (x4 + 1)))) else (none)) else (some x3)
def jv.f (k : Nat) (l0 : List Int) : Option (List Int) := (some (([] : List Int) : List Int)).bind fun jM => (if jM.length + l0.length < 140737488355328 then (jv.l0 k (jM ++ l0) 0) else (none))
set_option maxHeartbeats 8000000 in
set_option maxRecDepth 100000 in
theorem jv.calls (k : Nat) (A0 : Option Addr) (c0 : Nat) (l0 : List Int) (r : List Int) (w : World) (hr0 : Kd.C (Kd.int .u8) w A0 l0.length l0) (hc0 : l0.length ≤ c0) (h : jv.f k l0 = some r) :
  Calls Try.prog 222 #[.slice A0 l0.length c0] w fun e w' => ∃ v0_ : Value, e = .returned (v0_) ∧ Kd.R (Kd.int .u8) 5 w' w.heap.size (fun _ => True) v0_ r ∧ Below w.heap.size w w' := by
 have HR0 := ak hr0;have HC0 := ak hc0;clear hr0 hc0;have HB := ak (Below.refl w.heap.size w);have H : ((some (([] : List Int) : List Int)).bind fun jM => (if jM.length + l0.length < 140737488355328 then (jv.l0 k (jM ++ l0) 0) else (none))) = some r := h;clear h;replace H : ∃ jM : List Int, jM = (([] : List Int)) ∧ (if jM.length + l0.length < 140737488355328 then (jv.l0 k (jM ++ l0) 0) else (none)) = some r := ⟨_, rfl, H⟩;obtain ⟨jM, ya, H⟩ := H;have yH := ak ya;clear ya;by_cases c2 : jM.length + l0.length < 140737488355328
 ·rw [if_pos c2] at H;have qyE := ak c2;clear c2;obtain ⟨yS, Zn⟩ : ∃ y_ : List Int, y_ = (jM ++ l0) := ⟨_, rfl⟩;(try with_reducible replace H := bnS H)
  (try rw [← Zn] at H)
  have qbb := ak Zn;clear Zn;have H' := ak H;clear H;go_enter Try.func222, Try.ntmps222;go_wp2_with (first | ((with_reducible refine gate_dst (N := 5) rfl ?_);refine Kd.R_lit (Kd.int .u8) _ 5 ?hg (N := 5) ?hd (xs := ([] : List Int)) (inner := []) (ok := fun _ => True) (okp := fun _ => True) ?hr ?hp (fun _ hk => hk) trivial (Below.refl _ _) (Nat.le_refl _) (by simp) ?_;(case hd => rfl);(case hg => rfl);(case hr => first | (go_simp; done) | (go_simp; rfl));(case hp => exact (Reps.none _ _));intro Xf w3 ho4 hb hg_ hnew_;clear hg_ hnew_;(first | rw [← yH.out] at ho4 | (simp only [Int.reduceToNat] at ho4; rw [← yH.out] at ho4));have qS := ak (Kd.R_lower ho4 (below_size (bw HB.out)));replace HB := b2 HB hb;clear hb ho4) | ((with_reducible refine gate_builtin (b := .append) (xs := #[.tmp 5, .tmp 6]) rfl ?_);at_builtin;refine Kd.R_append_rows (Kd.int .u8) (w0 := w) w.heap.size rfl (.tmp 5) (.tmp 6) 25 5 (.int .u8 0) 1 rfl Try.underlying25 Zm rfl (by decide) (by omega) Xf jM l0 _ _ _ (fun _ => True) (fun _ => False) rfl rfl ?aO ?aR (fun _ _ h => h) (fun _ h => h.elim) ?aF ?aB ?aS ?aL ?_;(case aR => exact cw HR0.out HB.out);(case aB => exact (bw HB.out));(case aF => exact (fun _ _ => trivial));(case aO => exact (rw_ qS.out));(case aS => exact (below_size (bw HB.out)));(case aL => have := qyE.out; omega);intro qn4 w5 ho hb hg hat;rw [← qbb.out] at ho;replace HB := ak (hb);have jw := ak (ho);clear qS;clear ho hb hg hat));go_loopg [4] k (fun kq v4 w' => ∃ (zH : List Int) (jS : Int), v4 = .int .i64 jS ∧ Aside0 (jv.l0 kq zH jS = some r) ∧ Aside0 (kq ≤ k) ∧ Aside0 (Kd.R (Kd.int .u8) 5 w' w.heap.size (fun _ => True) qn4 zH) ∧ Aside0 (Below w.heap.size w w'))
  case atStart => exact ⟨(yS), (0), o2, H', ⟨Nat.le_refl _⟩, ⟨rw_ jw.out⟩, ⟨bw HB.out⟩⟩
  case round =>
   clear H';(try clear c2)
   obtain ⟨zH, jS, rfl, HA, HK1, HO_3, HB⟩ := hrel;cases gk with
   | zero => exact absurd HA.out (by simp [jv.l0])
   | succ k1 =>
    have H := HA.out;clear HA;simp only [jv.l0] at H;replace H := ip H;obtain ⟨c6b0, H⟩ | ⟨c6b0, H⟩ := H
    ·replace H := ipN H;obtain ⟨c7b0, H⟩ := H;replace H := ih H;obtain ⟨c8b0, H⟩ | ⟨c8b0, H⟩ := H
     ·replace H := ip H;obtain ⟨c9b0, H⟩ | ⟨c9b0, H⟩ := H
      ·obtain ⟨qn0, qe3⟩ : ∃ y_ : List Int, y_ = (zH.set (jS : Int).toNat (((rd zH jS) + 32) % 256)) := ⟨_, rfl⟩;(try with_reducible replace H := bnS H)
       (try rw [← qe3] at H)
       have qpF := ak qe3;clear qe3;have H' := ak H;clear H;obtain ⟨qMY, qyD, qyA⟩ := Kd.R_slice HO_3.out;subst qyA;have zR : 0 ≤ (jS : Int) := of_decide_eq_true (by first | (with_reducible assumption) | assumption);have zQ : jS < (zH.length : Int) := of_decide_eq_true (by first | (with_reducible assumption) | assumption);obtain ⟨Zt, YL, zr⟩ := Kd.at_int (Kd.R_reads' HO_3.out).2.2 jS zR zQ;cases YL;replace zR := eq_true zR;replace zQ := eq_true zQ;have QI : 0 ≤ (jS : Int) := of_decide_eq_true (by first | (with_reducible assumption) | assumption);have QG : jS < (zH.length : Int) := of_decide_eq_true (by first | (with_reducible assumption) | assumption);obtain ⟨qfh, qfM, yZ⟩ := Kd.at_int (Kd.R_reads' HO_3.out).2.2 jS QI QG;obtain rfl : Zt = qfh := (by injection qfM);replace QI := eq_true QI;replace QG := eq_true QG;have qbk : 0 ≤ (jS : Int) := of_decide_eq_true (by first | (with_reducible assumption) | assumption);have qbj : jS < (zH.length : Int) := of_decide_eq_true (by first | (with_reducible assumption) | assumption);obtain ⟨qpE, qyB, Xi⟩ := Kd.at_int (Kd.R_reads' HO_3.out).2.2 jS qbk qbj;obtain rfl : Zt = qpE := (by injection qyB);replace qbk := eq_true qbk;replace qbj := eq_true qbj;have p10 : 0 ≤ (jS : Int) := of_decide_eq_true (by first | (with_reducible assumption) | assumption);have q10 : (jS : Int) < ((zH.length : Int) : Int) := of_decide_eq_true (by first | (with_reducible assumption) | assumption);obtain ⟨qfG, qMx, qoE, qoy, qxZ, qMy, qoO⟩ := Kd.R_form HO_3.out (by omega);(first | cases qoE | (injection qoE with ea_ en_ ec_; (first | subst ea_ | (injection ea_ with ea_; subst ea_)); subst ec_; clear en_))
       have qyF := ak qoy;have qMI := ak qoO;clear qoy qxZ qoO;(first | simp only [add_plain] at zr | skip)
       (first | simp only [add_plain] at yZ | skip)
       (first | simp only [add_plain] at Xi | skip)
       obtain ⟨qGV, qIg⟩ := Kd.R_celln 0 HO_3.out (jS : Int) p10 q10;replace p10 := eq_true p10;replace q10 := eq_true q10;have qfS := Kd.R_putg HO_3.out (jS : Int) (((rd zH jS) + 32) % 256);go_wp2_with (((with_reducible refine gate_store (t := 5) (p := 33) rfl ?_);refine store_event (t := 5) (p := 33) (v := ?vo_w13) (w1 := (wr.setCell ⟨qfG, (jS : Int).toNat, none⟩ (.int .u8 (((rd zH jS) + 32) % 256)))) ?hg ?ho ?hn ?hr ?_;(case ho => rfl);(case hg => rfl);(case hn => rfl);(case hr => first | (go_simp; done) | (go_simp; rfl));intro w13 hw;have hg : wr.grownBy w13 (some qfG) := (by rw [hw]; exact qfS.2);have hp_ : Kd.R (Kd.int .u8) 5 w13 w.heap.size (fun _ => True) (.slice (some ⟨qfG, 0, none⟩) zH.length qyD) qn0 := (by rw [hw, qpF.out]; exact qfS.1);clear qfS;replace HO_3 := ak (hp_);replace HB := ak ((by rw [hw]; exact below_set (HB.out) qyF.out : Below w.heap.size w w13));clear hg hw hp_));go_roundg k1;case measure => have := HK1.out; omega
       case rel => exact ⟨(qn0), (wrap64 (jS + 1)), o2, H', ⟨by have := HK1.out; omega⟩, ⟨rw_ HO_3.out⟩, ⟨bw HB.out⟩⟩
      ·have H' := ak H;clear H;obtain ⟨qMX, qMw, qyz⟩ := Kd.R_slice HO_3.out;subst qyz;have zR : 0 ≤ (jS : Int) := of_decide_eq_true (by first | (with_reducible assumption) | assumption);have zQ : jS < (zH.length : Int) := of_decide_eq_true (by first | (with_reducible assumption) | assumption);obtain ⟨Zt, YL, zr⟩ := Kd.at_int (Kd.R_reads' HO_3.out).2.2 jS zR zQ;cases YL;replace zR := eq_true zR;replace zQ := eq_true zQ;have QI : 0 ≤ (jS : Int) := of_decide_eq_true (by first | (with_reducible assumption) | assumption);have QG : jS < (zH.length : Int) := of_decide_eq_true (by first | (with_reducible assumption) | assumption);obtain ⟨qfh, qfM, yZ⟩ := Kd.at_int (Kd.R_reads' HO_3.out).2.2 jS QI QG;obtain rfl : Zt = qfh := (by injection qfM);replace QI := eq_true QI;replace QG := eq_true QG;go_wp2;go_roundg k1;case measure => have := HK1.out; omega
       case rel => exact ⟨(zH), (wrap64 (jS + 1)), o2, H', ⟨by have := HK1.out; omega⟩, ⟨rw_ HO_3.out⟩, ⟨bw HB.out⟩⟩
     ·have H' := ak H;clear H;obtain ⟨qMW, qMv, qyy⟩ := Kd.R_slice HO_3.out;subst qyy;have zR : 0 ≤ (jS : Int) := of_decide_eq_true (by first | (with_reducible assumption) | assumption);have zQ : jS < (zH.length : Int) := of_decide_eq_true (by first | (with_reducible assumption) | assumption);obtain ⟨Zt, YL, zr⟩ := Kd.at_int (Kd.R_reads' HO_3.out).2.2 jS zR zQ;cases YL;replace zR := eq_true zR;replace zQ := eq_true zQ;go_wp2;go_roundg k1;case measure => have := HK1.out; omega
      case rel => exact ⟨(zH), (wrap64 (jS + 1)), o2, H', ⟨by have := HK1.out; omega⟩, ⟨rw_ HO_3.out⟩, ⟨bw HB.out⟩⟩
    ·obtain rfl := Option.some.inj H;obtain ⟨qMV, qMu, qyx⟩ := Kd.R_slice HO_3.out;subst qyx;go_wp2;go_ret;exact ⟨_, o1, rw_ HO_3.out, bw HB.out⟩
 ·rw [if_neg c2] at H;exact absurd H (by simp)

/-! ### qi: function 160 -/
mutual
def qi.l0 : Nat → List Int → Int → Int → Int → List (List Int) → Option ((List (List Int)) × Int)
 | 0, _, _, _, _, _ => none
 | k + 1, x0, x1, x7, x8, jo => if x1 < 0 then (qi.j1 k x0 x1 x7 x8 true jo) else (qi.j1 k x0 x1 x7 x8 (decide (x1 ≥ (x0.length : Int))) jo)
def qi.j1 : Nat → List Int → Int → Int → Int → Bool → List (List Int) → Option ((List (List Int)) × Int)
 | 0, _, _, _, _, _, _ => none
 | k + 1, x0, x1, x7, x8, x21, jo => if x21 = true then (some (([] : List (List Int)), (-1))) else (if 0 ≤ x1 then (if x1 < (x0.length : Int) then (if (wrap64 (rd x0 x1)) = 0 then (if x7 < 0 then ((qD.f k jo).bind fun qW => (if qW = true then (some (jo, wrap64 (x1 + 1))) else (some (([] : List (List Int)), (-1))))) else ((qD.f k jo).bind fun za => (if za = true then (some (jo, x7)) else (some (([] : List (List Int)), (-1)))))) else (if (wrap64 (rd x0 x1)) ≥ 192 then ((yu.f x0 x1).bind fun yx => (if yx.2 < 0 then (qi.j2 k x0 x7 x8 yx.1 yx.2 true jo) else (if (wrap64 (yx.1 - 49152)) ≥ x1 then (qi.j2 k x0 x7 x8 yx.1 yx.2 true jo) else (qi.j2 k x0 x7 x8 yx.1 yx.2 (decide (x8 ≥ 8)) jo)))) else (if (wrap64 (rd x0 x1)) > 15 then (qi.j3 k x0 x1 x7 x8 (wrap64 (rd x0 x1)) true jo) else (qi.j3 k x0 x1 x7 x8 (wrap64 (rd x0 x1)) (decide ((jo.length : Int) ≥ 6)) jo)))) else (none)) else (none))
def qi.j2 : Nat → List Int → Int → Int → Int → Int → Bool → List (List Int) → Option ((List (List Int)) × Int)
 | 0, _, _, _, _, _, _, _ => none
 | k + 1, x0, x7, x8, x10, x11, x80, jo => if x80 = true then (some (([] : List (List Int)), (-1))) else (if x7 < 0 then (qi.l0 k x0 (wrap64 (x10 - 49152)) x11 (wrap64 (x8 + 1)) jo) else (qi.l0 k x0 (wrap64 (x10 - 49152)) x7 (wrap64 (x8 + 1)) jo))
def qi.j3 : Nat → List Int → Int → Int → Int → Int → Bool → List (List Int) → Option ((List (List Int)) × Int)
 | 0, _, _, _, _, _, _, _ => none
 | k + 1, x0, x1, x7, x8, x9, x89, jo => if x89 = true then (some (([] : List (List Int)), (-1))) else ((jY.f x0 (wrap64 (x1 + 1)) x9).bind fun Zs => (if Zs.2 < 0 then (some (([] : List (List Int)), (-1))) else ((jv.f k Zs.1).bind fun jU => (if jo.length < 5864062014805 then (qi.l0 k x0 Zs.2 x7 x8 (jo ++ [jU])) else (none)))))
end
def qi.f (k : Nat) (l0 : List Int) (a1 : Int) : Option ((List (List Int)) × Int) := qi.l0 k l0 a1 (-1) 0 ([] : List (List Int))
def qi.T10 : Bool × List (List Nat × List Nat) := (true, [([], []), ([0], [0]), ([], []), ([2], [2]), ([3], [3]), ([1, 4, 3], [1, 4]), ([0, 1, 2, 3, 4, 5], []), ([6, 5, 5, 0, 1, 2, 3, 4, 5], [5, 6])])
def qi.B10 : List Nat := [0, 1, 0, 4, 12, 31, 63, 127]
theorem qi.tab10 : rtab .any (opsOf Try.f160 10) = qi.T10 := by kernel_rfl
theorem qi.bits10 : waitsOk qi.T10.2 qi.B10 = true := by kernel_rfl
set_option maxHeartbeats 8000000 in
set_option maxRecDepth 100000 in
theorem qi.calls (k : Nat) (A0 : Option Addr) (c0 : Nat) (l0 : List Int) (a1 : Int) (r1 : List (List Int)) (r2 : Int) (w : World) (hr0 : Kd.C (Kd.int .u8) w A0 l0.length l0) (hc0 : l0.length ≤ c0) (h : qi.f k l0 a1 = some (r1, r2)) :
  Calls Try.prog 160 #[.slice A0 l0.length c0, .int .i64 a1] w fun e w' => ∃ v0_ : Value, e = .returned (.tuple #[.agg #[v0_], .int .i64 r2]) ∧ Kd.S (Kd.slice 5 (Kd.int .u8)) 25 w' w.heap.size (fun _ => True) v0_ r1 ∧ Below w.heap.size w w' := by
 have JF := Try.underlying31;have HR0 := ak hr0;have HC0 := ak hc0;clear hr0 hc0;have HB := ak (Below.refl w.heap.size w);have H : (qi.l0 k l0 a1 (-1) 0 ([] : List (List Int))) = some (r1, r2) := h;clear h;have H' := ak H;clear H;go_enter Try.func160, Try.ntmps160;go_wp2_with (first | ((with_reducible refine gate_dst (N := 4) rfl ?_);(try (refine gate_guard (by rfl) ?_; dsimp only));refine bxd (N := 4) rfl HB ?_;clear HB;intro qb w3 hg HB qc qE hb;have jX := qE;clear hb hg) | ((with_reducible refine gate_dst (N := 6) rfl ?_);(try (refine gate_guard (by rfl) ?_; dsimp only));refine bxe (N := 6) rfl ?_;intro qg hg w4 hbox hb;have qf := ak (hbox);have jP := b3s hg bs;have yk := jP;replace HB := b2s bs hb;have qe := b4 hg qc;have qa := b5 hg qc;replace qc := b1 qc hb;clear hb hbox hg));go_loopg [1, 7, 8] k (fun kq v1 v7 v8 w' => ∃ (ze : Int) (Jh : Int) (QE : Int) (ja : List (List Int)) (zj : Value), v1 = .int .i64 ze ∧ v7 = .int .i64 Jh ∧ v8 = .int .i64 QE ∧ Aside0 (qi.l0 kq l0 ze Jh QE ja = some (r1, r2)) ∧ Aside0 (kq ≤ k) ∧ Aside0 (Kd.S (Kd.slice 5 (Kd.int .u8)) 25 w' w.heap.size (fun _ => True) zj ja) ∧ Aside0 (w'.heap[qb]? = some (.cells #[(.slice none 0 0)] 31 (0, 0))) ∧ Aside0 (w'.heap[qg]? = some (.cells #[zj] 31 (0, 0))) ∧ Aside0 (Below w.heap.size w w'))
 case atStart => exact ⟨(a1), ((-1)), (0), (([] : List (List Int))), (.slice none 0 0), o2, o2, o2, H', ⟨Nat.le_refl _⟩, ⟨by first | exact Kd.S_nil _ _ _ _ _ | exact Kd.N_nil _ _ _ _ _ | exact Kd.V_nil _ _ _ _ _ | exact Kd.Q_nil _ _ _ _ _ | exact Kd.R_nil _ _ _ _ _⟩, ⟨bk qc.out⟩, ⟨bk qf.out⟩, ⟨bs⟩⟩
 case round =>
  clear H';obtain ⟨ze, Jh, QE, ja, zj, rfl, rfl, rfl, HA, HK1, HO_103000, qc, qf, HB⟩ := hrel;cases gk with
  | zero => exact absurd HA.out (by simp [qi.l0])
  | succ k1 =>
   have H := HA.out;clear HA;simp only [qi.l0] at H;have HC5 := ak H;clear H;go_upto_region 4 with (fail)
   go_cut [21] (fun v21 wc => ∃ (kq : Nat) (qeR : Bool), v21 = .bool qeR ∧ Aside0 (qi.j1 kq l0 ze Jh QE qeR ja = some (r1, r2)) ∧ Aside0 (kq ≤ k1) ∧ Aside0 (Kd.S (Kd.slice 5 (Kd.int .u8)) 25 wc w.heap.size (fun _ => True) zj ja) ∧ Aside0 (wc.heap[qb]? = some (.cells #[(.slice none 0 0)] 31 (0, 0))) ∧ Aside0 (wc.heap[qg]? = some (.cells #[zj] 31 (0, 0))) ∧ Aside0 (Below w.heap.size w wc))
   case first =>
    have H := HC5.out;clear HC5;replace H := ip H;obtain ⟨c6b0, H⟩ | ⟨c6b0, H⟩ := H
    ·(first | rw [c6b0] | (simp only [i64_w, i32_w]; rw [c6b0]) | skip)
     have H' := ak H;clear H;go_wp2;go_meet
     case rel => exact ⟨_, (true), o2, H', ⟨by have := HK1.out; first | omega | exact Nat.le_refl _⟩, ⟨sw HO_103000.out⟩, ⟨bk qc.out⟩, ⟨bk qf.out⟩, ⟨bs⟩⟩
    ·(first | rw [c6b0] | (simp only [i64_w, i32_w]; rw [c6b0]) | skip)
     have H' := ak H;clear H;go_wp2;go_meet
     case rel => exact ⟨_, (decide (ze ≥ (l0.length : Int))), o2, H', ⟨by have := HK1.out; first | omega | exact Nat.le_refl _⟩, ⟨sw HO_103000.out⟩, ⟨bk qc.out⟩, ⟨bk qf.out⟩, ⟨bs⟩⟩
   case rest =>
    clear HC5;obtain ⟨kq, qeR, rfl, HA, HJ4, HO_103000, qc, qf, HB⟩ := hcut;cases kq with
    | zero => exact absurd HA.out (by simp [qi.j1])
    | succ kj4 =>
     have H := HA.out;clear HA;simp only [qi.j1] at H;replace H := ib H;obtain ⟨rfl, H⟩ | ⟨rfl, H⟩ := H
     ·simp only [Option.some.injEq, Prod.mk.injEq] at H;obtain ⟨rfl, rfl⟩ := H;have qMf := qe.out;have qMc := qa.out;obtain ⟨qbz, qbr⟩ := cells1 qc.out;go_wp2;refine bodyPost_ret (results_ct rfl _ _ qb 31 #[.slice none 0 0] (0, 0) _ rfl (yb qc.out) Try.underlying31 rfl (by kernel_rfl)) rfl ?_;exact ⟨_, o1, by first | exact Kd.S_nil _ _ _ _ _ | exact Kd.N_nil _ _ _ _ _ | exact Kd.V_nil _ _ _ _ _ | exact Kd.Q_nil _ _ _ _ _ | exact Kd.R_nil _ _ _ _ _, bs⟩
     ·replace H := ipN H;obtain ⟨c10b0, H⟩ := H;replace H := ipN H;obtain ⟨c11b0, H⟩ := H;replace H := ie H;obtain ⟨c12b0, c12b1, H⟩ | ⟨c12b0, c12b1, H⟩ := H
      ·replace H := ip H;obtain ⟨c13b0, H⟩ | ⟨c13b0, H⟩ := H
       ·replace H := bnd H;obtain ⟨qW, A14, H⟩ := H;replace H := ib H;obtain ⟨rfl, H⟩ | ⟨rfl, H⟩ := H
        ·simp only [Option.some.injEq, Prod.mk.injEq] at H;obtain ⟨rfl, rfl⟩ := H;obtain ⟨Qm, rfl, zt, yp, yo⟩ := el_int HR0 HB ze;have qpv := qa.out;have qpn := qe.out;obtain ⟨qeK, qdk⟩ := cells1 qf.out;obtain ⟨Qc, Qb, qfL⟩ := Kd.S_slice HO_103000.out;subst qfL;go_wp2_with (((with_reducible refine gate_callee (f := 76) rfl ?_);refine glB 55 rfl rfl Try.func76 (qD.calls kj4 _ _ ja true _ ?qC ?qK A14.out) (fun w19 hb => ?_);(case qC => repeat (first | exact (Kd.S_reads' HO_103000.out).2.2 | (with_reducible refine Kd.C_alloc ?_ _) | (with_reducible refine Kd.C_drewN ?_ _) | (with_reducible refine Kd.C_drew ?_)));(case qK => exact (Kd.S_reads' HO_103000.out).2.1);replace HO_103000 := ak (Kd.S_below (sw HO_103000.out) hb);replace qc := b1 qc hb;replace qf := b1 qf hb;replace HB := b2s bs hb;(try clear hb);obtain ⟨Yr, Yb⟩ := cells1 qf.out;obtain ⟨qaL, XQ⟩ := cells1 qc.out));refine bodyPost_ret (results_ct rfl _ _ qb 31 #[.slice Qc ja.length Qb] (0, 0) _ rfl (yb qc.out) Try.underlying31 rfl (by kernel_rfl)) rfl ?_;exact ⟨_, o1, by (with_reducible repeat (first | apply Kd.S_alloc | apply Kd.S_drewN | apply Kd.S_drew)); exact Kd.S_mono (Kd.S_far (p := ⟨qb, 0, none⟩) (Kd.S_types HO_103000.out qc.out (by decide)) (fun _ hk => hk.2) (.slice Qc ja.length Qb)) (fun _ hk => trivial), bs⟩
        ·simp only [Option.some.injEq, Prod.mk.injEq] at H;obtain ⟨rfl, rfl⟩ := H;obtain ⟨Qm, rfl, zt, yp, yo⟩ := el_int HR0 HB ze;have qKd := qa.out;have qJL := qe.out;obtain ⟨qeC, qdc⟩ := cells1 qf.out;obtain ⟨qMU, qMt, qyu⟩ := Kd.S_slice HO_103000.out;subst qyu;go_wp2_with (((with_reducible refine gate_callee (f := 76) rfl ?_);refine glB 55 rfl rfl Try.func76 (qD.calls kj4 _ _ ja false _ ?qC ?qK A14.out) (fun w25 hb => ?_);(case qC => repeat (first | exact (Kd.S_reads' HO_103000.out).2.2 | (with_reducible refine Kd.C_alloc ?_ _) | (with_reducible refine Kd.C_drewN ?_ _) | (with_reducible refine Kd.C_drew ?_)));(case qK => exact (Kd.S_reads' HO_103000.out).2.1);replace HO_103000 := ak (Kd.S_below (sw HO_103000.out) hb);replace qc := b1 qc hb;replace qf := b1 qf hb;replace HB := b2s bs hb;(try clear hb);obtain ⟨qez, qc9⟩ := cells1 qc.out));refine bodyPost_ret (results_ct rfl _ _ qb 31 #[.slice none 0 0] (0, 0) _ rfl (yb qc.out) Try.underlying31 rfl (by kernel_rfl)) rfl ?_;exact ⟨_, o1, by first | exact Kd.S_nil _ _ _ _ _ | exact Kd.N_nil _ _ _ _ _ | exact Kd.V_nil _ _ _ _ _ | exact Kd.Q_nil _ _ _ _ _ | exact Kd.R_nil _ _ _ _ _, bs⟩
       ·replace H := bnd H;obtain ⟨za, A27, H⟩ := H;replace H := ib H;obtain ⟨rfl, H⟩ | ⟨rfl, H⟩ := H
        ·simp only [Option.some.injEq, Prod.mk.injEq] at H;obtain ⟨rfl, rfl⟩ := H;obtain ⟨Qm, rfl, zt, yp, yo⟩ := el_int HR0 HB ze;have qKa := qa.out;have qJI := qe.out;obtain ⟨Yj, ZT⟩ := cells1 qf.out;obtain ⟨qf9, qfR, qfJ⟩ := Kd.S_slice HO_103000.out;subst qfJ;go_wp2_with (((with_reducible refine gate_callee (f := 76) rfl ?_);refine glB 55 rfl rfl Try.func76 (qD.calls kj4 _ _ ja true _ ?qC ?qK A27.out) (fun w32 hb => ?_);(case qC => repeat (first | exact (Kd.S_reads' HO_103000.out).2.2 | (with_reducible refine Kd.C_alloc ?_ _) | (with_reducible refine Kd.C_drewN ?_ _) | (with_reducible refine Kd.C_drew ?_)));(case qK => exact (Kd.S_reads' HO_103000.out).2.1);replace HO_103000 := ak (Kd.S_below (sw HO_103000.out) hb);replace qc := b1 qc hb;replace qf := b1 qf hb;replace HB := b2s bs hb;(try clear hb);obtain ⟨qaC, XH⟩ := cells1 qf.out;obtain ⟨qaB, XG⟩ := cells1 qc.out));refine bodyPost_ret (results_ct rfl _ _ qb 31 #[.slice qf9 ja.length qfR] (0, 0) _ rfl (yb qc.out) Try.underlying31 rfl (by kernel_rfl)) rfl ?_;exact ⟨_, o1, by (with_reducible repeat (first | apply Kd.S_alloc | apply Kd.S_drewN | apply Kd.S_drew)); exact Kd.S_mono (Kd.S_far (p := ⟨qb, 0, none⟩) (Kd.S_types HO_103000.out qc.out (by decide)) (fun _ hk => hk.2) (.slice qf9 ja.length qfR)) (fun _ hk => trivial), bs⟩
        ·simp only [Option.some.injEq, Prod.mk.injEq] at H;obtain ⟨rfl, rfl⟩ := H;obtain ⟨Qm, rfl, zt, yp, yo⟩ := el_int HR0 HB ze;have qJ7 := qa.out;have qJF := qe.out;obtain ⟨qeg, qcQ⟩ := cells1 qf.out;obtain ⟨qMP, qMo, qym⟩ := Kd.S_slice HO_103000.out;subst qym;go_wp2_with (((with_reducible refine gate_callee (f := 76) rfl ?_);refine glB 55 rfl rfl Try.func76 (qD.calls kj4 _ _ ja false _ ?qC ?qK A27.out) (fun w38 hb => ?_);(case qC => repeat (first | exact (Kd.S_reads' HO_103000.out).2.2 | (with_reducible refine Kd.C_alloc ?_ _) | (with_reducible refine Kd.C_drewN ?_ _) | (with_reducible refine Kd.C_drew ?_)));(case qK => exact (Kd.S_reads' HO_103000.out).2.1);replace HO_103000 := ak (Kd.S_below (sw HO_103000.out) hb);replace qc := b1 qc hb;replace qf := b1 qf hb;replace HB := b2s bs hb;(try clear hb);obtain ⟨qat, Xy⟩ := cells1 qc.out));refine bodyPost_ret (results_ct rfl _ _ qb 31 #[.slice none 0 0] (0, 0) _ rfl (yb qc.out) Try.underlying31 rfl (by kernel_rfl)) rfl ?_;exact ⟨_, o1, by first | exact Kd.S_nil _ _ _ _ _ | exact Kd.N_nil _ _ _ _ _ | exact Kd.V_nil _ _ _ _ _ | exact Kd.Q_nil _ _ _ _ _ | exact Kd.R_nil _ _ _ _ _, bs⟩
      ·replace H := ih H;obtain ⟨c40b0, H⟩ | ⟨c40b0, H⟩ := H
       ·replace H := Option.bind_eq_some_iff.mp H;obtain ⟨⟨jG, qp⟩, qo0, H⟩ := H;replace H : (if qp < 0 then (qi.j2 kj4 l0 Jh QE jG qp true ja) else (if (wrap64 (jG - 49152)) ≥ ze then (qi.j2 kj4 l0 Jh QE jG qp true ja) else (qi.j2 kj4 l0 Jh QE jG qp (decide (QE ≥ 8)) ja))) = some (r1, r2) := H;have A41 := ak qo0;clear qo0;have qfY := ak H;clear H;obtain ⟨Qm, rfl, zt, yp, yo⟩ := el_int HR0 HB ze;go_upto_region 20 with (((with_reducible refine gate_callee (f := 166) rfl ?_);refine glD 66 rfl rfl Try.func166 (yu.calls _ _ l0 ze jG qp _ (cv HR0 HB) HC0.out A41.out) (fun nd => ?_)))
        (try simp only [Act.put, List.setIfInBounds_toArray, List.set_cons_zero, List.set_cons_succ])
        go_cut [80] (fun v80 wc => ∃ (kq : Nat) (qbg : Bool), v80 = .bool qbg ∧ Aside0 (qi.j2 kq l0 Jh QE jG qp qbg ja = some (r1, r2)) ∧ Aside0 (kq ≤ kj4) ∧ Aside0 (Kd.S (Kd.slice 5 (Kd.int .u8)) 25 wc w.heap.size (fun _ => True) zj ja) ∧ Aside0 (wc.heap[qb]? = some (.cells #[(.slice none 0 0)] 31 (0, 0))) ∧ Aside0 (wc.heap[qg]? = some (.cells #[zj] 31 (0, 0))) ∧ Aside0 (Below w.heap.size w wc))
        case first =>
         have H := qfY.out;clear qfY;replace H := ip H;obtain ⟨c43b0, H⟩ | ⟨c43b0, H⟩ := H
         ·(first | rw [c43b0] | (simp only [i64_w, i32_w]; rw [c43b0]) | skip)
          have H' := ak H;clear H;go_wp2;go_meet
          case rel => exact ⟨_, (true), o2, H', ⟨by have := HK1.out; have := HJ4.out; first | omega | exact Nat.le_refl _⟩, ⟨sw HO_103000.out⟩, ⟨bk qc.out⟩, ⟨bk qf.out⟩, ⟨bs⟩⟩
         ·(first | rw [c43b0] | (simp only [i64_w, i32_w]; rw [c43b0]) | skip)
          replace H := ih H;obtain ⟨c44b0, H⟩ | ⟨c44b0, H⟩ := H
          ·have H' := ak H;clear H;go_wp2;go_meet
           case rel => exact ⟨_, (true), o2, H', ⟨by have := HK1.out; have := HJ4.out; first | omega | exact Nat.le_refl _⟩, ⟨sw HO_103000.out⟩, ⟨bk qc.out⟩, ⟨bk qf.out⟩, ⟨bs⟩⟩
          ·have H' := ak H;clear H;go_wp2;go_meet
           case rel => exact ⟨_, (decide (QE ≥ 8)), o2, H', ⟨by have := HK1.out; have := HJ4.out; first | omega | exact Nat.le_refl _⟩, ⟨sw HO_103000.out⟩, ⟨bk qc.out⟩, ⟨bk qf.out⟩, ⟨bs⟩⟩
        case rest =>
         clear qfY;(try clear c10b0)
         (try clear c11b0)
         (try clear c12b0)
         (try clear c12b1)
         (try clear c40b0)
         (try clear zt)
         (try clear yp)
         (try clear yo)
         obtain ⟨kq, qbg, rfl, HA, qfm, HO_103000, qc, qf, HB⟩ := hcut;cases kq with
         | zero => exact absurd HA.out (by simp [qi.j2])
         | succ qn8 =>
          have H := HA.out;clear HA;simp only [qi.j2] at H;replace H := ib H;obtain ⟨rfl, H⟩ | ⟨rfl, H⟩ := H
          ·simp only [Option.some.injEq, Prod.mk.injEq] at H;obtain ⟨rfl, rfl⟩ := H;have qpt := qe.out;have qpl := qa.out;obtain ⟨qdS, qcs⟩ := cells1 qc.out;go_wp2;refine bodyPost_ret (results_ct rfl _ _ qb 31 #[.slice none 0 0] (0, 0) _ rfl (yb qc.out) Try.underlying31 rfl (by kernel_rfl)) rfl ?_;exact ⟨_, o1, by first | exact Kd.S_nil _ _ _ _ _ | exact Kd.N_nil _ _ _ _ _ | exact Kd.V_nil _ _ _ _ _ | exact Kd.Q_nil _ _ _ _ _ | exact Kd.R_nil _ _ _ _ _, bs⟩
          ·replace H := ip H;obtain ⟨c48b0, H⟩ | ⟨c48b0, H⟩ := H
           ·have H' := ak H;clear H;go_wp2;go_roundg qn8;case measure => have := HK1.out; have := HJ4.out; have := qfm.out; omega
            case rel => exact ⟨(wrap64 (jG - 49152)), (qp), (wrap64 (QE + 1)), (ja), (zj), o2, o2, o2, H', ⟨by have := HK1.out; have := HJ4.out; have := qfm.out; omega⟩, ⟨sw HO_103000.out⟩, ⟨bk qc.out⟩, ⟨bk qf.out⟩, ⟨bs⟩⟩
           ·have H' := ak H;clear H;go_wp2;go_roundg qn8;case measure => have := HK1.out; have := HJ4.out; have := qfm.out; omega
            case rel => exact ⟨(wrap64 (jG - 49152)), (Jh), (wrap64 (QE + 1)), (ja), (zj), o2, o2, o2, H', ⟨by have := HK1.out; have := HJ4.out; have := qfm.out; omega⟩, ⟨sw HO_103000.out⟩, ⟨bk qc.out⟩, ⟨bk qf.out⟩, ⟨bs⟩⟩
       ·have qfW := ak H;clear H;obtain ⟨Qm, rfl, zt, yp, yo⟩ := el_int HR0 HB ze;go_upto_region 26 with (fail)
        go_cut [89] (fun v89 wc => ∃ (kq : Nat) (qbf : Bool), v89 = .bool qbf ∧ Aside0 (qi.j3 kq l0 ze Jh QE (wrap64 (rd l0 ze)) qbf ja = some (r1, r2)) ∧ Aside0 (kq ≤ kj4) ∧ Aside0 (Kd.S (Kd.slice 5 (Kd.int .u8)) 25 wc w.heap.size (fun _ => True) zj ja) ∧ Aside0 (wc.heap[qb]? = some (.cells #[(.slice none 0 0)] 31 (0, 0))) ∧ Aside0 (wc.heap[qg]? = some (.cells #[zj] 31 (0, 0))) ∧ Aside0 (Below w.heap.size w wc))
        case first =>
         have H := qfW.out;clear qfW;replace H := ig H;obtain ⟨c50b0, H⟩ | ⟨c50b0, H⟩ := H
         ·(first | rw [c50b0] | (simp only [i64_w, i32_w]; rw [c50b0]) | skip)
          have H' := ak H;clear H;go_wp2;go_meet
          case rel => exact ⟨_, (true), o2, H', ⟨by have := HK1.out; have := HJ4.out; first | omega | exact Nat.le_refl _⟩, ⟨sw HO_103000.out⟩, ⟨bk qc.out⟩, ⟨bk qf.out⟩, ⟨bs⟩⟩
         ·(first | rw [c50b0] | (simp only [i64_w, i32_w]; rw [c50b0]) | skip)
          have H' := ak H;clear H;have qJ1 := qa.out;have qJz := qe.out;obtain ⟨qEU, qBm⟩ := cells1 qf.out;obtain ⟨qMN, qMm, qyb⟩ := Kd.S_slice HO_103000.out;subst qyb;go_wp2;go_meet
          case rel => exact ⟨_, (decide ((ja.length : Int) ≥ 6)), o2, H', ⟨by have := HK1.out; have := HJ4.out; first | omega | exact Nat.le_refl _⟩, ⟨sw HO_103000.out⟩, ⟨bk qc.out⟩, ⟨bk qf.out⟩, ⟨bs⟩⟩
        case rest =>
         clear qfW;(try clear c10b0)
         (try clear c11b0)
         (try clear c12b0)
         (try clear c12b1)
         (try clear c40b0)
         (try clear zt)
         (try clear yp)
         (try clear yo)
         obtain ⟨kq, qbf, rfl, HA, qoM, HO_103000, qc, qf, HB⟩ := hcut;cases kq with
         | zero => exact absurd HA.out (by simp [qi.j3])
         | succ qe0 =>
          have H := HA.out;clear HA;simp only [qi.j3] at H;replace H := ib H;obtain ⟨rfl, H⟩ | ⟨rfl, H⟩ := H
          ·simp only [Option.some.injEq, Prod.mk.injEq] at H;obtain ⟨rfl, rfl⟩ := H;have qJ0 := qe.out;have qJy := qa.out;obtain ⟨qdP, qcp⟩ := cells1 qc.out;go_wp2;refine bodyPost_ret (results_ct rfl _ _ qb 31 #[.slice none 0 0] (0, 0) _ rfl (yb qc.out) Try.underlying31 rfl (by kernel_rfl)) rfl ?_;exact ⟨_, o1, by first | exact Kd.S_nil _ _ _ _ _ | exact Kd.N_nil _ _ _ _ _ | exact Kd.V_nil _ _ _ _ _ | exact Kd.Q_nil _ _ _ _ _ | exact Kd.R_nil _ _ _ _ _, bs⟩
          ·replace H := Option.bind_eq_some_iff.mp H;obtain ⟨⟨jB, qZ⟩, qoW, H⟩ := H;replace H : (if qZ < 0 then (some (([] : List (List Int)), (-1))) else ((jv.f qe0 jB).bind fun jU => (if ja.length < 5864062014805 then (qi.l0 qe0 l0 qZ Jh QE (ja ++ [jU])) else (none)))) = some (r1, r2) := H;have A57 := ak qoW;clear qoW;replace H := ip H;obtain ⟨c58b0, H⟩ | ⟨c58b0, H⟩ := H
           ·simp only [Option.some.injEq, Prod.mk.injEq] at H;obtain ⟨rfl, rfl⟩ := H;go_wp2_with (((with_reducible refine gate_callee (f := 161) rfl ?_);refine glG 33 rfl rfl Try.func161 (jY.calls _ _ l0 (wrap64 (ze + 1)) (wrap64 (rd l0 ze)) jB qZ _ (cv HR0 HB) HC0.out A57.out) ?_;rintro e w59 ⟨YK, rfl, ho0, hb⟩;refine ⟨_, rfl, ?_⟩;replace HO_103000 := ak (Kd.S_elder' (sw HO_103000.out) (Kd.R_base ho0) hb);have jO := ak (Kd.R_lower ho0 (below_size bs));replace qc := b1 qc hb;replace qf := b1 qf hb;replace HB := b2s bs hb;(try clear hb);(try clear ho0);have qJW := qe.out;have qJu := qa.out;obtain ⟨qlo, qhM⟩ := cells1 qc.out));refine bodyPost_ret (results_ct rfl _ _ qb 31 #[.slice none 0 0] (0, 0) _ rfl (yb qc.out) Try.underlying31 rfl (by kernel_rfl)) rfl ?_;exact ⟨_, o1, by first | exact Kd.S_nil _ _ _ _ _ | exact Kd.N_nil _ _ _ _ _ | exact Kd.V_nil _ _ _ _ _ | exact Kd.Q_nil _ _ _ _ _ | exact Kd.R_nil _ _ _ _ _, bs⟩
           ·replace H := bnd H;obtain ⟨jU, A62, H⟩ := H;by_cases c63 : ja.length < 5864062014805
            ·rw [if_pos c63] at H;have qpJ := ak c63;clear c63;obtain ⟨qO, yU⟩ : ∃ y_ : List (List Int), y_ = (ja ++ [jU]) := ⟨_, rfl⟩;(try with_reducible replace H := bnS H)
             (try rw [← yU] at H)
             have QD := ak yU;clear yU;have H' := ak H;clear H;try go_wp2_with (((with_reducible refine gate_callee (f := 161) rfl ?_);refine glG 33 rfl rfl Try.func161 (jY.calls _ _ l0 (wrap64 (ze + 1)) (wrap64 (rd l0 ze)) jB qZ _ (cv HR0 HB) HC0.out A57.out) ?_;rintro e w64 ⟨YK, rfl, ho0, hb⟩;refine ⟨_, rfl, ?_⟩;replace HO_103000 := ak (Kd.S_elder' (sw HO_103000.out) (Kd.R_base ho0) hb);have jO := ak (Kd.R_lower ho0 (below_size bs));replace qc := b1 qc hb;replace qf := b1 qf hb;replace HB := b2s bs hb;(try clear hb);(try clear ho0)))
             replace HO_103000 := ak (Kd.S_drew HO_103000.out);replace jO := ak (Kd.R_drew jO.out);replace qc := ak (blk_drew qc.out);replace qf := ak (blk_drew qf.out);replace HB := ak (below_drew1 HB.out);obtain ⟨qf7, qfP, qoD⟩ := Kd.R_slice jO.out;(first | subst qoD | (injection qoD with f1_ f2_ f3_; have f4_ := f1_.symm; have f5_ := f3_.symm; clear f1_ f2_ f3_; subst f4_; subst f5_))
             refine start_ (n := 8) (S := fun w' => w'.cell? ⟨qg, 0, none⟩ = some (zj)) (ds := [7]) (bA 8 0) (by kernel_rfl) rfl rfl ((blk_cell qf.out 0).trans rfl) (fun hHeld => ?_); refine with_tabW qi.tab10 qi.bits10 (fun HT_ HW_ => ?_);generalize w64.drew = w65 at HO_103000 jO qc qf HB hHeld ⊢;refine pu HT_ 0 ?_;refine pu HT_ 2 ?_;refine take_ (i := 1) (N := some 40) (v := ?_) (a' := ?_) (bA 8 7) rfl rfl (take_ofW HT_.out HW_.out (by kernel_rfl)) (fun _ _ _ h => h) (Or.inl ⟨by rfl, ?_⟩) hHeld ?_ ?_;rotate_left; intro w' s0; go_simp; with_reducible rfl; rotate_left; go_simp; rfl
             refine on HT_ 3 (fun K hK => ?_);refine gsG Try.func222 (jv.calls qe0 _ _ jB jU _ ?qC ?qK A62.out) ?_;(case qC => repeat (first | exact (Kd.R_reads' jO.out).2.2 | (with_reducible refine Kd.C_alloc ?_ _) | (with_reducible refine Kd.C_drewN ?_ _) | (with_reducible refine Kd.C_drew ?_)))
             (case qK => exact (Kd.R_reads' jO.out).2.1)
             rintro e w67 ⟨qfv, rfl, ho0, hb⟩;refine ⟨_, rfl, ?_⟩;replace HO_103000 := ak (Kd.S_elder' (sw HO_103000.out) (Kd.R_base ho0) hb);have yr := ak (Kd.R_lower (Kd.R_new' ho0 (Kd.R_lt (rw_ jO.out))) (below_size bs));replace jO := ak (Kd.R_elder' (rw_ jO.out) (Kd.R_base ho0) hb);replace qc := b1 qc hb;replace qf := b1 qf hb;replace HB := b2s bs hb;(try clear hb)
             (try clear ho0)
             obtain ⟨qoR, qoH, qoC⟩ := Kd.R_slice yr.out;(first | subst qoC | (injection qoC with f1_ f2_ f3_; have f4_ := f1_.symm; have f5_ := f3_.symm; clear f1_ f2_ f3_; subst f4_; subst f5_))
             refine hK.out _ _ ((blk_cell qf.out 0).trans rfl) (fun hHeld => ?_);clear hK K;refine norm_ (a' := ?_) ?_ ?_; rotate_left; go_simp; rfl;refine on HT_ 4 (fun K hK => ?_);refine value_ (w1 := ?_) (v := ?_) (by rfl) rfl ?_ ?_;rotate_left 2
             ·go_simp;constructor
              ·rfl
              ·rfl
             refine hK.out _ _ ((blk_cell (blk_alloc qf.out _) 0).trans rfl) (fun hHeld => ?_);clear hK K;refine norm_ (a' := ?_) ?_ ?_; rotate_left; go_simp; rfl;refine on HT_ 5 (fun K hK => ?_);refine Kd.S_append_step (Kd.slice 5 (Kd.int .u8)) (w0 := w) w.heap.size (by rfl) (.tmp 40) (.tmp 43) 22 25 (.slice none 0 0) 24 rfl Try.underlying22 qfr rfl (by decide) (by omega) zj ja jU [.slice qoR jU.length qoH] (fun k_ => some k_ ≠ (.slice qf7 jB.length qfP : Value).ownBlock) (fun k_ => some k_ = (.slice qoR jU.length qoH : Value).ownBlock) rfl rfl ?aP (fun k_ hk_ => ((Kd.R_mono (ok' := fun k_ => ((fun k_ => some k_ ≠ (.slice qf7 jB.length qfP : Value).ownBlock)) k_ ∧ some k_ ≠ (zj : Value).ownBlock) (Kd.R_apart' (yr.out) (Kd.S_typed HO_103000.out) (by decide)) (fun k_ hk => ⟨hk.1.2, hk.2⟩))).1 k_ hk_.symm) ?aF ?aO ?aB ?aS ?aL ?_;(case aP => exact Kd.M_row (Kd.R_mono (Kd.R_tight rfl (Kd.R_mono (ok' := fun k_ => ((fun k_ => some k_ ≠ (.slice qf7 jB.length qfP : Value).ownBlock)) k_ ∧ some k_ ≠ (zj : Value).ownBlock) (Kd.R_apart' (yr.out) (Kd.S_typed HO_103000.out) (by decide)) (fun k_ hk => ⟨hk.1.2, hk.2⟩))) (fun _ h_ => h_)))
             (case aB => exact bs)
             (case aF => exact (fun k_ hk => Kd.fresh' (Kd.R_lt (rw_ jO.out)) k_ hk))
             (case aO => exact (sw (Kd.S_mono HO_103000.out (fun k_ hk => ⟨hk.1.2, fun e_ => hk.2 e_⟩))))
             (case aS => exact (below_size bs))
             (case aL => have := qpJ.out; omega)
             intro YJ w68 ho hb hg hat;rw [← QD.out] at ho;replace qc := ak (blk_grown (bk qc.out) hg (Kd.S_ne HO_103000.out qc.out (by decide)));replace qf := ak (blk_grown (bk qf.out) hg (Kd.S_ne HO_103000.out qf.out (by decide)));replace jO := ak (Kd.R_over' (rw_ jO.out) (Kd.S_typed (sw HO_103000.out)) (by decide) hg);replace HB := ak (hb);have jj := ak (ho);clear HO_103000 yr ho hb hg hat;obtain ⟨qf6, qfO, qfc⟩ := Kd.S_slice jj.out;(first | subst qfc | (injection qfc with f1_ f2_ f3_; have f4_ := f1_.symm; have f5_ := f3_.symm; clear f1_ f2_ f3_; subst f4_; subst f5_))
             refine hK.out _ _ ((blk_cell qf.out 0).trans rfl) (fun hHeld => ?_);clear hK K;refine norm_ (a' := ?_) ?_ ?_; rotate_left; go_simp; rfl;refine pu HT_ 6 ?_;refine last_ (i := 7) (N := none) (bA 8 255) rfl rfl (one_of HT_.out (by kernel_rfl)) (by decide) (fun K hK => ?_);have qLP : w68.cell? ⟨qg, 0, none⟩ = some (zj) := (blk_cell qf.out 0).trans rfl;have qKs := blk_frozen qf.out 0;have qyV := qe.out;have qzt := qa.out;refine skip_ (w1 := ?_) (by rfl) rfl ?_ ?_;rotate_left
             ·go_simp;rfl
             refine hK.out _ _ ?_;clear hK K;refine done_ (done_of HT_.out (by kernel_rfl)) ?_;try go_wp2
             go_roundg qe0;case measure => have := HK1.out; have := HJ4.out; have := qoM.out; omega
             case rel => exact ⟨(qZ), (Jh), (QE), (qO), (.slice qf6 qO.length qfO), o2, o2, o2, H', ⟨by have := HK1.out; have := HJ4.out; have := qoM.out; omega⟩, ⟨by (with_reducible repeat (first | apply Kd.S_alloc | apply Kd.S_drewN | apply Kd.S_drew)); exact Kd.S_mono (Kd.S_far (p := ⟨qg, 0, none⟩) (Kd.S_types jj.out qf.out (by decide)) (fun _ hk => hk.2) (.slice qf6 qO.length qfO)) (fun _ hk => trivial)⟩, ⟨qfg qe.out qc.out⟩, ⟨yb qf.out⟩, ⟨bs⟩⟩
            ·rw [if_neg c63] at H;exact absurd H (by simp)

end Go.Proofs.Ytagedmajlppohaa.Q
