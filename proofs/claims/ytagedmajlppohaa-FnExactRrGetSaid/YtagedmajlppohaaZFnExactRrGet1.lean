/- Printed by a program of this session (wip/myprint.py), which drives the kit's printer: functions and what their calls do. -/
import Derived.Test.YtagedmajlppohaaZFnExactRrGet0
import Derived.Deep.RegionLaw
namespace Go.Proofs.Ytagedmajlppohaa.Q
open Go.RowKit Go Go.Proofs.YtagedmajlppohaaW.PrintWords Go.Proofs.YtagedmajlppohaaW.PrintLast Go.Proofs.YtagedmajlppohaaW.PrintMore

set_option linter.unusedVariables false
set_option linter.unusedSimpArgs false

abbrev RrV := List (List Int) × Int × Int × Int × List (List Int) × List Int × List Int × Int
def rrZ : RrV := ([], 0, 0, 0, [], [], [], -1)
def yl.f (k : Nat) (l : List Int) (a : Int) : Option RrV := (yf.f k l a).bind fun h => if h.2.2.2.2.2 < 0 then some rrZ else if h.2.2.1 = 1 then (qm.f k h.2.1 l h.2.2.2.2.2 h.2.2.2.2.1).bind fun d => if d.2.2.2.2.2.2.2 = true then (qk.f k h.1 d.2.1 h.2.2.2.1 d.2.2.2.1 d.2.2.2.2.1 d.2.2.2.2.2.1 d.2.2.2.2.2.2.1).bind fun ok => if ok = true then some (h.1, d.2.1, h.2.2.2.1, d.2.2.2.1, d.2.2.2.2.1, d.2.2.2.2.2.1, d.2.2.2.2.2.2.1, wrap64 (h.2.2.2.2.2 + h.2.2.2.2.1)) else some rrZ else some rrZ else some rrZ
abbrev rrC (v0 : Value) (x1 x2 x3 : Int) (v4 v5 v6 : Value) : Array Value := #[v0, .int .i64 x1, .int .i64 x2, .int .i64 x3, v4, v5, v6]
abbrev rrN : Value := .slice none 0 0
/-- What a read record is: its rows of the call's own, the name's below a size of memory, the data's from it on. -/
structure RrPost (w w' : World) (v0 v4 v5 v6 : Value) (nm dst : List (List Int)) (tx nu : List Int) (mid : Nat) : Prop where
  name : Kd.S (Kd.slice 5 (Kd.int .u8)) 25 w' w.heap.size (fun k => k < mid) v0 nm
  to_ : Kd.S (Kd.slice 5 (Kd.int .u8)) 25 w' w.heap.size (fun k => mid ≤ k ∧ some k ≠ v5.ownBlock) v4 dst
  text : Kd.R (Kd.int .u8) 5 w' w.heap.size (fun k => mid ≤ k) v5 tx
  nums : Kd.R (Kd.int .i64) 3 w' w.heap.size (fun k => mid ≤ k) v6 nu
  below : Below w.heap.size w w'
theorem RrPost.nil {w w' : World} (hb : Below w.heap.size w w') : RrPost w w' rrN rrN rrN rrN [] [] [] [] 0 := ⟨Kd.S_nil _ _ _ _ _, Kd.S_nil _ _ _ _ _, Kd.R_nil _ _ _ _ _, Kd.R_nil _ _ _ _ _, hb⟩
theorem below7 {w W : World} {b : Nat} (h : Below w.heap.size w W) (hb : w.heap.size ≤ b) (v0 v1 v2 v3 v4 v5 v6 : Value) : Below w.heap.size w (((((((W.setCell ⟨b, 0, none⟩ v0).setCell ⟨b, 1, none⟩ v1).setCell ⟨b, 2, none⟩ v2).setCell ⟨b, 3, none⟩ v3).setCell ⟨b, 4, none⟩ v4).setCell ⟨b, 5, none⟩ v5).setCell ⟨b, 6, none⟩ v6) :=
  ((((((h.setCell hb _).setCell hb _).setCell hb _).setCell hb _).setCell hb _).setCell hb _).setCell hb _
theorem qdx {W : World} {b : Nat} (v0 v1 v2 v3 v4 v5 v6 : Value) (k : Nat) (hk : k ≠ b) : (((((((W.setCell ⟨b, 0, none⟩ v0).setCell ⟨b, 1, none⟩ v1).setCell ⟨b, 2, none⟩ v2).setCell ⟨b, 3, none⟩ v3).setCell ⟨b, 4, none⟩ v4).setCell ⟨b, 5, none⟩ v5).setCell ⟨b, 6, none⟩ v6).heap[k]? = W.heap[k]? := by
  rw [Below.heap_setCell _ _ _ _ hk, Below.heap_setCell _ _ _ _ hk, Below.heap_setCell _ _ _ _ hk, Below.heap_setCell _ _ _ _ hk, Below.heap_setCell _ _ _ _ hk, Below.heap_setCell _ _ _ _ hk, Below.heap_setCell _ _ _ _ hk]
set_option maxHeartbeats 16000000 in
set_option maxRecDepth 100000 in
theorem yl.calls (k : Nat) (A0 : Option Addr) (c0 : Nat) (l0 : List Int) (a1 : Int) (R : RrV) (w : World) (hr0 : Kd.C (Kd.int .u8) w A0 l0.length l0) (hc0 : l0.length ≤ c0) (h : yl.f k l0 a1 = some R) :
    Calls Try.prog 33 #[.slice A0 l0.length c0, .int .i64 a1] w fun e w' => ∃ (v0 v4 v5 v6 : Value), e = .returned (.tuple #[.agg (rrC v0 R.2.1 R.2.2.1 R.2.2.2.1 v4 v5 v6), .int .i64 R.2.2.2.2.2.2.2]) ∧ ∃ (mid : Nat), RrPost w w' v0 v4 v5 v6 R.1 R.2.2.2.2.1 R.2.2.2.2.2.1 R.2.2.2.2.2.2.1 mid := by
  have HR := ak hr0;have HC := ak hc0;clear hr0 hc0;obtain ⟨⟨nm, kd, cl, tl, sz, a⟩, hh, h⟩ := Option.bind_eq_some_iff.1 h;have HH := ak hh;have H := ak h;clear hh h;go_enter Try.func33, Try.ntmps33;go_wp2_with (fail);obtain ⟨W1, hW1⟩ : ∃ W, W = w.alloc (.cells (rrC rrN 0 0 0 rrN rrN rrN) 33) := ⟨_, rfl⟩;obtain ⟨b4, hb4⟩ : ∃ b, b = w.heap.size := ⟨_, rfl⟩;have B4 := ak (show W1.heap[b4]? = some (.cells (rrC rrN 0 0 0 rrN rrN rrN) 33 (0, 0)) by rw [hW1, hb4]; exact heap_alloc_new w _);have HB := ak (show Below w.heap.size w W1 by rw [hW1]; exact below_alloc (Below.refl _ _) _);have N4 := ak (show w.heap.size ≤ b4 ∧ b4 < W1.heap.size by rw [hW1, al_size]; omega);rw [← hW1];try rw [← hb4]
  clear hW1 hb4;refine (yf.calls k A0 c0 l0 a1 nm kd cl tl sz a W1 (Kd.C_below HR.out HB.out) HC.out HH.out).mono ?_;rintro e w2 ⟨vn, rfl, hs, hb⟩;obtain ⟨An, cn, rfl⟩ := Kd.S_slice hs;have SN := ak (show Kd.S (Kd.slice 5 (Kd.int .u8)) 25 w2 w.heap.size (fun k => b4 < k ∧ k < w2.heap.size) (.slice An nm.length cn) nm from Kd.S_mono (Kd.S_lower (Kd.S_bound hs) (by have := N4.out; omega)) (fun k hk => ⟨by have := hk.2.1; have := N4.out; omega, hk.2.2.1⟩));replace B4 := ak (blk_below B4.out hb);replace HB := b2s HB.out hb;have N42 := ak (show b4 < w2.heap.size by have := hb.size; have := N4.out; omega);clear hs hb HH;by_cases ha : a < 0 ∨ cl ≠ 1
  · have hR : R = rrZ := by
      have hh := H.out;by_cases h1 : a < 0
      · rw [if_pos h1] at hh; exact (Option.some.inj hh).symm
      · rw [if_neg h1, if_neg (by omega)] at hh; exact (Option.some.inj hh).symm
    subst hR;have hg : (decide (a < 0) || cl != 1) = true := by rcases ha with h | h <;> simp [h]
    obtain ⟨z0, z1, z2, z3, z4, z5, z6, f0, f1, f2, f3, f4, f5, f6⟩ := cells7 (blk_alloc B4.out (.cells (hdC (.slice An nm.length cn) kd cl tl sz) 123));have HB3 := ak (below_alloc HB.out (.cells (hdC (.slice An nm.length cn) kd cl tl sz) 123));have B43 := ak (blk_alloc B4.out (.cells (hdC (.slice An nm.length cn) kd cl tl sz) 123));clear H;go_wp2_with (fail)
    all_goals
      have hbf := below7 HB3.out N4.out.1 rrN (.int .i64 0) (.int .i64 0) (.int .i64 0) rrN rrN rrN;have htf := qM (W1 := (w2.alloc (.cells (hdC (.slice An nm.length cn) kd cl tl sz) 123))) (v0 := rrN) (v1 := .int .i64 0) (v2 := .int .i64 0) (v3 := .int .i64 0) (v4 := rrN) (v5 := rrN) (v6 := rrN) B43.out;generalize (((((((((w2.alloc (.cells (hdC (.slice An nm.length cn) kd cl tl sz) 123))).setCell ⟨b4, 0, none⟩ rrN).setCell ⟨b4, 1, none⟩ (.int .i64 0)).setCell ⟨b4, 2, none⟩ (.int .i64 0)).setCell ⟨b4, 3, none⟩ (.int .i64 0)).setCell ⟨b4, 4, none⟩ rrN).setCell ⟨b4, 5, none⟩ rrN).setCell ⟨b4, 6, none⟩ rrN) = WF at hbf htf ⊢;clear z0 z1 z2 z3 z4 z5 z6 f0 f1 f2 f3 f4 f5 f6;have HBF := ak hbf;obtain ⟨z0, z1, z2, z3, z4, z5, z6, _⟩ := cells7 htf;clear hbf htf;refine bodyPost_ret (v := .tuple #[.agg (rrC rrN 0 0 0 rrN rrN rrN), .int .i64 (-1)]) (by simp [results, Try.results33, go_sem, *]) rfl ?_;exact ⟨_, _, _, _, rfl, 0, RrPost.nil HBF.out⟩
  have ha1 : ¬ a < 0 := fun h => ha (.inl h)
  have ha2 : cl = 1 := by omega
  subst ha2;obtain ⟨W3, hW3⟩ : ∃ W, W = w2.alloc (.cells (hdC (.slice An nm.length cn) kd 1 tl sz) 123) := ⟨_, rfl⟩;obtain ⟨b6, hb6⟩ : ∃ b, b = w2.heap.size := ⟨_, rfl⟩;have B6 := ak (show W3.heap[b6]? = some (.cells (hdC (.slice An nm.length cn) kd 1 tl sz) 123 (0, 0)) by rw [hW3, hb6]; exact heap_alloc_new w2 _);have zN := ak (show Below w2.heap.size w2 W3 by rw [hW3]; exact below_alloc (Below.refl _ _) _);have N6 := ak (show b4 < b6 ∧ b6 < W3.heap.size ∧ w.heap.size ≤ b4 by have := N42.out; have := N4.out; rw [hW3, al_size]; omega);replace B4 := ak (blk_below B4.out zN.out);replace SN := ak (show Kd.S (Kd.slice 5 (Kd.int .u8)) 25 W3 w.heap.size (fun k => b4 < k ∧ k < b6) (.slice An nm.length cn) nm by rw [hb6]; exact Kd.S_below SN.out zN.out);replace HB := b2s HB.out zN.out;have hhx := H.out;rw [if_neg ha1, if_pos rfl] at hhx;obtain ⟨⟨dn, dty, dtl, dad, dto, dtx, dnu, dok⟩, hd, h2⟩ := Option.bind_eq_some_iff.1 hhx;have HD := ak hd;have H2 := ak h2;clear hhx hd h2 H zN N4 N42;go_wp2_with (fail);rw [← hW3];try rw [← hb6]
  clear hW3 hb6;refine (qm.calls k kd A0 c0 l0 a sz dn dty dtl dad dto dtx dnu dok W3 (Kd.C_below HR.out HB.out) HC.out HD.out).mono ?_;rintro e w4 ⟨u0, u4, u5, u6, rfl, s0, s4, s5, s6, hb⟩;obtain ⟨C0, g0, rfl⟩ := Kd.S_slice s0;obtain ⟨C4, g4, rfl⟩ := Kd.S_slice s4;obtain ⟨C5, g5, rfl⟩ := Kd.R_slice s5;obtain ⟨C6, g6, rfl⟩ := Kd.R_slice s6;have S4 := ak (show Kd.S (Kd.slice 5 (Kd.int .u8)) 25 w4 w.heap.size (fun k => (b6 < k ∧ k < w4.heap.size) ∧ some k ≠ (Value.slice C5 dtx.length g5).ownBlock) (.slice C4 dto.length g4) dto from Kd.S_mono (Kd.S_lower (Kd.S_bound s4) (by have := N6.out; omega)) (fun k hk => ⟨⟨by have := hk.2.1; have := N6.out; omega, hk.2.2.1⟩, hk.1.2⟩));have S5 := ak (show Kd.R (Kd.int .u8) 5 w4 w.heap.size (fun k => b6 < k ∧ k < w4.heap.size) (.slice C5 dtx.length g5) dtx from Kd.R_mono (Kd.R_lower (Kd.R_bound s5) (by have := N6.out; omega)) (fun k hk => ⟨by have := hk.2.1; have := N6.out; omega, hk.2.2.1⟩));have S6 := ak (show Kd.R (Kd.int .i64) 3 w4 w.heap.size (fun k => b6 < k ∧ k < w4.heap.size) (.slice C6 dnu.length g6) dnu from Kd.R_mono (Kd.R_lower (Kd.R_bound s6) (by have := N6.out; omega)) (fun k hk => ⟨by have := hk.2.1; have := N6.out; omega, hk.2.2.1⟩));replace SN := ak (Kd.S_below SN.out hb);replace B4 := ak (blk_below B4.out hb);replace B6 := ak (blk_below B6.out hb);replace HB := b2s HB.out hb;have N8 := ak (show b6 < w4.heap.size by have := hb.size; have := N6.out; omega);clear s0 s4 s5 s6 hb HD;go_upto_region 5 with (fail)
  obtain ⟨W5, hW5⟩ : ∃ W, W = w4.alloc (.cells (rrC (.slice C0 dn.length g0) dty dtl dad (.slice C4 dto.length g4) (.slice C5 dtx.length g5) (.slice C6 dnu.length g6)) 33) := ⟨_, rfl⟩;obtain ⟨b8, hb8⟩ : ∃ b, b = w4.heap.size := ⟨_, rfl⟩;have B8 := ak (show W5.heap[b8]? = some (.cells (rrC (.slice C0 dn.length g0) dty dtl dad (.slice C4 dto.length g4) (.slice C5 dtx.length g5) (.slice C6 dnu.length g6)) 33 (0, 0)) by rw [hW5, hb8]; exact heap_alloc_new w4 _);have Qi := ak (show Below w4.heap.size w4 W5 by rw [hW5]; exact below_alloc (Below.refl _ _) _);replace N8 := ak (show b6 < b8 from by rw [hb8]; exact N8.out);replace S4 := ak (show Kd.S (Kd.slice 5 (Kd.int .u8)) 25 W5 w.heap.size (fun k => (b6 < k ∧ k < b8) ∧ some k ≠ (Value.slice C5 dtx.length g5).ownBlock) (.slice C4 dto.length g4) dto by rw [hb8]; exact Kd.S_below S4.out Qi.out);replace S5 := ak (show Kd.R (Kd.int .u8) 5 W5 w.heap.size (fun k => b6 < k ∧ k < b8) (.slice C5 dtx.length g5) dtx by rw [hb8]; exact Kd.R_below S5.out Qi.out);replace S6 := ak (show Kd.R (Kd.int .i64) 3 W5 w.heap.size (fun k => b6 < k ∧ k < b8) (.slice C6 dnu.length g6) dnu by rw [hb8]; exact Kd.R_below S6.out Qi.out);replace SN := ak (Kd.S_below SN.out Qi.out);replace B4 := ak (blk_below B4.out Qi.out);replace B6 := ak (blk_below B6.out Qi.out);replace HB := b2s HB.out Qi.out;rw [← hW5, ← hb8];clear hW5 hb8 Qi;go_cut [9] (fun v9 wx => v9 = .bool dok ∧ Aside0 (wx.heap[b8]? = some (.cells (rrC (.slice An nm.length cn) dty tl dad (.slice C4 dto.length g4) (.slice C5 dtx.length g5) (.slice C6 dnu.length g6)) 33 (0, 0))) ∧ Aside0 (wx.heap[b4]? = some (.cells (rrC rrN 0 0 0 rrN rrN rrN) 33 (0, 0))) ∧ Aside0 (wx.heap[b6]? = some (.cells (hdC (.slice An nm.length cn) kd 1 tl sz) 123 (0, 0))) ∧ Aside0 (Kd.S (Kd.slice 5 (Kd.int .u8)) 25 wx w.heap.size (fun k => b4 < k ∧ k < b6) (.slice An nm.length cn) nm) ∧ Aside0 (Kd.S (Kd.slice 5 (Kd.int .u8)) 25 wx w.heap.size (fun k => (b6 < k ∧ k < b8) ∧ some k ≠ (Value.slice C5 dtx.length g5).ownBlock) (.slice C4 dto.length g4) dto) ∧ Aside0 (Kd.R (Kd.int .u8) 5 wx w.heap.size (fun k => b6 < k ∧ k < b8) (.slice C5 dtx.length g5) dtx) ∧ Aside0 (Kd.R (Kd.int .i64) 3 wx w.heap.size (fun k => b6 < k ∧ k < b8) (.slice C6 dnu.length g6) dnu) ∧ Aside0 (Below w.heap.size w wx))
  case first =>
    have q0 := (blk_cell B6.out 0).trans rfl;have q3 := (blk_cell B6.out 3).trans rfl;have y0 := (blk_cell B8.out 0).trans rfl;have y2 := (blk_cell B8.out 2).trans rfl;have f0 := blk_frozen B8.out 0;have f2 := blk_frozen B8.out 2;have n68 : ¬ b6 = b8 := by have := N8.out; omega
    have n86 : ¬ b8 = b6 := by have := N8.out; omega
    go_region_law (fail)
    all_goals
      go_wp2_with (fail);go_meet
      have h8 : w.heap.size ≤ b8 := by have := N8.out; have := N6.out; omega
      have qkV : ∀ k, (b4 < k ∧ k < b6) → k ≠ b8 := fun k hk => by have := N8.out; omega
      exact ⟨rfl, ⟨blk_put (cs' := rrC (.slice An nm.length cn) dty tl dad (.slice C4 dto.length g4) (.slice C5 dtx.length g5) (.slice C6 dnu.length g6)) (blk_put (cs' := rrC (.slice An nm.length cn) dty dtl dad (.slice C4 dto.length g4) (.slice C5 dtx.length g5) (.slice C6 dnu.length g6)) B8.out 0 _ rfl) 2 _ rfl⟩,
        ⟨blk_far (blk_far B4.out (by have := N6.out; have := N8.out; show b4 ≠ b8; omega) _) (by have := N6.out; have := N8.out; show b4 ≠ b8; omega) _⟩, ⟨blk_far (blk_far B6.out (by have := N8.out; show b6 ≠ b8; omega) _) (by have := N8.out; show b6 ≠ b8; omega) _⟩,
        ⟨Kd.S_far (Kd.S_far SN.out qkV _) qkV _⟩, ⟨Kd.S_far (Kd.S_far S4.out (fun k hk => by have := hk.1.2; show k ≠ b8; omega) _) (fun k hk => by have := hk.1.2; show k ≠ b8; omega) _⟩,
        ⟨Kd.R_far (Kd.R_far S5.out (fun k hk => by have := hk.2; show k ≠ b8; omega) _) (fun k hk => by have := hk.2; show k ≠ b8; omega) _⟩, ⟨Kd.R_far (Kd.R_far S6.out (fun k hk => by have := hk.2; show k ≠ b8; omega) _) (fun k hk => by have := hk.2; show k ≠ b8; omega) _⟩, ⟨below_drew1 (Below.setCell (p := ⟨b8, 2, none⟩) (Below.setCell (p := ⟨b8, 0, none⟩) HB.out h8 _) h8 _)⟩⟩
  case rest =>
    obtain ⟨rfl, B8, B4, B6, SN, S4, S5, S6, HB⟩ := hcut;have hle : w.heap.size ≤ b4 := N6.out.2.2;cases dok with
    | false =>
      have hR : R = rrZ := by
        have hh := H2.out;exact (Option.some.inj hh).symm
      subst hR;obtain ⟨z0, z1, z2, z3, z4, z5, z6, f0, f1, f2, f3, f4, f5, f6⟩ := cells7 B4.out;clear H2;go_wp2_with (fail)
      all_goals
        have hbf := below7 HB.out hle rrN (.int .i64 0) (.int .i64 0) (.int .i64 0) rrN rrN rrN;have htf := qM (W1 := wc) (v0 := rrN) (v1 := .int .i64 0) (v2 := .int .i64 0) (v3 := .int .i64 0) (v4 := rrN) (v5 := rrN) (v6 := rrN) B4.out;generalize ((((((((wc).setCell ⟨b4, 0, none⟩ rrN).setCell ⟨b4, 1, none⟩ (.int .i64 0)).setCell ⟨b4, 2, none⟩ (.int .i64 0)).setCell ⟨b4, 3, none⟩ (.int .i64 0)).setCell ⟨b4, 4, none⟩ rrN).setCell ⟨b4, 5, none⟩ rrN).setCell ⟨b4, 6, none⟩ rrN) = WF at hbf htf ⊢;clear z0 z1 z2 z3 z4 z5 z6 f0 f1 f2 f3 f4 f5 f6;have HBF := ak hbf;obtain ⟨z0, z1, z2, z3, z4, z5, z6, _⟩ := cells7 htf;clear hbf htf;refine bodyPost_ret (v := .tuple #[.agg (rrC rrN 0 0 0 rrN rrN rrN), .int .i64 (-1)]) (by simp [results, Try.results33, go_sem, *]) rfl ?_;exact ⟨_, _, _, _, rfl, 0, RrPost.nil HBF.out⟩
    | true =>
      have hh := H2.out;rw [if_pos rfl] at hh;obtain ⟨ok, hko, h3⟩ := Option.bind_eq_some_iff.1 hh;have HOK := ak hko;have H3 := ak h3;clear hh hko h3 H2;obtain ⟨y0, y1, y2, y3, y4, y5, y6, _⟩ := cells7 B8.out;go_wp2_with (fail);refine (qk.calls k An cn nm dty tl dad C4 g4 dto C5 g5 dtx C6 g6 dnu ok wc (Kd.S_reads' SN.out).2.2 (Kd.S_reads' SN.out).2.1 (Kd.S_reads' S4.out).2.2 (Kd.S_reads' S4.out).2.1 (Kd.R_reads' S5.out).2.2 (Kd.R_reads' S5.out).2.1 (Kd.R_reads' S6.out).2.2 (Kd.R_reads' S6.out).2.1 HOK.out).mono ?_;rintro e w6 ⟨rfl, hb⟩;replace B8 := ak (blk_below B8.out hb);replace B4 := ak (blk_below B4.out hb);replace B6 := ak (blk_below B6.out hb);replace SN := ak (Kd.S_below SN.out hb);replace S4 := ak (Kd.S_below S4.out hb);replace S5 := ak (Kd.R_below S5.out hb);replace S6 := ak (Kd.R_below S6.out hb);replace HB := b2s HB.out hb;clear hb HOK y0 y1 y2 y3 y4 y5 y6;cases ok with
      | false =>
        have hR : R = rrZ := by
          have hh := H3.out;exact (Option.some.inj hh).symm
        subst hR;obtain ⟨z0, z1, z2, z3, z4, z5, z6, f0, f1, f2, f3, f4, f5, f6⟩ := cells7 B4.out;clear H3;go_wp2_with (fail)
        all_goals
          have hbf := below7 HB.out hle rrN (.int .i64 0) (.int .i64 0) (.int .i64 0) rrN rrN rrN;have htf := qM (W1 := w6) (v0 := rrN) (v1 := .int .i64 0) (v2 := .int .i64 0) (v3 := .int .i64 0) (v4 := rrN) (v5 := rrN) (v6 := rrN) B4.out;generalize ((((((((w6).setCell ⟨b4, 0, none⟩ rrN).setCell ⟨b4, 1, none⟩ (.int .i64 0)).setCell ⟨b4, 2, none⟩ (.int .i64 0)).setCell ⟨b4, 3, none⟩ (.int .i64 0)).setCell ⟨b4, 4, none⟩ rrN).setCell ⟨b4, 5, none⟩ rrN).setCell ⟨b4, 6, none⟩ rrN) = WF at hbf htf ⊢;clear z0 z1 z2 z3 z4 z5 z6 f0 f1 f2 f3 f4 f5 f6;have HBF := ak hbf;obtain ⟨z0, z1, z2, z3, z4, z5, z6, _⟩ := cells7 htf;clear hbf htf;refine bodyPost_ret (v := .tuple #[.agg (rrC rrN 0 0 0 rrN rrN rrN), .int .i64 (-1)]) (by simp [results, Try.results33, go_sem, *]) rfl ?_;exact ⟨_, _, _, _, rfl, 0, RrPost.nil HBF.out⟩
      | true =>
        have hR : R = (nm, dty, tl, dad, dto, dtx, dnu, wrap64 (a + sz)) := by
          have hh := H3.out;rw [if_pos rfl] at hh;exact (Option.some.inj hh).symm
        subst hR;obtain ⟨z0, z1, z2, z3, z4, z5, z6, f0, f1, f2, f3, f4, f5, f6⟩ := cells7 B4.out;obtain ⟨y0, y1, y2, y3, y4, y5, y6, _⟩ := cells7 B8.out;have q4 := (blk_cell B6.out 4).trans rfl;have n84 : ¬ b8 = b4 := by have := N8.out; have := N6.out; omega
        have n48 : ¬ b4 = b8 := by have := N8.out; have := N6.out; omega
        have n64 : ¬ b6 = b4 := by have := N6.out; omega
        have n46 : ¬ b4 = b6 := by have := N6.out; omega
        have qIU : IntKind.i64.wrap (a + sz) = wrap64 (a + sz) := i64_w _;clear H3;go_wp2_with (fail);go_region_law (fail)
        all_goals
          go_wp2_with (fail);have hbf := below7 HB.out hle (.slice An nm.length cn) (.int .i64 dty) (.int .i64 tl) (.int .i64 dad) (.slice C4 dto.length g4) (.slice C5 dtx.length g5) (.slice C6 dnu.length g6);have htf := qM (W1 := w6) (v0 := .slice An nm.length cn) (v1 := .int .i64 dty) (v2 := .int .i64 tl) (v3 := .int .i64 dad) (v4 := .slice C4 dto.length g4) (v5 := .slice C5 dtx.length g5) (v6 := .slice C6 dnu.length g6) B4.out;have hfr := qdx (W := w6) (b := b4) (.slice An nm.length cn) (.int .i64 dty) (.int .i64 tl) (.int .i64 dad) (.slice C4 dto.length g4) (.slice C5 dtx.length g5) (.slice C6 dnu.length g6);generalize (((((((w6.setCell ⟨b4, 0, none⟩ (.slice An nm.length cn)).setCell ⟨b4, 1, none⟩ (.int .i64 dty)).setCell ⟨b4, 2, none⟩ (.int .i64 tl)).setCell ⟨b4, 3, none⟩ (.int .i64 dad)).setCell ⟨b4, 4, none⟩ (.slice C4 dto.length g4)).setCell ⟨b4, 5, none⟩ (.slice C5 dtx.length g5)).setCell ⟨b4, 6, none⟩ (.slice C6 dnu.length g6)) = WF at hbf htf hfr ⊢;clear z0 z1 z2 z3 z4 z5 z6 f0 f1 f2 f3 f4 f5 f6 y0 y1 y2 y3 y4 y5 y6 q4 n84 n48 n64 n46;have HBF := ak hbf;have HFR := ak hfr;obtain ⟨z0, z1, z2, z3, z4, z5, z6, _⟩ := cells7 htf;clear hbf htf hfr;refine bodyPost_ret (v := .tuple #[.agg (rrC (.slice An nm.length cn) dty tl dad (.slice C4 dto.length g4) (.slice C5 dtx.length g5) (.slice C6 dnu.length g6)), .int .i64 (wrap64 (a + sz))]) (by simp [results, Try.results33, go_sem, *]) rfl ?_
          exact ⟨_, _, _, _, rfl, b6 + 1,
            ⟨Kd.S_mono (Kd.S_drew (Kd.S_step SN.out (fun k hk _ => HFR.out k (by have := N6.out; omega)))) (fun k hk => by omega),
             Kd.S_mono (Kd.S_drew (Kd.S_step S4.out (fun k hk _ => HFR.out k (by have := N6.out; omega)))) (fun k hk => ⟨by omega, hk.2⟩),
             Kd.R_mono (Kd.R_drew (Kd.R_step S5.out (fun k hk _ => HFR.out k (by have := N6.out; omega)))) (fun k hk => by omega),
             Kd.R_mono (Kd.R_drew (Kd.R_step S6.out (fun k hk _ => HFR.out k (by have := N6.out; omega)))) (fun k hk => by omega),
             below_drew1 HBF.out⟩⟩

/-! ### qR: function 158 -/
def qR.f (l0 : List Int) (a1 : Int) : Option (Int × Int) := if a1 < 0 then (some (0, (-1))) else (if a1 > (wrap64 ((l0.length : Int) - 4)) then (some (0, (-1))) else (if 0 ≤ a1 then (if a1 < (l0.length : Int) then (if 0 ≤ (wrap64 (a1 + 1)) then (if (wrap64 (a1 + 1)) < (l0.length : Int) then (if 0 ≤ (wrap64 (a1 + 2)) then (if (wrap64 (a1 + 2)) < (l0.length : Int) then (if 0 ≤ (wrap64 (a1 + 3)) then (if (wrap64 (a1 + 3)) < (l0.length : Int) then (some (wrap64 ((wrap64 ((wrap64 ((wrap64 ((wrap64 (rd l0 a1)) * 16777216)) + (wrap64 ((wrap64 (rd l0 (wrap64 (a1 + 1)))) * 65536)))) + (wrap64 ((wrap64 (rd l0 (wrap64 (a1 + 2)))) * 256)))) + (wrap64 (rd l0 (wrap64 (a1 + 3))))), wrap64 (a1 + 4))) else (none)) else (none)) else (none)) else (none)) else (none)) else (none)) else (none)) else (none)))
set_option maxHeartbeats 8000000 in
set_option maxRecDepth 100000 in
theorem qR.calls (A0 : Option Addr) (c0 : Nat) (l0 : List Int) (a1 : Int) (r1 : Int) (r2 : Int) (w : World) (hr0 : Kd.C (Kd.int .u8) w A0 l0.length l0) (hc0 : l0.length ≤ c0) (h : qR.f l0 a1 = some (r1, r2)) :
  Calls Try.prog 158 #[.slice A0 l0.length c0, .int .i64 a1] w fun e w' => e = .returned (.tuple #[.int .i64 r1, .int .i64 r2]) ∧ Drawn0 w w' := by
 have HR0 := ak hr0;have HC0 := ak hc0;clear hr0 hc0;have H : (if a1 < 0 then (some (0, (-1))) else (if a1 > (wrap64 ((l0.length : Int) - 4)) then (some (0, (-1))) else (if 0 ≤ a1 then (if a1 < (l0.length : Int) then (if 0 ≤ (wrap64 (a1 + 1)) then (if (wrap64 (a1 + 1)) < (l0.length : Int) then (if 0 ≤ (wrap64 (a1 + 2)) then (if (wrap64 (a1 + 2)) < (l0.length : Int) then (if 0 ≤ (wrap64 (a1 + 3)) then (if (wrap64 (a1 + 3)) < (l0.length : Int) then (some (wrap64 ((wrap64 ((wrap64 ((wrap64 ((wrap64 (rd l0 a1)) * 16777216)) + (wrap64 ((wrap64 (rd l0 (wrap64 (a1 + 1)))) * 65536)))) + (wrap64 ((wrap64 (rd l0 (wrap64 (a1 + 2)))) * 256)))) + (wrap64 (rd l0 (wrap64 (a1 + 3))))), wrap64 (a1 + 4))) else (none)) else (none)) else (none)) else (none)) else (none)) else (none)) else (none)) else (none)))) = some (r1, r2) := h;clear h;replace H := ip H;obtain ⟨c3b0, H⟩ | ⟨c3b0, H⟩ := H
 ·simp only [Option.some.injEq, Prod.mk.injEq] at H;obtain ⟨rfl, rfl⟩ := H;go_enter Try.func158, Try.ntmps158;go_wp2;repeat (go_quiet (fail); try go_wp2)
  go_ret2;exact ⟨o2, od⟩
 ·replace H := ig H;obtain ⟨c4b0, H⟩ | ⟨c4b0, H⟩ := H
  ·simp only [Option.some.injEq, Prod.mk.injEq] at H;obtain ⟨rfl, rfl⟩ := H;go_enter Try.func158, Try.ntmps158;go_wp2;repeat (go_quiet (fail); try go_wp2)
   go_ret2;exact ⟨o2, od⟩
  ·replace H := ipN H;obtain ⟨c5b0, H⟩ := H;replace H := ipN H;obtain ⟨c6b0, H⟩ := H;obtain ⟨ji7, Jf⟩ : ∃ j_ : Int, (wrap64 (a1 + 1)) = j_ := ⟨_, rfl⟩;(first | rw [Jf] at H | simp only [Jf] at H)
   have hji7w : (IntKind.i64.wrap (a1 + 1)) = ji7 := (i64_w _).trans Jf;replace H := ipN H;obtain ⟨c8b0, H⟩ := H;replace H := ipN H;obtain ⟨c9b0, H⟩ := H;obtain ⟨qkT, YR⟩ : ∃ j_ : Int, (wrap64 (a1 + 2)) = j_ := ⟨_, rfl⟩;(first | rw [YR] at H | simp only [YR] at H)
   have hji10w : (IntKind.i64.wrap (a1 + 2)) = qkT := (i64_w _).trans YR;replace H := ipN H;obtain ⟨c11b0, H⟩ := H;replace H := ipN H;obtain ⟨c12b0, H⟩ := H;obtain ⟨qkS, YQ⟩ : ∃ j_ : Int, (wrap64 (a1 + 3)) = j_ := ⟨_, rfl⟩;(first | rw [YQ] at H | simp only [YQ] at H)
   have hji13w : (IntKind.i64.wrap (a1 + 3)) = qkS := (i64_w _).trans YQ;replace H := ipN H;obtain ⟨c14b0, H⟩ := H;replace H := ipN H;obtain ⟨c15b0, H⟩ := H;simp only [Option.some.injEq, Prod.mk.injEq] at H;obtain ⟨rfl, rfl⟩ := H;obtain ⟨zk, rfl, jG, zE, zD⟩ := el0_int HR0 a1;obtain ⟨zv, yS, yQ⟩ := el20_int HR0 (ji7);obtain ⟨jL, zM, zL⟩ := el20_int HR0 (qkT);obtain ⟨Js, qcZ, qcY⟩ := el20_int HR0 (qkS);go_enter Try.func158, Try.ntmps158;go_wp2;repeat (go_quiet (fail); try go_wp2)
   go_ret2;exact ⟨by first | rfl | (simp; done) | (simp only [← Jf, ← YR, ← YQ] <;> (first | rfl | simp)) | (simp [*]; done), od⟩

/-! ### qr: function 157 -/
mutual
def qr.j0 : Nat → List Int → Bool → Option (Bool)
 | 0, _, _ => none
 | k + 1, x0, x11 => if x11 = true then (some false) else (qr.l0 k x0 0)
def qr.l0 : Nat → List Int → Int → Option (Bool)
 | 0, _, _ => none
 | k + 1, x0, x3 => if x3 < (x0.length : Int) then (if 0 ≤ x3 then (if (rd x0 x3) ≥ 97 then (if ((rd x0 x3) ≤ 122) then (qr.l0 k x0 (wrap64 (x3 + 1))) else (if (rd x0 x3) ≥ 48 then (if ((rd x0 x3) ≤ 57) then (qr.l0 k x0 (wrap64 (x3 + 1))) else (if (rd x0 x3) = 45 then (qr.l0 k x0 (wrap64 (x3 + 1))) else (some false))) else (if (rd x0 x3) = 45 then (qr.l0 k x0 (wrap64 (x3 + 1))) else (some false)))) else (if (rd x0 x3) ≥ 48 then (if ((rd x0 x3) ≤ 57) then (qr.l0 k x0 (wrap64 (x3 + 1))) else (if (rd x0 x3) = 45 then (qr.l0 k x0 (wrap64 (x3 + 1))) else (some false))) else (if (rd x0 x3) = 45 then (qr.l0 k x0 (wrap64 (x3 + 1))) else (some false)))) else (none)) else (some true)
end
def qr.f (k : Nat) (l0 : List Int) : Option (Bool) := if (l0.length : Int) < 1 then (qr.j0 k l0 true) else (qr.j0 k l0 (decide ((l0.length : Int) > 15)))
set_option maxHeartbeats 8000000 in
set_option maxRecDepth 100000 in
theorem qr.calls (k : Nat) (A0 : Option Addr) (c0 : Nat) (l0 : List Int) (r : Bool) (w : World) (hr0 : Kd.C (Kd.int .u8) w A0 l0.length l0) (hc0 : l0.length ≤ c0) (h : qr.f k l0 = some r) :
  Calls Try.prog 157 #[.slice A0 l0.length c0] w fun e w' => e = .returned (.bool r) ∧ Drawn0 w w' := by
 have HR0 := ak hr0;have HC0 := ak hc0;clear hr0 hc0;have H : (if (l0.length : Int) < 1 then (qr.j0 k l0 true) else (qr.j0 k l0 (decide ((l0.length : Int) > 15)))) = some r := h;clear h;have HC2 := ak H;clear H;go_enter Try.func157, Try.ntmps157;go_upto_region 1 with (fail)
 go_cut [11] (fun v11 wc => ∃ (kq : Nat) (qcW : Bool), v11 = .bool qcW ∧ Aside0 (qr.j0 kq l0 qcW = some r) ∧ Aside0 (kq ≤ k) ∧ Drawn0 w wc)
 case first =>
  have H := HC2.out;clear HC2;replace H := ip H;obtain ⟨c3b0, H⟩ | ⟨c3b0, H⟩ := H
  ·have c3b1 : decide (l0.length < 1) = true := decide_eq_true (by have := of_decide_eq_true c3b0; omega);(first | rw [c3b0] | (simp only [i64_w, i32_w]; rw [c3b0]) | skip)
   have H' := ak H;clear H;go_wp2;go_meet
   case rel => exact ⟨_, (true), o2, H', ⟨o3⟩, od⟩
  ·have c3b1 : decide (l0.length < 1) = false := decide_eq_false (by have := of_decide_eq_false c3b0; omega);(first | rw [c3b0] | (simp only [i64_w, i32_w]; rw [c3b0]) | skip)
   have H' := ak H;clear H;go_wp2;go_meet
   case rel => exact ⟨_, (decide ((l0.length : Int) > 15)), o2, H', ⟨o3⟩, od⟩
 case rest =>
  clear HC2;obtain ⟨kq, qcW, rfl, HA, HJ1, ⟨mc1, rfl⟩⟩ := hcut;cases kq with
  | zero => exact absurd HA.out (by simp [qr.j0])
  | succ kj1 =>
   have H := HA.out;clear HA;simp only [qr.j0] at H;replace H := ib H;obtain ⟨rfl, H⟩ | ⟨rfl, H⟩ := H
   ·obtain rfl := Option.some.inj H;go_wp2;go_ret;exact ⟨o2, od⟩
   ·have H' := ak H;clear H;go_wp2;go_loopg [3] kj1 (fun kq v3 w' => ∃ (jm : Int), v3 = .int .i64 jm ∧ Aside0 (qr.l0 kq l0 jm = some r) ∧ Aside0 (kq ≤ kj1) ∧ Drawn0 w w')
    case atStart => exact ⟨(0), o2, H', ⟨Nat.le_refl _⟩, od⟩
    case round =>
     clear H';obtain ⟨jm, rfl, HA, HK2, ⟨m2, rfl⟩⟩ := hrel;cases gk with
     | zero => exact absurd HA.out (by simp [qr.l0])
     | succ k2 =>
      have H := HA.out;clear HA;simp only [qr.l0] at H;replace H := ip H;obtain ⟨c5b0, H⟩ | ⟨c5b0, H⟩ := H
      ·replace H := ipN H;obtain ⟨c6b0, H⟩ := H;replace H := ih H;obtain ⟨c7b0, H⟩ | ⟨c7b0, H⟩ := H
       ·replace H := ip H;obtain ⟨c8b0, H⟩ | ⟨c8b0, H⟩ := H
        ·have H' := ak H;clear H;obtain ⟨zk, rfl, jG, zE, zD⟩ := el0_int HR0 jm;obtain ⟨zv, yS, yQ⟩ := el20_int HR0 jm;go_wp2;go_roundg k2;case measure => have := HJ1.out; have := HK2.out; omega
         case rel => exact ⟨(wrap64 (jm + 1)), o2, H', ⟨by have := HJ1.out; have := HK2.out; omega⟩, od⟩
        ·replace H := ih H;obtain ⟨c9b0, H⟩ | ⟨c9b0, H⟩ := H
         ·replace H := ip H;obtain ⟨c10b0, H⟩ | ⟨c10b0, H⟩ := H
          ·have H' := ak H;clear H;obtain ⟨zk, rfl, jG, zE, zD⟩ := el0_int HR0 jm;obtain ⟨zv, yS, yQ⟩ := el20_int HR0 jm;obtain ⟨jL, zM, zL⟩ := el20_int HR0 jm;obtain ⟨Js, qcZ, qcY⟩ := el20_int HR0 jm;go_wp2;go_roundg k2;case measure => have := HJ1.out; have := HK2.out; omega
           case rel => exact ⟨(wrap64 (jm + 1)), o2, H', ⟨by have := HJ1.out; have := HK2.out; omega⟩, od⟩
          ·replace H := ie H;obtain ⟨c11b0, c11b1, H⟩ | ⟨c11b0, c11b1, H⟩ := H
           ·have H' := ak H;clear H;obtain ⟨zk, rfl, jG, zE, zD⟩ := el0_int HR0 jm;obtain ⟨zv, yS, yQ⟩ := el20_int HR0 jm;obtain ⟨jL, zM, zL⟩ := el20_int HR0 jm;obtain ⟨Js, qcZ, qcY⟩ := el20_int HR0 jm;obtain ⟨jc, ze, zd⟩ := el20_int HR0 jm;go_wp2;go_roundg k2;case measure => have := HJ1.out; have := HK2.out; omega
            case rel => exact ⟨(wrap64 (jm + 1)), o2, H', ⟨by have := HJ1.out; have := HK2.out; omega⟩, od⟩
           ·obtain rfl := Option.some.inj H;obtain ⟨zk, rfl, jG, zE, zD⟩ := el0_int HR0 jm;obtain ⟨zv, yS, yQ⟩ := el20_int HR0 jm;obtain ⟨jL, zM, zL⟩ := el20_int HR0 jm;obtain ⟨Js, qcZ, qcY⟩ := el20_int HR0 jm;obtain ⟨jc, ze, zd⟩ := el20_int HR0 jm;go_wp2;go_ret;exact ⟨o2, od⟩
         ·replace H := ie H;obtain ⟨c12b0, c12b1, H⟩ | ⟨c12b0, c12b1, H⟩ := H
          ·have H' := ak H;clear H;obtain ⟨zk, rfl, jG, zE, zD⟩ := el0_int HR0 jm;obtain ⟨zv, yS, yQ⟩ := el20_int HR0 jm;obtain ⟨jL, zM, zL⟩ := el20_int HR0 jm;obtain ⟨zr, yL, yK⟩ := el20_int HR0 jm;go_wp2;go_roundg k2;case measure => have := HJ1.out; have := HK2.out; omega
           case rel => exact ⟨(wrap64 (jm + 1)), o2, H', ⟨by have := HJ1.out; have := HK2.out; omega⟩, od⟩
          ·obtain rfl := Option.some.inj H;obtain ⟨zk, rfl, jG, zE, zD⟩ := el0_int HR0 jm;obtain ⟨zv, yS, yQ⟩ := el20_int HR0 jm;obtain ⟨jL, zM, zL⟩ := el20_int HR0 jm;obtain ⟨zr, yL, yK⟩ := el20_int HR0 jm;go_wp2;go_ret;exact ⟨o2, od⟩
       ·replace H := ih H;obtain ⟨c13b0, H⟩ | ⟨c13b0, H⟩ := H
        ·replace H := ip H;obtain ⟨c14b0, H⟩ | ⟨c14b0, H⟩ := H
         ·have H' := ak H;clear H;obtain ⟨zk, rfl, jG, zE, zD⟩ := el0_int HR0 jm;obtain ⟨jK, zm, zl⟩ := el20_int HR0 jm;obtain ⟨yq, yR, yP⟩ := el20_int HR0 jm;go_wp2;go_roundg k2;case measure => have := HJ1.out; have := HK2.out; omega
          case rel => exact ⟨(wrap64 (jm + 1)), o2, H', ⟨by have := HJ1.out; have := HK2.out; omega⟩, od⟩
         ·replace H := ie H;obtain ⟨c15b0, c15b1, H⟩ | ⟨c15b0, c15b1, H⟩ := H
          ·have H' := ak H;clear H;obtain ⟨zk, rfl, jG, zE, zD⟩ := el0_int HR0 jm;obtain ⟨jK, zm, zl⟩ := el20_int HR0 jm;obtain ⟨yq, yR, yP⟩ := el20_int HR0 jm;obtain ⟨JV, Xf, Xe⟩ := el20_int HR0 jm;go_wp2;go_roundg k2;case measure => have := HJ1.out; have := HK2.out; omega
           case rel => exact ⟨(wrap64 (jm + 1)), o2, H', ⟨by have := HJ1.out; have := HK2.out; omega⟩, od⟩
          ·obtain rfl := Option.some.inj H;obtain ⟨zk, rfl, jG, zE, zD⟩ := el0_int HR0 jm;obtain ⟨jK, zm, zl⟩ := el20_int HR0 jm;obtain ⟨yq, yR, yP⟩ := el20_int HR0 jm;obtain ⟨JV, Xf, Xe⟩ := el20_int HR0 jm;go_wp2;go_ret;exact ⟨o2, od⟩
        ·replace H := ie H;obtain ⟨c16b0, c16b1, H⟩ | ⟨c16b0, c16b1, H⟩ := H
         ·have H' := ak H;clear H;obtain ⟨zk, rfl, jG, zE, zD⟩ := el0_int HR0 jm;obtain ⟨jK, zm, zl⟩ := el20_int HR0 jm;obtain ⟨qet, qmH, qmE⟩ := el20_int HR0 jm;go_wp2;go_roundg k2;case measure => have := HJ1.out; have := HK2.out; omega
          case rel => exact ⟨(wrap64 (jm + 1)), o2, H', ⟨by have := HJ1.out; have := HK2.out; omega⟩, od⟩
         ·obtain rfl := Option.some.inj H;obtain ⟨zk, rfl, jG, zE, zD⟩ := el0_int HR0 jm;obtain ⟨jK, zm, zl⟩ := el20_int HR0 jm;obtain ⟨qet, qmH, qmE⟩ := el20_int HR0 jm;go_wp2;go_ret;exact ⟨o2, od⟩
      ·obtain rfl := Option.some.inj H;go_wp2;go_ret;exact ⟨o2, od⟩

/-! ### qx: function 76 -/
def qx.l0 : Nat → Int → List (List Int) → Option (Bool)
 | 0, _, _ => none
 | k + 1, x3, jE => if x3 < (jE.length : Int) then (if 0 ≤ x3 then ((qr.f k (ja jE x3)).bind fun qE => (if qE = true then (qx.l0 k (wrap64 (x3 + 1)) jE) else (some false))) else (none)) else (some true)
def qx.f (k : Nat) (qo : List (List Int)) : Option (Bool) := if (qo.length : Int) > 6 then (some false) else (qx.l0 k 0 qo)
set_option maxHeartbeats 8000000 in
set_option maxRecDepth 100000 in
theorem qx.calls (k : Nat) (jV : Option Addr) (jU : Nat) (qo : List (List Int)) (r : Bool) (w : World) (za : Kd.C (Kd.slice 5 (Kd.int .u8)) w jV qo.length qo) (zj : qo.length ≤ jU) (h : qx.f k qo = some r) :
  Calls Try.prog 76 #[.agg #[.slice jV qo.length jU]] w fun e w' => e = .returned (.bool r) ∧ Below w.heap.size w w' := by
 have QD := Try.underlying31;have jz := ak za;have jI := ak zj;clear za zj;have HB := ak (Below.refl w.heap.size w);have H : (if (qo.length : Int) > 6 then (some false) else (qx.l0 k 0 qo)) = some r := h;clear h;replace H := ig H;obtain ⟨c2b0, H⟩ | ⟨c2b0, H⟩ := H
 ·have c2b1 : decide (6 < qo.length) = true := decide_eq_true (by have := of_decide_eq_true c2b0; omega);obtain rfl := Option.some.inj H;go_enter Try.func76, Try.ntmps76;go_wp2_with (((with_reducible refine gate_dst (N := 1) rfl ?_);refine bxd (N := 1) rfl HB ?_;clear HB;intro qb w3 hg HB qc qA hb;have jv := qA;clear hb hg;obtain ⟨JN, JM⟩ := cells1 qc.out));go_ret;exact ⟨o1, bs⟩
 ·have c2b1 : decide (6 < qo.length) = false := decide_eq_false (by have := of_decide_eq_false c2b0; omega);have H' := ak H;clear H;go_enter Try.func76, Try.ntmps76;go_wp2_with (((with_reducible refine gate_dst (N := 1) rfl ?_);refine bxd (N := 1) rfl HB ?_;clear HB;intro qb w5 hg HB qc qA hb;have jv := qA;clear hb hg;obtain ⟨Xv, Xn⟩ := cells1 qc.out));go_loopg [3] k (fun kq v3 w' => ∃ (zb : Int), v3 = .int .i64 zb ∧ Aside0 (qx.l0 kq zb qo = some r) ∧ Aside0 (kq ≤ k) ∧ Aside0 (w'.heap[qb]? = some (.cells #[(.slice jV qo.length jU)] 31 (0, 0))) ∧ Aside0 (Below w.heap.size w w'))
  case atStart => exact ⟨(0), o2, H', ⟨Nat.le_refl _⟩, ⟨bk qc.out⟩, ⟨bs⟩⟩
  case round =>
   clear H';(try clear c2b0)
   (try clear c2b1)
   (try clear Xv)
   (try clear Xn)
   obtain ⟨zb, rfl, HA, HK1, qc, HB⟩ := hrel;cases gk with
   | zero => exact absurd HA.out (by simp [qx.l0])
   | succ k1 =>
    have H := HA.out;clear HA;simp only [qx.l0] at H;replace H := ip H;obtain ⟨c7b0, H⟩ | ⟨c7b0, H⟩ := H
    ·replace H := ipN H;obtain ⟨c8b0, H⟩ := H;replace H := bnd H;obtain ⟨qE, A9, H⟩ := H;replace H := ib H;obtain ⟨rfl, H⟩ | ⟨rfl, H⟩ := H
     ·have H' := ak H;clear H;obtain ⟨qcP, qbs⟩ := cells1 qc.out;obtain ⟨Jk, XT, XH, rfl, zv, yi, yg, yS, yQ⟩ := el_L10 jz HB zb;go_wp2_with (((with_reducible refine gate_callee (f := 157) rfl ?_);refine glD 20 rfl rfl Try.func157 (qr.calls k1 _ _ (ja qo zb) true _ (cv yg HB) yi.out A9.out) (fun nd => ?_)));go_roundg k1;case measure => have := HK1.out; omega
      case rel => exact ⟨(wrap64 (zb + 1)), o2, H', ⟨by have := HK1.out; omega⟩, ⟨bk qc.out⟩, ⟨bs⟩⟩
     ·obtain rfl := Option.some.inj H;obtain ⟨qcO, qbr⟩ := cells1 qc.out;obtain ⟨Jk, XT, XH, rfl, zv, yi, yg, yS, yQ⟩ := el_L10 jz HB zb;go_wp2_with (((with_reducible refine gate_callee (f := 157) rfl ?_);refine glD 20 rfl rfl Try.func157 (qr.calls k1 _ _ (ja qo zb) false _ (cv yg HB) yi.out A9.out) (fun nd => ?_)));go_ret;exact ⟨o1, bs⟩
    ·obtain rfl := Option.some.inj H;obtain ⟨Qx, Qw⟩ := cells1 qc.out;go_wp2;go_ret;exact ⟨o1, bs⟩

/-! ### jt: function 161 -/
def jt.f (l0 : List Int) (a1 : Int) (a2 : Int) : Option (List Int × Int) := if a1 < 0 then (some (([] : List Int), (-1))) else (if a2 < 0 then (some (([] : List Int), (-1))) else (if a1 > (l0.length : Int) then (some (([] : List Int), (-1))) else (if a2 > (wrap64 ((l0.length : Int) - a1)) then (some (([] : List Int), (-1))) else ((some (([] : List Int) : List Int)).bind fun jl => (if 0 ≤ a1 then (if a1 ≤ (wrap64 (a1 + a2)) then (if (wrap64 (a1 + a2)) ≤ (l0.length : Int) then ((some ((l0.take ((wrap64 (a1 + a2)) : Int).toNat).drop (a1 : Int).toNat : List Int)).bind fun yk => (if jl.length + yk.length < 140737488355328 then (some ((jl ++ yk), wrap64 (a1 + a2))) else (none))) else (none)) else (none)) else (none))))))
set_option maxHeartbeats 8000000 in
set_option maxRecDepth 100000 in
theorem jt.calls (A0 : Option Addr) (c0 : Nat) (l0 : List Int) (a1 : Int) (a2 : Int) (r1 : List Int) (r2 : Int) (w : World) (hr0 : Kd.C (Kd.int .u8) w A0 l0.length l0) (hc0 : l0.length ≤ c0) (h : jt.f l0 a1 a2 = some (r1, r2)) :
  Calls Try.prog 161 #[.slice A0 l0.length c0, .int .i64 a1, .int .i64 a2] w fun e w' => ∃ v0_ : Value, e = .returned (.tuple #[v0_, .int .i64 r2]) ∧ Kd.R (Kd.int .u8) 5 w' w.heap.size (fun _ => True) v0_ r1 ∧ Below w.heap.size w w' := by
 have HR0 := ak hr0;have HC0 := ak hc0;clear hr0 hc0;have HB := ak (Below.refl w.heap.size w);have H : (if a1 < 0 then (some (([] : List Int), (-1))) else (if a2 < 0 then (some (([] : List Int), (-1))) else (if a1 > (l0.length : Int) then (some (([] : List Int), (-1))) else (if a2 > (wrap64 ((l0.length : Int) - a1)) then (some (([] : List Int), (-1))) else ((some (([] : List Int) : List Int)).bind fun jl => (if 0 ≤ a1 then (if a1 ≤ (wrap64 (a1 + a2)) then (if (wrap64 (a1 + a2)) ≤ (l0.length : Int) then ((some ((l0.take ((wrap64 (a1 + a2)) : Int).toNat).drop (a1 : Int).toNat : List Int)).bind fun yk => (if jl.length + yk.length < 140737488355328 then (some ((jl ++ yk), wrap64 (a1 + a2))) else (none))) else (none)) else (none)) else (none))))))) = some (r1, r2) := h;clear h;replace H := ip H;obtain ⟨c4b0, H⟩ | ⟨c4b0, H⟩ := H
 ·simp only [Option.some.injEq, Prod.mk.injEq] at H;obtain ⟨rfl, rfl⟩ := H;go_enter Try.func161, Try.ntmps161;go_wp2;go_ret2;exact ⟨_, o1, by first | exact Kd.R_nil _ _ _ _ _ | exact Kd.N_nil _ _ _ _ _ | exact Kd.V_nil _ _ _ _ _ | exact Kd.Q_nil _ _ _ _ _ | exact Kd.S_nil _ _ _ _ _, bw HB.out⟩
 ·replace H := ip H;obtain ⟨c5b0, H⟩ | ⟨c5b0, H⟩ := H
  ·simp only [Option.some.injEq, Prod.mk.injEq] at H;obtain ⟨rfl, rfl⟩ := H;go_enter Try.func161, Try.ntmps161;go_wp2;go_ret2;exact ⟨_, o1, by first | exact Kd.R_nil _ _ _ _ _ | exact Kd.N_nil _ _ _ _ _ | exact Kd.V_nil _ _ _ _ _ | exact Kd.Q_nil _ _ _ _ _ | exact Kd.S_nil _ _ _ _ _, bw HB.out⟩
  ·replace H := ig H;obtain ⟨c6b0, H⟩ | ⟨c6b0, H⟩ := H
   ·simp only [Option.some.injEq, Prod.mk.injEq] at H;obtain ⟨rfl, rfl⟩ := H;go_enter Try.func161, Try.ntmps161;go_wp2;go_ret2;exact ⟨_, o1, by first | exact Kd.R_nil _ _ _ _ _ | exact Kd.N_nil _ _ _ _ _ | exact Kd.V_nil _ _ _ _ _ | exact Kd.Q_nil _ _ _ _ _ | exact Kd.S_nil _ _ _ _ _, bw HB.out⟩
   ·replace H := ig H;obtain ⟨c7b0, H⟩ | ⟨c7b0, H⟩ := H
    ·simp only [Option.some.injEq, Prod.mk.injEq] at H;obtain ⟨rfl, rfl⟩ := H;go_enter Try.func161, Try.ntmps161;go_wp2;go_ret2;exact ⟨_, o1, by first | exact Kd.R_nil _ _ _ _ _ | exact Kd.N_nil _ _ _ _ _ | exact Kd.V_nil _ _ _ _ _ | exact Kd.Q_nil _ _ _ _ _ | exact Kd.S_nil _ _ _ _ _, bw HB.out⟩
    ·replace H : ∃ jl : List Int, jl = (([] : List Int)) ∧ (if 0 ≤ a1 then (if a1 ≤ (wrap64 (a1 + a2)) then (if (wrap64 (a1 + a2)) ≤ (l0.length : Int) then ((some ((l0.take ((wrap64 (a1 + a2)) : Int).toNat).drop (a1 : Int).toNat : List Int)).bind fun yk => (if jl.length + yk.length < 140737488355328 then (some ((jl ++ yk), wrap64 (a1 + a2))) else (none))) else (none)) else (none)) else (none)) = some (r1, r2) := ⟨_, rfl, H⟩;obtain ⟨jl, zw, H⟩ := H;have ya := ak zw;clear zw;replace H := ipE H;obtain ⟨c8b0, c8b1, H⟩ := H;by_cases c9 : a1 ≤ (wrap64 (a1 + a2))
     ·rw [if_pos c9] at H;have c9b0 := eq_true c9;have c9b1 : decide (a1 ≤ (wrap64 (a1 + a2))) = true := decide_eq_true c9;by_cases c10 : (wrap64 (a1 + a2)) ≤ (l0.length : Int)
      ·rw [if_pos c10] at H;have c10b0 := eq_true c10;have c10b1 : decide ((wrap64 (a1 + a2)) ≤ (l0.length : Int)) = true := decide_eq_true c10;obtain ⟨yk, Je⟩ : ∃ y_ : List Int, y_ = ((l0.take ((wrap64 (a1 + a2)) : Int).toNat).drop (a1 : Int).toNat) := ⟨_, rfl⟩;(try with_reducible replace H := bnS H)
       (try rw [← Je] at H)
       have YS := ak Je;clear Je;by_cases c11 : jl.length + yk.length < 140737488355328
       ·rw [if_pos c11] at H;have qmn := ak c11;clear c11;obtain ⟨qIs, qc5⟩ : ∃ y_ : List Int, y_ = (jl ++ yk) := ⟨_, rfl⟩;(try with_reducible replace H := bnS H)
        (try rw [← qc5] at H)
        have qmi := ak qc5;clear qc5;simp only [Option.some.injEq, Prod.mk.injEq] at H;obtain ⟨rfl, rfl⟩ := H;go_enter Try.func161, Try.ntmps161;go_wp2_with (first | ((with_reducible refine gate_dst (N := 28) rfl ?_);(try (refine gate_guard (by rfl) ?_; dsimp only));refine Kd.R_lit (Kd.int .u8) _ 5 ?hg (N := 28) ?hd (xs := ([] : List Int)) (inner := []) (ok := fun _ => True) (okp := fun _ => True) ?hr ?hp (fun _ hk => hk) trivial (Below.refl _ _) (Nat.le_refl _) (by simp) ?_;(case hd => rfl);(case hg => rfl);(case hr => first | (go_simp; done) | (go_simp; rfl));(case hp => exact (Reps.none _ _));intro Xb w12 Xl hb hg_ hnew_;clear hg_ hnew_;(first | rw [← ya.out] at Xl | (simp only [Int.reduceToNat] at Xl; rw [← ya.out] at Xl));have Jl := ak (Kd.R_lower Xl (below_size (bw HB.out)));replace HB := b2 HB hb;clear hb Xl;have q14 : ((wrap64 (a1 + a2)) : Int) ≤ ((l0.length : Int) : Int) := of_decide_eq_true (by first | (with_reducible assumption) | assumption);obtain ⟨qIR, qeb, _, qd1, _⟩ := info_parts Jd;have hroom14 : l0.length ≤ c0 := HC0.out;have qlf : Kd.C (Kd.int .u8) _ A0 l0.length l0 := HR0.out;have qmB : (a1 : Int) ≤ ((wrap64 (a1 + a2)) : Int) := of_decide_eq_true (by first | (with_reducible assumption) | assumption);have qmF : (0 : Int) ≤ (a1 : Int) := of_decide_eq_true (by first | (with_reducible assumption) | assumption);have qlc := cut_mid (P := Try.prog) 25 5 .i64 .i64 Try.underlying25 qeb 1 qd1 A0 l0.length c0 a1 (wrap64 (a1 + a2)) qmF qmB q14 hroom14;have Xg := Kd.C_mid (lo := (a1 : Int).toNat) (hi := ((wrap64 (a1 + a2)) : Int).toNat) (c := c0) qlf (by omega) (by omega) hroom14;obtain ⟨A14, qda⟩ : ∃ A1, A1 = (if c0 = (a1 : Int).toNat then A0 else (A0 : Option Addr).map (·.add ((a1 : Int).toNat * 1))) := ⟨_, rfl⟩;obtain ⟨c14, qds⟩ : ∃ c1, c1 = c0 - (a1 : Int).toNat := ⟨_, rfl⟩;have qc2 : yk.length = ((wrap64 (a1 + a2)) : Int).toNat - (a1 : Int).toNat := (by rw [YS.out, List.length_drop, List.length_take] <;> omega);rw [show ((l0).take ((wrap64 (a1 + a2)) : Int).toNat).drop (a1 : Int).toNat = yk from YS.out.symm] at Xg;replace Xg : Kd.C (Kd.int .u8) _ A14 yk.length yk := (by rw [qda]; exact Xg);rw [← qc2, ← qda, ← qds] at qlc;have qmo := ak Xg;have qIn := ak (show yk.length ≤ c14 from by rw [qc2, qds]; exact Nat.sub_le_sub_right (Nat.le_trans (by omega) hroom14) _);clear Xg qlf hroom14 qeb qd1 qds;have qJL := ak qc2;have qJO := ak qda;clear qc2 qda;replace q14 := eq_true q14) | ((with_reducible refine gate_builtin (b := .append) (xs := #[.tmp 28, .tmp 34]) rfl ?_);(try (refine gate_guard (by rfl) ?_; dsimp only));at_builtin;refine Kd.R_append_rows (Kd.int .u8) (w0 := w) w.heap.size rfl (.tmp 28) (.tmp 34) 25 5 (.int .u8 0) 1 rfl Try.underlying25 Jd rfl (by decide) (by omega) Xb jl yk _ _ _ (fun _ => True) (fun _ => False) rfl rfl ?aO ?aR (fun _ _ h => h) (fun _ h => h.elim) ?aF ?aB ?aS ?aL ?_;(case aR => exact cw qmo.out HB.out);(case aB => exact (bw HB.out));(case aF => exact (fun _ _ => trivial));(case aO => exact (rw_ Jl.out));(case aS => exact (below_size (bw HB.out)));(case aL => have := qmn.out; omega);intro qIL w15 ho hb hg hat;rw [← qmi.out] at ho;replace HB := ak (hb);have qmq := ak (ho);clear Jl;clear ho hb hg hat));go_ret2;exact ⟨_, o1, rw_ qmq.out, bw HB.out⟩
       ·rw [if_neg c11] at H;exact absurd H (by simp)
      ·rw [if_neg c10] at H;exact absurd H (by simp)
     ·rw [if_neg c9] at H;exact absurd H (by simp)

/-! ### jS: function 166 -/
def jS.f (l0 : List Int) (a1 : Int) : Option (Int × Int) := if a1 < 0 then (some (0, (-1))) else (if a1 > (wrap64 ((l0.length : Int) - 2)) then (some (0, (-1))) else (if 0 ≤ a1 then (if a1 < (l0.length : Int) then (if 0 ≤ (wrap64 (a1 + 1)) then (if (wrap64 (a1 + 1)) < (l0.length : Int) then (some (wrap64 ((wrap64 ((wrap64 (rd l0 a1)) * 256)) + (wrap64 (rd l0 (wrap64 (a1 + 1))))), wrap64 (a1 + 2))) else (none)) else (none)) else (none)) else (none)))
set_option maxHeartbeats 8000000 in
set_option maxRecDepth 100000 in
theorem jS.calls (A0 : Option Addr) (c0 : Nat) (l0 : List Int) (a1 : Int) (r1 : Int) (r2 : Int) (w : World) (hr0 : Kd.C (Kd.int .u8) w A0 l0.length l0) (hc0 : l0.length ≤ c0) (h : jS.f l0 a1 = some (r1, r2)) :
  Calls Try.prog 166 #[.slice A0 l0.length c0, .int .i64 a1] w fun e w' => e = .returned (.tuple #[.int .i64 r1, .int .i64 r2]) ∧ Drawn0 w w' := by
 have HR0 := ak hr0;have HC0 := ak hc0;clear hr0 hc0;have H : (if a1 < 0 then (some (0, (-1))) else (if a1 > (wrap64 ((l0.length : Int) - 2)) then (some (0, (-1))) else (if 0 ≤ a1 then (if a1 < (l0.length : Int) then (if 0 ≤ (wrap64 (a1 + 1)) then (if (wrap64 (a1 + 1)) < (l0.length : Int) then (some (wrap64 ((wrap64 ((wrap64 (rd l0 a1)) * 256)) + (wrap64 (rd l0 (wrap64 (a1 + 1))))), wrap64 (a1 + 2))) else (none)) else (none)) else (none)) else (none)))) = some (r1, r2) := h;clear h;replace H := ip H;obtain ⟨c3b0, H⟩ | ⟨c3b0, H⟩ := H
 ·simp only [Option.some.injEq, Prod.mk.injEq] at H;obtain ⟨rfl, rfl⟩ := H;go_enter Try.func166, Try.ntmps166;go_wp2;repeat (go_quiet (fail); try go_wp2)
  go_ret2;exact ⟨o2, od⟩
 ·replace H := ig H;obtain ⟨c4b0, H⟩ | ⟨c4b0, H⟩ := H
  ·simp only [Option.some.injEq, Prod.mk.injEq] at H;obtain ⟨rfl, rfl⟩ := H;go_enter Try.func166, Try.ntmps166;go_wp2;repeat (go_quiet (fail); try go_wp2)
   go_ret2;exact ⟨o2, od⟩
  ·replace H := ipN H;obtain ⟨c5b0, H⟩ := H;replace H := ipN H;obtain ⟨c6b0, H⟩ := H;obtain ⟨ji7, Jf⟩ : ∃ j_ : Int, (wrap64 (a1 + 1)) = j_ := ⟨_, rfl⟩;(first | rw [Jf] at H | simp only [Jf] at H)
   have hji7w : (IntKind.i64.wrap (a1 + 1)) = ji7 := (i64_w _).trans Jf;replace H := ipN H;obtain ⟨c8b0, H⟩ := H;replace H := ipN H;obtain ⟨c9b0, H⟩ := H;simp only [Option.some.injEq, Prod.mk.injEq] at H;obtain ⟨rfl, rfl⟩ := H;obtain ⟨zk, rfl, jG, zE, zD⟩ := el0_int HR0 a1;obtain ⟨zv, yS, yQ⟩ := el20_int HR0 (ji7);go_enter Try.func166, Try.ntmps166;go_wp2;repeat (go_quiet (fail); try go_wp2)
   go_ret2;exact ⟨by first | rfl | (simp; done) | (simp only [← Jf] <;> (first | rfl | simp)) | (simp [*]; done), od⟩

/-! ### jd: function 222 -/
def jd.l0 : Nat → List Int → Int → Option (List Int)
 | 0, _, _ => none
 | k + 1, x3, x4 => if x4 < (x3.length : Int) then (if 0 ≤ x4 then (if (rd x3 x4) ≥ 65 then (if (rd x3 x4) ≤ 90 then (jd.l0 k (x3.set (x4 : Int).toNat (((rd x3 x4) + 32) % 256)) (wrap64 (x4 + 1))) else (jd.l0 k x3 (wrap64 (x4 + 1)))) else (jd.l0 k x3 (wrap64 (x4 + 1)))) else (none)) else (some x3)
def jd.f (k : Nat) (l0 : List Int) : Option (List Int) := (some (([] : List Int) : List Int)).bind fun jl => (if jl.length + l0.length < 140737488355328 then (jd.l0 k (jl ++ l0) 0) else (none))
set_option maxHeartbeats 8000000 in
set_option maxRecDepth 100000 in
theorem jd.calls (k : Nat) (A0 : Option Addr) (c0 : Nat) (l0 : List Int) (r : List Int) (w : World) (hr0 : Kd.C (Kd.int .u8) w A0 l0.length l0) (hc0 : l0.length ≤ c0) (h : jd.f k l0 = some r) :
  Calls Try.prog 222 #[.slice A0 l0.length c0] w fun e w' => ∃ v0_ : Value, e = .returned (v0_) ∧ Kd.R (Kd.int .u8) 5 w' w.heap.size (fun _ => True) v0_ r ∧ Below w.heap.size w w' := by
 have HR0 := ak hr0;have HC0 := ak hc0;clear hr0 hc0;have HB := ak (Below.refl w.heap.size w);have H : ((some (([] : List Int) : List Int)).bind fun jl => (if jl.length + l0.length < 140737488355328 then (jd.l0 k (jl ++ l0) 0) else (none))) = some r := h;clear h;replace H : ∃ jl : List Int, jl = (([] : List Int)) ∧ (if jl.length + l0.length < 140737488355328 then (jd.l0 k (jl ++ l0) 0) else (none)) = some r := ⟨_, rfl, H⟩;obtain ⟨jl, zw, H⟩ := H;have ya := ak zw;clear zw;by_cases c2 : jl.length + l0.length < 140737488355328
 ·rw [if_pos c2] at H;have quZ := ak c2;clear c2;obtain ⟨yk, Je⟩ : ∃ y_ : List Int, y_ = (jl ++ l0) := ⟨_, rfl⟩;(try with_reducible replace H := bnS H)
  (try rw [← Je] at H)
  have YS := ak Je;clear Je;have H' := ak H;clear H;go_enter Try.func222, Try.ntmps222;go_wp2_with (first | ((with_reducible refine gate_dst (N := 5) rfl ?_);refine Kd.R_lit (Kd.int .u8) _ 5 ?hg (N := 5) ?hd (xs := ([] : List Int)) (inner := []) (ok := fun _ => True) (okp := fun _ => True) ?hr ?hp (fun _ hk => hk) trivial (Below.refl _ _) (Nat.le_refl _) (by simp) ?_;(case hd => rfl);(case hg => rfl);(case hr => first | (go_simp; done) | (go_simp; rfl));(case hp => exact (Reps.none _ _));intro Xb w3 ho4 hb hg_ hnew_;clear hg_ hnew_;(first | rw [← ya.out] at ho4 | (simp only [Int.reduceToNat] at ho4; rw [← ya.out] at ho4));have Jl := ak (Kd.R_lower ho4 (below_size (bw HB.out)));replace HB := b2 HB hb;clear hb ho4) | ((with_reducible refine gate_builtin (b := .append) (xs := #[.tmp 5, .tmp 6]) rfl ?_);at_builtin;refine Kd.R_append_rows (Kd.int .u8) (w0 := w) w.heap.size rfl (.tmp 5) (.tmp 6) 25 5 (.int .u8 0) 1 rfl Try.underlying25 Jd rfl (by decide) (by omega) Xb jl l0 _ _ _ (fun _ => True) (fun _ => False) rfl rfl ?aO ?aR (fun _ _ h => h) (fun _ h => h.elim) ?aF ?aB ?aS ?aL ?_;(case aR => exact cw HR0.out HB.out);(case aB => exact (bw HB.out));(case aF => exact (fun _ _ => trivial));(case aO => exact (rw_ Jl.out));(case aS => exact (below_size (bw HB.out)));(case aL => have := quZ.out; omega);intro qmA w5 ho hb hg hat;rw [← YS.out] at ho;replace HB := ak (hb);have qms := ak (ho);clear Jl;clear ho hb hg hat));go_loopg [4] k (fun kq v4 w' => ∃ (zb : List Int) (jr : Int), v4 = .int .i64 jr ∧ Aside0 (jd.l0 kq zb jr = some r) ∧ Aside0 (kq ≤ k) ∧ Aside0 (Kd.R (Kd.int .u8) 5 w' w.heap.size (fun _ => True) qmA zb) ∧ Aside0 (Below w.heap.size w w'))
  case atStart => exact ⟨(yk), (0), o2, H', ⟨Nat.le_refl _⟩, ⟨rw_ qms.out⟩, ⟨bw HB.out⟩⟩
  case round =>
   clear H';(try clear c2)
   obtain ⟨zb, jr, rfl, HA, HK1, HO_3, HB⟩ := hrel;cases gk with
   | zero => exact absurd HA.out (by simp [jd.l0])
   | succ k1 =>
    have H := HA.out;clear HA;simp only [jd.l0] at H;replace H := ip H;obtain ⟨c6b0, H⟩ | ⟨c6b0, H⟩ := H
    ·replace H := ipN H;obtain ⟨c7b0, H⟩ := H;replace H := ih H;obtain ⟨c8b0, H⟩ | ⟨c8b0, H⟩ := H
     ·replace H := ip H;obtain ⟨c9b0, H⟩ | ⟨c9b0, H⟩ := H
      ·obtain ⟨qkK, qc4⟩ : ∃ y_ : List Int, y_ = (zb.set (jr : Int).toNat (((rd zb jr) + 32) % 256)) := ⟨_, rfl⟩;(try with_reducible replace H := bnS H)
       (try rw [← qc4] at H)
       have qmh := ak qc4;clear qc4;have H' := ak H;clear H;obtain ⟨qJ4, quY, quW⟩ := Kd.R_slice HO_3.out;subst quW;have zm : 0 ≤ (jr : Int) := of_decide_eq_true (by first | (with_reducible assumption) | assumption);have zl : jr < (zb.length : Int) := of_decide_eq_true (by first | (with_reducible assumption) | assumption);obtain ⟨Ji, JH, jK⟩ := Kd.at_int (Kd.R_reads' HO_3.out).2.2 jr zm zl;cases JH;replace zm := eq_true zm;replace zl := eq_true zl;have yR : 0 ≤ (jr : Int) := of_decide_eq_true (by first | (with_reducible assumption) | assumption);have yP : jr < (zb.length : Int) := of_decide_eq_true (by first | (with_reducible assumption) | assumption);obtain ⟨qdh, qdy, yq⟩ := Kd.at_int (Kd.R_reads' HO_3.out).2.2 jr yR yP;obtain rfl : Ji = qdh := (by injection qdy);replace yR := eq_true yR;replace yP := eq_true yP;have Xf : 0 ≤ (jr : Int) := of_decide_eq_true (by first | (with_reducible assumption) | assumption);have Xe : jr < (zb.length : Int) := of_decide_eq_true (by first | (with_reducible assumption) | assumption);obtain ⟨qmg, quX, JV⟩ := Kd.at_int (Kd.R_reads' HO_3.out).2.2 jr Xf Xe;obtain rfl : Ji = qmg := (by injection quX);replace Xf := eq_true Xf;replace Xe := eq_true Xe;have p10 : 0 ≤ (jr : Int) := of_decide_eq_true (by first | (with_reducible assumption) | assumption);have q10 : (jr : Int) < ((zb.length : Int) : Int) := of_decide_eq_true (by first | (with_reducible assumption) | assumption);obtain ⟨qdw, qJJ, qlo, qli, quz, qJK, qlC⟩ := Kd.R_form HO_3.out (by omega);(first | cases qlo | (injection qlo with ea_ en_ ec_; (first | subst ea_ | (injection ea_ with ea_; subst ea_)); subst ec_; clear en_))
       have qu0 := ak qli;have qJU := ak qlC;clear qli quz qlC;(first | simp only [add_plain] at jK | skip)
       (first | simp only [add_plain] at yq | skip)
       (first | simp only [add_plain] at JV | skip)
       obtain ⟨qEn, qFI⟩ := Kd.R_celln 0 HO_3.out (jr : Int) p10 q10;replace p10 := eq_true p10;replace q10 := eq_true q10;have qdE := Kd.R_putg HO_3.out (jr : Int) (((rd zb jr) + 32) % 256);go_wp2_with (((with_reducible refine gate_store (t := 5) (p := 33) rfl ?_);refine store_event (t := 5) (p := 33) (v := ?vo_w13) (w1 := (wr.setCell ⟨qdw, (jr : Int).toNat, none⟩ (.int .u8 (((rd zb jr) + 32) % 256)))) ?hg ?ho ?hn ?hr ?_;(case ho => rfl);(case hg => rfl);(case hn => rfl);(case hr => first | (go_simp; done) | (go_simp; rfl));intro w13 hw;have hg : wr.grownBy w13 (some qdw) := (by rw [hw]; exact qdE.2);have hp_ : Kd.R (Kd.int .u8) 5 w13 w.heap.size (fun _ => True) (.slice (some ⟨qdw, 0, none⟩) zb.length quY) qkK := (by rw [hw, qmh.out]; exact qdE.1);clear qdE;replace HO_3 := ak (hp_);replace HB := ak ((by rw [hw]; exact below_set (HB.out) qu0.out : Below w.heap.size w w13));clear hg hw hp_));go_roundg k1;case measure => have := HK1.out; omega
       case rel => exact ⟨(qkK), (wrap64 (jr + 1)), o2, H', ⟨by have := HK1.out; omega⟩, ⟨rw_ HO_3.out⟩, ⟨bw HB.out⟩⟩
      ·have H' := ak H;clear H;obtain ⟨qJ3, qJI, quV⟩ := Kd.R_slice HO_3.out;subst quV;have zm : 0 ≤ (jr : Int) := of_decide_eq_true (by first | (with_reducible assumption) | assumption);have zl : jr < (zb.length : Int) := of_decide_eq_true (by first | (with_reducible assumption) | assumption);obtain ⟨Ji, JH, jK⟩ := Kd.at_int (Kd.R_reads' HO_3.out).2.2 jr zm zl;cases JH;replace zm := eq_true zm;replace zl := eq_true zl;have yR : 0 ≤ (jr : Int) := of_decide_eq_true (by first | (with_reducible assumption) | assumption);have yP : jr < (zb.length : Int) := of_decide_eq_true (by first | (with_reducible assumption) | assumption);obtain ⟨qdh, qdy, yq⟩ := Kd.at_int (Kd.R_reads' HO_3.out).2.2 jr yR yP;obtain rfl : Ji = qdh := (by injection qdy);replace yR := eq_true yR;replace yP := eq_true yP;go_wp2;go_roundg k1;case measure => have := HK1.out; omega
       case rel => exact ⟨(zb), (wrap64 (jr + 1)), o2, H', ⟨by have := HK1.out; omega⟩, ⟨rw_ HO_3.out⟩, ⟨bw HB.out⟩⟩
     ·have H' := ak H;clear H;obtain ⟨qJ2, qJH, quU⟩ := Kd.R_slice HO_3.out;subst quU;have zm : 0 ≤ (jr : Int) := of_decide_eq_true (by first | (with_reducible assumption) | assumption);have zl : jr < (zb.length : Int) := of_decide_eq_true (by first | (with_reducible assumption) | assumption);obtain ⟨Ji, JH, jK⟩ := Kd.at_int (Kd.R_reads' HO_3.out).2.2 jr zm zl;cases JH;replace zm := eq_true zm;replace zl := eq_true zl;go_wp2;go_roundg k1;case measure => have := HK1.out; omega
      case rel => exact ⟨(zb), (wrap64 (jr + 1)), o2, H', ⟨by have := HK1.out; omega⟩, ⟨rw_ HO_3.out⟩, ⟨bw HB.out⟩⟩
    ·obtain rfl := Option.some.inj H;obtain ⟨qJ1, qJG, quT⟩ := Kd.R_slice HO_3.out;subst quT;go_wp2;go_ret;exact ⟨_, o1, rw_ HO_3.out, bw HB.out⟩
 ·rw [if_neg c2] at H;exact absurd H (by simp)

/-! ### qh: function 160 -/
mutual
def qh.l0 : Nat → List Int → Int → Int → Int → List (List Int) → Option ((List (List Int)) × Int)
 | 0, _, _, _, _, _ => none
 | k + 1, x0, x1, x7, x8, qY => if x1 < 0 then (qh.j1 k x0 x1 x7 x8 true qY) else (qh.j1 k x0 x1 x7 x8 (decide (x1 ≥ (x0.length : Int))) qY)
def qh.j1 : Nat → List Int → Int → Int → Int → Bool → List (List Int) → Option ((List (List Int)) × Int)
 | 0, _, _, _, _, _, _ => none
 | k + 1, x0, x1, x7, x8, x21, qY => if x21 = true then (some (([] : List (List Int)), (-1))) else (if 0 ≤ x1 then (if x1 < (x0.length : Int) then (if (wrap64 (rd x0 x1)) = 0 then (if x7 < 0 then ((qx.f k qY).bind fun jw => (if jw = true then (some (qY, wrap64 (x1 + 1))) else (some (([] : List (List Int)), (-1))))) else ((qx.f k qY).bind fun jx => (if jx = true then (some (qY, x7)) else (some (([] : List (List Int)), (-1)))))) else (if (wrap64 (rd x0 x1)) ≥ 192 then ((jS.f x0 x1).bind fun zS => (if zS.2 < 0 then (qh.j2 k x0 x7 x8 zS.1 zS.2 true qY) else (if (wrap64 (zS.1 - 49152)) ≥ x1 then (qh.j2 k x0 x7 x8 zS.1 zS.2 true qY) else (qh.j2 k x0 x7 x8 zS.1 zS.2 (decide (x8 ≥ 8)) qY)))) else (if (wrap64 (rd x0 x1)) > 15 then (qh.j3 k x0 x1 x7 x8 (wrap64 (rd x0 x1)) true qY) else (qh.j3 k x0 x1 x7 x8 (wrap64 (rd x0 x1)) (decide ((qY.length : Int) ≥ 6)) qY)))) else (none)) else (none))
def qh.j2 : Nat → List Int → Int → Int → Int → Int → Bool → List (List Int) → Option ((List (List Int)) × Int)
 | 0, _, _, _, _, _, _, _ => none
 | k + 1, x0, x7, x8, x10, x11, x80, qY => if x80 = true then (some (([] : List (List Int)), (-1))) else (if x7 < 0 then (qh.l0 k x0 (wrap64 (x10 - 49152)) x11 (wrap64 (x8 + 1)) qY) else (qh.l0 k x0 (wrap64 (x10 - 49152)) x7 (wrap64 (x8 + 1)) qY))
def qh.j3 : Nat → List Int → Int → Int → Int → Int → Bool → List (List Int) → Option ((List (List Int)) × Int)
 | 0, _, _, _, _, _, _, _ => none
 | k + 1, x0, x1, x7, x8, x9, x89, qY => if x89 = true then (some (([] : List (List Int)), (-1))) else ((jt.f x0 (wrap64 (x1 + 1)) x9).bind fun Jh => (if Jh.2 < 0 then (some (([] : List (List Int)), (-1))) else ((jd.f k Jh.1).bind fun jZ => (if qY.length < 5864062014805 then (qh.l0 k x0 Jh.2 x7 x8 (qY ++ [jZ])) else (none)))))
end
def qh.f (k : Nat) (l0 : List Int) (a1 : Int) : Option ((List (List Int)) × Int) := qh.l0 k l0 a1 (-1) 0 ([] : List (List Int))
def qh.T10 : Bool × List (List Nat × List Nat) := (true, [([], []), ([0], [0]), ([], []), ([2], [2]), ([3], [3]), ([1, 4, 3], [1, 4]), ([0, 1, 2, 3, 4, 5], []), ([6, 5, 5, 0, 1, 2, 3, 4, 5], [5, 6])])
def qh.B10 : List Nat := [0, 1, 0, 4, 12, 31, 63, 127]
theorem qh.tab10 : rtab .any (opsOf Try.f160 10) = qh.T10 := by kernel_rfl
theorem qh.bits10 : waitsOk qh.T10.2 qh.B10 = true := by kernel_rfl
set_option maxHeartbeats 8000000 in
set_option maxRecDepth 100000 in
theorem qh.calls (k : Nat) (A0 : Option Addr) (c0 : Nat) (l0 : List Int) (a1 : Int) (r1 : List (List Int)) (r2 : Int) (w : World) (hr0 : Kd.C (Kd.int .u8) w A0 l0.length l0) (hc0 : l0.length ≤ c0) (h : qh.f k l0 a1 = some (r1, r2)) :
  Calls Try.prog 160 #[.slice A0 l0.length c0, .int .i64 a1] w fun e w' => ∃ v0_ : Value, e = .returned (.tuple #[.agg #[v0_], .int .i64 r2]) ∧ Kd.S (Kd.slice 5 (Kd.int .u8)) 25 w' w.heap.size (fun _ => True) v0_ r1 ∧ Below w.heap.size w w' := by
 have QD := Try.underlying31;have HR0 := ak hr0;have HC0 := ak hc0;clear hr0 hc0;have HB := ak (Below.refl w.heap.size w);have H : (qh.l0 k l0 a1 (-1) 0 ([] : List (List Int))) = some (r1, r2) := h;clear h;have H' := ak H;clear H;go_enter Try.func160, Try.ntmps160;go_wp2_with (first | ((with_reducible refine gate_dst (N := 4) rfl ?_);(try (refine gate_guard (by rfl) ?_; dsimp only));refine bxd (N := 4) rfl HB ?_;clear HB;intro qb w3 hg HB qc qA hb;have jv := qA;clear hb hg) | ((with_reducible refine gate_dst (N := 6) rfl ?_);(try (refine gate_guard (by rfl) ?_; dsimp only));refine bxe (N := 6) rfl ?_;intro qg hg w4 hbox hb;have qf := ak (hbox);have jp := b3s hg bs;have zG := jp;replace HB := b2s bs hb;have qe := b4 hg qc;have qa := b5 hg qc;replace qc := b1 qc hb;clear hb hbox hg));go_loopg [1, 7, 8] k (fun kq v1 v7 v8 w' => ∃ (jA : Int) (Qm : Int) (yO : Int) (qQ : List (List Int)) (jF : Value), v1 = .int .i64 jA ∧ v7 = .int .i64 Qm ∧ v8 = .int .i64 yO ∧ Aside0 (qh.l0 kq l0 jA Qm yO qQ = some (r1, r2)) ∧ Aside0 (kq ≤ k) ∧ Aside0 (Kd.S (Kd.slice 5 (Kd.int .u8)) 25 w' w.heap.size (fun _ => True) jF qQ) ∧ Aside0 (w'.heap[qb]? = some (.cells #[(.slice none 0 0)] 31 (0, 0))) ∧ Aside0 (w'.heap[qg]? = some (.cells #[jF] 31 (0, 0))) ∧ Aside0 (Below w.heap.size w w'))
 case atStart => exact ⟨(a1), ((-1)), (0), (([] : List (List Int))), (.slice none 0 0), o2, o2, o2, H', ⟨Nat.le_refl _⟩, ⟨by first | exact Kd.S_nil _ _ _ _ _ | exact Kd.N_nil _ _ _ _ _ | exact Kd.V_nil _ _ _ _ _ | exact Kd.Q_nil _ _ _ _ _ | exact Kd.R_nil _ _ _ _ _⟩, ⟨bk qc.out⟩, ⟨bk qf.out⟩, ⟨bs⟩⟩
 case round =>
  clear H';obtain ⟨jA, Qm, yO, qQ, jF, rfl, rfl, rfl, HA, HK1, HO_103000, qc, qf, HB⟩ := hrel;cases gk with
  | zero => exact absurd HA.out (by simp [qh.l0])
  | succ k1 =>
   have H := HA.out;clear HA;simp only [qh.l0] at H;have HC5 := ak H;clear H;go_upto_region 4 with (fail)
   go_cut [21] (fun v21 wc => ∃ (kq : Nat) (qcT : Bool), v21 = .bool qcT ∧ Aside0 (qh.j1 kq l0 jA Qm yO qcT qQ = some (r1, r2)) ∧ Aside0 (kq ≤ k1) ∧ Aside0 (Kd.S (Kd.slice 5 (Kd.int .u8)) 25 wc w.heap.size (fun _ => True) jF qQ) ∧ Aside0 (wc.heap[qb]? = some (.cells #[(.slice none 0 0)] 31 (0, 0))) ∧ Aside0 (wc.heap[qg]? = some (.cells #[jF] 31 (0, 0))) ∧ Aside0 (Below w.heap.size w wc))
   case first =>
    have H := HC5.out;clear HC5;replace H := ip H;obtain ⟨c6b0, H⟩ | ⟨c6b0, H⟩ := H
    ·(first | rw [c6b0] | (simp only [i64_w, i32_w]; rw [c6b0]) | skip)
     have H' := ak H;clear H;go_wp2;go_meet
     case rel => exact ⟨_, (true), o2, H', ⟨by have := HK1.out; first | omega | exact Nat.le_refl _⟩, ⟨sw HO_103000.out⟩, ⟨bk qc.out⟩, ⟨bk qf.out⟩, ⟨bs⟩⟩
    ·(first | rw [c6b0] | (simp only [i64_w, i32_w]; rw [c6b0]) | skip)
     have H' := ak H;clear H;go_wp2;go_meet
     case rel => exact ⟨_, (decide (jA ≥ (l0.length : Int))), o2, H', ⟨by have := HK1.out; first | omega | exact Nat.le_refl _⟩, ⟨sw HO_103000.out⟩, ⟨bk qc.out⟩, ⟨bk qf.out⟩, ⟨bs⟩⟩
   case rest =>
    clear HC5;obtain ⟨kq, qcT, rfl, HA, HJ4, HO_103000, qc, qf, HB⟩ := hcut;cases kq with
    | zero => exact absurd HA.out (by simp [qh.j1])
    | succ kj4 =>
     have H := HA.out;clear HA;simp only [qh.j1] at H;replace H := ib H;obtain ⟨rfl, H⟩ | ⟨rfl, H⟩ := H
     ·simp only [Option.some.injEq, Prod.mk.injEq] at H;obtain ⟨rfl, rfl⟩ := H;have qJx := qe.out;have qJu := qa.out;obtain ⟨Xu, Xm⟩ := cells1 qc.out;go_wp2;refine bodyPost_ret (results_ct rfl _ _ qb 31 #[.slice none 0 0] (0, 0) _ rfl (zx qc.out) Try.underlying31 rfl (by kernel_rfl)) rfl ?_;exact ⟨_, o1, by first | exact Kd.S_nil _ _ _ _ _ | exact Kd.N_nil _ _ _ _ _ | exact Kd.V_nil _ _ _ _ _ | exact Kd.Q_nil _ _ _ _ _ | exact Kd.R_nil _ _ _ _ _, bs⟩
     ·replace H := ipN H;obtain ⟨c10b0, H⟩ := H;replace H := ipN H;obtain ⟨c11b0, H⟩ := H;replace H := ie H;obtain ⟨c12b0, c12b1, H⟩ | ⟨c12b0, c12b1, H⟩ := H
      ·replace H := ip H;obtain ⟨c13b0, H⟩ | ⟨c13b0, H⟩ := H
       ·replace H := bnd H;obtain ⟨jw, A14, H⟩ := H;replace H := ib H;obtain ⟨rfl, H⟩ | ⟨rfl, H⟩ := H
        ·simp only [Option.some.injEq, Prod.mk.injEq] at H;obtain ⟨rfl, rfl⟩ := H;obtain ⟨yC, rfl, jL, zM, zL⟩ := el_int HR0 HB jA;have ql7 := qa.out;have ql2 := qe.out;obtain ⟨qcN, qbq⟩ := cells1 qf.out;obtain ⟨qlJ, qlv, quS⟩ := Kd.S_slice HO_103000.out;subst quS;go_wp2_with (((with_reducible refine gate_callee (f := 76) rfl ?_);refine glB 55 rfl rfl Try.func76 (qx.calls kj4 _ _ qQ true _ ?qL ?ji A14.out) (fun w19 hb => ?_);(case qL => repeat (first | exact (Kd.S_reads' HO_103000.out).2.2 | (with_reducible refine Kd.C_alloc ?_ _) | (with_reducible refine Kd.C_drewN ?_ _) | (with_reducible refine Kd.C_drew ?_)));(case ji => exact (Kd.S_reads' HO_103000.out).2.1);replace HO_103000 := ak (Kd.S_below (sw HO_103000.out) hb);replace qc := b1 qc hb;replace qf := b1 qf hb;replace HB := b2s bs hb;(try clear hb);obtain ⟨Yz, ZE⟩ := cells1 qf.out;obtain ⟨Yy, ZD⟩ := cells1 qc.out));refine bodyPost_ret (results_ct rfl _ _ qb 31 #[.slice qlJ qQ.length qlv] (0, 0) _ rfl (zx qc.out) Try.underlying31 rfl (by kernel_rfl)) rfl ?_;exact ⟨_, o1, by (with_reducible repeat (first | apply Kd.S_alloc | apply Kd.S_drewN | apply Kd.S_drew)); exact Kd.S_mono (Kd.S_far (p := ⟨qb, 0, none⟩) (Kd.S_types HO_103000.out qc.out (by decide)) (fun _ hk => hk.2) (.slice qlJ qQ.length qlv)) (fun _ hk => trivial), bs⟩
        ·simp only [Option.some.injEq, Prod.mk.injEq] at H;obtain ⟨rfl, rfl⟩ := H;obtain ⟨yC, rfl, jL, zM, zL⟩ := el_int HR0 HB jA;have qHI := qa.out;have qHf := qe.out;obtain ⟨qcz, qbc⟩ := cells1 qf.out;obtain ⟨qJ0, qJF, quQ⟩ := Kd.S_slice HO_103000.out;subst quQ;go_wp2_with (((with_reducible refine gate_callee (f := 76) rfl ?_);refine glB 55 rfl rfl Try.func76 (qx.calls kj4 _ _ qQ false _ ?qL ?ji A14.out) (fun w25 hb => ?_);(case qL => repeat (first | exact (Kd.S_reads' HO_103000.out).2.2 | (with_reducible refine Kd.C_alloc ?_ _) | (with_reducible refine Kd.C_drewN ?_ _) | (with_reducible refine Kd.C_drew ?_)));(case ji => exact (Kd.S_reads' HO_103000.out).2.1);replace HO_103000 := ak (Kd.S_below (sw HO_103000.out) hb);replace qc := b1 qc hb;replace qf := b1 qf hb;replace HB := b2s bs hb;(try clear hb);obtain ⟨qcx, qba⟩ := cells1 qc.out));refine bodyPost_ret (results_ct rfl _ _ qb 31 #[.slice none 0 0] (0, 0) _ rfl (zx qc.out) Try.underlying31 rfl (by kernel_rfl)) rfl ?_;exact ⟨_, o1, by first | exact Kd.S_nil _ _ _ _ _ | exact Kd.N_nil _ _ _ _ _ | exact Kd.V_nil _ _ _ _ _ | exact Kd.Q_nil _ _ _ _ _ | exact Kd.R_nil _ _ _ _ _, bs⟩
       ·replace H := bnd H;obtain ⟨jx, A27, H⟩ := H;replace H := ib H;obtain ⟨rfl, H⟩ | ⟨rfl, H⟩ := H
        ·simp only [Option.some.injEq, Prod.mk.injEq] at H;obtain ⟨rfl, rfl⟩ := H;obtain ⟨yC, rfl, jL, zM, zL⟩ := el_int HR0 HB jA;have qHG := qa.out;have qHd := qe.out;obtain ⟨Jv, Jt⟩ := cells1 qf.out;obtain ⟨qlH, qlt, quO⟩ := Kd.S_slice HO_103000.out;subst quO;go_wp2_with (((with_reducible refine gate_callee (f := 76) rfl ?_);refine glB 55 rfl rfl Try.func76 (qx.calls kj4 _ _ qQ true _ ?qL ?ji A27.out) (fun w32 hb => ?_);(case qL => repeat (first | exact (Kd.S_reads' HO_103000.out).2.2 | (with_reducible refine Kd.C_alloc ?_ _) | (with_reducible refine Kd.C_drewN ?_ _) | (with_reducible refine Kd.C_drew ?_)));(case ji => exact (Kd.S_reads' HO_103000.out).2.1);replace HO_103000 := ak (Kd.S_below (sw HO_103000.out) hb);replace qc := b1 qc hb;replace qf := b1 qf hb;replace HB := b2s bs hb;(try clear hb);obtain ⟨qck, qaX⟩ := cells1 qf.out;obtain ⟨Yi, Zn⟩ := cells1 qc.out));refine bodyPost_ret (results_ct rfl _ _ qb 31 #[.slice qlH qQ.length qlt] (0, 0) _ rfl (zx qc.out) Try.underlying31 rfl (by kernel_rfl)) rfl ?_;exact ⟨_, o1, by (with_reducible repeat (first | apply Kd.S_alloc | apply Kd.S_drewN | apply Kd.S_drew)); exact Kd.S_mono (Kd.S_far (p := ⟨qb, 0, none⟩) (Kd.S_types HO_103000.out qc.out (by decide)) (fun _ hk => hk.2) (.slice qlH qQ.length qlt)) (fun _ hk => trivial), bs⟩
        ·simp only [Option.some.injEq, Prod.mk.injEq] at H;obtain ⟨rfl, rfl⟩ := H;obtain ⟨yC, rfl, jL, zM, zL⟩ := el_int HR0 HB jA;have qHD := qa.out;have qHa := qe.out;obtain ⟨qcj, qaW⟩ := cells1 qf.out;obtain ⟨qJY, qJD, quM⟩ := Kd.S_slice HO_103000.out;subst quM;go_wp2_with (((with_reducible refine gate_callee (f := 76) rfl ?_);refine glB 55 rfl rfl Try.func76 (qx.calls kj4 _ _ qQ false _ ?qL ?ji A27.out) (fun w38 hb => ?_);(case qL => repeat (first | exact (Kd.S_reads' HO_103000.out).2.2 | (with_reducible refine Kd.C_alloc ?_ _) | (with_reducible refine Kd.C_drewN ?_ _) | (with_reducible refine Kd.C_drew ?_)));(case ji => exact (Kd.S_reads' HO_103000.out).2.1);replace HO_103000 := ak (Kd.S_below (sw HO_103000.out) hb);replace qc := b1 qc hb;replace qf := b1 qf hb;replace HB := b2s bs hb;(try clear hb);obtain ⟨Ya, Zf⟩ := cells1 qc.out));refine bodyPost_ret (results_ct rfl _ _ qb 31 #[.slice none 0 0] (0, 0) _ rfl (zx qc.out) Try.underlying31 rfl (by kernel_rfl)) rfl ?_;exact ⟨_, o1, by first | exact Kd.S_nil _ _ _ _ _ | exact Kd.N_nil _ _ _ _ _ | exact Kd.V_nil _ _ _ _ _ | exact Kd.Q_nil _ _ _ _ _ | exact Kd.R_nil _ _ _ _ _, bs⟩
      ·replace H := ih H;obtain ⟨c40b0, H⟩ | ⟨c40b0, H⟩ := H
       ·replace H := Option.bind_eq_some_iff.mp H;obtain ⟨⟨jY, qu⟩, qlR, H⟩ := H;replace H : (if qu < 0 then (qh.j2 kj4 l0 Qm yO jY qu true qQ) else (if (wrap64 (jY - 49152)) ≥ jA then (qh.j2 kj4 l0 Qm yO jY qu true qQ) else (qh.j2 kj4 l0 Qm yO jY qu (decide (yO ≥ 8)) qQ))) = some (r1, r2) := H;have A41 := ak qlR;clear qlR;have qdK := ak H;clear H;obtain ⟨yC, rfl, jL, zM, zL⟩ := el_int HR0 HB jA;go_upto_region 20 with (((with_reducible refine gate_callee (f := 166) rfl ?_);refine glD 66 rfl rfl Try.func166 (jS.calls _ _ l0 jA jY qu _ (cv HR0 HB) HC0.out A41.out) (fun nd => ?_)))
        (try simp only [Act.put, List.setIfInBounds_toArray, List.set_cons_zero, List.set_cons_succ])
        go_cut [80] (fun v80 wc => ∃ (kq : Nat) (YX : Bool), v80 = .bool YX ∧ Aside0 (qh.j2 kq l0 Qm yO jY qu YX qQ = some (r1, r2)) ∧ Aside0 (kq ≤ kj4) ∧ Aside0 (Kd.S (Kd.slice 5 (Kd.int .u8)) 25 wc w.heap.size (fun _ => True) jF qQ) ∧ Aside0 (wc.heap[qb]? = some (.cells #[(.slice none 0 0)] 31 (0, 0))) ∧ Aside0 (wc.heap[qg]? = some (.cells #[jF] 31 (0, 0))) ∧ Aside0 (Below w.heap.size w wc))
        case first =>
         have H := qdK.out;clear qdK;replace H := ip H;obtain ⟨c43b0, H⟩ | ⟨c43b0, H⟩ := H
         ·(first | rw [c43b0] | (simp only [i64_w, i32_w]; rw [c43b0]) | skip)
          have H' := ak H;clear H;go_wp2;go_meet
          case rel => exact ⟨_, (true), o2, H', ⟨by have := HK1.out; have := HJ4.out; first | omega | exact Nat.le_refl _⟩, ⟨sw HO_103000.out⟩, ⟨bk qc.out⟩, ⟨bk qf.out⟩, ⟨bs⟩⟩
         ·(first | rw [c43b0] | (simp only [i64_w, i32_w]; rw [c43b0]) | skip)
          replace H := ih H;obtain ⟨c44b0, H⟩ | ⟨c44b0, H⟩ := H
          ·have H' := ak H;clear H;go_wp2;go_meet
           case rel => exact ⟨_, (true), o2, H', ⟨by have := HK1.out; have := HJ4.out; first | omega | exact Nat.le_refl _⟩, ⟨sw HO_103000.out⟩, ⟨bk qc.out⟩, ⟨bk qf.out⟩, ⟨bs⟩⟩
          ·have H' := ak H;clear H;go_wp2;go_meet
           case rel => exact ⟨_, (decide (yO ≥ 8)), o2, H', ⟨by have := HK1.out; have := HJ4.out; first | omega | exact Nat.le_refl _⟩, ⟨sw HO_103000.out⟩, ⟨bk qc.out⟩, ⟨bk qf.out⟩, ⟨bs⟩⟩
        case rest =>
         clear qdK;(try clear c10b0)
         (try clear c11b0)
         (try clear c12b0)
         (try clear c12b1)
         (try clear c40b0)
         (try clear jL)
         (try clear zM)
         (try clear zL)
         obtain ⟨kq, YX, rfl, HA, qdm, HO_103000, qc, qf, HB⟩ := hcut;cases kq with
         | zero => exact absurd HA.out (by simp [qh.j2])
         | succ qkR =>
          have H := HA.out;clear HA;simp only [qh.j2] at H;replace H := ib H;obtain ⟨rfl, H⟩ | ⟨rfl, H⟩ := H
          ·simp only [Option.some.injEq, Prod.mk.injEq] at H;obtain ⟨rfl, rfl⟩ := H;have qHz := qe.out;have qG6 := qa.out;obtain ⟨qiT, qfL⟩ := cells1 qc.out;go_wp2;refine bodyPost_ret (results_ct rfl _ _ qb 31 #[.slice none 0 0] (0, 0) _ rfl (zx qc.out) Try.underlying31 rfl (by kernel_rfl)) rfl ?_;exact ⟨_, o1, by first | exact Kd.S_nil _ _ _ _ _ | exact Kd.N_nil _ _ _ _ _ | exact Kd.V_nil _ _ _ _ _ | exact Kd.Q_nil _ _ _ _ _ | exact Kd.R_nil _ _ _ _ _, bs⟩
          ·replace H := ip H;obtain ⟨c48b0, H⟩ | ⟨c48b0, H⟩ := H
           ·have H' := ak H;clear H;go_wp2;go_roundg qkR;case measure => have := HK1.out; have := HJ4.out; have := qdm.out; omega
            case rel => exact ⟨(wrap64 (jY - 49152)), (qu), (wrap64 (yO + 1)), (qQ), (jF), o2, o2, o2, H', ⟨by have := HK1.out; have := HJ4.out; have := qdm.out; omega⟩, ⟨sw HO_103000.out⟩, ⟨bk qc.out⟩, ⟨bk qf.out⟩, ⟨bs⟩⟩
           ·have H' := ak H;clear H;go_wp2;go_roundg qkR;case measure => have := HK1.out; have := HJ4.out; have := qdm.out; omega
            case rel => exact ⟨(wrap64 (jY - 49152)), (Qm), (wrap64 (yO + 1)), (qQ), (jF), o2, o2, o2, H', ⟨by have := HK1.out; have := HJ4.out; have := qdm.out; omega⟩, ⟨sw HO_103000.out⟩, ⟨bk qc.out⟩, ⟨bk qf.out⟩, ⟨bs⟩⟩
       ·have qdI := ak H;clear H;obtain ⟨yC, rfl, jL, zM, zL⟩ := el_int HR0 HB jA;go_upto_region 26 with (fail)
        go_cut [89] (fun v89 wc => ∃ (kq : Nat) (YW : Bool), v89 = .bool YW ∧ Aside0 (qh.j3 kq l0 jA Qm yO (wrap64 (rd l0 jA)) YW qQ = some (r1, r2)) ∧ Aside0 (kq ≤ kj4) ∧ Aside0 (Kd.S (Kd.slice 5 (Kd.int .u8)) 25 wc w.heap.size (fun _ => True) jF qQ) ∧ Aside0 (wc.heap[qb]? = some (.cells #[(.slice none 0 0)] 31 (0, 0))) ∧ Aside0 (wc.heap[qg]? = some (.cells #[jF] 31 (0, 0))) ∧ Aside0 (Below w.heap.size w wc))
        case first =>
         have H := qdI.out;clear qdI;replace H := ig H;obtain ⟨c50b0, H⟩ | ⟨c50b0, H⟩ := H
         ·(first | rw [c50b0] | (simp only [i64_w, i32_w]; rw [c50b0]) | skip)
          have H' := ak H;clear H;go_wp2;go_meet
          case rel => exact ⟨_, (true), o2, H', ⟨by have := HK1.out; have := HJ4.out; first | omega | exact Nat.le_refl _⟩, ⟨sw HO_103000.out⟩, ⟨bk qc.out⟩, ⟨bk qf.out⟩, ⟨bs⟩⟩
         ·(first | rw [c50b0] | (simp only [i64_w, i32_w]; rw [c50b0]) | skip)
          have H' := ak H;clear H;have qHw := qa.out;have qG3 := qe.out;obtain ⟨qB9, qx2⟩ := cells1 qf.out;obtain ⟨qJW, qJB, quJ⟩ := Kd.S_slice HO_103000.out;subst quJ;go_wp2;go_meet
          case rel => exact ⟨_, (decide ((qQ.length : Int) ≥ 6)), o2, H', ⟨by have := HK1.out; have := HJ4.out; first | omega | exact Nat.le_refl _⟩, ⟨sw HO_103000.out⟩, ⟨bk qc.out⟩, ⟨bk qf.out⟩, ⟨bs⟩⟩
        case rest =>
         clear qdI;(try clear c10b0)
         (try clear c11b0)
         (try clear c12b0)
         (try clear c12b1)
         (try clear c40b0)
         (try clear jL)
         (try clear zM)
         (try clear zL)
         obtain ⟨kq, YW, rfl, HA, qlA, HO_103000, qc, qf, HB⟩ := hcut;cases kq with
         | zero => exact absurd HA.out (by simp [qh.j3])
         | succ qc1 =>
          have H := HA.out;clear HA;simp only [qh.j3] at H;replace H := ib H;obtain ⟨rfl, H⟩ | ⟨rfl, H⟩ := H
          ·simp only [Option.some.injEq, Prod.mk.injEq] at H;obtain ⟨rfl, rfl⟩ := H;have qHv := qe.out;have qG2 := qa.out;obtain ⟨qix, qfp⟩ := cells1 qc.out;go_wp2;refine bodyPost_ret (results_ct rfl _ _ qb 31 #[.slice none 0 0] (0, 0) _ rfl (zx qc.out) Try.underlying31 rfl (by kernel_rfl)) rfl ?_;exact ⟨_, o1, by first | exact Kd.S_nil _ _ _ _ _ | exact Kd.N_nil _ _ _ _ _ | exact Kd.V_nil _ _ _ _ _ | exact Kd.Q_nil _ _ _ _ _ | exact Kd.R_nil _ _ _ _ _, bs⟩
          ·replace H := Option.bind_eq_some_iff.mp H;obtain ⟨⟨zC, jX⟩, qlN, H⟩ := H;replace H : (if jX < 0 then (some (([] : List (List Int)), (-1))) else ((jd.f qc1 zC).bind fun jZ => (if qQ.length < 5864062014805 then (qh.l0 qc1 l0 jX Qm yO (qQ ++ [jZ])) else (none)))) = some (r1, r2) := H;have A57 := ak qlN;clear qlN;replace H := ip H;obtain ⟨c58b0, H⟩ | ⟨c58b0, H⟩ := H
           ·simp only [Option.some.injEq, Prod.mk.injEq] at H;obtain ⟨rfl, rfl⟩ := H;go_wp2_with (((with_reducible refine gate_callee (f := 161) rfl ?_);refine glG 33 rfl rfl Try.func161 (jt.calls _ _ l0 (wrap64 (jA + 1)) (wrap64 (rd l0 jA)) zC jX _ (cv HR0 HB) HC0.out A57.out) ?_;rintro e w59 ⟨Xa, rfl, ho0, hb⟩;refine ⟨_, rfl, ?_⟩;replace HO_103000 := ak (Kd.S_elder' (sw HO_103000.out) (Kd.R_base ho0) hb);have jP := ak (Kd.R_lower ho0 (below_size bs));replace qc := b1 qc hb;replace qf := b1 qf hb;replace HB := b2s bs hb;(try clear hb);(try clear ho0);have qHr := qe.out;have qGY := qa.out;obtain ⟨qBO, qxH⟩ := cells1 qc.out));refine bodyPost_ret (results_ct rfl _ _ qb 31 #[.slice none 0 0] (0, 0) _ rfl (zx qc.out) Try.underlying31 rfl (by kernel_rfl)) rfl ?_;exact ⟨_, o1, by first | exact Kd.S_nil _ _ _ _ _ | exact Kd.N_nil _ _ _ _ _ | exact Kd.V_nil _ _ _ _ _ | exact Kd.Q_nil _ _ _ _ _ | exact Kd.R_nil _ _ _ _ _, bs⟩
           ·replace H := bnd H;obtain ⟨jZ, A62, H⟩ := H;by_cases c63 : qQ.length < 5864062014805
            ·rw [if_pos c63] at H;have qml := ak c63;clear c63;obtain ⟨qI, ym⟩ : ∃ y_ : List (List Int), y_ = (qQ ++ [jZ]) := ⟨_, rfl⟩;(try with_reducible replace H := bnS H)
             (try rw [← ym] at H)
             have yN := ak ym;clear ym;have H' := ak H;clear H;try go_wp2_with (((with_reducible refine gate_callee (f := 161) rfl ?_);refine glG 33 rfl rfl Try.func161 (jt.calls _ _ l0 (wrap64 (jA + 1)) (wrap64 (rd l0 jA)) zC jX _ (cv HR0 HB) HC0.out A57.out) ?_;rintro e w64 ⟨Xa, rfl, ho0, hb⟩;refine ⟨_, rfl, ?_⟩;replace HO_103000 := ak (Kd.S_elder' (sw HO_103000.out) (Kd.R_base ho0) hb);have jP := ak (Kd.R_lower ho0 (below_size bs));replace qc := b1 qc hb;replace qf := b1 qf hb;replace HB := b2s bs hb;(try clear hb);(try clear ho0)))
             replace HO_103000 := ak (Kd.S_drew HO_103000.out);replace jP := ak (Kd.R_drew jP.out);replace qc := ak (blk_drew qc.out);replace qf := ak (blk_drew qf.out);replace HB := ak (below_drew1 HB.out);obtain ⟨qdT, qdB, qln⟩ := Kd.R_slice jP.out;(first | subst qln | (injection qln with f1_ f2_ f3_; have f4_ := f1_.symm; have f5_ := f3_.symm; clear f1_ f2_ f3_; subst f4_; subst f5_))
             refine start_ (n := 8) (S := fun w' => w'.cell? ⟨qg, 0, none⟩ = some (jF)) (ds := [7]) (bA 8 0) (by kernel_rfl) rfl rfl ((blk_cell qf.out 0).trans rfl) (fun hHeld => ?_); refine with_tabW qh.tab10 qh.bits10 (fun HT_ HW_ => ?_);generalize w64.drew = w65 at HO_103000 jP qc qf HB hHeld ⊢;refine pu HT_ 0 ?_;refine pu HT_ 2 ?_;refine take_ (i := 1) (N := some 40) (v := ?_) (a' := ?_) (bA 8 7) rfl rfl (take_ofW HT_.out HW_.out (by kernel_rfl)) (fun _ _ _ h => h) (Or.inl ⟨by rfl, ?_⟩) hHeld ?_ ?_;rotate_left; intro w' s0; go_simp; with_reducible rfl; rotate_left; go_simp; rfl
             refine on HT_ 3 (fun K hK => ?_);refine gsG Try.func222 (jd.calls qc1 _ _ zC jZ _ ?qL ?ji A62.out) ?_;(case qL => repeat (first | exact (Kd.R_reads' jP.out).2.2 | (with_reducible refine Kd.C_alloc ?_ _) | (with_reducible refine Kd.C_drewN ?_ _) | (with_reducible refine Kd.C_drew ?_)))
             (case ji => exact (Kd.R_reads' jP.out).2.1)
             rintro e w67 ⟨qmy, rfl, ho0, hb⟩;refine ⟨_, rfl, ?_⟩;replace HO_103000 := ak (Kd.S_elder' (sw HO_103000.out) (Kd.R_base ho0) hb);have Qs := ak (Kd.R_lower (Kd.R_new' ho0 (Kd.R_lt (rw_ jP.out))) (below_size bs));replace jP := ak (Kd.R_elder' (rw_ jP.out) (Kd.R_base ho0) hb);replace qc := b1 qc hb;replace qf := b1 qf hb;replace HB := b2s bs hb;(try clear hb)
             (try clear ho0)
             obtain ⟨qlF, qlr, qlm⟩ := Kd.R_slice Qs.out;(first | subst qlm | (injection qlm with f1_ f2_ f3_; have f4_ := f1_.symm; have f5_ := f3_.symm; clear f1_ f2_ f3_; subst f4_; subst f5_))
             refine hK.out _ _ ((blk_cell qf.out 0).trans rfl) (fun hHeld => ?_);clear hK K;refine norm_ (a' := ?_) ?_ ?_; rotate_left; go_simp; rfl;refine on HT_ 4 (fun K hK => ?_);refine value_ (w1 := ?_) (v := ?_) (by rfl) rfl ?_ ?_;rotate_left 2
             ·go_simp;constructor
              ·rfl
              ·rfl
             refine hK.out _ _ ((blk_cell (blk_alloc qf.out _) 0).trans rfl) (fun hHeld => ?_);clear hK K;refine norm_ (a' := ?_) ?_ ?_; rotate_left; go_simp; rfl;refine on HT_ 5 (fun K hK => ?_);refine Kd.S_append_step (Kd.slice 5 (Kd.int .u8)) (w0 := w) w.heap.size (by rfl) (.tmp 40) (.tmp 43) 22 25 (.slice none 0 0) 24 rfl Try.underlying22 qdq rfl (by decide) (by omega) jF qQ jZ [.slice qlF jZ.length qlr] (fun k_ => some k_ ≠ (.slice qdT zC.length qdB : Value).ownBlock) (fun k_ => some k_ = (.slice qlF jZ.length qlr : Value).ownBlock) rfl rfl ?aP (fun k_ hk_ => ((Kd.R_mono (ok' := fun k_ => ((fun k_ => some k_ ≠ (.slice qdT zC.length qdB : Value).ownBlock)) k_ ∧ some k_ ≠ (jF : Value).ownBlock) (Kd.R_apart' (Qs.out) (Kd.S_typed HO_103000.out) (by decide)) (fun k_ hk => ⟨hk.1.2, hk.2⟩))).1 k_ hk_.symm) ?aF ?aO ?aB ?aS ?aL ?_;(case aP => exact Kd.M_row (Kd.R_mono (Kd.R_tight rfl (Kd.R_mono (ok' := fun k_ => ((fun k_ => some k_ ≠ (.slice qdT zC.length qdB : Value).ownBlock)) k_ ∧ some k_ ≠ (jF : Value).ownBlock) (Kd.R_apart' (Qs.out) (Kd.S_typed HO_103000.out) (by decide)) (fun k_ hk => ⟨hk.1.2, hk.2⟩))) (fun _ h_ => h_)))
             (case aB => exact bs)
             (case aF => exact (fun k_ hk => Kd.fresh' (Kd.R_lt (rw_ jP.out)) k_ hk))
             (case aO => exact (sw (Kd.S_mono HO_103000.out (fun k_ hk => ⟨hk.1.2, fun e_ => hk.2 e_⟩))))
             (case aS => exact (below_size bs))
             (case aL => have := qml.out; omega)
             intro YZ w68 ho hb hg hat;rw [← yN.out] at ho;replace qc := ak (blk_grown (bk qc.out) hg (Kd.S_ne HO_103000.out qc.out (by decide)));replace qf := ak (blk_grown (bk qf.out) hg (Kd.S_ne HO_103000.out qf.out (by decide)));replace jP := ak (Kd.R_over' (rw_ jP.out) (Kd.S_typed (sw HO_103000.out)) (by decide) hg);replace HB := ak (hb);have jo := ak (ho);clear HO_103000 Qs ho hb hg hat;obtain ⟨qdS, qdA, qdd⟩ := Kd.S_slice jo.out;(first | subst qdd | (injection qdd with f1_ f2_ f3_; have f4_ := f1_.symm; have f5_ := f3_.symm; clear f1_ f2_ f3_; subst f4_; subst f5_))
             refine hK.out _ _ ((blk_cell qf.out 0).trans rfl) (fun hHeld => ?_);clear hK K;refine norm_ (a' := ?_) ?_ ?_; rotate_left; go_simp; rfl;refine pu HT_ 6 ?_;refine last_ (i := 7) (N := none) (bA 8 255) rfl rfl (one_of HT_.out (by kernel_rfl)) (by decide) (fun K hK => ?_);have qI7 : w68.cell? ⟨qg, 0, none⟩ = some (jF) := (blk_cell qf.out 0).trans rfl;have qHW := blk_frozen qf.out 0;have qvf := qe.out;have qvN := qa.out;refine skip_ (w1 := ?_) (by rfl) rfl ?_ ?_;rotate_left
             ·go_simp;rfl
             refine hK.out _ _ ?_;clear hK K;refine done_ (done_of HT_.out (by kernel_rfl)) ?_;try go_wp2
             go_roundg qc1;case measure => have := HK1.out; have := HJ4.out; have := qlA.out; omega
             case rel => exact ⟨(jX), (Qm), (yO), (qI), (.slice qdS qI.length qdA), o2, o2, o2, H', ⟨by have := HK1.out; have := HJ4.out; have := qlA.out; omega⟩, ⟨by (with_reducible repeat (first | apply Kd.S_alloc | apply Kd.S_drewN | apply Kd.S_drew)); exact Kd.S_mono (Kd.S_far (p := ⟨qg, 0, none⟩) (Kd.S_types jo.out qf.out (by decide)) (fun _ hk => hk.2) (.slice qdS qI.length qdA)) (fun _ hk => trivial)⟩, ⟨qdg qe.out qc.out⟩, ⟨zx qf.out⟩, ⟨bs⟩⟩
            ·rw [if_neg c63] at H;exact absurd H (by simp)

/-! ### jM: function 80 -/
def jM.f (a0 : Int) : Option (Bool) := if a0 = 1 then (some true) else (if a0 = 2 then (some true) else (if a0 = 5 then (some true) else (if a0 = 6 then (some true) else (if a0 = 12 then (some true) else (if a0 = 16 then (some true) else (if a0 = 49 then (some true) else (some false)))))))
set_option maxHeartbeats 8000000 in
set_option maxRecDepth 100000 in
theorem jM.calls (a0 : Int) (r : Bool) (w : World) (h : jM.f a0 = some r) :
  Calls Try.prog 80 #[.int .i64 a0] w fun e w' => e = .returned (.bool r) ∧ Drawn0 w w' := by
 have H : (if a0 = 1 then (some true) else (if a0 = 2 then (some true) else (if a0 = 5 then (some true) else (if a0 = 6 then (some true) else (if a0 = 12 then (some true) else (if a0 = 16 then (some true) else (if a0 = 49 then (some true) else (some false)))))))) = some r := h;clear h;replace H := ie H;obtain ⟨c2b0, c2b1, H⟩ | ⟨c2b0, c2b1, H⟩ := H
 ·obtain rfl := Option.some.inj H;go_enter Try.func80, Try.ntmps80;go_wp2;go_ret;exact ⟨o2, od⟩
 ·replace H := ie H;obtain ⟨c3b0, c3b1, H⟩ | ⟨c3b0, c3b1, H⟩ := H
  ·obtain rfl := Option.some.inj H;go_enter Try.func80, Try.ntmps80;go_wp2;go_ret;exact ⟨o2, od⟩
  ·replace H := ie H;obtain ⟨c4b0, c4b1, H⟩ | ⟨c4b0, c4b1, H⟩ := H
   ·obtain rfl := Option.some.inj H;go_enter Try.func80, Try.ntmps80;go_wp2;go_ret;exact ⟨o2, od⟩
   ·replace H := ie H;obtain ⟨c5b0, c5b1, H⟩ | ⟨c5b0, c5b1, H⟩ := H
    ·obtain rfl := Option.some.inj H;go_enter Try.func80, Try.ntmps80;go_wp2;go_ret;exact ⟨o2, od⟩
    ·replace H := ie H;obtain ⟨c6b0, c6b1, H⟩ | ⟨c6b0, c6b1, H⟩ := H
     ·obtain rfl := Option.some.inj H;go_enter Try.func80, Try.ntmps80;go_wp2;go_ret;exact ⟨o2, od⟩
     ·replace H := ie H;obtain ⟨c7b0, c7b1, H⟩ | ⟨c7b0, c7b1, H⟩ := H
      ·obtain rfl := Option.some.inj H;go_enter Try.func80, Try.ntmps80;go_wp2;go_ret;exact ⟨o2, od⟩
      ·replace H := ie H;obtain ⟨c8b0, c8b1, H⟩ | ⟨c8b0, c8b1, H⟩ := H
       ·obtain rfl := Option.some.inj H;go_enter Try.func80, Try.ntmps80;go_wp2;go_ret;exact ⟨o2, od⟩
       ·obtain rfl := Option.some.inj H;go_enter Try.func80, Try.ntmps80;go_wp2;go_ret;exact ⟨o2, od⟩

/-! ### jy: function 159 -/
def jy.f (a0 : Int) : Option (Bool) := if a0 = 2 then (some true) else (if a0 = 5 then (some true) else (if a0 = 6 then (some true) else (some (a0 == 12))))
set_option maxHeartbeats 8000000 in
set_option maxRecDepth 100000 in
theorem jy.calls (a0 : Int) (r : Bool) (w : World) (h : jy.f a0 = some r) :
  Calls Try.prog 159 #[.int .i64 a0] w fun e w' => e = .returned (.bool r) ∧ Drawn0 w w' := by
 have H : (if a0 = 2 then (some true) else (if a0 = 5 then (some true) else (if a0 = 6 then (some true) else (some (a0 == 12))))) = some r := h;clear h;replace H := ie H;obtain ⟨c2b0, c2b1, H⟩ | ⟨c2b0, c2b1, H⟩ := H
 ·obtain rfl := Option.some.inj H;go_enter Try.func159, Try.ntmps159;go_wp2;go_ret;exact ⟨o2, od⟩
 ·replace H := ie H;obtain ⟨c3b0, c3b1, H⟩ | ⟨c3b0, c3b1, H⟩ := H
  ·obtain rfl := Option.some.inj H;go_enter Try.func159, Try.ntmps159;go_wp2;go_ret;exact ⟨o2, od⟩
  ·replace H := ie H;obtain ⟨c4b0, c4b1, H⟩ | ⟨c4b0, c4b1, H⟩ := H
   ·obtain rfl := Option.some.inj H;go_enter Try.func159, Try.ntmps159;go_wp2;go_ret;exact ⟨o2, od⟩
   ·obtain rfl := Option.some.inj H;go_enter Try.func159, Try.ntmps159;go_wp2;go_ret;exact ⟨o2, od⟩

/-! ### zB: function 205 -/
def zB.f (a0 : Int) : Option (Bool) := if a0 = 16 then (some true) else (some (a0 == 49))
set_option maxHeartbeats 8000000 in
set_option maxRecDepth 100000 in
theorem zB.calls (a0 : Int) (r : Bool) (w : World) (h : zB.f a0 = some r) :
  Calls Try.prog 205 #[.int .i64 a0] w fun e w' => e = .returned (.bool r) ∧ Drawn0 w w' := by
 have H : (if a0 = 16 then (some true) else (some (a0 == 49))) = some r := h;clear h;replace H := ie H;obtain ⟨c2b0, c2b1, H⟩ | ⟨c2b0, c2b1, H⟩ := H
 ·obtain rfl := Option.some.inj H;go_enter Try.func205, Try.ntmps205;go_wp2;go_ret;exact ⟨o2, od⟩
 ·obtain rfl := Option.some.inj H;go_enter Try.func205, Try.ntmps205;go_wp2;go_ret;exact ⟨o2, od⟩

/-! ### qv: function 134 -/
mutual
def qv.j0 : Nat → List (List Int) → Int → Int → Int → List (List Int) → List Int → List Int → Option (Bool)
 | 0, _, _, _, _, _, _, _ => none
 | k + 1, jE, js, jW, jN, jD, jC, qX => (jy.f js).bind fun jn => (if jn = true then ((qx.f k jD).bind fun qE => (if qE = true then (qv.j1 k jE js jW jN jD jC qX) else (some false))) else (if (jD.length : Int) > 0 then (some false) else (qv.j1 k jE js jW jN jD jC qX)))
def qv.j1 : Nat → List (List Int) → Int → Int → Int → List (List Int) → List Int → List Int → Option (Bool)
 | 0, _, _, _, _, _, _, _ => none
 | k + 1, jE, js, jW, jN, jD, jC, qX => (zB.f js).bind fun jw => (if jw = true then (if (jC.length : Int) > 40 then (some false) else (qv.j2 k jE js jW jN jD jC qX)) else (if (jC.length : Int) > 0 then (some false) else (qv.j2 k jE js jW jN jD jC qX)))
def qv.j2 : Nat → List (List Int) → Int → Int → Int → List (List Int) → List Int → List Int → Option (Bool)
 | 0, _, _, _, _, _, _, _ => none
 | k + 1, jE, js, jW, jN, jD, jC, qX => if js = 6 then (if (qX.length : Int) = 2 then (if 0 < (qX.length : Int) then (if (rd qX 0) < 0 then (some false) else (if (rd qX 0) ≥ 4294967296 then (some false) else (if 1 < (qX.length : Int) then (if (rd qX 1) ≥ 0 then (some (decide ((rd qX 1) ≤ 100000))) else (some false)) else (none)))) else (none)) else (some false)) else (some ((qX.length : Int) == 0))
end
def qv.f (k : Nat) (qo : List (List Int)) (qK : Int) (jh : Int) (jg : Int) (qF : List (List Int)) (qG : List Int) (qy : List Int) : Option (Bool) := if qK = 1 then (if jg < 0 then (some false) else (if jg ≥ 4294967296 then (some false) else (qv.j0 k qo qK jh jg qF qG qy))) else (if jg = 0 then (qv.j0 k qo qK jh jg qF qG qy) else (some false))
set_option maxHeartbeats 8000000 in
set_option maxRecDepth 100000 in
theorem qv.calls (k : Nat) (jV : Option Addr) (jU : Nat) (qo : List (List Int)) (qK : Int) (jh : Int) (jg : Int) (zZ : Option Addr) (zW : Nat) (qF : List (List Int)) (zY : Option Addr) (zV : Nat) (qG : List Int) (zX : Option Addr) (zU : Nat) (qy : List Int) (r : Bool) (w : World) (za : Kd.C (Kd.slice 5 (Kd.int .u8)) w jV qo.length qo) (zj : qo.length ≤ jU) (yv : Kd.C (Kd.slice 5 (Kd.int .u8)) w zZ qF.length qF) (yy : qF.length ≤ zW) (yu : Kd.C (Kd.int .u8) w zY qG.length qG) (yx : qG.length ≤ zV) (yt : Kd.C (Kd.int .i64) w zX qy.length qy) (yw : qy.length ≤ zU) (h : qv.f k qo qK jh jg qF qG qy = some r) :
  Calls Try.prog 134 #[.agg #[.slice jV qo.length jU, .int .i64 qK, .int .i64 jh, .int .i64 jg, .slice zZ qF.length zW, .slice zY qG.length zV, .slice zX qy.length zU]] w fun e w' => e = .returned (.bool r) ∧ Below w.heap.size w w' := by
 have JW := Try.underlying33;have QD := Try.underlying31;have jz := ak za;have jI := ak zj;clear za zj;have yb := ak yv;have yc := ak yy;clear yv yy;have Qf := ak yu;have Qh := ak yx;clear yu yx;have zt := ak yt;have Qt := ak yw;clear yt yw;have HB := ak (Below.refl w.heap.size w);have H : (if qK = 1 then (if jg < 0 then (some false) else (if jg ≥ 4294967296 then (some false) else (qv.j0 k qo qK jh jg qF qG qy))) else (if jg = 0 then (qv.j0 k qo qK jh jg qF qG qy) else (some false))) = some r := h;clear h;have HC2 := ak H;clear H;go_enter Try.func134, Try.ntmps134;go_upto_if 5 with (((with_reducible refine gate_dst (N := 1) rfl ?_);refine bxd (N := 1) rfl HB ?_;clear HB;intro qb w3 hg HB qc qA hb;have jv := qA;clear hb hg;obtain ⟨JN, XB, XA, Xz, Xy, Xx, Xw, JM, Xt, Xs, Xr, Xq, Xp, Xo⟩ := cells7 qc.out))
 (try simp only [Act.put, List.setIfInBounds_toArray, List.set_cons_zero, List.set_cons_succ])
 go_cut [] (fun wc => ∃ (kq : Nat), Aside0 (qv.j0 kq qo qK jh jg qF qG qy = some r) ∧ Aside0 (kq ≤ k) ∧ Aside0 (wc.heap[qb]? = some (.cells #[(.slice jV qo.length jU), .int .i64 qK, .int .i64 jh, .int .i64 jg, (.slice zZ qF.length zW), (.slice zY qG.length zV), (.slice zX qy.length zU)] 33 (0, 0))) ∧ Aside0 (Below w.heap.size w wc))
 case first =>
  have H := HC2.out;clear HC2;replace H := ie H;obtain ⟨c5b0, c5b1, H⟩ | ⟨c5b0, c5b1, H⟩ := H
  ·(first | rw [c5b0] | (simp only [i64_w, i32_w]; rw [c5b0]) | skip)
   replace H := ip H;obtain ⟨c6b0, H⟩ | ⟨c6b0, H⟩ := H
   ·obtain rfl := Option.some.inj H;obtain ⟨qlb, qFO, qFN, qFM, qFL, qFK, qFJ, qk3, qEL, qEK, qEJ, qEI, qEH, qEG⟩ := cells7 qc.out;go_wp2;go_ret;exact ⟨o1, bs⟩
   ·replace H := ih H;obtain ⟨c8b0, H⟩ | ⟨c8b0, H⟩ := H
    ·obtain rfl := Option.some.inj H;obtain ⟨Xu, qk9, qk8, qk7, qk6, qk5, qk4, Xm, qk1, qk0, qkZ, qkY, qkX, qkW⟩ := cells7 qc.out;go_wp2;go_ret;exact ⟨o1, bs⟩
    ·have H' := ak H;clear H;obtain ⟨Jw, qkJ, qkI, qkH, qkG, qkF, qkE, Ju, qhB, qhA, qhz, qhy, qhx, qhw⟩ := cells7 qc.out;go_wp2;go_meet
     case rel => exact ⟨_, H', ⟨o3⟩, ⟨bk qc.out⟩, ⟨bs⟩⟩
  ·(first | rw [c5b0] | (simp only [i64_w, i32_w]; rw [c5b0]) | skip)
   replace H := ie H;obtain ⟨c11b0, c11b1, H⟩ | ⟨c11b0, c11b1, H⟩ := H
   ·have H' := ak H;clear H;obtain ⟨qcO, qkx, qkw, qkv, qku, qkt, qks, qbr, qhp, qho, qhn, qhm, qhl, qhk⟩ := cells7 qc.out;go_wp2;go_meet
    case rel => exact ⟨_, H', ⟨o3⟩, ⟨bk qc.out⟩, ⟨bs⟩⟩
   ·obtain rfl := Option.some.inj H;obtain ⟨Qx, YM, YL, YK, YJ, YI, YH, Qw, ZR, ZQ, ZP, ZO, ZN, ZM⟩ := cells7 qc.out;go_wp2;go_ret;exact ⟨o1, bs⟩
 case rest =>
  clear HC2;(try clear JN)
  (try clear XB)
  (try clear XA)
  (try clear Xz)
  (try clear Xy)
  (try clear Xx)
  (try clear Xw)
  (try clear JM)
  (try clear Xt)
  (try clear Xs)
  (try clear Xr)
  (try clear Xq)
  (try clear Xp)
  (try clear Xo)
  obtain ⟨kq, HA, HJ1, qc, HB⟩ := hcut;cases kq with
  | zero => exact absurd HA.out (by simp [qv.j0])
  | succ kj1 =>
   have H := HA.out;clear HA;simp only [qv.j0] at H;replace H := bnd H;obtain ⟨jn, A14, H⟩ := H;have qdP := ak H;clear H;obtain ⟨YG, YF, YE, YD, YC, YB, YA, ZL, ZK, ZJ, ZI, ZH, ZG, ZF⟩ := cells7 qc.out;go_upto_if 19 with (((with_reducible refine gate_callee (f := 159) rfl ?_);refine glD 19 rfl rfl Try.func159 (jy.calls qK jn _ A14.out) (fun nd => ?_)))
   (try simp only [Act.put, List.setIfInBounds_toArray, List.set_cons_zero, List.set_cons_succ])
   go_cut [] (fun wc => ∃ (kq : Nat), Aside0 (qv.j1 kq qo qK jh jg qF qG qy = some r) ∧ Aside0 (kq ≤ kj1) ∧ Aside0 (wc.heap[qb]? = some (.cells #[(.slice jV qo.length jU), .int .i64 qK, .int .i64 jh, .int .i64 jg, (.slice zZ qF.length zW), (.slice zY qG.length zV), (.slice zX qy.length zU)] 33 (0, 0))) ∧ Aside0 (Below w.heap.size w wc))
   case first =>
    have H := qdP.out;clear qdP;replace H := ib H;obtain ⟨rfl, H⟩ | ⟨rfl, H⟩ := H
    ·replace H := bnd H;obtain ⟨qE, A18, H⟩ := H;replace H := ib H;obtain ⟨rfl, H⟩ | ⟨rfl, H⟩ := H
     ·have H' := ak H;clear H;obtain ⟨Yz, qcF, qcE, qcD, qcC, qcB, qcA, ZE, qbi, qbh, qbg, qbf, qbe, qbd⟩ := cells7 qc.out;go_wp2_with (((with_reducible refine gate_callee (f := 76) rfl ?_);refine glB 22 rfl rfl Try.func76 (qx.calls kj1 _ _ qF true _ (cv yb HB) yc.out A18.out) (fun w21 hb => ?_);replace qc := b1 qc hb;replace HB := b2s bs hb;(try clear hb)));go_meet
      case rel => exact ⟨_, H', ⟨by have := HJ1.out; first | omega | exact Nat.le_refl _⟩, ⟨bk qc.out⟩, ⟨bs⟩⟩
     ·obtain rfl := Option.some.inj H;obtain ⟨Ja, QZ, QY, QX, QW, QV, QU, QT, QS, QR, QQ, QP, QO, QN⟩ := cells7 qc.out;go_wp2_with (((with_reducible refine gate_callee (f := 76) rfl ?_);refine glB 22 rfl rfl Try.func76 (qx.calls kj1 _ _ qF false _ (cv yb HB) yc.out A18.out) (fun w23 hb => ?_);replace qc := b1 qc hb;replace HB := b2s bs hb;(try clear hb)));go_ret;exact ⟨o1, bs⟩
    ·replace H := ig H;obtain ⟨c24b0, H⟩ | ⟨c24b0, H⟩ := H
     ·have c24b1 : decide (0 < qF.length) = true := decide_eq_true (by have := of_decide_eq_true c24b0; omega);(first | rw [c24b0] | (simp only [i64_w, i32_w]; rw [c24b0]) | skip)
      obtain rfl := Option.some.inj H;obtain ⟨qcy, qj0, qjZ, qjY, qjX, qjW, qjV, qbb, qgS, qgR, qgQ, qgP, qgO, qgN⟩ := cells7 qc.out;go_wp2;go_ret;exact ⟨o1, bs⟩
     ·have c24b1 : decide (0 < qF.length) = false := decide_eq_false (by have := of_decide_eq_false c24b0; omega);(first | rw [c24b0] | (simp only [i64_w, i32_w]; rw [c24b0]) | skip)
      have H' := ak H;clear H;obtain ⟨qcx, qjU, qjT, qjS, qjR, qjQ, qjP, qba, qgM, qgL, qgK, qgJ, qgI, qgH⟩ := cells7 qc.out;go_wp2;go_meet
      case rel => exact ⟨_, H', ⟨by have := HJ1.out; first | omega | exact Nat.le_refl _⟩, ⟨bk qc.out⟩, ⟨bs⟩⟩
   case rest =>
    clear qdP;(try clear YG)
    (try clear YF)
    (try clear YE)
    (try clear YD)
    (try clear YC)
    (try clear YB)
    (try clear YA)
    (try clear JN)
    (try clear XB)
    (try clear XA)
    (try clear Xz)
    (try clear Xy)
    (try clear Xx)
    (try clear Xw)
    (try clear ZL)
    (try clear ZK)
    (try clear ZJ)
    (try clear ZI)
    (try clear ZH)
    (try clear ZG)
    (try clear ZF)
    (try clear JM)
    (try clear Xt)
    (try clear Xs)
    (try clear Xr)
    (try clear Xq)
    (try clear Xp)
    (try clear Xo)
    obtain ⟨kq, HA, qlB, qc, HB⟩ := hcut;cases kq with
    | zero => exact absurd HA.out (by simp [qv.j1])
    | succ qmL =>
     have H := HA.out;clear HA;simp only [qv.j1] at H;replace H := bnd H;obtain ⟨jw, A27, H⟩ := H;have qdN := ak H;clear H;obtain ⟨Yw, Yv, Yu, Yt, Ys, Yr, Yq, ZB, ZA, Zz, Zy, Zx, Zw, Zv⟩ := cells7 qc.out;go_upto_if 31 with (((with_reducible refine gate_callee (f := 205) rfl ?_);refine glD 31 rfl rfl Try.func205 (zB.calls qK jw _ A27.out) (fun nd => ?_)))
     (try simp only [Act.put, List.setIfInBounds_toArray, List.set_cons_zero, List.set_cons_succ])
     go_cut [] (fun wc => ∃ (kq : Nat), Aside0 (qv.j2 kq qo qK jh jg qF qG qy = some r) ∧ Aside0 (kq ≤ qmL) ∧ Aside0 (wc.heap[qb]? = some (.cells #[(.slice jV qo.length jU), .int .i64 qK, .int .i64 jh, .int .i64 jg, (.slice zZ qF.length zW), (.slice zY qG.length zV), (.slice zX qy.length zU)] 33 (0, 0))) ∧ Aside0 (Below w.heap.size w wc))
     case first =>
      have H := qdN.out;clear qdN;replace H := ib H;obtain ⟨rfl, H⟩ | ⟨rfl, H⟩ := H
      ·replace H := ig H;obtain ⟨c31b0, H⟩ | ⟨c31b0, H⟩ := H
       ·have c31b1 : decide (40 < qG.length) = true := decide_eq_true (by have := of_decide_eq_true c31b0; omega);(first | rw [c31b0] | (simp only [i64_w, i32_w]; rw [c31b0]) | skip)
        obtain rfl := Option.some.inj H;obtain ⟨Yp, Yo, Yn, Ym, Yl, Yk, Yj, Zu, Zt, Zs, Zr, Zq, Zp, Zo⟩ := cells7 qc.out;go_wp2;go_ret;exact ⟨o1, bs⟩
       ·have c31b1 : decide (40 < qG.length) = false := decide_eq_false (by have := of_decide_eq_false c31b0; omega);(first | rw [c31b0] | (simp only [i64_w, i32_w]; rw [c31b0]) | skip)
        have H' := ak H;clear H;obtain ⟨qck, qjA, qjz, qjy, qjx, qjw, qjv, qaX, qgs, qgr, qgq, qgp, qgo, qgn⟩ := cells7 qc.out;go_wp2;go_meet
        case rel => exact ⟨_, H', ⟨by have := HJ1.out; have := qlB.out; first | omega | exact Nat.le_refl _⟩, ⟨bk qc.out⟩, ⟨bs⟩⟩
      ·replace H := ig H;obtain ⟨c34b0, H⟩ | ⟨c34b0, H⟩ := H
       ·have c34b1 : decide (0 < qG.length) = true := decide_eq_true (by have := of_decide_eq_true c34b0; omega);obtain rfl := Option.some.inj H;obtain ⟨Yh, Yg, Yf, Ye, Yd, Yc, Yb, Zm, Zl, Zk, Zj, Zi, Zh, Zg⟩ := cells7 qc.out;go_wp2;go_ret;exact ⟨o1, bs⟩
       ·have c34b1 : decide (0 < qG.length) = false := decide_eq_false (by have := of_decide_eq_false c34b0; omega);have H' := ak H;clear H;obtain ⟨qcj, qjo, qjn, qjm, qjl, qjk, qjj, qaW, qgg, qgf, qge, qgd, qgc, qgb⟩ := cells7 qc.out;go_wp2;go_meet
        case rel => exact ⟨_, H', ⟨by have := HJ1.out; have := qlB.out; first | omega | exact Nat.le_refl _⟩, ⟨bk qc.out⟩, ⟨bs⟩⟩
     case rest =>
      clear qdN;(try clear YG)
      (try clear YF)
      (try clear YE)
      (try clear YD)
      (try clear YC)
      (try clear YB)
      (try clear YA)
      (try clear Yw)
      (try clear Yv)
      (try clear Yu)
      (try clear Yt)
      (try clear Ys)
      (try clear Yr)
      (try clear Yq)
      (try clear JN)
      (try clear XB)
      (try clear XA)
      (try clear Xz)
      (try clear Xy)
      (try clear Xx)
      (try clear Xw)
      (try clear ZL)
      (try clear ZK)
      (try clear ZJ)
      (try clear ZI)
      (try clear ZH)
      (try clear ZG)
      (try clear ZF)
      (try clear ZB)
      (try clear ZA)
      (try clear Zz)
      (try clear Zy)
      (try clear Zx)
      (try clear Zw)
      (try clear Zv)
      (try clear JM)
      (try clear Xt)
      (try clear Xs)
      (try clear Xr)
      (try clear Xq)
      (try clear Xp)
      (try clear Xo)
      obtain ⟨kq, HA, qJT, qc, HB⟩ := hcut;cases kq with
      | zero => exact absurd HA.out (by simp [qv.j2])
      | succ qIQ =>
       have H := HA.out;clear HA;simp only [qv.j2] at H;replace H := ie H;obtain ⟨c37b0, c37b1, H⟩ | ⟨c37b0, c37b1, H⟩ := H
       ·replace H := ie H;obtain ⟨c38b0, c38b1, H⟩ | ⟨c38b0, c38b1, H⟩ := H
        ·replace H := ipN H;obtain ⟨c39b0, H⟩ := H;have c39b1 : decide (0 < qy.length) = true := decide_eq_true (by have := of_decide_eq_true c39b0; omega);replace H := ip H;obtain ⟨c40b0, H⟩ | ⟨c40b0, H⟩ := H
         ·obtain rfl := Option.some.inj H;obtain ⟨qCG, qCF, qCE, qCD, qCC, qCB, qCA, qyz, qyy, qyx, qyw, qyv, qyu, qyt⟩ := cells7 qc.out;obtain ⟨Jj, rfl, jc, ze, zd⟩ := el0_int zt 0 (h0 := by decide);replace ze := of_eq_true ze;replace zd := of_eq_true zd;have JJ : (0 < qy.length) = True := eq_true (by omega);(try rw [show ((0 : Int)).toNat = 0 from rfl] at jc)
          (try rw [Addr.add_zero'] at jc)
          replace jc := pw_cell_below HB.out jc;replace ze := eq_true ze;replace zd := eq_true zd;go_wp2;go_ret;exact ⟨o1, bs⟩
         ·replace H := ih H;obtain ⟨c42b0, H⟩ | ⟨c42b0, H⟩ := H
          ·obtain rfl := Option.some.inj H;obtain ⟨qca, qiZ, qiY, qiX, qiW, qiV, qiU, qaN, qfR, qfQ, qfP, qfO, qfN, qfM⟩ := cells7 qc.out;obtain ⟨Jj, rfl, jc, ze, zd⟩ := el0_int zt 0 (h0 := by decide);replace ze := of_eq_true ze;replace zd := of_eq_true zd;have JJ : (0 < qy.length) = True := eq_true (by omega);(try rw [show ((0 : Int)).toNat = 0 from rfl] at jc)
           (try rw [Addr.add_zero'] at jc)
           replace jc := pw_cell_below HB.out jc;replace ze := eq_true ze;replace zd := eq_true zd;obtain ⟨zr, yL, yK⟩ := el20_int zt 0 (h0 := by decide);replace yL := of_eq_true yL;replace yK := of_eq_true yK;have qdZ : (0 < qy.length) = True := eq_true (by omega);(try rw [show ((0 : Int)).toNat = 0 from rfl] at zr)
           (try rw [Addr.add_zero'] at zr)
           replace zr := pw_cell_below HB.out zr;replace yL := eq_true yL;replace yK := eq_true yK;go_wp2;go_ret;exact ⟨o1, bs⟩
          ·replace H := ipN H;obtain ⟨c44b0, H⟩ := H;have c44b1 : decide (1 < qy.length) = true := decide_eq_true (by have := of_decide_eq_true c44b0; omega);replace H := ih H;obtain ⟨c45b0, H⟩ | ⟨c45b0, H⟩ := H
           ·obtain rfl := Option.some.inj H;obtain ⟨qb2, qb1, qb0, qbZ, qbY, qbX, qbW, qaF, qaE, qaD, qaC, qaB, qaA, qaz⟩ := cells7 qc.out;obtain ⟨Jj, rfl, jc, ze, zd⟩ := el0_int zt 0 (h0 := by decide);replace ze := of_eq_true ze;replace zd := of_eq_true zd;have JJ : (0 < qy.length) = True := eq_true (by omega);(try rw [show ((0 : Int)).toNat = 0 from rfl] at jc)
            (try rw [Addr.add_zero'] at jc)
            replace jc := pw_cell_below HB.out jc;replace ze := eq_true ze;replace zd := eq_true zd;obtain ⟨zr, yL, yK⟩ := el20_int zt 0 (h0 := by decide);replace yL := of_eq_true yL;replace yK := of_eq_true yK;have qdZ : (0 < qy.length) = True := eq_true (by omega);(try rw [show ((0 : Int)).toNat = 0 from rfl] at zr)
            (try rw [Addr.add_zero'] at zr)
            replace zr := pw_cell_below HB.out zr;replace yL := eq_true yL;replace yK := eq_true yK;obtain ⟨jK, zm, zl⟩ := el20_int zt 1 (h0 := by decide);replace zm := of_eq_true zm;replace zl := of_eq_true zl;(try simp only [show (1 : Int).toNat = 1 from rfl, Nat.reduceMul, Nat.reduceEqDiff, Go.Addr.add, ↓reduceIte] at jK)
            have qdY : (1 < qy.length) = True := eq_true (by omega);(try rw [show ((1 : Int)).toNat = 1 from rfl] at jK)
            replace jK := pw_cell_below HB.out jK;replace zm := eq_true zm;replace zl := eq_true zl;obtain ⟨yq, yR, yP⟩ := el20_int zt 1 (h0 := by decide);replace yR := of_eq_true yR;replace yP := of_eq_true yP;(try simp only [show (1 : Int).toNat = 1 from rfl, Nat.reduceMul, Nat.reduceEqDiff, Go.Addr.add, ↓reduceIte] at yq)
            have qFV : (1 < qy.length) = True := eq_true (by omega);(try rw [show ((1 : Int)).toNat = 1 from rfl] at yq)
            replace yq := pw_cell_below HB.out yq;replace yR := eq_true yR;replace yP := eq_true yP;go_wp2;go_ret;exact ⟨o1, bs⟩
           ·obtain rfl := Option.some.inj H;obtain ⟨qiT, qCz, qCy, qCx, qCw, qCv, qCu, qfL, qys, qyr, qyq, qyp, qyo, qyn⟩ := cells7 qc.out;obtain ⟨Jj, rfl, jc, ze, zd⟩ := el0_int zt 0 (h0 := by decide);replace ze := of_eq_true ze;replace zd := of_eq_true zd;have JJ : (0 < qy.length) = True := eq_true (by omega);(try rw [show ((0 : Int)).toNat = 0 from rfl] at jc)
            (try rw [Addr.add_zero'] at jc)
            replace jc := pw_cell_below HB.out jc;replace ze := eq_true ze;replace zd := eq_true zd;obtain ⟨zr, yL, yK⟩ := el20_int zt 0 (h0 := by decide);replace yL := of_eq_true yL;replace yK := of_eq_true yK;have qdZ : (0 < qy.length) = True := eq_true (by omega);(try rw [show ((0 : Int)).toNat = 0 from rfl] at zr)
            (try rw [Addr.add_zero'] at zr)
            replace zr := pw_cell_below HB.out zr;replace yL := eq_true yL;replace yK := eq_true yK;obtain ⟨jK, zm, zl⟩ := el20_int zt 1 (h0 := by decide);replace zm := of_eq_true zm;replace zl := of_eq_true zl;(try simp only [show (1 : Int).toNat = 1 from rfl, Nat.reduceMul, Nat.reduceEqDiff, Go.Addr.add, ↓reduceIte] at jK)
            have qdY : (1 < qy.length) = True := eq_true (by omega);(try rw [show ((1 : Int)).toNat = 1 from rfl] at jK)
            replace jK := pw_cell_below HB.out jK;replace zm := eq_true zm;replace zl := eq_true zl;go_wp2;go_ret;exact ⟨o1, bs⟩
        ·obtain rfl := Option.some.inj H;obtain ⟨ZZ, ZY, ZX, ZW, ZV, ZU, ZT, Ze, Zd, Zc, Zb, Za, JZ, JY⟩ := cells7 qc.out;go_wp2;go_ret;exact ⟨o1, bs⟩
       ·obtain rfl := Option.some.inj H;obtain ⟨qCt, qCs, qCr, qCq, qCp, qCo, qCn, qym, qyl, qyk, qyj, qyi, qyh, qyg⟩ := cells7 qc.out;go_wp2;go_ret;exact ⟨o1, bs⟩

/-! ### qZ: function 60 -/
def qZ.f (k : Nat) (qo : List (List Int)) (qK : Int) (jh : Int) (jg : Int) (qF : List (List Int)) (qG : List Int) (qy : List Int) : Option (Bool) := (qx.f k qo).bind fun jn => (if jn = true then ((jM.f qK).bind fun qE => (if qE = true then (if jh ≥ 0 then (if jh ≤ 100000 then ((qv.f k qo qK jh jg qF qG qy).bind fun jw => (some jw)) else (some false)) else (some false)) else (some false))) else (some false))
set_option maxHeartbeats 8000000 in
set_option maxRecDepth 100000 in
theorem qZ.calls (k : Nat) (jV : Option Addr) (jU : Nat) (qo : List (List Int)) (qK : Int) (jh : Int) (jg : Int) (zZ : Option Addr) (zW : Nat) (qF : List (List Int)) (zY : Option Addr) (zV : Nat) (qG : List Int) (zX : Option Addr) (zU : Nat) (qy : List Int) (r : Bool) (w : World) (za : Kd.C (Kd.slice 5 (Kd.int .u8)) w jV qo.length qo) (zj : qo.length ≤ jU) (yv : Kd.C (Kd.slice 5 (Kd.int .u8)) w zZ qF.length qF) (yy : qF.length ≤ zW) (yu : Kd.C (Kd.int .u8) w zY qG.length qG) (yx : qG.length ≤ zV) (yt : Kd.C (Kd.int .i64) w zX qy.length qy) (yw : qy.length ≤ zU) (h : qZ.f k qo qK jh jg qF qG qy = some r) :
  Calls Try.prog 60 #[.agg #[.slice jV qo.length jU, .int .i64 qK, .int .i64 jh, .int .i64 jg, .slice zZ qF.length zW, .slice zY qG.length zV, .slice zX qy.length zU]] w fun e w' => e = .returned (.bool r) ∧ Below w.heap.size w w' := by
 have JW := Try.underlying33;have QD := Try.underlying31;have jz := ak za;have jI := ak zj;clear za zj;have yb := ak yv;have yc := ak yy;clear yv yy;have Qf := ak yu;have Qh := ak yx;clear yu yx;have zt := ak yt;have Qt := ak yw;clear yt yw;have HB := ak (Below.refl w.heap.size w);have H : ((qx.f k qo).bind fun jn => (if jn = true then ((jM.f qK).bind fun qE => (if qE = true then (if jh ≥ 0 then (if jh ≤ 100000 then ((qv.f k qo qK jh jg qF qG qy).bind fun jw => (some jw)) else (some false)) else (some false)) else (some false))) else (some false))) = some r := h;clear h;replace H := bnd H;obtain ⟨jn, A2, H⟩ := H;replace H := ib H;obtain ⟨rfl, H⟩ | ⟨rfl, H⟩ := H
 ·replace H := bnd H;obtain ⟨qE, A4, H⟩ := H;replace H := ib H;obtain ⟨rfl, H⟩ | ⟨rfl, H⟩ := H
  ·replace H := ih H;obtain ⟨c6b0, H⟩ | ⟨c6b0, H⟩ := H
   ·replace H := ip H;obtain ⟨c7b0, H⟩ | ⟨c7b0, H⟩ := H
    ·replace H := bnd H;obtain ⟨jw, A8, H⟩ := H;obtain rfl := Option.some.inj H;go_enter Try.func60, Try.ntmps60;go_wp2_with (first | ((with_reducible refine gate_dst (N := 1) rfl ?_);refine bxd (N := 1) rfl HB ?_;clear HB;intro qb w9 hg HB qc qA hb;have jv := qA;clear hb hg;obtain ⟨Jw, qkJ, qkI, qkH, qkG, qkF, qkE, Ju, qhB, qhA, qhz, qhy, qhx, qhw⟩ := cells7 qc.out) | ((with_reducible refine gate_callee (f := 76) rfl ?_);refine glB 5 rfl rfl Try.func76 (qx.calls k _ _ qo true _ (cv jz HB) jI.out A2.out) (fun w11 hb => ?_);replace qc := b1 qc hb;replace HB := b2s bs hb;(try clear hb);obtain ⟨qcO, qkx, qkw, qkv, qku, qkt, qks, qbr, qhp, qho, qhn, qhm, qhl, qhk⟩ := cells7 qc.out) | (go_at_call 80;(with_reducible refine (jM.calls qK true _ A4.out).mono ?_);rintro e w' ⟨rfl, ⟨nd, rfl⟩⟩) | (go_at_call 134;(with_reducible refine (qv.calls k _ _ qo qK jh jg _ _ qF _ _ qG _ _ qy jw _ ?qL jI.out ?jT yc.out ?zh Qh.out ?zg Qt.out A8.out).mono ?_);(case qL => repeat (first | exact (Kd.C_below jz.out bs) | (with_reducible refine Kd.C_alloc ?_ _) | (with_reducible refine Kd.C_drewN ?_ _) | (with_reducible refine Kd.C_drew ?_)));(case jT => repeat (first | exact (Kd.C_below yb.out bs) | (with_reducible refine Kd.C_alloc ?_ _) | (with_reducible refine Kd.C_drewN ?_ _) | (with_reducible refine Kd.C_drew ?_)));(case zh => repeat (first | exact (Kd.C_below Qf.out bs) | (with_reducible refine Kd.C_alloc ?_ _) | (with_reducible refine Kd.C_drewN ?_ _) | (with_reducible refine Kd.C_drew ?_)));(case zg => repeat (first | exact (Kd.C_below zt.out bs) | (with_reducible refine Kd.C_alloc ?_ _) | (with_reducible refine Kd.C_drewN ?_ _) | (with_reducible refine Kd.C_drew ?_)));rintro e w13 ⟨rfl, hb⟩;replace qc := b1 qc hb;replace HB := b2s bs hb;(try clear hb)));go_ret;exact ⟨o1, bs⟩
    ·obtain rfl := Option.some.inj H;go_enter Try.func60, Try.ntmps60;go_wp2_with (first | ((with_reducible refine gate_dst (N := 1) rfl ?_);refine bxd (N := 1) rfl HB ?_;clear HB;intro qb w14 hg HB qc qA hb;have jv := qA;clear hb hg;obtain ⟨qCU, qCT, qCS, qCR, qCQ, qCP, qCO, qyN, qyM, qyL, qyK, qyJ, qyI, qyH⟩ := cells7 qc.out) | ((with_reducible refine gate_callee (f := 76) rfl ?_);refine glB 5 rfl rfl Try.func76 (qx.calls k _ _ qo true _ (cv jz HB) jI.out A2.out) (fun w16 hb => ?_);replace qc := b1 qc hb;replace HB := b2s bs hb;(try clear hb);obtain ⟨qcN, qkq, qkp, qko, qkn, qkm, qkl, qbq, qhi, qhh, qhg, qhf, qhe, qhd⟩ := cells7 qc.out) | (go_at_call 80;(with_reducible refine (jM.calls qK true _ A4.out).mono ?_);rintro e w' ⟨rfl, ⟨nd, rfl⟩⟩));go_ret;exact ⟨o1, bs⟩
   ·obtain rfl := Option.some.inj H;go_enter Try.func60, Try.ntmps60;go_wp2_with (first | ((with_reducible refine gate_dst (N := 1) rfl ?_);refine bxd (N := 1) rfl HB ?_;clear HB;intro qb w18 hg HB qc qA hb;have jv := qA;clear hb hg;obtain ⟨qkk, qkj, qki, qkh, qkg, qkf, qke, qhc, qhb, qha, qg9, qg8, qg7, qg6⟩ := cells7 qc.out) | ((with_reducible refine gate_callee (f := 76) rfl ?_);refine glB 5 rfl rfl Try.func76 (qx.calls k _ _ qo true _ (cv jz HB) jI.out A2.out) (fun w20 hb => ?_);replace qc := b1 qc hb;replace HB := b2s bs hb;(try clear hb);obtain ⟨Yy, qkd, qkc, qkb, qka, qj9, qj8, ZD, qg5, qg4, qg3, qg2, qg1, qg0⟩ := cells7 qc.out) | (go_at_call 80;(with_reducible refine (jM.calls qK true _ A4.out).mono ?_);rintro e w' ⟨rfl, ⟨nd, rfl⟩⟩));go_ret;exact ⟨o1, bs⟩
  ·obtain rfl := Option.some.inj H;go_enter Try.func60, Try.ntmps60;go_wp2_with (first | ((with_reducible refine gate_dst (N := 1) rfl ?_);refine bxd (N := 1) rfl HB ?_;clear HB;intro qb w22 hg HB qc qA hb;have jv := qA;clear hb hg;obtain ⟨qcz, qj7, qj6, qj5, qj4, qj3, qj2, qbc, qgZ, qgY, qgX, qgW, qgV, qgU⟩ := cells7 qc.out) | ((with_reducible refine gate_callee (f := 76) rfl ?_);refine glB 5 rfl rfl Try.func76 (qx.calls k _ _ qo true _ (cv jz HB) jI.out A2.out) (fun w24 hb => ?_);replace qc := b1 qc hb;replace HB := b2s bs hb;(try clear hb);obtain ⟨qcy, qj0, qjZ, qjY, qjX, qjW, qjV, qbb, qgS, qgR, qgQ, qgP, qgO, qgN⟩ := cells7 qc.out) | (go_at_call 80;(with_reducible refine (jM.calls qK false _ A4.out).mono ?_);rintro e w' ⟨rfl, ⟨nd, rfl⟩⟩));go_ret;exact ⟨o1, bs⟩
 ·obtain rfl := Option.some.inj H;go_enter Try.func60, Try.ntmps60;go_wp2_with (first | ((with_reducible refine gate_dst (N := 1) rfl ?_);refine bxd (N := 1) rfl HB ?_;clear HB;intro qb w26 hg HB qc qA hb;have jv := qA;clear hb hg;obtain ⟨Yx, qcw, qcv, qcu, qct, qcs, qcr, ZC, qa9, qa8, qa7, qa6, qa5, qa4⟩ := cells7 qc.out) | ((with_reducible refine gate_callee (f := 76) rfl ?_);refine glB 5 rfl rfl Try.func76 (qx.calls k _ _ qo false _ (cv jz HB) jI.out A2.out) (fun w28 hb => ?_);replace qc := b1 qc hb;replace HB := b2s bs hb;(try clear hb)));go_ret;exact ⟨o1, bs⟩

end Go.Proofs.Ytagedmajlppohaa.Q
