/- frame.open: what its walk wants. Conditions: bytes. -/
import Derived.Test.YtbioanbokbhmgaaRdb
import Derived.Test.YtbioanbokbhmgaaRw16
namespace Go.Proofs.Ytbioanbokbhmgaa
open Go.RowKit

def zeroHd : Hd := ⟨0, 0, 0, 0, 0, 0, 0, 0, 0, 0, 0, ⟨#[]⟩, 0, 0, 0, 0⟩
def rdH (b : List Nat) : Hd := if headE b = 0 then hdOf b else zeroHd
def rdS (b : List Nat) : Nat := if headE b = 0 then sum2 (hdOf b) else 0
def OpnPost (w : World) (b : List Nat) (e : Ending) (w' : World) : Prop := e = .returned (.tuple #[HdV (rdH b), .int .u32 (rdS b : Nat), .int .i64 (headE b)]) ∧ Below w.heap.size w w'
theorem take_four {b : List Nat} (h : 4 ≤ b.length) : b.take 4 = [b.getD 0 0, b.getD 1 0, b.getD 2 0, b.getD 3 0] := by
  match b, h with
  | x0 :: x1 :: x2 :: x3 :: t, _ => rfl
  | [], h => simp at h
  | [_], h => simp at h
  | [_, _], h => simp at h
  | [_, _, _], h => simp at h
theorem opn_bad {w w' : World} {b : List Nat} {n : Int} (h : headE b = n) (hn : n ≠ 0) (hb : Below w.heap.size w w') : OpnPost w b (.returned (.tuple #[HdV zeroHd, .int .u32 0, .int .i64 n])) w' := by
  have h0 : ¬ headE b = 0 := by rw [h]; exact hn
  refine ⟨?_, hb⟩
  unfold rdH rdS
  rw [if_neg h0, if_neg h0, h]
  rfl
theorem run_arr4 (A : Option Addr) (n c : Nat) (hn : 4 ≤ n) (w : World) : (Instr.arrayAt 107 (.slice A n c)).run Try.prog w = .ok (.pointer A) w := run_arrayAt _ _ 5 4 A n c Try.underlying107 hn
theorem run_arr8 (A : Option Addr) (n c : Nat) (hn : 8 ≤ n) (w : World) : (Instr.arrayAt 22 (.slice A n c)).run Try.prog w = .ok (.pointer A) w := run_arrayAt _ _ 5 8 A n c Try.underlying22 hn
theorem sl_sl (b : List Nat) (a n p k : Nat) (h : p + k ≤ n) : sl (sl b a n) p k = sl b (a + p) k := by
  unfold sl
  rw [List.drop_take, List.take_take, List.drop_drop, Nat.min_eq_left (by omega)]
theorem num_sl (b : List Nat) (a n p k : Nat) (h : p + k ≤ n) : num (sl b a n) p k = num b (a + p) k := by unfold num; rw [sl_sl b a n p k h]
theorem num_one {b : List Nat} {p : Nat} (h : p < b.length) : num b p 1 = b.getD p 0 := by unfold num; rw [sl_one h]; rfl
theorem below_of_g {w w1 w2 : World} {r : Nat} (h : Below w.heap.size w w1) (g : w1.grownBy w2 (some r)) (hr : w.heap.size ≤ r) : Below w.heap.size w w2 :=
  ⟨g.os.trans h.os, g.tape.trans h.tape, g.output.trans h.output, Nat.le_trans h.size g.size, fun k hk => (g.block k (Nat.lt_of_lt_of_le hk h.size) (fun e => by injection e with e; omega)).trans (h.block k hk)⟩
theorem zero_cells {w : World} {hs : Nat} (h : w.heap[hs]? = some (.cells #[.int .u8 0, .int .u8 0, .int .u8 0, .int .u8 0, .int .u8 0, .int .u8 0, .int .u8 0, .int .u8 0, .int .i64 0, .int .i64 0, .int .i64 0, .string ⟨#[]⟩, .int .i64 0, .int .i64 0, .int .i64 0, .int .i64 0] 28 (0, 0))) : (w.cell? ⟨hs, 0, none⟩ = some (.int .u8 0) ∧ w.cell? ⟨hs, 1, none⟩ = some (.int .u8 0) ∧ w.cell? ⟨hs, 2, none⟩ = some (.int .u8 0) ∧ w.cell? ⟨hs, 3, none⟩ = some (.int .u8 0) ∧ w.cell? ⟨hs, 4, none⟩ = some (.int .u8 0) ∧ w.cell? ⟨hs, 5, none⟩ = some (.int .u8 0) ∧ w.cell? ⟨hs, 6, none⟩ = some (.int .u8 0) ∧ w.cell? ⟨hs, 7, none⟩ = some (.int .u8 0) ∧ w.cell? ⟨hs, 8, none⟩ = some (.int .i64 0) ∧ w.cell? ⟨hs, 9, none⟩ = some (.int .i64 0) ∧ w.cell? ⟨hs, 10, none⟩ = some (.int .i64 0) ∧ w.cell? ⟨hs, 11, none⟩ = some (.string ⟨#[]⟩) ∧ w.cell? ⟨hs, 12, none⟩ = some (.int .i64 0) ∧ w.cell? ⟨hs, 13, none⟩ = some (.int .i64 0) ∧ w.cell? ⟨hs, 14, none⟩ = some (.int .i64 0) ∧ w.cell? ⟨hs, 15, none⟩ = some (.int .i64 0)) ∧ (∀ i, w.frozen? ⟨hs, i, none⟩ = false) ∧ (w.setCell ⟨hs, 0, none⟩ (.int .u8 0) = w ∧ w.setCell ⟨hs, 1, none⟩ (.int .u8 0) = w ∧ w.setCell ⟨hs, 2, none⟩ (.int .u8 0) = w ∧ w.setCell ⟨hs, 3, none⟩ (.int .u8 0) = w ∧ w.setCell ⟨hs, 4, none⟩ (.int .u8 0) = w ∧ w.setCell ⟨hs, 5, none⟩ (.int .u8 0) = w ∧ w.setCell ⟨hs, 6, none⟩ (.int .u8 0) = w ∧ w.setCell ⟨hs, 7, none⟩ (.int .u8 0) = w ∧ w.setCell ⟨hs, 8, none⟩ (.int .i64 0) = w ∧ w.setCell ⟨hs, 9, none⟩ (.int .i64 0) = w ∧ w.setCell ⟨hs, 10, none⟩ (.int .i64 0) = w ∧ w.setCell ⟨hs, 11, none⟩ (.string ⟨#[]⟩) = w ∧ w.setCell ⟨hs, 12, none⟩ (.int .i64 0) = w ∧ w.setCell ⟨hs, 13, none⟩ (.int .i64 0) = w ∧ w.setCell ⟨hs, 14, none⟩ (.int .i64 0) = w ∧ w.setCell ⟨hs, 15, none⟩ (.int .i64 0) = w) := by
  have hf : ∀ i, w.frozen? ⟨hs, i, none⟩ = false := fun i => by simp [World.frozen?, h]
  have hc : w.cell? ⟨hs, 0, none⟩ = some (.int .u8 0) ∧ w.cell? ⟨hs, 1, none⟩ = some (.int .u8 0) ∧ w.cell? ⟨hs, 2, none⟩ = some (.int .u8 0) ∧ w.cell? ⟨hs, 3, none⟩ = some (.int .u8 0) ∧ w.cell? ⟨hs, 4, none⟩ = some (.int .u8 0) ∧ w.cell? ⟨hs, 5, none⟩ = some (.int .u8 0) ∧ w.cell? ⟨hs, 6, none⟩ = some (.int .u8 0) ∧ w.cell? ⟨hs, 7, none⟩ = some (.int .u8 0) ∧ w.cell? ⟨hs, 8, none⟩ = some (.int .i64 0) ∧ w.cell? ⟨hs, 9, none⟩ = some (.int .i64 0) ∧ w.cell? ⟨hs, 10, none⟩ = some (.int .i64 0) ∧ w.cell? ⟨hs, 11, none⟩ = some (.string ⟨#[]⟩) ∧ w.cell? ⟨hs, 12, none⟩ = some (.int .i64 0) ∧ w.cell? ⟨hs, 13, none⟩ = some (.int .i64 0) ∧ w.cell? ⟨hs, 14, none⟩ = some (.int .i64 0) ∧ w.cell? ⟨hs, 15, none⟩ = some (.int .i64 0) := by
    refine ⟨?_, ?_, ?_, ?_, ?_, ?_, ?_, ?_, ?_, ?_, ?_, ?_, ?_, ?_, ?_, ?_⟩ <;> simp [World.cell?, h]
  obtain ⟨zc0, zc1, zc2, zc3, zc4, zc5, zc6, zc7, zc8, zc9, zc10, zc11, zc12, zc13, zc14, zc15⟩ := hc
  exact ⟨⟨zc0, zc1, zc2, zc3, zc4, zc5, zc6, zc7, zc8, zc9, zc10, zc11, zc12, zc13, zc14, zc15⟩, hf, setCell_same zc0 (hf 0), setCell_same zc1 (hf 1), setCell_same zc2 (hf 2), setCell_same zc3 (hf 3), setCell_same zc4 (hf 4), setCell_same zc5 (hf 5), setCell_same zc6 (hf 6), setCell_same zc7 (hf 7), setCell_same zc8 (hf 8), setCell_same zc9 (hf 9), setCell_same zc10 (hf 10), setCell_same zc11 (hf 11), setCell_same zc12 (hf 12), setCell_same zc13 (hf 13), setCell_same zc14 (hf 14), setCell_same zc15 (hf 15)⟩
theorem rl_eight {w : World} {bk o y0 y1 y2 y3 y4 y5 y6 y7 : Nat} (h : RL w (some ⟨bk, o, none⟩) [y0, y1, y2, y3, y4, y5, y6, y7]) : w.cell? ⟨bk, o, none⟩ = some (.int .u8 (y0 : Int)) ∧ w.cell? ⟨bk, o + 1, none⟩ = some (.int .u8 (y1 : Int)) ∧ w.cell? ⟨bk, o + 2, none⟩ = some (.int .u8 (y2 : Int)) ∧ w.cell? ⟨bk, o + 3, none⟩ = some (.int .u8 (y3 : Int)) ∧ w.cell? ⟨bk, o + 4, none⟩ = some (.int .u8 (y4 : Int)) ∧ w.cell? ⟨bk, o + 5, none⟩ = some (.int .u8 (y5 : Int)) ∧ w.cell? ⟨bk, o + 6, none⟩ = some (.int .u8 (y6 : Int)) ∧ w.cell? ⟨bk, o + 7, none⟩ = some (.int .u8 (y7 : Int)) := by
  have g : ∀ i, i < 8 → w.cell? ⟨bk, o + i, none⟩ = some (bv ([y0, y1, y2, y3, y4, y5, y6, y7].getD i 0)) := fun i hi => by
    obtain ⟨b', o', e, _, hc⟩ := h i (by simpa using hi)
    injection e with e
    injection e with e1 e2
    subst e1 e2
    exact hc
  exact ⟨g 0 (by decide), g 1 (by decide), g 2 (by decide), g 3 (by decide), g 4 (by decide), g 5 (by decide), g 6 (by decide), g 7 (by decide)⟩
theorem cells_of {w : World} {hb T : Nat} {c0 c1 c2 c3 c4 c5 c6 c7 c8 c9 c10 c11 c12 c13 c14 c15 : Value} (h : w.heap[hb]? = some (.cells #[c0, c1, c2, c3, c4, c5, c6, c7, c8, c9, c10, c11, c12, c13, c14, c15] T (0, 0))) : w.cell? ⟨hb, 0, none⟩ = some c0 ∧ w.cell? ⟨hb, 1, none⟩ = some c1 ∧ w.cell? ⟨hb, 2, none⟩ = some c2 ∧ w.cell? ⟨hb, 3, none⟩ = some c3 ∧ w.cell? ⟨hb, 4, none⟩ = some c4 ∧ w.cell? ⟨hb, 5, none⟩ = some c5 ∧ w.cell? ⟨hb, 6, none⟩ = some c6 ∧ w.cell? ⟨hb, 7, none⟩ = some c7 ∧ w.cell? ⟨hb, 8, none⟩ = some c8 ∧ w.cell? ⟨hb, 9, none⟩ = some c9 ∧ w.cell? ⟨hb, 10, none⟩ = some c10 ∧ w.cell? ⟨hb, 11, none⟩ = some c11 ∧ w.cell? ⟨hb, 12, none⟩ = some c12 ∧ w.cell? ⟨hb, 13, none⟩ = some c13 ∧ w.cell? ⟨hb, 14, none⟩ = some c14 ∧ w.cell? ⟨hb, 15, none⟩ = some c15 := by
  refine ⟨?_, ?_, ?_, ?_, ?_, ?_, ?_, ?_, ?_, ?_, ?_, ?_, ?_, ?_, ?_, ?_⟩ <;> simp [World.cell?, h]
theorem RdAt.rowFar {w0 w w' : World} {r : Nat} {A : Option Addr} {b : List Nat} {c p p0 g : Nat} (h0 : RdAt w0 r A b c p0) (h : RdAt w r A b c p) (hg : w0.heap.size ≤ g) (hgr : w.grownBy w' (some g)) : RdAt w' r A b c p := by
  have hr := h0.lt
  refine ⟨by rw [hgr.block r h.lt (fun e => by injection e with e; omega)]; exact h.heap, fun i hi => ?_, h.cap⟩
  obtain ⟨bk, o, e, hb, hc⟩ := h.rl i hi
  obtain ⟨bk0, o0, e0, hb0, _⟩ := h0.rl i hi
  rw [e] at e0
  injection e0 with e0
  injection e0 with e1 e2
  subst e1
  refine ⟨bk, o, e, Nat.lt_of_lt_of_le hb hgr.size, ?_⟩
  rw [← hc]
  exact World.cell?_of_block (a := ⟨bk, o + i, none⟩) (hgr.block bk hb (fun e => by injection e with e; omega))
theorem set16 {w : World} {hb T : Nat} {o0 o1 o2 o3 o4 o5 o6 o7 o8 o9 o10 o11 o12 o13 o14 o15 : Value} (h : w.heap[hb]? = some (.cells #[o0, o1, o2, o3, o4, o5, o6, o7, o8, o9, o10, o11, o12, o13, o14, o15] T (0, 0))) (v0 v1 v2 v3 v4 v5 v6 v7 v8 v9 v10 v11 v12 v13 v14 v15 : Value) : ((((((((((((((((w.setCell ⟨hb, 0, none⟩ v0).setCell ⟨hb, 1, none⟩ v1).setCell ⟨hb, 2, none⟩ v2).setCell ⟨hb, 3, none⟩ v3).setCell ⟨hb, 4, none⟩ v4).setCell ⟨hb, 5, none⟩ v5).setCell ⟨hb, 6, none⟩ v6).setCell ⟨hb, 7, none⟩ v7).setCell ⟨hb, 8, none⟩ v8).setCell ⟨hb, 9, none⟩ v9).setCell ⟨hb, 10, none⟩ v10).setCell ⟨hb, 11, none⟩ v11).setCell ⟨hb, 12, none⟩ v12).setCell ⟨hb, 13, none⟩ v13).setCell ⟨hb, 14, none⟩ v14).setCell ⟨hb, 15, none⟩ v15).heap[hb]? = some (.cells #[v0, v1, v2, v3, v4, v5, v6, v7, v8, v9, v10, v11, v12, v13, v14, v15] T (0, 0)) := by
  simp [World.setCell, h, Array.getElem?_modify]
theorem opn_good {w w' : World} {b : List Nat} {h : Hd} {s : Nat} (he : headE b = 0) (hd : hdOf b = h) (hs : sum2 (hdOf b) = s) (hb : Below w.heap.size w w') : OpnPost w b (.returned (.tuple #[HdV h, .int .u32 (s : Nat), .int .i64 0])) w' := by
  refine ⟨?_, hb⟩
  unfold rdH rdS
  rw [if_pos he, if_pos he, he, hs, hd]
theorem Below.trans_row {w w1 w2 : World} {g B : Nat} (h : Below B w w1) (k : w1.grownBy w2 (some g)) (hg : B ≤ g) (hB : B ≤ w1.heap.size) : Below B w w2 :=
  ⟨k.os.trans h.os, k.tape.trans h.tape, k.output.trans h.output, Nat.le_trans h.size k.size, fun i hi => (k.block i (by omega) (fun e => by injection e with e; omega)).trans (h.block i hi)⟩
/-- The result's cell and the head under way. -/
structure OpSt (w0 w : World) (hs hb r : Nat) (cs : Array Value) (A : Option Addr) (b : List Nat) (c p : Nat) : Prop where
  far : Below w0.heap.size w0 w
  res : w.heap[hs]? = some (.cells #[.int .u8 0, .int .u8 0, .int .u8 0, .int .u8 0, .int .u8 0, .int .u8 0, .int .u8 0, .int .u8 0, .int .i64 0, .int .i64 0, .int .i64 0, .string ⟨#[]⟩, .int .i64 0, .int .i64 0, .int .i64 0, .int .i64 0] 28 (0, 0))
  hd : w.heap[hb]? = some (.cells cs 28 (0, 0))
  rd : RdAt w r A b c p
  old : ∃ wO pO, RdAt wO r A b c pO ∧ wO.heap.size ≤ hb
  ge : w0.heap.size ≤ hs ∧ w0.heap.size ≤ hb ∧ w0.heap.size ≤ r ∧ hs ≠ hb ∧ hs ≠ r ∧ hb ≠ r
theorem OpSt.next {w0 w w' : World} {hs hb r : Nat} {cs : Array Value} {A : Option Addr} {b : List Nat} {c p p' : Nat} (h : OpSt w0 w hs hb r cs A b c p) (hg : w.grownBy w' (some r)) (hr : RdAt w' r A b c p') : OpSt w0 w' hs hb r cs A b c p' := by
  obtain ⟨g1, g2, g3, g4, g5, g6⟩ := h.ge
  refine ⟨⟨hg.os.trans h.far.os, hg.tape.trans h.far.tape, hg.output.trans h.far.output, Nat.le_trans h.far.size hg.size, fun k hk => ?_⟩, ?_, ?_, hr, h.old, h.ge⟩
  · rw [hg.block k (Nat.lt_of_lt_of_le hk h.far.size) (fun e => by injection e with e; omega)]
    exact h.far.block k hk
  · rw [hg.block hs (Array.getElem?_eq_some_iff.1 h.res).1 (fun e => by injection e with e; omega)]; exact h.res
  · rw [hg.block hb (Array.getElem?_eq_some_iff.1 h.hd).1 (fun e => by injection e with e; omega)]; exact h.hd
theorem OpSt.below {w0 w w' : World} {hs hb r : Nat} {cs : Array Value} {A : Option Addr} {b : List Nat} {c p : Nat} (h : OpSt w0 w hs hb r cs A b c p) (hg : Below w.heap.size w w') : OpSt w0 w' hs hb r cs A b c p := h.next (G.below hg) (h.rd.below hg)
theorem OpSt.set {w0 w : World} {hs hb r : Nat} {cs : Array Value} {A : Option Addr} {b : List Nat} {c p : Nat} (h : OpSt w0 w hs hb r cs A b c p) (i : Nat) (v : Value) : OpSt w0 (w.setCell ⟨hb, i, none⟩ v) hs hb r (cs.setIfInBounds i v) A b c p := by
  obtain ⟨g1, g2, g3, g4, g5, g6⟩ := h.ge
  obtain ⟨wO, pO, hO, hOs⟩ := h.old
  refine ⟨h.far.setCell g2 v, ?_, by simp [World.setCell, h.hd, Array.getElem?_modify], hO.setFar h.rd hOs v, h.old, h.ge⟩
  rw [Below.heap_setCell _ _ _ _ (by show hs ≠ hb; exact g4)]; exact h.res
def RphPost (w : World) (b : List Nat) (e : Ending) (w' : World) : Prop := e = .returned (.tuple #[HdV (rdH b), .int .i64 (headE b)]) ∧ Below w.heap.size w w'
/-- What frame.open answers, for all bytes (proved in Opn8). -/
def OpnAll : Prop := ∀ (A : Option Addr) (c : Nat) (b : List Nat) (w : World), (∀ x ∈ b, x < 256) → b.length ≤ 150000000000000 → b.length ≤ c → c ≤ maxLen → RL w A b → Calls Try.prog 59 #[.slice A b.length c] w (OpnPost w b)
theorem OpSt.row {w0 w w' : World} {hs hb r : Nat} {cs cs' : Array Value} {A : Option Addr} {b : List Nat} {c p : Nat} (h : OpSt w0 w hs hb r cs A b c p) (hh : w'.heap[hb]? = some (.cells cs' 28 (0, 0))) (hg : w.grownBy w' (some hb)) : OpSt w0 w' hs hb r cs' A b c p := by
  obtain ⟨g1, g2, g3, g4, g5, g6⟩ := h.ge
  obtain ⟨wO, pO, hO, hOs⟩ := h.old
  refine ⟨Below.trans_row h.far hg g2 h.far.size, ?_, hh, hO.rowFar h.rd hOs hg, h.old, h.ge⟩
  rw [hg.block hs (Array.getElem?_eq_some_iff.1 h.res).1 (fun e => by injection e with e; omega)]; exact h.res
end Go.Proofs.Ytbioanbokbhmgaa
