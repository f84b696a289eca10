/- A list of shards as an argument, opened. Conditions: none. -/
import Derived.Test.YtjaaldandgfkgaaOpenSd
import Derived.Test.YtjaaldandgfkgaaShM
import Derived.Deep.Slices
import Derived.Test.YtjaaldandgfkgaaFt10
import Derived.Test.YtjaaldandgfkgaaAw10
namespace Go.Proofs.Ytjaaldandgfkgaa
open Go.ChangeShapes Go.WideShapes Go.ChangeAt Go.RowKit Go.Joins Go.Deep

section
variable {H : Type} {enc : TypeId × Value → H} {w : World} {base : Nat} {held : Bool}
set_option maxRecDepth 100000 in
theorem shard_cap {fuel : Nat} {c0 c1 c2 c3 c4 c5 c6 c7 c8 c9 c10 c11 c12 c13 c14 c15 : Value} {A : Option Addr} {n c : Nat} {x : DataW H × List MemPlace} (h : DataW.trod enc Try.prog w base (fun _ => true) held fuel 69 [c0, c1, c2, c3, c4, c5, c6, c7, c8, c9, c10, c11, c12, c13, c14, c15, .slice A n c] = some x) : n ≤ c := by
  obtain ⟨xs, k, _, hx, hlen, hxl, hg⟩ := DataW.trod_struct Try.underlying69 h
  have kB : Try.prog.cellsOf 67 = 1 := by kernel_rfl
  have g1 : DataW.trod enc Try.prog w base (fun _ => true) held k 67 (([c0, c1, c2, c3, c4, c5, c6, c7, c8, c9, c10, c11, c12, c13, c14, c15, .slice A n c].drop 16).take (Try.prog.cellsOf 67)) = xs[1]? := hg 1 _ rfl
  have hxl' : xs.length = 2 := hxl
  obtain ⟨y1, q1⟩ := some_of hxl' (i := 1) (by omega)
  rw [q1, kB] at g1
  simp only [List.drop_succ_cons, List.drop_zero, List.take_succ_cons, List.take_zero] at g1
  rcases open_slice Try.underlying67 g1 with ⟨e, _⟩ | ⟨a, len, cap, m, n', D, Pl, e, _, hl, _⟩
  · simp only [List.cons.injEq, and_true, Value.slice.injEq] at e
    obtain ⟨_, e1, e2⟩ := e
    omega
  · simp only [List.cons.injEq, and_true, Value.slice.injEq] at e
    obtain ⟨_, e1, e2⟩ := e
    omega
structure ShOne where
  h : Hd
  A : Option Addr
  c : Nat
  BL : List (List Nat)
instance : Inhabited ShOne := ⟨⟨⟨0, 0, 0, 0, 0, 0, 0, 0, 0, 0, 0, ⟨#[]⟩, 0, 0, 0, 0⟩, none, 0, []⟩⟩
set_option maxRecDepth 100000 in
theorem open_shards {fuel : Nat} {v : Value} {x : DataW H × List MemPlace} (h : DataW.trod enc Try.prog w base (fun _ => true) held fuel 45 [v] = some x) (hw : ∀ n ∈ x.1.weights Try.prog 45, n ≤ reachBytes) :
    ∃ (A : Option Addr) (n c : Nat) (H : Nat → Hd) (BL : Nat → List (List Nat)), v = .slice A n c ∧ n ≤ c ∧ c ≤ maxLen ∧ RSd w A n H BL ∧ n * 104 ≤ 140737488351232 ∧ (∀ i, i < n → (H i).Wf) ∧ (∀ i, i < n → (BL i).length * 24 ≤ 140737488351232) ∧ (∀ i, i < n → ∀ l ∈ BL i, l.length ≤ 140737488351232) ∧ ∀ i, i < n → ∀ l ∈ BL i, ∀ x ∈ l, x < 256 := by
  have k17 : Try.prog.cellsOf 69 = 17 := by kernel_rfl
  have k104 : Try.prog.bytesOf 69 = 104 := by kernel_rfl
  rcases open_slice Try.underlying45 h with ⟨e, _⟩ | ⟨a, len, cap, m, n', D, Pl, e, hb, hl, hm, hmm, rfl, hx⟩
  · simp only [List.cons.injEq, and_true] at e
    exact ⟨none, 0, 0, fun _ => (default : ShOne).h, fun _ => [], e, Nat.le_refl _, by unfold maxLen; omega, RSd.zero _ _ _ _, by omega, fun i hi => absurd hi (by omega), fun i hi => absurd hi (by omega), fun i hi => absurd hi (by omega), fun i hi => absurd hi (by omega)⟩
  · simp only [List.cons.injEq, and_true] at e
    simp only [if_true] at hmm
    subst hmm
    obtain ⟨hW, hrow⟩ := weights_slice Try.underlying45 hw
    rw [k104] at hW
    have hr := reach_le
    simp at hW
    rw [k17] at hx
    obtain ⟨q, hq⟩ := choose_lt (α := ShOne) (n := len) (p := fun i q => (∀ j u, (sdC q.h (.slice q.A q.BL.length q.c))[j]? = some u → w.cell? (a.add (i * 17 + j)) = some u) ∧ q.h.Wf ∧ RLL w q.A q.BL ∧ q.BL.length ≤ q.c ∧ q.BL.length * 24 ≤ 140737488351232 ∧ (∀ l ∈ q.BL, l.length ≤ 140737488351232) ∧ ∀ l ∈ q.BL, ∀ x ∈ l, x < 256) (fun i hi => by
      obtain ⟨cs', h1, h2⟩ := hx i (by omega)
      obtain ⟨_, hlen, hcell⟩ := World.cells?_some h1
      have hmem : D i ∈ (List.range len).map D := List.mem_map.2 ⟨i, List.mem_range.2 hi, rfl⟩
      obtain ⟨hd, A, c, BL, rfl, h3, h4, h5, h6, h7⟩ := open_shard h2 (hrow _ hmem)
      refine ⟨⟨hd, A, c, BL⟩, fun j u hj => ?_, h3, h4, shard_cap h2, h5, h6, h7⟩
      have hj17 : j < 17 := (List.getElem?_eq_some_iff.1 hj).1
      have h8 := hcell j hj17
      rw [add_add] at h8
      rw [h8]
      exact hj)
    refine ⟨some a, len, _, fun i => (q i).h, fun i => (q i).BL, e, hl, hm, ⟨fun i => (q i).A, fun i => (q i).c, fun i hi => ?_, fun i hi => ⟨(hq i hi).2.2.1, (hq i hi).2.2.2.1⟩⟩, by omega, fun i hi => (hq i hi).2.1, fun i hi => (hq i hi).2.2.2.2.1, fun i hi => (hq i hi).2.2.2.2.2.1, fun i hi => (hq i hi).2.2.2.2.2.2⟩
    have h0 := (hq i hi).1
    have hs : a.spot = none := by
      have h9 := (hq 0 (by omega)).1 0 _ rfl
      unfold Addr.add at h9
      simp only [Nat.zero_mul, Nat.add_zero, if_true] at h9
      exact World.cell?_spot h9
    obtain ⟨b, o, sp⟩ := a
    simp only at hs
    subst hs
    have hadd : ∀ j, (⟨b, o, none⟩ : Addr).add (i * 17 + j) = ⟨b, o + i * 17 + j, none⟩ := fun j => by unfold Addr.add; split <;> simp_all <;> omega
    refine ⟨b, o, rfl, ?_, fun j u hj => by rw [← hadd]; exact h0 j u hj⟩
    have h9 := h0 0 _ rfl
    rw [hadd] at h9
    unfold World.cell? at h9
    cases hh : w.heap[b]? with
    | none => simp [hh] at h9
    | some x => exact (Array.getElem?_eq_some_iff.1 hh).1
end
end Go.Proofs.Ytjaaldandgfkgaa

/- An object's numbers and bytes as an argument, opened. Conditions: none. -/
namespace Go.Proofs.Ytjaaldandgfkgaa
open Go.ChangeShapes Go.WideShapes Go.ChangeAt Go.RowKit Go.Joins Go.Deep

/-- The store's name are bytes. -/
def Pln.Wf (p : Pln) : Prop := (Lit.int .u8 p.s0).wf = true ∧ (Lit.int .u8 p.s1).wf = true ∧ (Lit.int .u8 p.s2).wf = true ∧ (Lit.int .u8 p.s3).wf = true ∧ (Lit.int .u8 p.s4).wf = true ∧ (Lit.int .u8 p.s5).wf = true ∧ (Lit.int .u8 p.s6).wf = true ∧ (Lit.int .u8 p.s7).wf = true
section
variable {H : Type} {enc : TypeId × Value → H} {w : World} {base : Nat} {held : Bool}
set_option maxRecDepth 100000 in
theorem open_plain {fuel : Nat} {cs : List Value} {x : DataW H × List MemPlace} (h : DataW.trod enc Try.prog w base (fun _ => true) held fuel 64 cs = some x) (hw : ∀ n ∈ x.1.weights Try.prog 64, n ≤ reachBytes) :
    ∃ (p : Pln) (A : Option Addr) (cd : Nat) (l : List Nat) (Pk : Option Addr) (np cp : Nat) (pi : Nat → Int), cs = [.int .i64 p.K, .int .i64 p.M, .int .i64 p.B, .int .u8 p.s0, .int .u8 p.s1, .int .u8 p.s2, .int .u8 p.s3, .int .u8 p.s4, .int .u8 p.s5, .int .u8 p.s6, .int .u8 p.s7, .string p.key, .int .i64 p.ep, .int .i64 p.ct, .slice A l.length cd, .slice Pk np cp] ∧ p.Wf ∧ RL w A l ∧ l.length ≤ cd ∧ cd ≤ maxLen ∧ l.length ≤ 140737488351232 ∧ (∀ x ∈ l, x < 256) ∧ Rd w Pk np (fun i => .int .i64 (pi i)) ∧ np * 8 ≤ 140737488351232 := by
  obtain ⟨xs, n, _, hx, hlen, hxl, hg⟩ := DataW.trod_struct Try.underlying64 h
  have hc : cs.length = 16 := hlen.trans (by kernel_rfl)
  have kS : Try.prog.cellsOf 38 = 8 := by kernel_rfl
  have kB : Try.prog.cellsOf 5 = 1 := by kernel_rfl
  have kI : Try.prog.cellsOf 3 = 1 := by kernel_rfl
  have kT : Try.prog.cellsOf 9 = 1 := by kernel_rfl
  have kD : Try.prog.cellsOf 43 = 1 := by kernel_rfl
  have kN : Try.prog.cellsOf 25 = 1 := by kernel_rfl
  match cs, hc with
  | [c0, c1, c2, c3, c4, c5, c6, c7, c8, c9, c10, c11, c12, c13, c14, c15], _ =>
    have hxl' : xs.length = 9 := hxl
    have g0 : DataW.trod enc Try.prog w base (fun _ => true) held n 3 (([c0, c1, c2, c3, c4, c5, c6, c7, c8, c9, c10, c11, c12, c13, c14, c15].drop 0).take (Try.prog.cellsOf 3)) = xs[0]? := hg 0 _ rfl
    have g1 : DataW.trod enc Try.prog w base (fun _ => true) held n 3 (([c0, c1, c2, c3, c4, c5, c6, c7, c8, c9, c10, c11, c12, c13, c14, c15].drop 1).take (Try.prog.cellsOf 3)) = xs[1]? := hg 1 _ rfl
    have g2 : DataW.trod enc Try.prog w base (fun _ => true) held n 3 (([c0, c1, c2, c3, c4, c5, c6, c7, c8, c9, c10, c11, c12, c13, c14, c15].drop 2).take (Try.prog.cellsOf 3)) = xs[2]? := hg 2 _ rfl
    have g3 : DataW.trod enc Try.prog w base (fun _ => true) held n 38 (([c0, c1, c2, c3, c4, c5, c6, c7, c8, c9, c10, c11, c12, c13, c14, c15].drop 3).take (Try.prog.cellsOf 38)) = xs[3]? := hg 3 _ rfl
    have g4 : DataW.trod enc Try.prog w base (fun _ => true) held n 9 (([c0, c1, c2, c3, c4, c5, c6, c7, c8, c9, c10, c11, c12, c13, c14, c15].drop 11).take (Try.prog.cellsOf 9)) = xs[4]? := hg 4 _ rfl
    have g5 : DataW.trod enc Try.prog w base (fun _ => true) held n 3 (([c0, c1, c2, c3, c4, c5, c6, c7, c8, c9, c10, c11, c12, c13, c14, c15].drop 12).take (Try.prog.cellsOf 3)) = xs[5]? := hg 5 _ rfl
    have g6 : DataW.trod enc Try.prog w base (fun _ => true) held n 3 (([c0, c1, c2, c3, c4, c5, c6, c7, c8, c9, c10, c11, c12, c13, c14, c15].drop 13).take (Try.prog.cellsOf 3)) = xs[6]? := hg 6 _ rfl
    have g7 : DataW.trod enc Try.prog w base (fun _ => true) held n 43 (([c0, c1, c2, c3, c4, c5, c6, c7, c8, c9, c10, c11, c12, c13, c14, c15].drop 14).take (Try.prog.cellsOf 43)) = xs[7]? := hg 7 _ rfl
    have g8 : DataW.trod enc Try.prog w base (fun _ => true) held n 25 (([c0, c1, c2, c3, c4, c5, c6, c7, c8, c9, c10, c11, c12, c13, c14, c15].drop 15).take (Try.prog.cellsOf 25)) = xs[8]? := hg 8 _ rfl
    obtain ⟨x0, e0⟩ := some_of hxl' (i := 0) (by omega)
    obtain ⟨x1, e1⟩ := some_of hxl' (i := 1) (by omega)
    obtain ⟨x2, e2⟩ := some_of hxl' (i := 2) (by omega)
    obtain ⟨x3, e3⟩ := some_of hxl' (i := 3) (by omega)
    obtain ⟨x4, e4⟩ := some_of hxl' (i := 4) (by omega)
    obtain ⟨x5, e5⟩ := some_of hxl' (i := 5) (by omega)
    obtain ⟨x6, e6⟩ := some_of hxl' (i := 6) (by omega)
    obtain ⟨x7, e7⟩ := some_of hxl' (i := 7) (by omega)
    obtain ⟨x8, e8⟩ := some_of hxl' (i := 8) (by omega)
    rw [e0, kI] at g0; rw [e1, kI] at g1; rw [e2, kI] at g2; rw [e3, kS] at g3; rw [e4, kT] at g4; rw [e5, kI] at g5; rw [e6, kI] at g6; rw [e7, kD] at g7; rw [e8, kN] at g8
    simp only [List.drop_succ_cons, List.drop_zero, List.take_succ_cons, List.take_zero] at g0 g1 g2 g3 g4 g5 g6 g7 g8
    have hx1 : x.1 = .agg (xs.map (·.1)) := by rw [hx]
    obtain ⟨K, rfl, _⟩ := one_int Try.underlying3 g0
    obtain ⟨M, rfl, _⟩ := one_int Try.underlying3 g1
    obtain ⟨B, rfl, _⟩ := one_int Try.underlying3 g2
    obtain ⟨ys, m, _, _, _, hyl, hy⟩ := DataW.trod_array Try.underlying38 g3
    rw [kB] at hy
    have a0 := hy 0 (by omega)
    obtain ⟨y0, f0⟩ := some_of hyl (i := 0) (by omega)
    rw [f0] at a0
    simp only [Nat.reduceMul, List.drop_zero, List.take_succ_cons, List.take_zero] at a0
    obtain ⟨n0, rfl, w0⟩ := one_int Try.underlying5 a0
    have a1 := hy 1 (by omega)
    obtain ⟨y1, f1⟩ := some_of hyl (i := 1) (by omega)
    rw [f1] at a1
    simp only [Nat.reduceMul, List.drop_succ_cons, List.drop_zero, List.take_succ_cons, List.take_zero] at a1
    obtain ⟨n1, rfl, w1⟩ := one_int Try.underlying5 a1
    have a2 := hy 2 (by omega)
    obtain ⟨y2, f2⟩ := some_of hyl (i := 2) (by omega)
    rw [f2] at a2
    simp only [Nat.reduceMul, List.drop_succ_cons, List.drop_zero, List.take_succ_cons, List.take_zero] at a2
    obtain ⟨n2, rfl, w2⟩ := one_int Try.underlying5 a2
    have a3 := hy 3 (by omega)
    obtain ⟨y3, f3⟩ := some_of hyl (i := 3) (by omega)
    rw [f3] at a3
    simp only [Nat.reduceMul, List.drop_succ_cons, List.drop_zero, List.take_succ_cons, List.take_zero] at a3
    obtain ⟨n3, rfl, w3⟩ := one_int Try.underlying5 a3
    have a4 := hy 4 (by omega)
    obtain ⟨y4, f4⟩ := some_of hyl (i := 4) (by omega)
    rw [f4] at a4
    simp only [Nat.reduceMul, List.drop_succ_cons, List.drop_zero, List.take_succ_cons, List.take_zero] at a4
    obtain ⟨n4, rfl, w4⟩ := one_int Try.underlying5 a4
    have a5 := hy 5 (by omega)
    obtain ⟨y5, f5⟩ := some_of hyl (i := 5) (by omega)
    rw [f5] at a5
    simp only [Nat.reduceMul, List.drop_succ_cons, List.drop_zero, List.take_succ_cons, List.take_zero] at a5
    obtain ⟨n5, rfl, w5⟩ := one_int Try.underlying5 a5
    have a6 := hy 6 (by omega)
    obtain ⟨y6, f6⟩ := some_of hyl (i := 6) (by omega)
    rw [f6] at a6
    simp only [Nat.reduceMul, List.drop_succ_cons, List.drop_zero, List.take_succ_cons, List.take_zero] at a6
    obtain ⟨n6, rfl, w6⟩ := one_int Try.underlying5 a6
    have a7 := hy 7 (by omega)
    obtain ⟨y7, f7⟩ := some_of hyl (i := 7) (by omega)
    rw [f7] at a7
    simp only [Nat.reduceMul, List.drop_succ_cons, List.drop_zero, List.take_succ_cons, List.take_zero] at a7
    obtain ⟨n7, rfl, w7⟩ := one_int Try.underlying5 a7
    obtain ⟨key, rfl, _⟩ := one_string Try.underlying9 g4
    obtain ⟨ep, rfl, _⟩ := one_int Try.underlying3 g5
    obtain ⟨ct, rfl, _⟩ := one_int Try.underlying3 g6
    obtain ⟨A, nd, cd, f, rfl, hnc, hcm, hR, hnd, hf⟩ := open_bvec Try.underlying43 Try.underlying5 (by kernel_rfl) (by kernel_rfl) g7 (fun m hm => hw m (by
      rw [hx1]
      simp only [DataW.weights, Try.underlying64]
      exact DataW.weights_mem_each (j := 7) (t := 43) (d := x7.1) rfl (by rw [List.getElem?_map, e7]; rfl) m hm))
    obtain ⟨Pk, np, cp, pi, rfl, hP, hnp⟩ := open_vec Try.underlying25 Try.underlying3 (by kernel_rfl) (by kernel_rfl) g8 (fun m hm => hw m (by
      rw [hx1]
      simp only [DataW.weights, Try.underlying64]
      exact DataW.weights_mem_each (j := 8) (t := 25) (d := x8.1) rfl (by rw [List.getElem?_map, e8]; rfl) m hm))
    refine ⟨⟨K, M, B, n0, n1, n2, n3, n4, n5, n6, n7, key, ep, ct⟩, A, cd, mkL nd f, Pk, np, cp, pi, by rw [mkL_length], ⟨w0, w1, w2, w3, w4, w5, w6, w7⟩, rl_of_rd hR, by rw [mkL_length]; exact hnc, hcm, by rw [mkL_length]; exact hnd, mkL_lt hf, hP, hnp⟩
end
end Go.Proofs.Ytjaaldandgfkgaa

/- The head that fit makes is one that may be; parts of heads, compared. Conditions: as the theorems have them. -/
namespace Go.Proofs.Ytjaaldandgfkgaa
open Go.RowKit

theorem keyF_size (k : ByteArray) : 0 < (keyF k).size ∧ (keyF k).size ≤ 255 := by
  unfold keyF
  split
  · decide
  · split
    · rw [ByteArray.size_extract]; omega
    · omega
theorem fit_checkS (p : Pln) (n s i : Nat) (hs : s ≤ fitN p n) (hi : i < (1 + fK p) + (1 + fM p)) : checkE { fitH p with size := (s : Int), idx := (i : Int) } = 0 := by
  obtain ⟨h1, h2, h3, h4⟩ := fit_nums p
  obtain ⟨k1, k2⟩ := keyF_size p.key
  have hep : pickN p.ep 4294967295 < 4294967295 := pickN_lt (by decide)
  have hct : pickN p.ct 4294967295 < 4294967295 := pickN_lt (by decide)
  have hmay : MayS (1 + (fK p : Int)) (1 + (fM p : Int)) (1 + (fB p : Int)) := by unfold MayS; omega
  have hfn : fitN p n = min n (min 1048576 (4096 * (1 + fK p) * (1 + fB p))) := rfl
  have hsz : sizeE (1 + (fK p : Int)) (1 + (fM p : Int)) (1 + (fB p : Int)) (s : Int) = 0 := by
    unfold sizeE
    rw [if_pos hmay]
    unfold fitE
    have e1 : (1 + (fK p : Int)).toNat = 1 + fK p := by omega
    have e2 : (1 + (fB p : Int)).toNat = 1 + fB p := by omega
    rw [if_neg (by omega), e1, e2, if_neg]
    rintro (h | h)
    · omega
    · have hS : 0 < (1 + fK p) * (1 + fB p) := Nat.mul_pos (by omega) (by omega)
      have hm : 4096 * (1 + fK p) * (1 + fB p) = 4096 * ((1 + fK p) * (1 + fB p)) := Nat.mul_assoc _ _ _
      have h5 : nblk ((1 + fK p) * (1 + fB p)) ((s : Nat) : Int).toNat < 4097 := by
        unfold nblk
        rw [Nat.div_lt_iff_lt_mul hS]
        have : ((s : Nat) : Int).toNat = s := rfl
        rw [this]
        generalize (1 + fK p) * (1 + fB p) = S at *
        omega
      omega
  unfold checkE
  show (if ¬ MayS (1 + (fK p : Int)) (1 + (fM p : Int)) (1 + (fB p : Int)) then (4 : Int) else if (keyF p.key).size = 0 ∨ 255 < (keyF p.key).size then 90 else if sizeE (1 + (fK p : Int)) (1 + (fM p : Int)) (1 + (fB p : Int)) (s : Int) ≠ 0 then sizeE (1 + (fK p : Int)) (1 + (fM p : Int)) (1 + (fB p : Int)) (s : Int) else
    if (i : Int) < 0 ∨ (1 + (fK p : Int)) + (1 + (fM p : Int)) ≤ (i : Int) then 2 else if (1 + (pickN p.ep 4294967295 : Int)) < 1 ∨ 4294967295 < (1 + (pickN p.ep 4294967295 : Int)) ∨ (1 + (pickN p.ct 4294967295 : Int)) < 1 ∨ 4294967295 < (1 + (pickN p.ct 4294967295 : Int)) then 2 else 0) = 0
  rw [if_neg (fun h => h hmay), if_neg (by omega), hsz, if_neg (by simp), if_neg (by omega), if_neg (by omega)]
theorem fit_check (p : Pln) (n i : Nat) (hi : i < (1 + fK p) + (1 + fM p)) : checkE { fitH p with size := ((fitN p n : Nat) : Int), idx := (i : Int) } = 0 := fit_checkS p n _ i (Nat.le_refl _) hi
theorem fit_wf {p : Pln} (h : p.Wf) : HdW (fitH p) := by
  obtain ⟨w0, w1, w2, w3, w4, w5, w6, w7⟩ := h
  obtain ⟨h1, h2, h3, h4⟩ := fit_nums p
  have hk := keyF_size p.key
  have hep : pickN p.ep 4294967295 < 4294967295 := pickN_lt (by decide)
  have hct : pickN p.ct 4294967295 < 4294967295 := pickN_lt (by decide)
  exact ⟨w0, w1, w2, w3, w4, w5, w6, w7, i64_wf (n := 1 + (fK p : Int)) (by omega) (by omega), i64_wf (n := 1 + (fM p : Int)) (by omega) (by omega), i64_wf (n := 1 + (fB p : Int)) (by omega) (by omega), rfl, rfl, i64_wf (n := 1 + (pickN p.ep 4294967295 : Int)) (by omega) (by omega), i64_wf (n := 1 + (pickN p.ct 4294967295 : Int)) (by omega) (by omega), Nat.le_trans hk.2 (by decide)⟩
theorem fitN_le (p : Pln) (n : Nat) : fitN p n ≤ n := by unfold fitN; omega
theorem agg_same {t : TypeId} {cs : Array Value} {ls : List Lit} (ht : ∀ w : World, ∃ r : Bool, (Op.equalIn 10000 t (.agg cs) (.agg cs)).run Try.prog w = .ok r w ∧ (r = true ↔ ls = ls)) (w : World) : (Op.equalIn 10000 t (.agg cs) (.agg cs)).run Try.prog w = .ok true w := by
  obtain ⟨r, hr, e⟩ := ht w
  rw [e.2 rfl] at hr
  exact hr
theorem gen_same {e c : Int} (he : (Lit.int .i64 e).wf = true) (hc : (Lit.int .i64 c).wf = true) (w : World) : (Op.equalIn 10000 40 (.agg #[.int .i64 e, .int .i64 c]) (.agg #[.int .i64 e, .int .i64 c])).run Try.prog w = .ok true w := by
  have hl : Try.prog.keyLits 8 40 [.int .i64 e, .int .i64 c] = some [.int .i64 e, .int .i64 c] :=
    kl_struct (ls := [[.int .i64 e], [.int .i64 c]]) Try.underlying40 ⟨cG.symm, by decide +kernel⟩ (by
      simp only [List.mapM_cons, List.mapM_nil, cI, List.drop_zero, List.drop_succ_cons, List.take_succ_cons, List.take_zero]
      rw [kl_int Try.underlying3 he, kl_int Try.underlying3 hc]
      rfl)
  exact agg_same (fun w => run_equalIn_deep (P := Try.prog) 9992 8 40 (by kernel_rfl) w 8 8 (.agg #[.int .i64 e, .int .i64 c]) (.agg #[.int .i64 e, .int .i64 c]) _ _ (by kernel_rfl) (by kernel_rfl) hl hl) w
theorem shape_same {K M B : Int} (h1 : (Lit.int .i64 K).wf = true) (h2 : (Lit.int .i64 M).wf = true) (h3 : (Lit.int .i64 B).wf = true) (w : World) : (Op.equalIn 10000 24 (.agg #[.int .i64 K, .int .i64 M, .int .i64 B]) (.agg #[.int .i64 K, .int .i64 M, .int .i64 B])).run Try.prog w = .ok true w := by
  obtain ⟨r, hr, e⟩ := shape_eql K M B K M B h1 h2 h3 h1 h2 h3 w
  rw [e.2 ⟨rfl, rfl, rfl⟩] at hr
  exact hr
set_option maxRecDepth 100000 in
theorem store_same {h : Hd} (H : HdW h) (w : World) : (Op.equalIn 10000 38 (.agg #[.int .u8 h.s0, .int .u8 h.s1, .int .u8 h.s2, .int .u8 h.s3, .int .u8 h.s4, .int .u8 h.s5, .int .u8 h.s6, .int .u8 h.s7]) (.agg #[.int .u8 h.s0, .int .u8 h.s1, .int .u8 h.s2, .int .u8 h.s3, .int .u8 h.s4, .int .u8 h.s5, .int .u8 h.s6, .int .u8 h.s7])).run Try.prog w = .ok true w := by
  obtain ⟨w0, w1, w2, w3, w4, w5, w6, w7, _⟩ := H
  have hl : Try.prog.keyLits 8 38 [.int .u8 h.s0, .int .u8 h.s1, .int .u8 h.s2, .int .u8 h.s3, .int .u8 h.s4, .int .u8 h.s5, .int .u8 h.s6, .int .u8 h.s7] = some [.int .u8 h.s0, .int .u8 h.s1, .int .u8 h.s2, .int .u8 h.s3, .int .u8 h.s4, .int .u8 h.s5, .int .u8 h.s6, .int .u8 h.s7] := by
    have hx : ∀ x ∈ [h.s0, h.s1, h.s2, h.s3, h.s4, h.s5, h.s6, h.s7], (Lit.int .u8 x).wf = true :=
      fa_cons w0 (fa_cons w1 (fa_cons w2 (fa_cons w3 (fa_cons w4 (fa_cons w5 (fa_cons w6 (fa_cons w7 fa_nil)))))))
    have h := kl_bytes (d := 6) (xs := [h.s0, h.s1, h.s2, h.s3, h.s4, h.s5, h.s6, h.s7]) Try.underlying38 c8 rfl hx
    simp only [List.map_cons, List.map_nil] at h
    exact h
  exact agg_same (fun w => run_equalIn_deep (P := Try.prog) 9992 8 38 (by kernel_rfl) w 8 8 (.agg #[.int .u8 h.s0, .int .u8 h.s1, .int .u8 h.s2, .int .u8 h.s3, .int .u8 h.s4, .int .u8 h.s5, .int .u8 h.s6, .int .u8 h.s7]) (.agg #[.int .u8 h.s0, .int .u8 h.s1, .int .u8 h.s2, .int .u8 h.s3, .int .u8 h.s4, .int .u8 h.s5, .int .u8 h.s6, .int .u8 h.s7]) _ _ (by kernel_rfl) (by kernel_rfl) hl hl) w
theorem guard_G : Try.prog.eqGuardType Try.prog.depth 40 = false := by kernel_rfl
theorem guard_8 : Try.prog.eqGuardType Try.prog.depth 38 = false := by kernel_rfl
end Go.Proofs.Ytjaaldandgfkgaa
