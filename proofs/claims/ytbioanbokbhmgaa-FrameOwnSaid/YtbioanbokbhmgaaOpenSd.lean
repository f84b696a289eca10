/- A shard as an argument, opened; rows of bytes as lists. Conditions: none. -/
import Derived.Test.YtbioanbokbhmgaaOpenHd
import Derived.Test.YtbioanbokbhmgaaOpenB
import Derived.Test.YtbioanbokbhmgaaByu
import Derived.Test.YtbioanbokbhmgaaFrmP
namespace Go.Proofs.Ytbioanbokbhmgaa
open Go.ChangeShapes Go.WideShapes Go.ChangeAt Go.RowKit Go.Joins Go.Deep

/-- Bytes, rows of bytes, as lists. -/
def mkL (n : Nat) (f : Nat → Nat) : List Nat := (List.range n).map f
theorem mkL_length (n : Nat) (f : Nat → Nat) : (mkL n f).length = n := by simp [mkL]
theorem mkL_get {n i : Nat} {f : Nat → Nat} (h : i < n) : (mkL n f).getD i 0 = f i := by simp [mkL, List.getD, h]
theorem mkL_lt {n b : Nat} {f : Nat → Nat} (h : ∀ i, i < n → f i < b) : ∀ x ∈ mkL n f, x < b := by
  intro x hx
  obtain ⟨i, hi, rfl⟩ := List.mem_map.1 hx
  exact h i (List.mem_range.1 hi)
theorem rl_of_rd {w : World} {A : Option Addr} {n : Nat} {f : Nat → Nat} (h : Rd w A n fun i => .int .u8 (f i : Nat)) : RL w A (mkL n f) := by
  intro i hi
  rw [mkL_length] at hi
  obtain ⟨b, o, e, hb, hc⟩ := h i hi
  refine ⟨b, o, e, hb, ?_⟩
  rw [hc]
  show some (Value.int .u8 _) = some (Value.int .u8 _)
  rw [mkL_get hi]
def mkLL (n : Nat) (L : Nat → Nat) (f : Nat → Nat → Nat) : List (List Nat) := (List.range n).map fun i => mkL (L i) (f i)
theorem mkLL_length (n : Nat) (L : Nat → Nat) (f : Nat → Nat → Nat) : (mkLL n L f).length = n := by simp [mkLL]
theorem mkLL_get {n i : Nat} {L : Nat → Nat} {f : Nat → Nat → Nat} (h : i < n) : (mkLL n L f).getD i [] = mkL (L i) (f i) := by simp [mkLL, List.getD, h]
theorem mkLL_mem {n : Nat} {L : Nat → Nat} {f : Nat → Nat → Nat} {l : List Nat} (h : l ∈ mkLL n L f) : ∃ i, i < n ∧ l = mkL (L i) (f i) := by
  obtain ⟨i, hi, rfl⟩ := List.mem_map.1 h
  exact ⟨i, List.mem_range.1 hi, rfl⟩
theorem rll_of_rdm {w : World} {A : Option Addr} {n : Nat} {L : Nat → Nat} {f : Nat → Nat → Nat} (h : RdM w A n L fun i j => .int .u8 (f i j : Nat)) : RLL w A (mkLL n L f) := by
  obtain ⟨S, C, h1, h2⟩ := h
  refine ⟨S, C, fun i hi => ?_, fun i hi => ?_⟩
  · rw [mkLL_length] at hi
    obtain ⟨b, o, e, hb, hc⟩ := h1 i hi
    refine ⟨b, o, e, hb, ?_⟩
    rw [hc]
    show some (Value.slice _ _ _) = some (Value.slice _ _ _)
    rw [mkLL_get hi, mkL_length]
  · rw [mkLL_length] at hi
    rw [mkLL_get hi]
    exact rl_of_rd (h2 i hi)
theorem Hd.Wf.bytes {h : Hd} (H : h.Wf) : HdB h := by
  obtain ⟨w0, w1, w2, w3, w4, w5, w6, w7, _⟩ := H
  exact ⟨byte_wf w0, byte_wf w1, byte_wf w2, byte_wf w3, byte_wf w4, byte_wf w5, byte_wf w6, byte_wf w7⟩
section
variable {H : Type} {enc : TypeId × Value → H} {w : World} {base : Nat} {held : Bool}
set_option maxRecDepth 100000 in
theorem open_shard {fuel : Nat} {cs : List Value} {x : DataW H × List MemPlace} (h : DataW.trod enc Try.prog w base (fun _ => true) held fuel 46 cs = some x) (hw : ∀ n ∈ x.1.weights Try.prog 46, n ≤ reachBytes) :
    ∃ (h : Hd) (A : Option Addr) (c : Nat) (BL : List (List Nat)), cs = [.int .u8 h.s0, .int .u8 h.s1, .int .u8 h.s2, .int .u8 h.s3, .int .u8 h.s4, .int .u8 h.s5, .int .u8 h.s6, .int .u8 h.s7, .int .i64 h.K, .int .i64 h.M, .int .i64 h.B, .string h.key, .int .i64 h.size, .int .i64 h.idx, .int .i64 h.ep, .int .i64 h.ct, .slice A BL.length c] ∧ h.Wf ∧ RLL w A BL ∧ BL.length * 24 ≤ 140737488351232 ∧ (∀ l ∈ BL, l.length ≤ 140737488351232) ∧ ∀ l ∈ BL, ∀ x ∈ l, x < 256 := by
  obtain ⟨xs, n, _, hx, hlen, hxl, hg⟩ := DataW.trod_struct Try.underlying46 h
  have hc : cs.length = 17 := hlen.trans (by kernel_rfl)
  have kH : Try.prog.cellsOf 28 = 16 := by kernel_rfl
  have kB : Try.prog.cellsOf 44 = 1 := by kernel_rfl
  match cs, hc with
  | [c0, c1, c2, c3, c4, c5, c6, c7, c8, c9, c10, c11, c12, c13, c14, c15, c16], _ =>
    have g0 : DataW.trod enc Try.prog w base (fun _ => true) held n 28 (([c0, c1, c2, c3, c4, c5, c6, c7, c8, c9, c10, c11, c12, c13, c14, c15, c16].drop 0).take (Try.prog.cellsOf 28)) = xs[0]? := hg 0 _ rfl
    have g1 : DataW.trod enc Try.prog w base (fun _ => true) held n 44 (([c0, c1, c2, c3, c4, c5, c6, c7, c8, c9, c10, c11, c12, c13, c14, c15, c16].drop 16).take (Try.prog.cellsOf 44)) = xs[1]? := hg 1 _ rfl
    have hxl' : xs.length = 2 := hxl
    obtain ⟨y0, q0⟩ := some_of hxl' (i := 0) (by omega)
    obtain ⟨y1, q1⟩ := some_of hxl' (i := 1) (by omega)
    rw [q0, kH] at g0
    rw [q1, kB] at g1
    simp only [List.drop_succ_cons, List.drop_zero, List.take_succ_cons, List.take_zero] at g0 g1
    obtain ⟨hd, hcs, hwf⟩ := open_head g0
    have hx1 : x.1 = .agg (xs.map (·.1)) := by rw [hx]
    have hwy : ∀ m ∈ y1.1.weights Try.prog 44, m ≤ reachBytes := fun m hm => hw m (by
      rw [hx1]
      simp only [DataW.weights, Try.underlying46]
      exact DataW.weights_mem_each (j := 1) (t := 44) (d := y1.1) rfl (by rw [List.getElem?_map, q1]; rfl) m hm)
    obtain ⟨A, nb, cA, L, f, e16, hR, hn, hL, hf⟩ := open_bmat Try.underlying44 Try.underlying47 Try.underlying5 (by kernel_rfl) (by kernel_rfl) (by kernel_rfl) (by kernel_rfl) g1 hwy
    simp only [List.cons.injEq, and_true] at hcs
    obtain ⟨e0, e1, e2, e3, e4, e5, e6, e7, e8, e9, e10, e11, e12, e13, e14, e15⟩ := hcs
    subst e0 e1 e2 e3 e4 e5 e6 e7 e8 e9 e10 e11 e12 e13 e14 e15 e16
    refine ⟨hd, A, cA, mkLL nb L f, by rw [mkLL_length], hwf, rll_of_rdm hR, by rw [mkLL_length]; exact hn, fun l hl => ?_, fun l hl => ?_⟩
    · obtain ⟨i, hi, rfl⟩ := mkLL_mem hl
      rw [mkL_length]; exact hL i hi
    · obtain ⟨i, hi, rfl⟩ := mkLL_mem hl
      exact mkL_lt (hf i hi)
end
end Go.Proofs.Ytbioanbokbhmgaa
