/- A head as an argument, opened to its cells. Conditions: none. -/
import Derived.Test.YtbioanbokbhmgaaRow
import Derived.Test.YtbioanbokbhmgaaHd
namespace Go.Proofs.Ytbioanbokbhmgaa
open Go.ChangeShapes Go.WideShapes Go.ChangeAt Go.RowKit Go.Joins Go.Deep

/-- What is known of a head that was read: its bytes and numbers lie in their kinds. -/
def Hd.Wf (h : Hd) : Prop := (Lit.int .u8 h.s0).wf = true ∧ (Lit.int .u8 h.s1).wf = true ∧ (Lit.int .u8 h.s2).wf = true ∧ (Lit.int .u8 h.s3).wf = true ∧ (Lit.int .u8 h.s4).wf = true ∧ (Lit.int .u8 h.s5).wf = true ∧ (Lit.int .u8 h.s6).wf = true ∧ (Lit.int .u8 h.s7).wf = true ∧ (Lit.int .i64 h.K).wf = true ∧ (Lit.int .i64 h.M).wf = true ∧ (Lit.int .i64 h.B).wf = true ∧ (Lit.int .i64 h.size).wf = true ∧ (Lit.int .i64 h.idx).wf = true ∧ (Lit.int .i64 h.ep).wf = true ∧ (Lit.int .i64 h.ct).wf = true ∧ h.key.size ≤ maxLen

section
variable {H : Type} {enc : TypeId × Value → H} {w : World} {base : Nat} {spare : Nat → Bool} {held : Bool}
theorem one_int {k : IntKind} {t fuel : Nat} {c : Value} {x : DataW H × List MemPlace} (ht : Try.prog.underlying t = some (.int k)) (h : DataW.trod enc Try.prog w base spare held fuel t [c] = some x) : ∃ n, c = .int k n ∧ (Lit.int k n).wf = true := by
  obtain ⟨n, e, _, hw⟩ := DataW.trod_int ht h
  simp only [List.cons.injEq, and_true] at e
  exact ⟨n, e, hw⟩
theorem one_string {t fuel : Nat} {c : Value} {x : DataW H × List MemPlace} (ht : Try.prog.underlying t = some .string) (h : DataW.trod enc Try.prog w base spare held fuel t [c] = some x) : ∃ s : ByteArray, c = .string s ∧ s.size ≤ maxLen := by
  obtain ⟨s, e, _, hw⟩ := DataW.trod_string ht h
  simp only [List.cons.injEq, and_true] at e
  exact ⟨s, e, hw⟩
theorem some_of {α : Type} {l : List α} {n i : Nat} (h : l.length = n) (hi : i < n) : ∃ x, l[i]? = some x := ⟨l[i]'(by omega), List.getElem?_eq_getElem (by omega)⟩
set_option maxRecDepth 100000 in
theorem open_head {fuel : Nat} {cs : List Value} {x : DataW H × List MemPlace} (h : DataW.trod enc Try.prog w base spare held fuel 28 cs = some x) : ∃ h : Hd, cs = [.int .u8 h.s0, .int .u8 h.s1, .int .u8 h.s2, .int .u8 h.s3, .int .u8 h.s4, .int .u8 h.s5, .int .u8 h.s6, .int .u8 h.s7, .int .i64 h.K, .int .i64 h.M, .int .i64 h.B, .string h.key, .int .i64 h.size, .int .i64 h.idx, .int .i64 h.ep, .int .i64 h.ct] ∧ h.Wf := by
  obtain ⟨xs, n, _, _, hlen, hxl, hg⟩ := DataW.trod_struct Try.underlying28 h
  have hc : cs.length = 16 := hlen.trans (by kernel_rfl)
  have kS : Try.prog.cellsOf 22 = 8 := by kernel_rfl
  have kB : Try.prog.cellsOf 5 = 1 := by kernel_rfl
  have kI : Try.prog.cellsOf 3 = 1 := by kernel_rfl
  have kT : Try.prog.cellsOf 9 = 1 := by kernel_rfl
  have kP : Try.prog.cellsOf 24 = 3 := by kernel_rfl
  have kG : Try.prog.cellsOf 26 = 2 := by kernel_rfl
  match cs, hc with
  | [c0, c1, c2, c3, c4, c5, c6, c7, c8, c9, c10, c11, c12, c13, c14, c15], _ =>
    have g0 : DataW.trod enc Try.prog w base spare held n 22 (([c0, c1, c2, c3, c4, c5, c6, c7, c8, c9, c10, c11, c12, c13, c14, c15].drop 0).take (Try.prog.cellsOf 22)) = xs[0]? := hg 0 _ rfl
    have g1 : DataW.trod enc Try.prog w base spare held n 24 (([c0, c1, c2, c3, c4, c5, c6, c7, c8, c9, c10, c11, c12, c13, c14, c15].drop 8).take (Try.prog.cellsOf 24)) = xs[1]? := hg 1 _ rfl
    have g2 : DataW.trod enc Try.prog w base spare held n 9 (([c0, c1, c2, c3, c4, c5, c6, c7, c8, c9, c10, c11, c12, c13, c14, c15].drop 11).take (Try.prog.cellsOf 9)) = xs[2]? := hg 2 _ rfl
    have g3 : DataW.trod enc Try.prog w base spare held n 3 (([c0, c1, c2, c3, c4, c5, c6, c7, c8, c9, c10, c11, c12, c13, c14, c15].drop 12).take (Try.prog.cellsOf 3)) = xs[3]? := hg 3 _ rfl
    have g4 : DataW.trod enc Try.prog w base spare held n 3 (([c0, c1, c2, c3, c4, c5, c6, c7, c8, c9, c10, c11, c12, c13, c14, c15].drop 13).take (Try.prog.cellsOf 3)) = xs[4]? := hg 4 _ rfl
    have g5 : DataW.trod enc Try.prog w base spare held n 26 (([c0, c1, c2, c3, c4, c5, c6, c7, c8, c9, c10, c11, c12, c13, c14, c15].drop 14).take (Try.prog.cellsOf 26)) = xs[5]? := hg 5 _ rfl
    have hxl' : xs.length = 6 := hxl
    obtain ⟨x0, e0⟩ := some_of hxl' (i := 0) (by omega)
    obtain ⟨x1, e1⟩ := some_of hxl' (i := 1) (by omega)
    obtain ⟨x2, e2⟩ := some_of hxl' (i := 2) (by omega)
    obtain ⟨x3, e3⟩ := some_of hxl' (i := 3) (by omega)
    obtain ⟨x4, e4⟩ := some_of hxl' (i := 4) (by omega)
    obtain ⟨x5, e5⟩ := some_of hxl' (i := 5) (by omega)
    rw [e0, kS] at g0; rw [e1, kP] at g1; rw [e2, kT] at g2; rw [e3, kI] at g3; rw [e4, kI] at g4; rw [e5, kG] at g5
    simp only [List.drop_succ_cons, List.drop_zero, List.take_succ_cons, List.take_zero] at g0 g1 g2 g3 g4 g5
    obtain ⟨ys, m, _, _, _, hyl, hy⟩ := DataW.trod_array Try.underlying22 g0
    rw [kB] at hy
    have a0 := hy 0 (by omega)
    obtain ⟨y0, f0⟩ := some_of hyl (i := 0) (by omega)
    rw [f0] at a0
    simp only [Nat.reduceMul, List.drop_zero, List.take_succ_cons, List.take_zero] at a0
    obtain ⟨n0, rfl, w0⟩ := one_int Try.underlying5 a0
    have a1 := hy 1 (by omega)
    obtain ⟨y1, f1⟩ := some_of hyl (i := 1) (by omega)
    rw [f1] at a1
    simp only [Nat.reduceMul, List.drop_succ_cons, List.drop_zero, List.take_succ_cons, List.take_zero] at a1
    obtain ⟨n1, rfl, w1⟩ := one_int Try.underlying5 a1
    have a2 := hy 2 (by omega)
    obtain ⟨y2, f2⟩ := some_of hyl (i := 2) (by omega)
    rw [f2] at a2
    simp only [Nat.reduceMul, List.drop_succ_cons, List.drop_zero, List.take_succ_cons, List.take_zero] at a2
    obtain ⟨n2, rfl, w2⟩ := one_int Try.underlying5 a2
    have a3 := hy 3 (by omega)
    obtain ⟨y3, f3⟩ := some_of hyl (i := 3) (by omega)
    rw [f3] at a3
    simp only [Nat.reduceMul, List.drop_succ_cons, List.drop_zero, List.take_succ_cons, List.take_zero] at a3
    obtain ⟨n3, rfl, w3⟩ := one_int Try.underlying5 a3
    have a4 := hy 4 (by omega)
    obtain ⟨y4, f4⟩ := some_of hyl (i := 4) (by omega)
    rw [f4] at a4
    simp only [Nat.reduceMul, List.drop_succ_cons, List.drop_zero, List.take_succ_cons, List.take_zero] at a4
    obtain ⟨n4, rfl, w4⟩ := one_int Try.underlying5 a4
    have a5 := hy 5 (by omega)
    obtain ⟨y5, f5⟩ := some_of hyl (i := 5) (by omega)
    rw [f5] at a5
    simp only [Nat.reduceMul, List.drop_succ_cons, List.drop_zero, List.take_succ_cons, List.take_zero] at a5
    obtain ⟨n5, rfl, w5⟩ := one_int Try.underlying5 a5
    have a6 := hy 6 (by omega)
    obtain ⟨y6, f6⟩ := some_of hyl (i := 6) (by omega)
    rw [f6] at a6
    simp only [Nat.reduceMul, List.drop_succ_cons, List.drop_zero, List.take_succ_cons, List.take_zero] at a6
    obtain ⟨n6, rfl, w6⟩ := one_int Try.underlying5 a6
    have a7 := hy 7 (by omega)
    obtain ⟨y7, f7⟩ := some_of hyl (i := 7) (by omega)
    rw [f7] at a7
    simp only [Nat.reduceMul, List.drop_succ_cons, List.drop_zero, List.take_succ_cons, List.take_zero] at a7
    obtain ⟨n7, rfl, w7⟩ := one_int Try.underlying5 a7
    obtain ⟨zs, m1, _, _, _, hzl, hz⟩ := DataW.trod_struct Try.underlying24 g1
    have hzl' : zs.length = 3 := hzl
    have b0 : DataW.trod enc Try.prog w base spare held m1 3 (([c8, c9, c10].drop 0).take (Try.prog.cellsOf 3)) = zs[0]? := hz 0 _ rfl
    obtain ⟨z0, q0⟩ := some_of hzl' (i := 0) (by omega)
    rw [q0, kI] at b0
    simp only [List.drop_zero, List.take_succ_cons, List.take_zero] at b0
    obtain ⟨K, rfl, wK⟩ := one_int Try.underlying3 b0
    have b1 : DataW.trod enc Try.prog w base spare held m1 3 (([.int .i64 K, c9, c10].drop 1).take (Try.prog.cellsOf 3)) = zs[1]? := hz 1 _ rfl
    obtain ⟨z1, q1⟩ := some_of hzl' (i := 1) (by omega)
    rw [q1, kI] at b1
    simp only [List.drop_succ_cons, List.drop_zero, List.take_succ_cons, List.take_zero] at b1
    obtain ⟨M, rfl, wM⟩ := one_int Try.underlying3 b1
    have b2 : DataW.trod enc Try.prog w base spare held m1 3 (([.int .i64 K, .int .i64 M, c10].drop 2).take (Try.prog.cellsOf 3)) = zs[2]? := hz 2 _ rfl
    obtain ⟨z2, q2⟩ := some_of hzl' (i := 2) (by omega)
    rw [q2, kI] at b2
    simp only [List.drop_succ_cons, List.drop_zero, List.take_succ_cons, List.take_zero] at b2
    obtain ⟨B, rfl, wB⟩ := one_int Try.underlying3 b2
    obtain ⟨key, rfl, wkey⟩ := one_string Try.underlying9 g2
    obtain ⟨size, rfl, wsize⟩ := one_int Try.underlying3 g3
    obtain ⟨idx, rfl, widx⟩ := one_int Try.underlying3 g4
    obtain ⟨us, m2, _, _, _, hul, hu⟩ := DataW.trod_struct Try.underlying26 g5
    have hul' : us.length = 2 := hul
    have d0 : DataW.trod enc Try.prog w base spare held m2 3 (([c14, c15].drop 0).take (Try.prog.cellsOf 3)) = us[0]? := hu 0 _ rfl
    obtain ⟨u0, r0⟩ := some_of hul' (i := 0) (by omega)
    rw [r0, kI] at d0
    simp only [List.drop_zero, List.take_succ_cons, List.take_zero] at d0
    obtain ⟨ep, rfl, wep⟩ := one_int Try.underlying3 d0
    have d1 : DataW.trod enc Try.prog w base spare held m2 3 (([.int .i64 ep, c15].drop 1).take (Try.prog.cellsOf 3)) = us[1]? := hu 1 _ rfl
    obtain ⟨u1, r1⟩ := some_of hul' (i := 1) (by omega)
    rw [r1, kI] at d1
    simp only [List.drop_succ_cons, List.drop_zero, List.take_succ_cons, List.take_zero] at d1
    obtain ⟨ct, rfl, wct⟩ := one_int Try.underlying3 d1
    exact ⟨⟨n0, n1, n2, n3, n4, n5, n6, n7, K, M, B, key, size, idx, ep, ct⟩, rfl, w0, w1, w2, w3, w4, w5, w6, w7, wK, wM, wB, wsize, widx, wep, wct, wkey⟩
end
end Go.Proofs.Ytbioanbokbhmgaa
