/- Arrays of four bytes and heads, compared: the run of '==' on them. Conditions: numbers in their kinds. -/
import Derived.Test.YtbioanbokbhmgaaFCk0
import Derived.DeepKeys
namespace Go.Proofs.Ytbioanbokbhmgaa
open Go Go.RowKit

def HdV (h : Hd) : Value := .agg #[.int .u8 h.s0, .int .u8 h.s1, .int .u8 h.s2, .int .u8 h.s3, .int .u8 h.s4, .int .u8 h.s5, .int .u8 h.s6, .int .u8 h.s7, .int .i64 h.K, .int .i64 h.M, .int .i64 h.B, .string h.key, .int .i64 h.size, .int .i64 h.idx, .int .i64 h.ep, .int .i64 h.ct]
/-- A head's numbers lie in their kinds. -/
def HdW (h : Hd) : Prop := (Lit.int .u8 h.s0).wf = true ∧ (Lit.int .u8 h.s1).wf = true ∧ (Lit.int .u8 h.s2).wf = true ∧ (Lit.int .u8 h.s3).wf = true ∧ (Lit.int .u8 h.s4).wf = true ∧ (Lit.int .u8 h.s5).wf = true ∧ (Lit.int .u8 h.s6).wf = true ∧ (Lit.int .u8 h.s7).wf = true ∧ (Lit.int .i64 h.K).wf = true ∧ (Lit.int .i64 h.M).wf = true ∧ (Lit.int .i64 h.B).wf = true ∧ (Lit.int .i64 h.size).wf = true ∧ (Lit.int .i64 h.idx).wf = true ∧ (Lit.int .i64 h.ep).wf = true ∧ (Lit.int .i64 h.ct).wf = true ∧ h.key.size ≤ maxLen
section
theorem c8 : Try.prog.cellsOf 22 = 8 := by kernel_rfl
theorem c4 : Try.prog.cellsOf 107 = 4 := by kernel_rfl
theorem cU : Try.prog.cellsOf 5 = 1 := by kernel_rfl
theorem cI : Try.prog.cellsOf 3 = 1 := by kernel_rfl
theorem cT : Try.prog.cellsOf 9 = 1 := by kernel_rfl
theorem cP : Try.prog.cellsOf 24 = 3 := by kernel_rfl
theorem cG : Try.prog.cellsOf 26 = 2 := by kernel_rfl
theorem cH : Try.prog.cellsOf 28 = 16 := by kernel_rfl
theorem kl_int {d t : Nat} {q : IntKind} {n : Int} (hu : Try.prog.underlying t = some (.int q)) (hw : (Lit.int q n).wf = true) : Try.prog.keyLits (d + 1) t [.int q n] = some [.int q n] := by
  unfold Program.keyLits
  rw [hu]
  exact if_pos ⟨rfl, hw⟩
theorem kl_str {d t : Nat} {s : ByteArray} (hu : Try.prog.underlying t = some .string) (hw : s.size ≤ maxLen) : Try.prog.keyLits (d + 1) t [.string s] = some [.string s.data.toList] := by
  unfold Program.keyLits
  rw [hu]
  exact if_pos hw
theorem kl_struct {d t : Nat} {fs : Array Field} {cs : List Value} {ls : List (List Lit)} (hu : Try.prog.underlying t = some (.struct fs)) (hl : cs.length = Try.prog.cellsOf t ∧ fs.all (·.name != "_") = true)
    (hm : (fs.toList.mapM fun f => Try.prog.keyLits d f.type ((cs.drop f.offset).take (Try.prog.cellsOf f.type))) = some ls) : Try.prog.keyLits (d + 1) t cs = some ls.flatten := by
  unfold Program.keyLits
  rw [hu]
  show (if cs.length = Try.prog.cellsOf t ∧ fs.all (·.name != "_") = true then _ else none) = _
  rw [if_pos hl, hm]
  rfl
theorem kl_array {d t n e : Nat} {cs : List Value} {ls : List (List Lit)} (hu : Try.prog.underlying t = some (.array n e)) (hl : cs.length = Try.prog.cellsOf t)
    (hm : ((List.range n).mapM fun i => Try.prog.keyLits d e ((cs.drop (i * Try.prog.cellsOf e)).take (Try.prog.cellsOf e))) = some ls) : Try.prog.keyLits (d + 1) t cs = some ls.flatten := by
  unfold Program.keyLits
  rw [hu]
  show (if cs.length = Try.prog.cellsOf t then _ else none) = _
  rw [if_pos hl, hm]
  rfl
theorem flat_one (xs : List Int) : (xs.map fun x => [Lit.int .u8 x]).flatten = xs.map fun x => .int .u8 x := by
  induction xs with
  | nil => rfl
  | cons x l ih => rw [List.map_cons, List.flatten_cons, ih, List.map_cons]; rfl
theorem kl_bytes {d t n : Nat} {xs : List Int} (hu : Try.prog.underlying t = some (.array n 5)) (hc : Try.prog.cellsOf t = n) (hn : xs.length = n) (hx : ∀ x ∈ xs, (Lit.int .u8 x).wf = true) : Try.prog.keyLits (d + 2) t (xs.map fun x => .int .u8 x) = some (xs.map fun x => .int .u8 x) := by
  have h : Try.prog.keyLits (d + 1 + 1) t (xs.map fun x => .int .u8 x) = some ((xs.map fun x => [Lit.int .u8 x]).flatten) := by
    refine kl_array hu (by rw [List.length_map, hc]; exact hn) ?_
    rw [cU]
    have : ∀ (m : Nat), m ≤ n → ((List.range m).mapM fun i => Try.prog.keyLits (d + 1) 5 (((xs.map fun x => Value.int .u8 x).drop (i * 1)).take 1)) = some ((xs.take m).map fun x => [Lit.int .u8 x]) := by
      intro m
      induction m with
      | zero => intro _; simp
      | succ m ih =>
        intro hm
        have hlt : m < xs.length := by omega
        have hd : ((xs.map fun x => Value.int .u8 x).drop (m * 1)).take 1 = [.int .u8 xs[m]] := by
          rw [Nat.mul_one, List.drop_eq_getElem_cons (by simpa using hlt)]
          simp
        rw [List.range_succ, List.mapM_append, ih (by omega)]
        simp only [List.mapM_cons, List.mapM_nil]
        rw [hd, kl_int Try.underlying5 (hx _ (List.getElem_mem hlt)), ← List.take_append_getElem hlt, List.map_append]
        rfl
    rw [this n (Nat.le_refl _), List.take_of_length_le (by omega)]
  exact h.trans (congrArg some (flat_one xs))
theorem fa_cons {α : Type} {p : α → Prop} {a : α} {l : List α} (h : p a) (t : ∀ x ∈ l, p x) : ∀ x ∈ a :: l, p x := fun x hx => by
  rcases List.mem_cons.1 hx with e | e
  · exact e ▸ h
  · exact t x e
theorem fa_nil {α : Type} {p : α → Prop} : ∀ x ∈ ([] : List α), p x := fun _ hx => absurd hx List.not_mem_nil
set_option maxRecDepth 100000 in
theorem arr4_lits {x0 x1 x2 x3 : Int} (h0 : (Lit.int .u8 x0).wf = true) (h1 : (Lit.int .u8 x1).wf = true) (h2 : (Lit.int .u8 x2).wf = true) (h3 : (Lit.int .u8 x3).wf = true) : Try.prog.keyLits 8 107 [.int .u8 x0, .int .u8 x1, .int .u8 x2, .int .u8 x3] = some [.int .u8 x0, .int .u8 x1, .int .u8 x2, .int .u8 x3] := by
  have hx : ∀ x ∈ [x0, x1, x2, x3], (Lit.int .u8 x).wf = true := fa_cons h0 (fa_cons h1 (fa_cons h2 (fa_cons h3 fa_nil)))
  have hl : [x0, x1, x2, x3].length = 4 := rfl
  have h := kl_bytes (d := 6) (xs := [x0, x1, x2, x3]) Try.underlying107 c4 hl hx
  simp only [List.map_cons, List.map_nil] at h
  exact h
set_option maxRecDepth 100000 in
theorem head_lits {h : Hd} (H : HdW h) : Try.prog.keyLits 8 28 [.int .u8 h.s0, .int .u8 h.s1, .int .u8 h.s2, .int .u8 h.s3, .int .u8 h.s4, .int .u8 h.s5, .int .u8 h.s6, .int .u8 h.s7, .int .i64 h.K, .int .i64 h.M, .int .i64 h.B, .string h.key, .int .i64 h.size, .int .i64 h.idx, .int .i64 h.ep, .int .i64 h.ct] =
    some [.int .u8 h.s0, .int .u8 h.s1, .int .u8 h.s2, .int .u8 h.s3, .int .u8 h.s4, .int .u8 h.s5, .int .u8 h.s6, .int .u8 h.s7, .int .i64 h.K, .int .i64 h.M, .int .i64 h.B, .string h.key.data.toList, .int .i64 h.size, .int .i64 h.idx, .int .i64 h.ep, .int .i64 h.ct] := by
  obtain ⟨w0, w1, w2, w3, w4, w5, w6, w7, w8, w9, w10, w11, w12, w13, w14, w15⟩ := H
  have g0 : Try.prog.keyLits 7 22 [.int .u8 h.s0, .int .u8 h.s1, .int .u8 h.s2, .int .u8 h.s3, .int .u8 h.s4, .int .u8 h.s5, .int .u8 h.s6, .int .u8 h.s7] = some [.int .u8 h.s0, .int .u8 h.s1, .int .u8 h.s2, .int .u8 h.s3, .int .u8 h.s4, .int .u8 h.s5, .int .u8 h.s6, .int .u8 h.s7] :=
    by
      have hx : ∀ x ∈ [h.s0, h.s1, h.s2, h.s3, h.s4, h.s5, h.s6, h.s7], (Lit.int .u8 x).wf = true :=
        fa_cons w0 (fa_cons w1 (fa_cons w2 (fa_cons w3 (fa_cons w4 (fa_cons w5 (fa_cons w6 (fa_cons w7 fa_nil)))))))
      have hl : [h.s0, h.s1, h.s2, h.s3, h.s4, h.s5, h.s6, h.s7].length = 8 := rfl
      have h := kl_bytes (d := 5) (xs := [h.s0, h.s1, h.s2, h.s3, h.s4, h.s5, h.s6, h.s7]) Try.underlying22 c8 hl hx
      simp only [List.map_cons, List.map_nil] at h
      exact h
  have g1 : Try.prog.keyLits 7 24 [.int .i64 h.K, .int .i64 h.M, .int .i64 h.B] = some [.int .i64 h.K, .int .i64 h.M, .int .i64 h.B] :=
    kl_struct (ls := [[.int .i64 h.K], [.int .i64 h.M], [.int .i64 h.B]]) Try.underlying24 ⟨cP.symm, by decide +kernel⟩ (by
      simp only [List.mapM_cons, List.mapM_nil, cI, List.drop_zero, List.drop_succ_cons, List.take_succ_cons, List.take_zero]
      rw [kl_int Try.underlying3 w8, kl_int Try.underlying3 w9, kl_int Try.underlying3 w10]
      rfl)
  have g5 : Try.prog.keyLits 7 26 [.int .i64 h.ep, .int .i64 h.ct] = some [.int .i64 h.ep, .int .i64 h.ct] :=
    kl_struct (ls := [[.int .i64 h.ep], [.int .i64 h.ct]]) Try.underlying26 ⟨cG.symm, by decide +kernel⟩ (by
      simp only [List.mapM_cons, List.mapM_nil, cI, List.drop_zero, List.drop_succ_cons, List.take_succ_cons, List.take_zero]
      rw [kl_int Try.underlying3 w13, kl_int Try.underlying3 w14]
      rfl)
  exact kl_struct (ls := [[.int .u8 h.s0, .int .u8 h.s1, .int .u8 h.s2, .int .u8 h.s3, .int .u8 h.s4, .int .u8 h.s5, .int .u8 h.s6, .int .u8 h.s7], [.int .i64 h.K, .int .i64 h.M, .int .i64 h.B], [.string h.key.data.toList], [.int .i64 h.size], [.int .i64 h.idx], [.int .i64 h.ep, .int .i64 h.ct]]) Try.underlying28 ⟨cH.symm, by decide +kernel⟩ (by
    simp only [List.mapM_cons, List.mapM_nil, cI, c8, cP, cT, cG, List.drop_zero, List.drop_succ_cons, List.take_succ_cons, List.take_zero]
    rw [g0, g1, g5, kl_str Try.underlying9 w15, kl_int Try.underlying3 w11, kl_int Try.underlying3 w12]
    rfl)
end
theorem u8_wf {n : Int} (h0 : 0 ≤ n) (h1 : n < 256) : (Lit.int .u8 n).wf = true := by simp [Lit.wf, IntKind.min, IntKind.max, IntKind.signed, IntKind.bits]; omega
set_option maxRecDepth 100000 in
theorem arr4_eql {x0 x1 x2 x3 y0 y1 y2 y3 : Nat} (h0 : x0 < 256) (h1 : x1 < 256) (h2 : x2 < 256) (h3 : x3 < 256) (k0 : y0 < 256) (k1 : y1 < 256) (k2 : y2 < 256) (k3 : y3 < 256) (w : World) : ∃ r : Bool, (Op.equalIn 10000 107 (.agg #[.int .u8 (x0 : Int), .int .u8 (x1 : Int), .int .u8 (x2 : Int), .int .u8 (x3 : Int)]) (.agg #[.int .u8 (y0 : Int), .int .u8 (y1 : Int), .int .u8 (y2 : Int), .int .u8 (y3 : Int)])).run Try.prog w = .ok r w ∧ (r = true ↔ [x0, x1, x2, x3] = [y0, y1, y2, y3]) := by
  obtain ⟨r, hr, h⟩ := run_equalIn_deep (P := Try.prog) 9992 8 107 (by kernel_rfl) w 8 8 (.agg #[.int .u8 (x0 : Int), .int .u8 (x1 : Int), .int .u8 (x2 : Int), .int .u8 (x3 : Int)]) (.agg #[.int .u8 (y0 : Int), .int .u8 (y1 : Int), .int .u8 (y2 : Int), .int .u8 (y3 : Int)]) _ _ (by kernel_rfl) (by kernel_rfl)
    (arr4_lits (u8_wf (by omega) (by omega)) (u8_wf (by omega) (by omega)) (u8_wf (by omega) (by omega)) (u8_wf (by omega) (by omega))) (arr4_lits (u8_wf (by omega) (by omega)) (u8_wf (by omega) (by omega)) (u8_wf (by omega) (by omega)) (u8_wf (by omega) (by omega)))
  refine ⟨r, hr, h.trans ?_⟩
  simp only [List.cons.injEq, Lit.int.injEq, and_true, true_and]
  omega
set_option maxRecDepth 100000 in
theorem head_eql {h k : Hd} (H : HdW h) (K : HdW k) (w : World) : ∃ r : Bool, (Op.equalIn 10000 28 (HdV h) (HdV k)).run Try.prog w = .ok r w ∧ (r = true ↔ h = k) := by
  obtain ⟨r, hr, e⟩ := run_equalIn_deep (P := Try.prog) 9992 8 28 (by kernel_rfl) w 8 8 (HdV h) (HdV k) _ _ (by kernel_rfl) (by kernel_rfl) (head_lits H) (head_lits K)
  refine ⟨r, hr, e.trans ⟨fun e => ?_, fun e => by rw [e]⟩⟩
  simp only [List.cons.injEq, Lit.int.injEq, Lit.string.injEq, and_true, true_and] at e
  obtain ⟨e0, e1, e2, e3, e4, e5, e6, e7, e8, e9, e10, e11, e12, e13, e14, e15⟩ := e
  have ek : h.key = k.key := by
    cases hh : h.key
    cases hk : k.key
    rw [hh, hk] at e11
    congr 1
    exact Array.ext' e11
  cases h
  cases k
  simp only at e0 e1 e2 e3 e4 e5 e6 e7 e8 e9 e10 e12 e13 e14 e15 ek
  subst e0 e1 e2 e3 e4 e5 e6 e7 e8 e9 e10 e12 e13 e14 e15 ek
  rfl
end Go.Proofs.Ytbioanbokbhmgaa
