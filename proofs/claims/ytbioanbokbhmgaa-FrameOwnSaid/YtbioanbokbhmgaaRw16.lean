/- Arrays of four bytes and heads, compared: the run of '==' on them. Conditions: numbers in their kinds. -/
import Derived.Test.YtbioanbokbhmgaaFCkp
import Derived.DeepKeys
import Derived.Laws.Tables
import Derived.Laws.Rows
import Derived.Laws.CopyRow
namespace Go.Proofs.Ytbioanbokbhmgaa
open Go Go.RowKit

def HdV (h : Hd) : Value := .agg #[.int .u8 h.s0, .int .u8 h.s1, .int .u8 h.s2, .int .u8 h.s3, .int .u8 h.s4, .int .u8 h.s5, .int .u8 h.s6, .int .u8 h.s7, .int .i64 h.K, .int .i64 h.M, .int .i64 h.B, .string h.key, .int .i64 h.size, .int .i64 h.idx, .int .i64 h.ep, .int .i64 h.ct]
/-- A head's numbers lie in their kinds. -/
def HdW (h : Hd) : Prop := (Lit.int .u8 h.s0).wf = true ∧ (Lit.int .u8 h.s1).wf = true ∧ (Lit.int .u8 h.s2).wf = true ∧ (Lit.int .u8 h.s3).wf = true ∧ (Lit.int .u8 h.s4).wf = true ∧ (Lit.int .u8 h.s5).wf = true ∧ (Lit.int .u8 h.s6).wf = true ∧ (Lit.int .u8 h.s7).wf = true ∧ (Lit.int .i64 h.K).wf = true ∧ (Lit.int .i64 h.M).wf = true ∧ (Lit.int .i64 h.B).wf = true ∧ (Lit.int .i64 h.size).wf = true ∧ (Lit.int .i64 h.idx).wf = true ∧ (Lit.int .i64 h.ep).wf = true ∧ (Lit.int .i64 h.ct).wf = true ∧ h.key.size ≤ maxLen
section
theorem c8 : Try.prog.cellsOf 22 = 8 := by kernel_rfl
theorem c4 : Try.prog.cellsOf 107 = 4 := by kernel_rfl
theorem cU : Try.prog.cellsOf 5 = 1 := by kernel_rfl
theorem cI : Try.prog.cellsOf 3 = 1 := by kernel_rfl
theorem cT : Try.prog.cellsOf 9 = 1 := by kernel_rfl
theorem cP : Try.prog.cellsOf 24 = 3 := by kernel_rfl
theorem cG : Try.prog.cellsOf 26 = 2 := by kernel_rfl
theorem cH : Try.prog.cellsOf 28 = 16 := by kernel_rfl
theorem kl_int {d t : Nat} {q : IntKind} {n : Int} (hu : Try.prog.underlying t = some (.int q)) (hw : (Lit.int q n).wf = true) : Try.prog.keyLits (d + 1) t [.int q n] = some [.int q n] := by
  unfold Program.keyLits
  rw [hu]
  exact if_pos ⟨rfl, hw⟩
theorem kl_str {d t : Nat} {s : ByteArray} (hu : Try.prog.underlying t = some .string) (hw : s.size ≤ maxLen) : Try.prog.keyLits (d + 1) t [.string s] = some [.string s.data.toList] := by
  unfold Program.keyLits
  rw [hu]
  exact if_pos hw
theorem kl_struct {d t : Nat} {fs : Array Field} {cs : List Value} {ls : List (List Lit)} (hu : Try.prog.underlying t = some (.struct fs)) (hl : cs.length = Try.prog.cellsOf t ∧ fs.all (·.name != "_") = true)
    (hm : (fs.toList.mapM fun f => Try.prog.keyLits d f.type ((cs.drop f.offset).take (Try.prog.cellsOf f.type))) = some ls) : Try.prog.keyLits (d + 1) t cs = some ls.flatten := by
  unfold Program.keyLits
  rw [hu]
  show (if cs.length = Try.prog.cellsOf t ∧ fs.all (·.name != "_") = true then _ else none) = _
  rw [if_pos hl, hm]
  rfl
theorem kl_array {d t n e : Nat} {cs : List Value} {ls : List (List Lit)} (hu : Try.prog.underlying t = some (.array n e)) (hl : cs.length = Try.prog.cellsOf t)
    (hm : ((List.range n).mapM fun i => Try.prog.keyLits d e ((cs.drop (i * Try.prog.cellsOf e)).take (Try.prog.cellsOf e))) = some ls) : Try.prog.keyLits (d + 1) t cs = some ls.flatten := by
  unfold Program.keyLits
  rw [hu]
  show (if cs.length = Try.prog.cellsOf t then _ else none) = _
  rw [if_pos hl, hm]
  rfl
theorem flat_one (xs : List Int) : (xs.map fun x => [Lit.int .u8 x]).flatten = xs.map fun x => .int .u8 x := by
  induction xs with
  | nil => rfl
  | cons x l ih => rw [List.map_cons, List.flatten_cons, ih, List.map_cons]; rfl
theorem kl_bytes {d t n : Nat} {xs : List Int} (hu : Try.prog.underlying t = some (.array n 5)) (hc : Try.prog.cellsOf t = n) (hn : xs.length = n) (hx : ∀ x ∈ xs, (Lit.int .u8 x).wf = true) : Try.prog.keyLits (d + 2) t (xs.map fun x => .int .u8 x) = some (xs.map fun x => .int .u8 x) := by
  have h : Try.prog.keyLits (d + 1 + 1) t (xs.map fun x => .int .u8 x) = some ((xs.map fun x => [Lit.int .u8 x]).flatten) := by
    refine kl_array hu (by rw [List.length_map, hc]; exact hn) ?_
    rw [cU]
    have : ∀ (m : Nat), m ≤ n → ((List.range m).mapM fun i => Try.prog.keyLits (d + 1) 5 (((xs.map fun x => Value.int .u8 x).drop (i * 1)).take 1)) = some ((xs.take m).map fun x => [Lit.int .u8 x]) := by
      intro m
      induction m with
      | zero => intro _; simp
      | succ m ih =>
        intro hm
        have hlt : m < xs.length := by omega
        have hd : ((xs.map fun x => Value.int .u8 x).drop (m * 1)).take 1 = [.int .u8 xs[m]] := by
          rw [Nat.mul_one, List.drop_eq_getElem_cons (by simpa using hlt)]
          simp
        rw [List.range_succ, List.mapM_append, ih (by omega)]
        simp only [List.mapM_cons, List.mapM_nil]
        rw [hd, kl_int Try.underlying5 (hx _ (List.getElem_mem hlt)), ← List.take_append_getElem hlt, List.map_append]
        rfl
    rw [this n (Nat.le_refl _), List.take_of_length_le (by omega)]
  exact h.trans (congrArg some (flat_one xs))
theorem fa_cons {α : Type} {p : α → Prop} {a : α} {l : List α} (h : p a) (t : ∀ x ∈ l, p x) : ∀ x ∈ a :: l, p x := fun x hx => by
  rcases List.mem_cons.1 hx with e | e
  · exact e ▸ h
  · exact t x e
theorem fa_nil {α : Type} {p : α → Prop} : ∀ x ∈ ([] : List α), p x := fun _ hx => absurd hx List.not_mem_nil
set_option maxRecDepth 100000 in
theorem arr4_lits {x0 x1 x2 x3 : Int} (h0 : (Lit.int .u8 x0).wf = true) (h1 : (Lit.int .u8 x1).wf = true) (h2 : (Lit.int .u8 x2).wf = true) (h3 : (Lit.int .u8 x3).wf = true) : Try.prog.keyLits 8 107 [.int .u8 x0, .int .u8 x1, .int .u8 x2, .int .u8 x3] = some [.int .u8 x0, .int .u8 x1, .int .u8 x2, .int .u8 x3] := by
  have hx : ∀ x ∈ [x0, x1, x2, x3], (Lit.int .u8 x).wf = true := fa_cons h0 (fa_cons h1 (fa_cons h2 (fa_cons h3 fa_nil)))
  have hl : [x0, x1, x2, x3].length = 4 := rfl
  have h := kl_bytes (d := 6) (xs := [x0, x1, x2, x3]) Try.underlying107 c4 hl hx
  simp only [List.map_cons, List.map_nil] at h
  exact h
set_option maxRecDepth 100000 in
theorem head_lits {h : Hd} (H : HdW h) : Try.prog.keyLits 8 28 [.int .u8 h.s0, .int .u8 h.s1, .int .u8 h.s2, .int .u8 h.s3, .int .u8 h.s4, .int .u8 h.s5, .int .u8 h.s6, .int .u8 h.s7, .int .i64 h.K, .int .i64 h.M, .int .i64 h.B, .string h.key, .int .i64 h.size, .int .i64 h.idx, .int .i64 h.ep, .int .i64 h.ct] =
    some [.int .u8 h.s0, .int .u8 h.s1, .int .u8 h.s2, .int .u8 h.s3, .int .u8 h.s4, .int .u8 h.s5, .int .u8 h.s6, .int .u8 h.s7, .int .i64 h.K, .int .i64 h.M, .int .i64 h.B, .string h.key.data.toList, .int .i64 h.size, .int .i64 h.idx, .int .i64 h.ep, .int .i64 h.ct] := by
  obtain ⟨w0, w1, w2, w3, w4, w5, w6, w7, w8, w9, w10, w11, w12, w13, w14, w15⟩ := H
  have g0 : Try.prog.keyLits 7 22 [.int .u8 h.s0, .int .u8 h.s1, .int .u8 h.s2, .int .u8 h.s3, .int .u8 h.s4, .int .u8 h.s5, .int .u8 h.s6, .int .u8 h.s7] = some [.int .u8 h.s0, .int .u8 h.s1, .int .u8 h.s2, .int .u8 h.s3, .int .u8 h.s4, .int .u8 h.s5, .int .u8 h.s6, .int .u8 h.s7] :=
    by
      have hx : ∀ x ∈ [h.s0, h.s1, h.s2, h.s3, h.s4, h.s5, h.s6, h.s7], (Lit.int .u8 x).wf = true :=
        fa_cons w0 (fa_cons w1 (fa_cons w2 (fa_cons w3 (fa_cons w4 (fa_cons w5 (fa_cons w6 (fa_cons w7 fa_nil)))))))
      have hl : [h.s0, h.s1, h.s2, h.s3, h.s4, h.s5, h.s6, h.s7].length = 8 := rfl
      have h := kl_bytes (d := 5) (xs := [h.s0, h.s1, h.s2, h.s3, h.s4, h.s5, h.s6, h.s7]) Try.underlying22 c8 hl hx
      simp only [List.map_cons, List.map_nil] at h
      exact h
  have g1 : Try.prog.keyLits 7 24 [.int .i64 h.K, .int .i64 h.M, .int .i64 h.B] = some [.int .i64 h.K, .int .i64 h.M, .int .i64 h.B] :=
    kl_struct (ls := [[.int .i64 h.K], [.int .i64 h.M], [.int .i64 h.B]]) Try.underlying24 ⟨cP.symm, by decide +kernel⟩ (by
      simp only [List.mapM_cons, List.mapM_nil, cI, List.drop_zero, List.drop_succ_cons, List.take_succ_cons, List.take_zero]
      rw [kl_int Try.underlying3 w8, kl_int Try.underlying3 w9, kl_int Try.underlying3 w10]
      rfl)
  have g5 : Try.prog.keyLits 7 26 [.int .i64 h.ep, .int .i64 h.ct] = some [.int .i64 h.ep, .int .i64 h.ct] :=
    kl_struct (ls := [[.int .i64 h.ep], [.int .i64 h.ct]]) Try.underlying26 ⟨cG.symm, by decide +kernel⟩ (by
      simp only [List.mapM_cons, List.mapM_nil, cI, List.drop_zero, List.drop_succ_cons, List.take_succ_cons, List.take_zero]
      rw [kl_int Try.underlying3 w13, kl_int Try.underlying3 w14]
      rfl)
  exact kl_struct (ls := [[.int .u8 h.s0, .int .u8 h.s1, .int .u8 h.s2, .int .u8 h.s3, .int .u8 h.s4, .int .u8 h.s5, .int .u8 h.s6, .int .u8 h.s7], [.int .i64 h.K, .int .i64 h.M, .int .i64 h.B], [.string h.key.data.toList], [.int .i64 h.size], [.int .i64 h.idx], [.int .i64 h.ep, .int .i64 h.ct]]) Try.underlying28 ⟨cH.symm, by decide +kernel⟩ (by
    simp only [List.mapM_cons, List.mapM_nil, cI, c8, cP, cT, cG, List.drop_zero, List.drop_succ_cons, List.take_succ_cons, List.take_zero]
    rw [g0, g1, g5, kl_str Try.underlying9 w15, kl_int Try.underlying3 w11, kl_int Try.underlying3 w12]
    rfl)
end
theorem u8_wf {n : Int} (h0 : 0 ≤ n) (h1 : n < 256) : (Lit.int .u8 n).wf = true := by simp [Lit.wf, IntKind.min, IntKind.max, IntKind.signed, IntKind.bits]; omega
set_option maxRecDepth 100000 in
theorem arr4_eql {x0 x1 x2 x3 y0 y1 y2 y3 : Nat} (h0 : x0 < 256) (h1 : x1 < 256) (h2 : x2 < 256) (h3 : x3 < 256) (k0 : y0 < 256) (k1 : y1 < 256) (k2 : y2 < 256) (k3 : y3 < 256) (w : World) : ∃ r : Bool, (Op.equalIn 10000 107 (.agg #[.int .u8 (x0 : Int), .int .u8 (x1 : Int), .int .u8 (x2 : Int), .int .u8 (x3 : Int)]) (.agg #[.int .u8 (y0 : Int), .int .u8 (y1 : Int), .int .u8 (y2 : Int), .int .u8 (y3 : Int)])).run Try.prog w = .ok r w ∧ (r = true ↔ [x0, x1, x2, x3] = [y0, y1, y2, y3]) := by
  obtain ⟨r, hr, h⟩ := run_equalIn_deep (P := Try.prog) 9992 8 107 (by kernel_rfl) w 8 8 (.agg #[.int .u8 (x0 : Int), .int .u8 (x1 : Int), .int .u8 (x2 : Int), .int .u8 (x3 : Int)]) (.agg #[.int .u8 (y0 : Int), .int .u8 (y1 : Int), .int .u8 (y2 : Int), .int .u8 (y3 : Int)]) _ _ (by kernel_rfl) (by kernel_rfl)
    (arr4_lits (u8_wf (by omega) (by omega)) (u8_wf (by omega) (by omega)) (u8_wf (by omega) (by omega)) (u8_wf (by omega) (by omega))) (arr4_lits (u8_wf (by omega) (by omega)) (u8_wf (by omega) (by omega)) (u8_wf (by omega) (by omega)) (u8_wf (by omega) (by omega)))
  refine ⟨r, hr, h.trans ?_⟩
  simp only [List.cons.injEq, Lit.int.injEq, and_true, true_and]
  omega
set_option maxRecDepth 100000 in
theorem head_eql {h k : Hd} (H : HdW h) (K : HdW k) (w : World) : ∃ r : Bool, (Op.equalIn 10000 28 (HdV h) (HdV k)).run Try.prog w = .ok r w ∧ (r = true ↔ h = k) := by
  obtain ⟨r, hr, e⟩ := run_equalIn_deep (P := Try.prog) 9992 8 28 (by kernel_rfl) w 8 8 (HdV h) (HdV k) _ _ (by kernel_rfl) (by kernel_rfl) (head_lits H) (head_lits K)
  refine ⟨r, hr, e.trans ⟨fun e => ?_, fun e => by rw [e]⟩⟩
  simp only [List.cons.injEq, Lit.int.injEq, Lit.string.injEq, and_true, true_and] at e
  obtain ⟨e0, e1, e2, e3, e4, e5, e6, e7, e8, e9, e10, e11, e12, e13, e14, e15⟩ := e
  have ek : h.key = k.key := by
    cases hh : h.key
    cases hk : k.key
    rw [hh, hk] at e11
    congr 1
    exact Array.ext' e11
  cases h
  cases k
  simp only at e0 e1 e2 e3 e4 e5 e6 e7 e8 e9 e10 e12 e13 e14 e15 ek
  subst e0 e1 e2 e3 e4 e5 e6 e7 e8 e9 e10 e12 e13 e14 e15 ek
  rfl
end Go.Proofs.Ytbioanbokbhmgaa

/- Loads and stores of whole structs, a block at a time. Conditions: none of any program. -/
namespace Go.Proofs.Ytbioanbokbhmgaa
open Go Go.RowKit

theorem all_list {cells : Array Value} {f : Value → Bool} (h : cells.toList.all f = true) : cells.all f = true := by simpa using h
theorem setRow_grown (w : World) (g : Nat) (cs : Array Value) : w.grownBy (w.setRow g cs) (some g) :=
  ⟨rfl, rfl, rfl, by simp, fun k _ hk => setRow_other w g k cs (fun e => hk (by rw [e]))⟩
theorem setRow_alloc (w : World) (old cs : Array Value) (T : TypeId) : (w.alloc (.cells old T)).setRow w.heap.size cs = w.alloc (.cells cs T) := by
  unfold World.setRow World.alloc
  congr 1
  apply Array.ext
  · simp
  · intro k h1 h2
    simp only [Array.getElem_modify, Array.getElem_push]
    by_cases e : w.heap.size = k
    · subst e; simp
    · have hk : k < w.heap.size := by have := h2; simp at this; omega
      simp only [e, if_false, dif_pos hk]
theorem results_cell2 {P : Program} {fn : Func} {T : TypeId} {s t : Tmp} {tmps : Array Value} {g : Nat} {cs : Array Value} {w : World} (hr : fn.results = #[.cell s T, .tmp t]) (hs : tmps.getD s undef = .pointer (some ⟨g, 0, none⟩)) (hl : (loadVar T ⟨g, 0, none⟩).run P w = .ok (.agg cs) w) :
    (results fn tmps).run P w = .ok (.tuple #[.agg cs, tmps.getD t undef]) w := by
  simp only [Array.getD_eq_getD_getElem?] at hs
  simp [results, hr, hs, hl, asAddr]
theorem results_cell3 {P : Program} {fn : Func} {T : TypeId} {s t u : Tmp} {tmps : Array Value} {g : Nat} {cs : Array Value} {w : World} (hr : fn.results = #[.cell s T, .tmp t, .tmp u]) (hs : tmps.getD s undef = .pointer (some ⟨g, 0, none⟩)) (hl : (loadVar T ⟨g, 0, none⟩).run P w = .ok (.agg cs) w) :
    (results fn tmps).run P w = .ok (.tuple #[.agg cs, tmps.getD t undef, tmps.getD u undef]) w := by
  simp only [Array.getD_eq_getD_getElem?] at hs
  simp [results, hr, hs, hl, asAddr]
theorem run_storeVar_part {P : Program} (w : World) (g o : Nat) (t ty : TypeId) (old cells : Array Value) (hg : w.heap[g]? = some (.cells old t (0, 0))) (hi : (P.info? ty).map (·.size) = some cells.size) (ho : o + cells.size ≤ old.size) (h1 : cells.toList.all (·.oneCell') = true) :
    (storeVar ty ⟨g, o, none⟩ (.agg cells)).run P w = .ok () (w.setRow g (old.toList.take o ++ cells.toList ++ old.toList.drop (o + cells.size)).toArray) := by
  have := run_storeCells_at P g o t cells.toList 0 old w hg (by simpa using ho) (fun v hv => (Array.all_eq_true_iff_forall_mem.1 (all_list h1)) v (by simpa using hv))
  cases hq : P.info? ty with
  | none => simp [hq] at hi
  | some i =>
    have hs : cells.size = i.size := by simp [hq] at hi; omega
    simp [storeVar, sizeOf, typeInfo, hq, Value.cells, hs] at this ⊢
    exact this
/-- A part of a block is written: o its place in it. -/
theorem wpList_storePart {P : Program} {ops : Array Oper} {rest : List Oper} {o : Oper} {a : Act} {w : World} {Q : Exit → Act → World → Prop} (hgd : o.guard = none) (ty : TypeId) (x y : Operand) (ho : o.op = .store ty x y)
    (g off : Nat) (cells : Array Value) (hx : a.eval x = .pointer (some ⟨g, off, none⟩)) (hy : a.eval y = .agg cells) (hi : (P.info? ty).map (·.size) = some cells.size) (t : TypeId)
    (old : Array Value) (hso : off + cells.size ≤ old.size) (hg : w.heap[g]? = some (.cells old t (0, 0))) (h1 : cells.toList.all (·.oneCell') = true)
    (h : ∀ w', w'.heap[g]? = some (.cells (old.toList.take off ++ cells.toList ++ old.toList.drop (off + cells.size)).toArray t (0, 0)) → w.grownBy w' (some g) → w'.heap.size = w.heap.size → wpList P ops Q rest (a.put o.dst undef) w') : wpList P ops Q (o :: rest) a w := by
  have h0 := h _ (setRow_heap w g old _ t (0, 0) hg) (setRow_grown w g _) (setRow_size w g _)
  refine wpList_plain hgd fun K hK => ?_
  unfold Oper.wp execOp
  simp only [ho, hx, hy, Instr.storeAt, Instr.sureAddr, Sem.run_bind, Sem.run_pure, Result.andThen_ok, run_storeVar_part w g off t ty old cells hg hi hso h1]
  exact hK _ _ h0
theorem run_loadVar_at {P : Program} (w : World) (ad : Addr) (ty : TypeId) (cs : Array Value) (d : TypeDesc) (hc : ∀ j v, cs.toList[j]? = some v → w.cell? (ad.add j) = some v)
    (hu : P.underlying ty = some d) (hd : (match d with | .struct _ | .array _ _ => true | _ => false) = true) (hi : (P.info? ty).map (·.size) = some cs.size) : (loadVar ty ad).run P w = .ok (.agg cs) w := by
  have hl : (loadCells ad cs.toList.length).run P w = .ok cs.toList.toArray w := run_loadCells_list (P := P) w ad cs.toList hc
  cases hq : P.info? ty with
  | none => simp [hq] at hi
  | some i =>
    have hs : i.size = cs.size := by simpa [hq] using hi
    have hagg : (isAgg ty).run P w = .ok true w := by
      unfold isAgg
      rw [Sem.run_bind, run_underlying hu w]
      cases d <;> simp_all
    simp only [Array.length_toList, Array.toArray_toList] at hl
    simp [loadVar, Sem.run_bind, hagg, sizeOf, typeInfo, hq, hs, hl]
/-- A struct is loaded from wherever its cells stand. -/
theorem wpList_loadAt {P : Program} {ops : Array Oper} {rest : List Oper} {o : Oper} {a : Act} {w : World} {Q : Exit → Act → World → Prop} (hgd : o.guard = none) (ty : TypeId) (x : Operand) (ho : o.op = .load ty x)
    (ad : Addr) (hx : a.eval x = .pointer (some ad)) (cs : Array Value) (d : TypeDesc) (hc : ∀ j v, cs.toList[j]? = some v → w.cell? (ad.add j) = some v) (hu : P.underlying ty = some d) (hd : (match d with | .struct _ | .array _ _ => true | _ => false) = true) (hi : (P.info? ty).map (·.size) = some cs.size)
    (h : wpList P ops Q rest (a.put o.dst (.agg cs)) w) : wpList P ops Q (o :: rest) a w := by
  refine wpList_plain hgd fun K hK => ?_
  unfold Oper.wp execOp
  simp only [ho, hx, Instr.loadAt, Instr.sureAddr, Sem.run_bind, Sem.run_pure, Result.andThen_ok, run_loadVar_at w ad ty cs d hc hu hd hi]
  exact hK _ _ h
theorem add_zero_addr (g j : Nat) : (⟨g, 0, none⟩ : Addr).add j = ⟨g, j, none⟩ := by unfold Addr.add; split <;> simp_all
/-- The first cells of a block. -/
theorem wpList_loadFirst {P : Program} {ops : Array Oper} {rest : List Oper} {o : Oper} {a : Act} {w : World} {Q : Exit → Act → World → Prop} (hgd : o.guard = none) (ty : TypeId) (x : Operand) (ho : o.op = .load ty x)
    (g : Nat) (hx : a.eval x = .pointer (some ⟨g, 0, none⟩)) (cs whole : Array Value) (t : TypeId) (d : TypeDesc) (hw : whole.toList.take cs.toList.length = cs.toList) (hg : w.heap[g]? = some (.cells whole t (0, 0))) (hu : P.underlying ty = some d) (hd : (match d with | .struct _ | .array _ _ => true | _ => false) = true) (hi : (P.info? ty).map (·.size) = some cs.size)
    (h : wpList P ops Q rest (a.put o.dst (.agg cs)) w) : wpList P ops Q (o :: rest) a w :=
  wpList_loadAt hgd ty x ho ⟨g, 0, none⟩ hx cs d (fun j v hv => by
    rw [add_zero_addr, cell_of_row w g j _ t (0, 0) hg]
    have hj : j < cs.toList.length := (List.getElem?_eq_some_iff.1 hv).1
    rw [← hw, List.getElem?_take_of_lt hj] at hv
    rw [← Array.getElem?_toList]; exact hv) hu hd hi h
theorem wpList_neqAgg {P : Program} {ops : Array Oper} {rest : List Oper} {o : Oper} {a : Act} {w : World} {Q : Exit → Act → World → Prop} (hgd : o.guard = none) (t : TypeId) (x y : Operand) (ho : o.op = .binOp .neq t x y t)
    (cs ds : Array Value) (hx : a.eval x = .agg cs) (hy : a.eval y = .agg ds) (hq : P.eqGuardType P.depth t = false) (r : Bool) (he : (Op.equalIn 10000 t (.agg cs) (.agg ds)).run P w = .ok r w)
    (h : wpList P ops Q rest (a.put o.dst (.bool (!r))) w) : wpList P ops Q (o :: rest) a w := by
  refine wpList_plain hgd fun K hK => ?_
  have he2 : (Op.equal t (.agg cs) (.agg ds)).run P w = .ok r w := he
  unfold Oper.wp execOp
  simp only [ho, hx, hy]
  simp [eqGuard, binOp, hq, he2, Sem.run_bind, Result.andThen]
  exact hK _ _ h
theorem wpList_eqlAgg {P : Program} {ops : Array Oper} {rest : List Oper} {o : Oper} {a : Act} {w : World} {Q : Exit → Act → World → Prop} (hgd : o.guard = none) (t : TypeId) (x y : Operand) (ho : o.op = .binOp .eql t x y t)
    (cs ds : Array Value) (hx : a.eval x = .agg cs) (hy : a.eval y = .agg ds) (hq : P.eqGuardType P.depth t = false) (r : Bool) (he : (Op.equalIn 10000 t (.agg cs) (.agg ds)).run P w = .ok r w)
    (h : wpList P ops Q rest (a.put o.dst (.bool r)) w) : wpList P ops Q (o :: rest) a w := by
  refine wpList_plain hgd fun K hK => ?_
  have he2 : (Op.equal t (.agg cs) (.agg ds)).run P w = .ok r w := he
  unfold Oper.wp execOp
  simp only [ho, hx, hy]
  simp [eqGuard, binOp, hq, he2, Sem.run_bind, Result.andThen]
  exact hK _ _ h
theorem guard_H : Try.prog.eqGuardType Try.prog.depth 28 = false := by kernel_rfl
theorem info_H : (Try.prog.info? 28).map (·.size) = some 16 := by kernel_rfl
theorem wpList_loadH {ops : Array Oper} {rest : List Oper} {o : Oper} {a : Act} {w : World} {Q : Exit → Act → World → Prop} (hgd : o.guard = none) (x : Operand) (ho : o.op = .load 28 x)
    (g : Nat) (hx : a.eval x = .pointer (some ⟨g, 0, none⟩)) (cs : Array Value) (hs : cs.size = 16) (hg : w.heap[g]? = some (.cells cs 28 (0, 0)))
    (h : wpList Try.prog ops Q rest (a.put o.dst (.agg cs)) w) : wpList Try.prog ops Q (o :: rest) a w :=
  wpList_load_row hgd 28 x ho g hx 28 cs (0, 0) _ hg Try.underlying28 rfl (by rw [info_H, hs]) h
theorem wpList_storeH {ops : Array Oper} {rest : List Oper} {o : Oper} {a : Act} {w : World} {Q : Exit → Act → World → Prop} (hgd : o.guard = none) (x y : Operand) (ho : o.op = .store 28 x y)
    (g : Nat) (cells : Array Value) (hx : a.eval x = .pointer (some ⟨g, 0, none⟩)) (hy : a.eval y = .agg cells) (hs : cells.size = 16)
    (old : Array Value) (hso : old.size = 16) (hg : w.heap[g]? = some (.cells old 28 (0, 0))) (h1 : cells.toList.all (·.oneCell') = true)
    (h : ∀ w', w'.heap[g]? = some (.cells cells 28 (0, 0)) → w.grownBy w' (some g) → w'.heap.size = w.heap.size → wpList Try.prog ops Q rest (a.put o.dst undef) w') : wpList Try.prog ops Q (o :: rest) a w :=
  wpList_store_row hgd 28 x y ho g cells hx hy 28 old hg (by rw [info_H, hs]) (by rw [hso, hs]) (all_list h1) (h _ (setRow_heap w g old cells 28 (0, 0) hg) (setRow_grown w g cells) (setRow_size w g cells))
theorem wpList_storeNewH {ops : Array Oper} {rest : List Oper} {o : Oper} {a : Act} {w : World} {Q : Exit → Act → World → Prop} {old : Array Value} (hgd : o.guard = none) (x y : Operand) (ho : o.op = .store 28 x y)
    (cells : Array Value) (hx : a.eval x = .pointer (some ⟨w.heap.size, 0, none⟩)) (hy : a.eval y = .agg cells) (hs : cells.size = 16) (hso : old.size = 16) (h1 : cells.toList.all (·.oneCell') = true)
    (h : wpList Try.prog ops Q rest (a.put o.dst undef) (w.alloc (.cells cells 28))) : wpList Try.prog ops Q (o :: rest) a (w.alloc (.cells old 28)) :=
  wpList_store_row hgd 28 x y ho w.heap.size cells hx hy 28 old (heap_alloc_new w _) (by rw [info_H, hs]) (by rw [hso, hs]) (all_list h1) (by rw [setRow_alloc]; exact h)
theorem ret_cellH {fn : Func} {R : Ending → World → Prop} {ac : Act} {w : World} {s t : Tmp} {g : Nat} {cs : Array Value} (hr : fn.results = #[.cell s 28, .tmp t]) (hd : ac.defers = []) (hs : ac.tmps.getD s undef = .pointer (some ⟨g, 0, none⟩)) (hz : cs.size = 16)
    (hg : w.heap[g]? = some (.cells cs 28 (0, 0))) (hR : R (.returned (.tuple #[.agg cs, ac.tmps.getD t undef])) w) : bodyPost Try.prog fn R .ret ac w := by
  have hl : (loadVar 28 ⟨g, 0, none⟩).run Try.prog w = .ok (.agg cs) w := run_loadVar_row w g 28 28 cs (0, 0) _ hg Try.underlying28 rfl (by rw [info_H, hz])
  exact bodyPost_ret (results_cell2 hr hs hl) hd hR
theorem ret_cellH3 {fn : Func} {R : Ending → World → Prop} {ac : Act} {w : World} {s t u : Tmp} {g : Nat} {cs : Array Value} (hr : fn.results = #[.cell s 28, .tmp t, .tmp u]) (hd : ac.defers = []) (hs : ac.tmps.getD s undef = .pointer (some ⟨g, 0, none⟩)) (hz : cs.size = 16)
    (hg : w.heap[g]? = some (.cells cs 28 (0, 0))) (hR : R (.returned (.tuple #[.agg cs, ac.tmps.getD t undef, ac.tmps.getD u undef])) w) : bodyPost Try.prog fn R .ret ac w := by
  have hl : (loadVar 28 ⟨g, 0, none⟩).run Try.prog w = .ok (.agg cs) w := run_loadVar_row w g 28 28 cs (0, 0) _ hg Try.underlying28 rfl (by rw [info_H, hz])
  exact bodyPost_ret (results_cell3 hr hs hl) hd hR
theorem info_S : (Try.prog.info? 46).map (·.size) = some 17 := by kernel_rfl
theorem wpList_loadS {ops : Array Oper} {rest : List Oper} {o : Oper} {a : Act} {w : World} {Q : Exit → Act → World → Prop} (hgd : o.guard = none) (x : Operand) (ho : o.op = .load 46 x)
    (g : Nat) (hx : a.eval x = .pointer (some ⟨g, 0, none⟩)) (cs : Array Value) (hs : cs.size = 17) (hg : w.heap[g]? = some (.cells cs 46 (0, 0)))
    (h : wpList Try.prog ops Q rest (a.put o.dst (.agg cs)) w) : wpList Try.prog ops Q (o :: rest) a w :=
  wpList_load_row hgd 46 x ho g hx 46 cs (0, 0) _ hg Try.underlying46 rfl (by rw [info_S, hs]) h
theorem wpList_storeS {ops : Array Oper} {rest : List Oper} {o : Oper} {a : Act} {w : World} {Q : Exit → Act → World → Prop} (hgd : o.guard = none) (x y : Operand) (ho : o.op = .store 46 x y)
    (g : Nat) (cells : Array Value) (hx : a.eval x = .pointer (some ⟨g, 0, none⟩)) (hy : a.eval y = .agg cells) (hs : cells.size = 17)
    (old : Array Value) (hso : old.size = 17) (hg : w.heap[g]? = some (.cells old 46 (0, 0))) (h1 : cells.toList.all (·.oneCell') = true)
    (h : ∀ w', w'.heap[g]? = some (.cells cells 46 (0, 0)) → w.grownBy w' (some g) → w'.heap.size = w.heap.size → wpList Try.prog ops Q rest (a.put o.dst undef) w') : wpList Try.prog ops Q (o :: rest) a w :=
  wpList_store_row hgd 46 x y ho g cells hx hy 46 old hg (by rw [info_S, hs]) (by rw [hso, hs]) (all_list h1) (h _ (setRow_heap w g old cells 46 (0, 0) hg) (setRow_grown w g cells) (setRow_size w g cells))
theorem wpList_storeNewS {ops : Array Oper} {rest : List Oper} {o : Oper} {a : Act} {w : World} {Q : Exit → Act → World → Prop} {old : Array Value} (hgd : o.guard = none) (x y : Operand) (ho : o.op = .store 46 x y)
    (cells : Array Value) (hx : a.eval x = .pointer (some ⟨w.heap.size, 0, none⟩)) (hy : a.eval y = .agg cells) (hs : cells.size = 17) (hso : old.size = 17) (h1 : cells.toList.all (·.oneCell') = true)
    (h : wpList Try.prog ops Q rest (a.put o.dst undef) (w.alloc (.cells cells 46))) : wpList Try.prog ops Q (o :: rest) a (w.alloc (.cells old 46)) :=
  wpList_store_row hgd 46 x y ho w.heap.size cells hx hy 46 old (heap_alloc_new w _) (by rw [info_S, hs]) (by rw [hso, hs]) (all_list h1) (by rw [setRow_alloc]; exact h)
theorem ret_cellS {fn : Func} {R : Ending → World → Prop} {ac : Act} {w : World} {s t : Tmp} {g : Nat} {cs : Array Value} (hr : fn.results = #[.cell s 46, .tmp t]) (hd : ac.defers = []) (hs : ac.tmps.getD s undef = .pointer (some ⟨g, 0, none⟩)) (hz : cs.size = 17)
    (hg : w.heap[g]? = some (.cells cs 46 (0, 0))) (hR : R (.returned (.tuple #[.agg cs, ac.tmps.getD t undef])) w) : bodyPost Try.prog fn R .ret ac w := by
  have hl : (loadVar 46 ⟨g, 0, none⟩).run Try.prog w = .ok (.agg cs) w := run_loadVar_row w g 46 46 cs (0, 0) _ hg Try.underlying46 rfl (by rw [info_S, hz])
  exact bodyPost_ret (results_cell2 hr hs hl) hd hR
theorem ret_cellS3 {fn : Func} {R : Ending → World → Prop} {ac : Act} {w : World} {s t u : Tmp} {g : Nat} {cs : Array Value} (hr : fn.results = #[.cell s 46, .tmp t, .tmp u]) (hd : ac.defers = []) (hs : ac.tmps.getD s undef = .pointer (some ⟨g, 0, none⟩)) (hz : cs.size = 17)
    (hg : w.heap[g]? = some (.cells cs 46 (0, 0))) (hR : R (.returned (.tuple #[.agg cs, ac.tmps.getD t undef, ac.tmps.getD u undef])) w) : bodyPost Try.prog fn R .ret ac w := by
  have hl : (loadVar 46 ⟨g, 0, none⟩).run Try.prog w = .ok (.agg cs) w := run_loadVar_row w g 46 46 cs (0, 0) _ hg Try.underlying46 rfl (by rw [info_S, hz])
  exact bodyPost_ret (results_cell3 hr hs hl) hd hR
end Go.Proofs.Ytbioanbokbhmgaa
