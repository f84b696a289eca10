/- Loads and stores of whole structs, a block at a time. Conditions: none of any program. -/
import Derived.Test.YtbioanbokbhmgaaEql
import Derived.Laws.Tables
import Derived.Laws.Rows
import Derived.Laws.CopyRow
namespace Go.Proofs.Ytbioanbokbhmgaa
open Go Go.RowKit

theorem all_list {cells : Array Value} {f : Value → Bool} (h : cells.toList.all f = true) : cells.all f = true := by simpa using h
theorem setRow_grown (w : World) (g : Nat) (cs : Array Value) : w.grownBy (w.setRow g cs) (some g) :=
  ⟨rfl, rfl, rfl, by simp, fun k _ hk => setRow_other w g k cs (fun e => hk (by rw [e]))⟩
theorem setRow_alloc (w : World) (old cs : Array Value) (T : TypeId) : (w.alloc (.cells old T)).setRow w.heap.size cs = w.alloc (.cells cs T) := by
  unfold World.setRow World.alloc
  congr 1
  apply Array.ext
  · simp
  · intro k h1 h2
    simp only [Array.getElem_modify, Array.getElem_push]
    by_cases e : w.heap.size = k
    · subst e; simp
    · have hk : k < w.heap.size := by have := h2; simp at this; omega
      simp only [e, if_false, dif_pos hk]
theorem results_cell2 {P : Program} {fn : Func} {T : TypeId} {s t : Tmp} {tmps : Array Value} {g : Nat} {cs : Array Value} {w : World} (hr : fn.results = #[.cell s T, .tmp t]) (hs : tmps.getD s undef = .pointer (some ⟨g, 0, none⟩)) (hl : (loadVar T ⟨g, 0, none⟩).run P w = .ok (.agg cs) w) :
    (results fn tmps).run P w = .ok (.tuple #[.agg cs, tmps.getD t undef]) w := by
  simp only [Array.getD_eq_getD_getElem?] at hs
  simp [results, hr, hs, hl, asAddr]
theorem results_cell3 {P : Program} {fn : Func} {T : TypeId} {s t u : Tmp} {tmps : Array Value} {g : Nat} {cs : Array Value} {w : World} (hr : fn.results = #[.cell s T, .tmp t, .tmp u]) (hs : tmps.getD s undef = .pointer (some ⟨g, 0, none⟩)) (hl : (loadVar T ⟨g, 0, none⟩).run P w = .ok (.agg cs) w) :
    (results fn tmps).run P w = .ok (.tuple #[.agg cs, tmps.getD t undef, tmps.getD u undef]) w := by
  simp only [Array.getD_eq_getD_getElem?] at hs
  simp [results, hr, hs, hl, asAddr]
theorem run_storeVar_part {P : Program} (w : World) (g o : Nat) (t ty : TypeId) (old cells : Array Value) (hg : w.heap[g]? = some (.cells old t (0, 0))) (hi : (P.info? ty).map (·.size) = some cells.size) (ho : o + cells.size ≤ old.size) (h1 : cells.toList.all (·.oneCell') = true) :
    (storeVar ty ⟨g, o, none⟩ (.agg cells)).run P w = .ok () (w.setRow g (old.toList.take o ++ cells.toList ++ old.toList.drop (o + cells.size)).toArray) := by
  have := run_storeCells_at P g o t cells.toList 0 old w hg (by simpa using ho) (fun v hv => (Array.all_eq_true_iff_forall_mem.1 (all_list h1)) v (by simpa using hv))
  cases hq : P.info? ty with
  | none => simp [hq] at hi
  | some i =>
    have hs : cells.size = i.size := by simp [hq] at hi; omega
    simp [storeVar, sizeOf, typeInfo, hq, Value.cells, hs] at this ⊢
    exact this
/-- A part of a block is written: o its place in it. -/
theorem wpList_storePart {P : Program} {ops : Array Oper} {rest : List Oper} {o : Oper} {a : Act} {w : World} {Q : Exit → Act → World → Prop} (hgd : o.guard = none) (ty : TypeId) (x y : Operand) (ho : o.op = .store ty x y)
    (g off : Nat) (cells : Array Value) (hx : a.eval x = .pointer (some ⟨g, off, none⟩)) (hy : a.eval y = .agg cells) (hi : (P.info? ty).map (·.size) = some cells.size) (t : TypeId)
    (old : Array Value) (hso : off + cells.size ≤ old.size) (hg : w.heap[g]? = some (.cells old t (0, 0))) (h1 : cells.toList.all (·.oneCell') = true)
    (h : ∀ w', w'.heap[g]? = some (.cells (old.toList.take off ++ cells.toList ++ old.toList.drop (off + cells.size)).toArray t (0, 0)) → w.grownBy w' (some g) → w'.heap.size = w.heap.size → wpList P ops Q rest (a.put o.dst undef) w') : wpList P ops Q (o :: rest) a w := by
  have h0 := h _ (setRow_heap w g old _ t (0, 0) hg) (setRow_grown w g _) (setRow_size w g _)
  refine wpList_plain hgd fun K hK => ?_
  unfold Oper.wp execOp
  simp only [ho, hx, hy, Instr.storeAt, Instr.sureAddr, Sem.run_bind, Sem.run_pure, Result.andThen_ok, run_storeVar_part w g off t ty old cells hg hi hso h1]
  exact hK _ _ h0
theorem run_loadVar_at {P : Program} (w : World) (ad : Addr) (ty : TypeId) (cs : Array Value) (d : TypeDesc) (hc : ∀ j v, cs.toList[j]? = some v → w.cell? (ad.add j) = some v)
    (hu : P.underlying ty = some d) (hd : (match d with | .struct _ | .array _ _ => true | _ => false) = true) (hi : (P.info? ty).map (·.size) = some cs.size) : (loadVar ty ad).run P w = .ok (.agg cs) w := by
  have hl : (loadCells ad cs.toList.length).run P w = .ok cs.toList.toArray w := run_loadCells_list (P := P) w ad cs.toList hc
  cases hq : P.info? ty with
  | none => simp [hq] at hi
  | some i =>
    have hs : i.size = cs.size := by simpa [hq] using hi
    have hagg : (isAgg ty).run P w = .ok true w := by
      unfold isAgg
      rw [Sem.run_bind, run_underlying hu w]
      cases d <;> simp_all
    simp only [Array.length_toList, Array.toArray_toList] at hl
    simp [loadVar, Sem.run_bind, hagg, sizeOf, typeInfo, hq, hs, hl]
/-- A struct is loaded from wherever its cells stand. -/
theorem wpList_loadAt {P : Program} {ops : Array Oper} {rest : List Oper} {o : Oper} {a : Act} {w : World} {Q : Exit → Act → World → Prop} (hgd : o.guard = none) (ty : TypeId) (x : Operand) (ho : o.op = .load ty x)
    (ad : Addr) (hx : a.eval x = .pointer (some ad)) (cs : Array Value) (d : TypeDesc) (hc : ∀ j v, cs.toList[j]? = some v → w.cell? (ad.add j) = some v) (hu : P.underlying ty = some d) (hd : (match d with | .struct _ | .array _ _ => true | _ => false) = true) (hi : (P.info? ty).map (·.size) = some cs.size)
    (h : wpList P ops Q rest (a.put o.dst (.agg cs)) w) : wpList P ops Q (o :: rest) a w := by
  refine wpList_plain hgd fun K hK => ?_
  unfold Oper.wp execOp
  simp only [ho, hx, Instr.loadAt, Instr.sureAddr, Sem.run_bind, Sem.run_pure, Result.andThen_ok, run_loadVar_at w ad ty cs d hc hu hd hi]
  exact hK _ _ h
theorem add_zero_addr (g j : Nat) : (⟨g, 0, none⟩ : Addr).add j = ⟨g, j, none⟩ := by unfold Addr.add; split <;> simp_all
/-- The first cells of a block. -/
theorem wpList_loadFirst {P : Program} {ops : Array Oper} {rest : List Oper} {o : Oper} {a : Act} {w : World} {Q : Exit → Act → World → Prop} (hgd : o.guard = none) (ty : TypeId) (x : Operand) (ho : o.op = .load ty x)
    (g : Nat) (hx : a.eval x = .pointer (some ⟨g, 0, none⟩)) (cs whole : Array Value) (t : TypeId) (d : TypeDesc) (hw : whole.toList.take cs.toList.length = cs.toList) (hg : w.heap[g]? = some (.cells whole t (0, 0))) (hu : P.underlying ty = some d) (hd : (match d with | .struct _ | .array _ _ => true | _ => false) = true) (hi : (P.info? ty).map (·.size) = some cs.size)
    (h : wpList P ops Q rest (a.put o.dst (.agg cs)) w) : wpList P ops Q (o :: rest) a w :=
  wpList_loadAt hgd ty x ho ⟨g, 0, none⟩ hx cs d (fun j v hv => by
    rw [add_zero_addr, cell_of_row w g j _ t (0, 0) hg]
    have hj : j < cs.toList.length := (List.getElem?_eq_some_iff.1 hv).1
    rw [← hw, List.getElem?_take_of_lt hj] at hv
    rw [← Array.getElem?_toList]; exact hv) hu hd hi h
theorem wpList_neqAgg {P : Program} {ops : Array Oper} {rest : List Oper} {o : Oper} {a : Act} {w : World} {Q : Exit → Act → World → Prop} (hgd : o.guard = none) (t : TypeId) (x y : Operand) (ho : o.op = .binOp .neq t x y t)
    (cs ds : Array Value) (hx : a.eval x = .agg cs) (hy : a.eval y = .agg ds) (hq : P.eqGuardType P.depth t = false) (r : Bool) (he : (Op.equalIn 10000 t (.agg cs) (.agg ds)).run P w = .ok r w)
    (h : wpList P ops Q rest (a.put o.dst (.bool (!r))) w) : wpList P ops Q (o :: rest) a w := by
  refine wpList_plain hgd fun K hK => ?_
  have he2 : (Op.equal t (.agg cs) (.agg ds)).run P w = .ok r w := he
  unfold Oper.wp execOp
  simp only [ho, hx, hy]
  simp [eqGuard, binOp, hq, he2, Sem.run_bind, Result.andThen]
  exact hK _ _ h
theorem wpList_eqlAgg {P : Program} {ops : Array Oper} {rest : List Oper} {o : Oper} {a : Act} {w : World} {Q : Exit → Act → World → Prop} (hgd : o.guard = none) (t : TypeId) (x y : Operand) (ho : o.op = .binOp .eql t x y t)
    (cs ds : Array Value) (hx : a.eval x = .agg cs) (hy : a.eval y = .agg ds) (hq : P.eqGuardType P.depth t = false) (r : Bool) (he : (Op.equalIn 10000 t (.agg cs) (.agg ds)).run P w = .ok r w)
    (h : wpList P ops Q rest (a.put o.dst (.bool r)) w) : wpList P ops Q (o :: rest) a w := by
  refine wpList_plain hgd fun K hK => ?_
  have he2 : (Op.equal t (.agg cs) (.agg ds)).run P w = .ok r w := he
  unfold Oper.wp execOp
  simp only [ho, hx, hy]
  simp [eqGuard, binOp, hq, he2, Sem.run_bind, Result.andThen]
  exact hK _ _ h
theorem guard_H : Try.prog.eqGuardType Try.prog.depth 28 = false := by kernel_rfl
theorem info_H : (Try.prog.info? 28).map (·.size) = some 16 := by kernel_rfl
theorem wpList_loadH {ops : Array Oper} {rest : List Oper} {o : Oper} {a : Act} {w : World} {Q : Exit → Act → World → Prop} (hgd : o.guard = none) (x : Operand) (ho : o.op = .load 28 x)
    (g : Nat) (hx : a.eval x = .pointer (some ⟨g, 0, none⟩)) (cs : Array Value) (hs : cs.size = 16) (hg : w.heap[g]? = some (.cells cs 28 (0, 0)))
    (h : wpList Try.prog ops Q rest (a.put o.dst (.agg cs)) w) : wpList Try.prog ops Q (o :: rest) a w :=
  wpList_load_row hgd 28 x ho g hx 28 cs (0, 0) _ hg Try.underlying28 rfl (by rw [info_H, hs]) h
theorem wpList_storeH {ops : Array Oper} {rest : List Oper} {o : Oper} {a : Act} {w : World} {Q : Exit → Act → World → Prop} (hgd : o.guard = none) (x y : Operand) (ho : o.op = .store 28 x y)
    (g : Nat) (cells : Array Value) (hx : a.eval x = .pointer (some ⟨g, 0, none⟩)) (hy : a.eval y = .agg cells) (hs : cells.size = 16)
    (old : Array Value) (hso : old.size = 16) (hg : w.heap[g]? = some (.cells old 28 (0, 0))) (h1 : cells.toList.all (·.oneCell') = true)
    (h : ∀ w', w'.heap[g]? = some (.cells cells 28 (0, 0)) → w.grownBy w' (some g) → w'.heap.size = w.heap.size → wpList Try.prog ops Q rest (a.put o.dst undef) w') : wpList Try.prog ops Q (o :: rest) a w :=
  wpList_store_row hgd 28 x y ho g cells hx hy 28 old hg (by rw [info_H, hs]) (by rw [hso, hs]) (all_list h1) (h _ (setRow_heap w g old cells 28 (0, 0) hg) (setRow_grown w g cells) (setRow_size w g cells))
theorem wpList_storeNewH {ops : Array Oper} {rest : List Oper} {o : Oper} {a : Act} {w : World} {Q : Exit → Act → World → Prop} {old : Array Value} (hgd : o.guard = none) (x y : Operand) (ho : o.op = .store 28 x y)
    (cells : Array Value) (hx : a.eval x = .pointer (some ⟨w.heap.size, 0, none⟩)) (hy : a.eval y = .agg cells) (hs : cells.size = 16) (hso : old.size = 16) (h1 : cells.toList.all (·.oneCell') = true)
    (h : wpList Try.prog ops Q rest (a.put o.dst undef) (w.alloc (.cells cells 28))) : wpList Try.prog ops Q (o :: rest) a (w.alloc (.cells old 28)) :=
  wpList_store_row hgd 28 x y ho w.heap.size cells hx hy 28 old (heap_alloc_new w _) (by rw [info_H, hs]) (by rw [hso, hs]) (all_list h1) (by rw [setRow_alloc]; exact h)
theorem ret_cellH {fn : Func} {R : Ending → World → Prop} {ac : Act} {w : World} {s t : Tmp} {g : Nat} {cs : Array Value} (hr : fn.results = #[.cell s 28, .tmp t]) (hd : ac.defers = []) (hs : ac.tmps.getD s undef = .pointer (some ⟨g, 0, none⟩)) (hz : cs.size = 16)
    (hg : w.heap[g]? = some (.cells cs 28 (0, 0))) (hR : R (.returned (.tuple #[.agg cs, ac.tmps.getD t undef])) w) : bodyPost Try.prog fn R .ret ac w := by
  have hl : (loadVar 28 ⟨g, 0, none⟩).run Try.prog w = .ok (.agg cs) w := run_loadVar_row w g 28 28 cs (0, 0) _ hg Try.underlying28 rfl (by rw [info_H, hz])
  exact bodyPost_ret (results_cell2 hr hs hl) hd hR
theorem ret_cellH3 {fn : Func} {R : Ending → World → Prop} {ac : Act} {w : World} {s t u : Tmp} {g : Nat} {cs : Array Value} (hr : fn.results = #[.cell s 28, .tmp t, .tmp u]) (hd : ac.defers = []) (hs : ac.tmps.getD s undef = .pointer (some ⟨g, 0, none⟩)) (hz : cs.size = 16)
    (hg : w.heap[g]? = some (.cells cs 28 (0, 0))) (hR : R (.returned (.tuple #[.agg cs, ac.tmps.getD t undef, ac.tmps.getD u undef])) w) : bodyPost Try.prog fn R .ret ac w := by
  have hl : (loadVar 28 ⟨g, 0, none⟩).run Try.prog w = .ok (.agg cs) w := run_loadVar_row w g 28 28 cs (0, 0) _ hg Try.underlying28 rfl (by rw [info_H, hz])
  exact bodyPost_ret (results_cell3 hr hs hl) hd hR
theorem info_S : (Try.prog.info? 46).map (·.size) = some 17 := by kernel_rfl
theorem wpList_loadS {ops : Array Oper} {rest : List Oper} {o : Oper} {a : Act} {w : World} {Q : Exit → Act → World → Prop} (hgd : o.guard = none) (x : Operand) (ho : o.op = .load 46 x)
    (g : Nat) (hx : a.eval x = .pointer (some ⟨g, 0, none⟩)) (cs : Array Value) (hs : cs.size = 17) (hg : w.heap[g]? = some (.cells cs 46 (0, 0)))
    (h : wpList Try.prog ops Q rest (a.put o.dst (.agg cs)) w) : wpList Try.prog ops Q (o :: rest) a w :=
  wpList_load_row hgd 46 x ho g hx 46 cs (0, 0) _ hg Try.underlying46 rfl (by rw [info_S, hs]) h
theorem wpList_storeS {ops : Array Oper} {rest : List Oper} {o : Oper} {a : Act} {w : World} {Q : Exit → Act → World → Prop} (hgd : o.guard = none) (x y : Operand) (ho : o.op = .store 46 x y)
    (g : Nat) (cells : Array Value) (hx : a.eval x = .pointer (some ⟨g, 0, none⟩)) (hy : a.eval y = .agg cells) (hs : cells.size = 17)
    (old : Array Value) (hso : old.size = 17) (hg : w.heap[g]? = some (.cells old 46 (0, 0))) (h1 : cells.toList.all (·.oneCell') = true)
    (h : ∀ w', w'.heap[g]? = some (.cells cells 46 (0, 0)) → w.grownBy w' (some g) → w'.heap.size = w.heap.size → wpList Try.prog ops Q rest (a.put o.dst undef) w') : wpList Try.prog ops Q (o :: rest) a w :=
  wpList_store_row hgd 46 x y ho g cells hx hy 46 old hg (by rw [info_S, hs]) (by rw [hso, hs]) (all_list h1) (h _ (setRow_heap w g old cells 46 (0, 0) hg) (setRow_grown w g cells) (setRow_size w g cells))
theorem wpList_storeNewS {ops : Array Oper} {rest : List Oper} {o : Oper} {a : Act} {w : World} {Q : Exit → Act → World → Prop} {old : Array Value} (hgd : o.guard = none) (x y : Operand) (ho : o.op = .store 46 x y)
    (cells : Array Value) (hx : a.eval x = .pointer (some ⟨w.heap.size, 0, none⟩)) (hy : a.eval y = .agg cells) (hs : cells.size = 17) (hso : old.size = 17) (h1 : cells.toList.all (·.oneCell') = true)
    (h : wpList Try.prog ops Q rest (a.put o.dst undef) (w.alloc (.cells cells 46))) : wpList Try.prog ops Q (o :: rest) a (w.alloc (.cells old 46)) :=
  wpList_store_row hgd 46 x y ho w.heap.size cells hx hy 46 old (heap_alloc_new w _) (by rw [info_S, hs]) (by rw [hso, hs]) (all_list h1) (by rw [setRow_alloc]; exact h)
theorem ret_cellS {fn : Func} {R : Ending → World → Prop} {ac : Act} {w : World} {s t : Tmp} {g : Nat} {cs : Array Value} (hr : fn.results = #[.cell s 46, .tmp t]) (hd : ac.defers = []) (hs : ac.tmps.getD s undef = .pointer (some ⟨g, 0, none⟩)) (hz : cs.size = 17)
    (hg : w.heap[g]? = some (.cells cs 46 (0, 0))) (hR : R (.returned (.tuple #[.agg cs, ac.tmps.getD t undef])) w) : bodyPost Try.prog fn R .ret ac w := by
  have hl : (loadVar 46 ⟨g, 0, none⟩).run Try.prog w = .ok (.agg cs) w := run_loadVar_row w g 46 46 cs (0, 0) _ hg Try.underlying46 rfl (by rw [info_S, hz])
  exact bodyPost_ret (results_cell2 hr hs hl) hd hR
theorem ret_cellS3 {fn : Func} {R : Ending → World → Prop} {ac : Act} {w : World} {s t u : Tmp} {g : Nat} {cs : Array Value} (hr : fn.results = #[.cell s 46, .tmp t, .tmp u]) (hd : ac.defers = []) (hs : ac.tmps.getD s undef = .pointer (some ⟨g, 0, none⟩)) (hz : cs.size = 17)
    (hg : w.heap[g]? = some (.cells cs 46 (0, 0))) (hR : R (.returned (.tuple #[.agg cs, ac.tmps.getD t undef, ac.tmps.getD u undef])) w) : bodyPost Try.prog fn R .ret ac w := by
  have hl : (loadVar 46 ⟨g, 0, none⟩).run Try.prog w = .ok (.agg cs) w := run_loadVar_row w g 46 46 cs (0, 0) _ hg Try.underlying46 rfl (by rw [info_S, hz])
  exact bodyPost_ret (results_cell3 hr hs hl) hd hR
end Go.Proofs.Ytbioanbokbhmgaa
