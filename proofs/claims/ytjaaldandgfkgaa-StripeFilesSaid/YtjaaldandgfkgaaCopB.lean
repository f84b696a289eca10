/- 'copy(row, src)' where the source is shorter than the row. Conditions: as the theorem has them. -/
import Derived.Test.YtjaaldandgfkgaaOwl
namespace Go.Proofs.Ytjaaldandgfkgaa
open Go.RowKit

theorem run_copyB {P : Program} (w : World) (dT sT ty e : TypeId) (g n m c1 c2 : Nat) (A : Option Addr) (t : TypeId) (f0 f : Nat → Value) (hu : P.underlying dT = some (.slice e)) (hs : (P.info? e).map (·.size) = some 1) (hmn : m ≤ n)
    (hrow : w.rowIs g t n f0) (hsrc : Rd w A m f) (h1 : ∀ j, j < m → (f j).oneCell' = true) :
    ∃ w', (Builtin.copy_ #[dT, sT] ty #[.slice (some ⟨g, 0, none⟩) n c1, .slice A m c2]).run P w = .ok (goInt m) w' ∧ w'.rowIs g t n (fun j => if j < m then f j else f0 j) ∧ w.grownBy w' (some g) := by
  obtain ⟨i, hi, his⟩ := Option.map_eq_some_iff.1 hs
  obtain ⟨cur, hg, hcs, hcur⟩ := hrow
  have hmin : m.min n = m := Nat.min_eq_left hmn
  rcases Nat.eq_zero_or_pos m with h0 | h0
  · subst h0
    have hl : ∀ (x : Addr), (loadCells x 0).run P w = .ok #[] w := fun x => by simpa using run_loadCells_list (P := P) w x [] (by simp)
    refine ⟨w, ?_, ⟨cur, hg, hcs, fun j hj => by show cur[j]? = some (if j < 0 then f j else f0 j); rw [if_neg (by omega)]; exact hcur j hj⟩, World.grownBy.refl w _⟩
    cases A <;> simp [Builtin.copy_, run_underlying hu, Builtin.lenOf, Builtin.firstCells, sizeOf, typeInfo, hi, storeCells, hl]
  · obtain ⟨b, o, rfl, _, _⟩ := hsrc 0 h0
    have hcells : ∀ j v, ((List.range m).map f)[j]? = some v → w.cell? ((⟨b, o, none⟩ : Addr).add j) = some v := by
      intro j v hj
      have hlt : j < m := by
        have := (List.getElem?_eq_some_iff.1 hj).1; simpa using this
      obtain ⟨b', o', e1, _, hc⟩ := hsrc j hlt
      injection e1 with e1; injection e1 with e1 e2; subst e1 e2
      have hadd : (⟨b, o, none⟩ : Addr).add j = ⟨b, o + j, none⟩ := by unfold Addr.add; split <;> simp_all
      rw [hadd, hc]
      simpa [hlt] using hj
    have hl := run_loadCells_list (P := P) w ⟨b, o, none⟩ _ hcells
    have hst := run_storeCells_at P g 0 t ((List.range m).map f) 0 cur w hg (by simp [hcs]; omega) (by
      intro v hv
      obtain ⟨j, hj, rfl⟩ := List.mem_map.1 hv
      exact h1 j (List.mem_range.1 hj))
    simp only [List.length_map, List.length_range] at hl hst
    obtain ⟨R, hR⟩ : ∃ R : Array Value, R = (cur.toList.take (0 + 0) ++ (List.range m).map f ++ cur.toList.drop (0 + 0 + m)).toArray := ⟨_, rfl⟩
    rw [← hR] at hst
    refine ⟨w.setRow g R, ?_, ?_, ?_⟩
    · simp [Builtin.copy_, run_underlying hu, Builtin.lenOf, Builtin.firstCells, sizeOf, typeInfo, hi, his, hl, hst, hmin]
    · refine ⟨R, setRow_heap w g _ _ t _ hg, ?_, ?_⟩
      · rw [hR]; simp [hcs]; omega
      · intro j hj
        rw [hR]
        by_cases hjm : j < m
        · simp [List.getElem?_append, hjm]
        · have := hcur j hj
          simp only [hjm, if_false]
          simp [List.getElem?_append, hjm]
          rw [← this]
          rw [show m + (j - m) = j by omega]
    · exact ⟨rfl, rfl, rfl, by simp [World.setRow], fun k _ hk => setRow_other w g k _ (fun e => hk (by rw [e]))⟩
theorem wpList_copyB {P : Program} {w : World} {ops : Array Oper} {rest : List Oper} {o : Oper} {a : Act} {Q : Exit → Act → World → Prop} (hgd : o.guard = none) (d s : Operand) (dT sT : TypeId)
    (ho : o.op = .call { callee := .builtin .copy, args := #[d, s], argTypes := #[dT, sT] }) (e g n m c1 c2 : Nat) (A : Option Addr) (t : TypeId) (f0 f : Nat → Value) (hu : P.underlying dT = some (.slice e)) (hs : (P.info? e).map (·.size) = some 1) (hmn : m ≤ n)
    (hd : a.eval d = .slice (some ⟨g, 0, none⟩) n c1) (hsv : a.eval s = .slice A m c2) (hrow : w.rowIs g t n f0) (hsrc : Rd w A m f) (h1 : ∀ j, j < m → (f j).oneCell' = true)
    (h : ∀ w', w'.rowIs g t n (fun j => if j < m then f j else f0 j) → w.grownBy w' (some g) → wpList P ops Q rest (a.put o.dst (goInt m)) w') : wpList P ops Q (o :: rest) a w := by
  refine wpList_plain hgd fun K hK => ?_
  obtain ⟨w', hrun, h2, h3⟩ := run_copyB (P := P) w dT sT o.type e g n m c1 c2 A t f0 f hu hs hmn hrow hsrc h1
  unfold Oper.wp
  simp [execOp, ho, resolve, invoke, builtin, hd, hsv, hrun, Result.andThen]
  exact hK _ _ (h w' h2 h3)
/-- 'min(x, y)' of two numbers. -/
theorem wpList_min2 {P : Program} {w : World} {ops : Array Oper} {rest : List Oper} {o : Oper} {a : Act} {Q : Exit → Act → World → Prop} (hgd : o.guard = none) (x y : Operand) (ts : Array TypeId)
    (ho : o.op = .call { callee := .builtin .min, args := #[x, y], argTypes := ts }) (p q m : Int) (hx : a.eval x = .int .i64 p) (hy : a.eval y = .int .i64 q) (hm : m = if q < p then q else p)
    (h : wpList P ops Q rest (a.put o.dst (.int .i64 m)) w) : wpList P ops Q (o :: rest) a w := by
  refine wpList_plain hgd fun K hK => ?_
  subst hm
  unfold Oper.wp
  simp [execOp, ho, resolve, invoke, builtin, hx, hy, run_min_int2, Result.andThen]
  exact hK _ _ h
end Go.Proofs.Ytjaaldandgfkgaa
