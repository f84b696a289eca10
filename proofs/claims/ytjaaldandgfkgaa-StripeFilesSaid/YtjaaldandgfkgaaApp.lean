/- append of a slice that is read onto a row of the call's own that has room. Conditions: as the theorems have them. -/
import Derived.Test.YtjaaldandgfkgaaMem2
import Derived.Test.YtjaaldandgfkgaaFactG
namespace Go.Proofs.Ytjaaldandgfkgaa
open Go.RowKit

section
variable {P : Program}
theorem run_appRd (w : World) (sT ty e : TypeId) (sz g n cap m c M : Nat) (A : Option Addr) (t : TypeId) (f0 f : Nat → Value) (hu : P.underlying sT = some (.slice e)) (hs : (P.info? e).map (·.size) = some sz)
    (hrow : w.rowIs g t M f0) (hsrc : Rd w A (m * sz) f) (h1 : ∀ j, j < m * sz → (f j).oneCell' = true) (hroom : n + m ≤ cap) (hM : cap * sz = M) :
    ∃ w', (Builtin.append_ #[sT, sT] ty #[.slice (some ⟨g, 0, none⟩) n cap, .slice A m c]).run P w = .ok (.slice (some ⟨g, 0, none⟩) (n + m) cap) w' ∧ w'.rowIs g t M (fun j => if n * sz ≤ j ∧ j < (n + m) * sz then f (j - n * sz) else f0 j) ∧ w.grownBy w' (some g) := by
  obtain ⟨i, hi, his⟩ := Option.map_eq_some_iff.1 hs
  subst his
  obtain ⟨cur, hg, hcs, hcur⟩ := hrow
  have hle : (n + m) * i.size ≤ M := by rw [← hM]; exact Nat.mul_le_mul_right _ hroom
  rw [Nat.add_mul] at hle ⊢
  have hgadd : ∀ k, (⟨g, 0, none⟩ : Addr).add k = ⟨g, 0 + k, none⟩ := fun k => by unfold Addr.add; split <;> simp_all
  rcases Nat.eq_zero_or_pos (m * i.size) with h0 | h0
  · have hl : ∀ (x : Addr), (loadCells x 0).run P w = .ok #[] w := fun x => by simpa using run_loadCells_list (P := P) w x [] (by simp)
    refine ⟨w, ?_, ⟨cur, hg, hcs, fun j hj => by rw [hcur j hj]; show _ = some (if n * i.size ≤ j ∧ j < n * i.size + m * i.size then f (j - n * i.size) else f0 j); rw [if_neg (by omega)]⟩, World.grownBy.refl w _⟩
    cases A <;> simp [Builtin.append_, run_underlying hu, Builtin.lenOf, Builtin.firstCells, sizeOf, typeInfo, hi, storeCells, h0, hl, hroom]
  · obtain ⟨b, o, rfl, _, _⟩ := hsrc 0 h0
    have hcells : ∀ j v, ((List.range (m * i.size)).map f)[j]? = some v → w.cell? ((⟨b, o, none⟩ : Addr).add j) = some v := by
      intro j v hj
      have hlt : j < m * i.size := by
        have := (List.getElem?_eq_some_iff.1 hj).1; simpa using this
      obtain ⟨b', o', e1, _, hc⟩ := hsrc j hlt
      injection e1 with e1; injection e1 with e1 e2; subst e1 e2
      have hadd : (⟨b, o, none⟩ : Addr).add j = ⟨b, o + j, none⟩ := by unfold Addr.add; split <;> simp_all
      rw [hadd, hc]
      simpa [hlt] using hj
    have hl := run_loadCells_list (P := P) w ⟨b, o, none⟩ _ hcells
    have hst := run_storeCells_at P g (n * i.size) t ((List.range (m * i.size)).map f) 0 cur w hg (by simp [hcs]; omega) (by
      intro v hv
      obtain ⟨j, hj, rfl⟩ := List.mem_map.1 hv
      exact h1 j (List.mem_range.1 hj))
    simp only [List.length_map, List.length_range] at hl hst
    obtain ⟨R, hR⟩ : ∃ R : Array Value, R = (cur.toList.take (n * i.size + 0) ++ (List.range (m * i.size)).map f ++ cur.toList.drop (n * i.size + 0 + m * i.size)).toArray := ⟨_, rfl⟩
    rw [← hR] at hst
    refine ⟨w.setRow g R, ?_, ?_, ?_⟩
    · simp [Builtin.append_, run_underlying hu, Builtin.lenOf, Builtin.firstCells, sizeOf, typeInfo, hi, hl, hroom, hgadd, hst]
    · have hlen : cur.toList.length = M := by simp [hcs]
      refine ⟨R, setRow_heap w g _ _ t _ hg, ?_, ?_⟩
      · rw [hR]; simp [hcs]; omega
      · intro j hj
        rw [hR]
        have hcj := hcur j hj
        show _ = some (if n * i.size ≤ j ∧ j < n * i.size + m * i.size then f (j - n * i.size) else f0 j)
        by_cases h2 : n * i.size ≤ j ∧ j < n * i.size + m * i.size
        · rw [if_pos h2]
          simp only [List.getElem?_toArray]
          rw [List.getElem?_append_left (by simp [hcs]; omega), List.getElem?_append_right (by simp [hcs]; omega)]
          simp only [List.length_take, hlen, Nat.add_zero]
          rw [Nat.min_eq_left (by omega)]
          simp [show j - n * i.size < m * i.size by omega]
        · rw [if_neg h2]
          simp only [List.getElem?_toArray]
          by_cases h3 : j < n * i.size
          · rw [List.getElem?_append_left (by simp [hcs]; omega), List.getElem?_append_left (by simp [hcs]; omega), List.getElem?_take, if_pos (by omega)]
            simpa using hcj
          · rw [List.getElem?_append_right (by simp [hcs]; omega)]
            simp only [List.length_append, List.length_take, List.length_map, List.length_range, hlen, Nat.add_zero]
            rw [Nat.min_eq_left (by omega), List.getElem?_drop, show n * i.size + m * i.size + (j - (n * i.size + m * i.size)) = j by omega]
            simpa using hcj
    · exact ⟨rfl, rfl, rfl, by simp [World.setRow], fun k _ hk => setRow_other w g k _ (fun e => hk (by rw [e]))⟩

/-- 'append(row, xs...)' where the row has room, as one step. -/
theorem step_appRd {ops : Array Oper} {o : Oper} {a : Act} {w : World} {K : Act → World → Prop} {Q : Exit → Act → World → Prop} {E : Prop} (hgd : o.guard = none) (s x : Operand) (sT : TypeId)
    (ho : o.op = .call { callee := .builtin .append, args := #[s, x], argTypes := #[sT, sT] }) (e : TypeId) (sz g n cap m c M : Nat) (A : Option Addr) (t : TypeId) (f0 f : Nat → Value) (hu : P.underlying sT = some (.slice e)) (hs : (P.info? e).map (·.size) = some sz)
    (hsv : a.eval s = .slice (some ⟨g, 0, none⟩) n cap) (hxv : a.eval x = .slice A m c) (hrow : w.rowIs g t M f0) (hsrc : Rd w A (m * sz) f) (h1 : ∀ j, j < m * sz → (f j).oneCell' = true) (hroom : n + m ≤ cap) (hM : cap * sz = M)
    (h : ∀ w', w'.rowIs g t M (fun j => if n * sz ≤ j ∧ j < (n + m) * sz then f (j - n * sz) else f0 j) → w.grownBy w' (some g) → K (a.put o.dst (.slice (some ⟨g, 0, none⟩) (n + m) cap)) w') :
    if Region.wanted o (yielded ops a.tmps) = true then Oper.wp P o a w K Q else E := by
  have hw : Region.wanted o (yielded ops a.tmps) = true := by simp [Region.wanted, hgd]
  rw [if_pos hw]
  obtain ⟨w', hrun, h2, h3⟩ := run_appRd (P := P) w sT o.type e sz g n cap m c M A t f0 f hu hs hrow hsrc h1 hroom hM
  unfold Oper.wp
  simp [execOp, ho, resolve, invoke, builtin, hsv, hxv, hrun, Result.andThen]
  exact h w' h2 h3
/-- 'copy(row, src)', the row made whole, the source of its length, as one step. -/
theorem step_copyAll {ops : Array Oper} {o : Oper} {a : Act} {w : World} {K : Act → World → Prop} {Q : Exit → Act → World → Prop} {E : Prop} (hgd : o.guard = none) (d s : Operand) (dT sT : TypeId)
    (ho : o.op = .call { callee := .builtin .copy, args := #[d, s], argTypes := #[dT, sT] }) (e sz g n c1 c2 : Nat) (A : Option Addr) (t : TypeId) (f0 f : Nat → Value) (hu : P.underlying dT = some (.slice e)) (hs : (P.info? e).map (·.size) = some sz)
    (hd : a.eval d = .slice (some ⟨g, 0, none⟩) n c1) (hsv : a.eval s = .slice A n c2) (hrow : w.rowIs g t (n * sz) f0) (hsrc : Rd w A (n * sz) f) (h1 : ∀ j, j < n * sz → (f j).oneCell' = true)
    (h : ∀ w', w'.rowIs g t (n * sz) f → w.grownBy w' (some g) → K (a.put o.dst (goInt n)) w') :
    if Region.wanted o (yielded ops a.tmps) = true then Oper.wp P o a w K Q else E := by
  have hw : Region.wanted o (yielded ops a.tmps) = true := by simp [Region.wanted, hgd]
  rw [if_pos hw]
  obtain ⟨w', hrun, h2, h3⟩ := run_copyAll (P := P) w dT sT o.type e sz g n c1 c2 A t f0 f hu hs hrow hsrc h1
  unfold Oper.wp
  simp [execOp, ho, resolve, invoke, builtin, hd, hsv, hrun, Result.andThen]
  exact h w' h2 h3
end
end Go.Proofs.Ytjaaldandgfkgaa
