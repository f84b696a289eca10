/- append(nil, row...): the law. Conditions: none of any program. -/
import Derived.Test.YtbioanbokbhmgaaMem2
import Derived.OwnWalk
namespace Go.Proofs.Ytbioanbokbhmgaa
open Go.RowKit

section
variable {P : Program}
theorem run_nil_nil (w : World) (t ty e : TypeId) (i : TypeInfo) (ht : P.underlying t = some (.slice e)) (hi : P.info? e = some i) (c : Nat) :
    (Builtin.append_ #[t, t] ty #[.slice none 0 0, .slice none 0 c]).run P w = .ok (.slice none 0 0) w := by
  simp [Builtin.append_, run_underlying ht, sizeOf, typeInfo, hi, Builtin.lenOf, Builtin.firstCells]
/-- 'append(nil, row...)', elements of one cell, the row read. -/
theorem wpList_appendRd {w : World} {ops : Array Oper} {rest : List Oper} {o : Oper} {a : Act} {Q : Exit → Act → World → Prop} (hgd : o.guard = none) (s x : Operand) (t : TypeId)
    (ho : o.op = .call { callee := .builtin .append, args := #[s, x], argTypes := #[t, t] }) (B e bytes : Nat) (z : Value) (ht : P.underlying t = some (.slice e))
    (hinfo : (P.info? e).map (fun i => (i.zero, i.size, i.bytes)) = some (some z, 1, bytes)) (hzs : z.cells.size = 1) (hs : a.eval s = .slice none 0 0) (hB : B ≤ w.heap.size) (A : Option Addr) (m c : Nat) (f : Nat → Value)
    (hx : a.eval x = .slice A m c) (hr : Rd w A m f) (h1 : ∀ j, j < m → (f j).oneCell' = true) (hm : m ≤ 1000000000000000000) (hbytes : m * bytes ≤ 140737488355328)
    (h : ∀ v' w', Own w' B e 1 v' m (fun j => [f j]) → Below B w w' → wpList P ops Q rest (a.put o.dst v') w') : wpList P ops Q (o :: rest) a w := by
  obtain ⟨i0, hi, hz0, hz1, hz2⟩ := info_parts hinfo
  have hfl : ∀ (n : Nat), ((List.range n).flatMap fun j => [f j]) = (List.range n).map f := fun n => flat1 n f
  rcases A with _ | ad
  · have hm0 : m = 0 := by
      rcases Nat.eq_zero_or_pos m with h0 | h0
      · exact h0
      · obtain ⟨b, o, e1, _⟩ := hr 0 h0; cases e1
    subst hm0
    refine wpList_plain hgd fun K hK => ?_
    have hrun := run_nil_nil (P := P) w t o.type e i0 ht hi c
    unfold Oper.wp
    simp [execOp, ho, resolve, invoke, builtin, hs, hx, hrun, Result.andThen]
    exact hK _ _ (h _ w (Own.nil _ _ _ _ _) (Below.refl _ _))
  · refine wpList_append_own w hgd s x t ho B e i0 z 1 bytes ht hi hz0 hz1 hz2 hzs (by omega) (.slice none 0 0) 0 [] hs ⟨by simp, .inl ⟨rfl, rfl⟩⟩ ad m c ((List.range m).map f) hx (by simp) ?_ ?_ (by simp only [maxLen]; omega) (by rw [Nat.zero_add]; exact hbytes) hB ?_
    · intro j u hu
      have hlt : j < m := by have := (List.getElem?_eq_some_iff.1 hu).1; simpa using this
      obtain ⟨b', o', e1, _, hc⟩ := hr j hlt
      injection e1 with e1; subst e1
      have hadd : (⟨b', o', none⟩ : Addr).add j = ⟨b', o' + j, none⟩ := by unfold Addr.add; split <;> simp_all
      rw [hadd, hc]; simpa [hlt] using hu
    · intro u hu
      obtain ⟨j, hj, rfl⟩ := List.mem_map.1 hu
      exact h1 j (List.mem_range.1 hj)
    · intro v' w' hown hg _
      refine h v' w' ?_ ((Below.refl _ _).grown hg hB (by simp [Value.ownBlock]))
      unfold Own; rw [hfl]; simpa using hown
end
end Go.Proofs.Ytbioanbokbhmgaa
