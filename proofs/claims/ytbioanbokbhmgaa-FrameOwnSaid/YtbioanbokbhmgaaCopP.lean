/- copy of a part: a row of the call's own is written from its beginning with what there is. Conditions: as the theorem has them. -/
import Derived.Test.YtbioanbokbhmgaaMem2
import Derived.Laws.CopyOwn
namespace Go.Proofs.Ytbioanbokbhmgaa
open Go Go.RowKit

theorem wpList_copyPart {P : Program} {w : World} {ops : Array Oper} {rest : List Oper} {o : Oper} {a : Act} {Q : Exit → Act → World → Prop} (hgd : o.guard = none) (d s : Operand) (dT sT : TypeId)
    (ho : o.op = .call { callee := .builtin .copy, args := #[d, s], argTypes := #[dT, sT] }) (e g n c1 m c2 : Nat) (A : Option Addr) (t : TypeId) (f0 f : Nat → Value) (hu : P.underlying dT = some (.slice e)) (hs : (P.info? e).map (·.size) = some 1)
    (hd : a.eval d = .slice (some ⟨g, 0, none⟩) n c1) (hsv : a.eval s = .slice A m c2) (hrow : w.rowIs g t n f0) (hsrc : Rd w A m f) (h1 : ∀ j, j < m → (f j).oneCell' = true)
    (h : ∀ w', w'.rowIs g t n (fun i => if i < Nat.min m n then f i else f0 i) → w.grownBy w' (some g) → w'.heap.size = w.heap.size → wpList P ops Q rest (a.put o.dst (goInt (Nat.min m n))) w') : wpList P ops Q (o :: rest) a w := by
  obtain ⟨cur, hg, hcs, hcur⟩ := hrow
  by_cases h0 : Nat.min m n = 0
  · refine wpList_copy_nothing hgd d s dT sT ho e hu hs _ _ n c1 m c2 hd hsv h0 ?_
    have h2 := h w ⟨cur, hg, hcs, fun j hj => by rw [h0]; exact hcur j hj⟩ ⟨rfl, rfl, rfl, Nat.le_refl _, fun _ _ _ => rfl⟩ rfl
    rw [h0] at h2
    exact h2
  · have hmn : Nat.min m n ≤ m ∧ Nat.min m n ≤ n := ⟨Nat.min_le_left _ _, Nat.min_le_right _ _⟩
    obtain ⟨k, hk⟩ : ∃ k, k = Nat.min m n := ⟨_, rfl⟩
    rw [← hk] at h0 hmn h
    obtain ⟨b, ofs, rfl, _, _⟩ := hsrc 0 (by omega)
    have hcells : ∀ j v, ((List.range k).map f)[j]? = some v → w.cell? ((⟨b, ofs, none⟩ : Addr).add j) = some v := by
      intro j v hj
      have hlt : j < k := by
        have := (List.getElem?_eq_some_iff.1 hj).1; simpa using this
      obtain ⟨b', o', e1, _, hc⟩ := hsrc j (by omega)
      injection e1 with e1; injection e1 with e1 e2; subst e1 e2
      have hadd : (⟨b, ofs, none⟩ : Addr).add j = ⟨b, ofs + j, none⟩ := by unfold Addr.add; split <;> simp_all
      rw [hadd, hc]
      simpa [hlt] using hj
    refine wpList_copy_own hgd d s dT sT ho e hu hs g 0 n c1 ⟨b, ofs, none⟩ m c2 hd hsv cur t hg ((List.range k).map f) (by simp [hk]) hcells (by simp [hcs]; omega) (by
      intro v hv
      obtain ⟨j, hj, rfl⟩ := List.mem_map.1 hv
      exact h1 j (by have := List.mem_range.1 hj; omega)) ?_
    simp only [List.length_map, List.length_range]
    refine h _ ⟨_, setRow_heap w g _ _ t _ hg, ?_, ?_⟩ ⟨rfl, rfl, rfl, by simp [World.setRow], fun k _ hk => setRow_other w g k _ (fun e => hk (by rw [e]))⟩ (setRow_size _ _ _)
    · simp [hcs]; omega
    · intro j hj
      by_cases hjk : j < k
      · simp [List.getElem?_append, hjk]
      · have := hcur j hj
        simp [List.getElem?_append, hjk]
        rw [show k + (j - k) = j by omega]
        simpa using this
end Go.Proofs.Ytbioanbokbhmgaa
