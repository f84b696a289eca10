/- More words for memory: copy of a whole row; rows of whatever cells; make of rows. Conditions: none of any program. -/
import Derived.Test.YthodpgkelmalmaaMem
import Derived.Laws.CopyOwn
namespace Go.Proofs.Ythodpgkelmalmaa
open Go.RowKit

section
variable {P : Program}
theorem run_copyAll (w : World) (dT sT ty e : TypeId) (sz g n c1 c2 : Nat) (A : Option Addr) (t : TypeId) (f0 f : Nat → Value) (hu : P.underlying dT = some (.slice e)) (hs : (P.info? e).map (·.size) = some sz)
    (hrow : w.rowIs g t (n * sz) f0) (hsrc : Rd w A (n * sz) f) (h1 : ∀ j, j < n * sz → (f j).oneCell' = true) :
    ∃ w', (Builtin.copy_ #[dT, sT] ty #[.slice (some ⟨g, 0, none⟩) n c1, .slice A n c2]).run P w = .ok (goInt n) w' ∧ w'.rowIs g t (n * sz) f ∧ w.grownBy w' (some g) := by
  obtain ⟨i, hi, his⟩ := Option.map_eq_some_iff.1 hs
  subst his
  obtain ⟨cur, hg, hcs, hcur⟩ := hrow
  rcases Nat.eq_zero_or_pos (n * i.size) with h0 | h0
  · have hl : ∀ (x : Addr), (loadCells x 0).run P w = .ok #[] w := fun x => by simpa using run_loadCells_list (P := P) w x [] (by simp)
    refine ⟨w, ?_, ⟨cur, hg, hcs, fun j hj => by omega⟩, World.grownBy.refl w _⟩
    cases A <;> simp [Builtin.copy_, run_underlying hu, Builtin.lenOf, Builtin.firstCells, sizeOf, typeInfo, hi, storeCells, h0, hl]
  · obtain ⟨b, o, rfl, _, _⟩ := hsrc 0 h0
    have hcells : ∀ j v, ((List.range (n * i.size)).map f)[j]? = some v → w.cell? ((⟨b, o, none⟩ : Addr).add j) = some v := by
      intro j v hj
      have hlt : j < n * i.size := by
        have := (List.getElem?_eq_some_iff.1 hj).1; simpa using this
      obtain ⟨b', o', e1, _, hc⟩ := hsrc j hlt
      injection e1 with e1; injection e1 with e1 e2; subst e1 e2
      have hadd : (⟨b, o, none⟩ : Addr).add j = ⟨b, o + j, none⟩ := by unfold Addr.add; split <;> simp_all
      rw [hadd, hc]
      simpa [hlt] using hj
    have hl := run_loadCells_list (P := P) w ⟨b, o, none⟩ _ hcells
    have hst := run_storeCells_at P g 0 t ((List.range (n * i.size)).map f) 0 cur w hg (by simp [hcs]) (by
      intro v hv
      obtain ⟨j, hj, rfl⟩ := List.mem_map.1 hv
      exact h1 j (List.mem_range.1 hj))
    simp only [List.length_map, List.length_range] at hl hst
    obtain ⟨R, hR⟩ : ∃ R : Array Value, R = (cur.toList.take (0 + 0) ++ (List.range (n * i.size)).map f ++ cur.toList.drop (0 + 0 + n * i.size)).toArray := ⟨_, rfl⟩
    rw [← hR] at hst
    refine ⟨w.setRow g R, ?_, ?_, ?_⟩
    · simp [Builtin.copy_, run_underlying hu, Builtin.lenOf, Builtin.firstCells, sizeOf, typeInfo, hi, hl, hst]
    · refine ⟨R, setRow_heap w g _ _ t _ hg, ?_, ?_⟩
      · rw [hR]; simp [hcs]
      · intro j hj
        rw [hR]
        simp [List.getElem?_append, hj]
    · exact ⟨rfl, rfl, rfl, by simp [World.setRow], fun k _ hk => setRow_other w g k _ (fun e => hk (by rw [e]))⟩

/-- 'copy(row, src)', the row made whole, the source of its length. -/
theorem wpList_copyAll {w : World} {ops : Array Oper} {rest : List Oper} {o : Oper} {a : Act} {Q : Exit → Act → World → Prop} (hgd : o.guard = none) (d s : Operand) (dT sT : TypeId)
    (ho : o.op = .call { callee := .builtin .copy, args := #[d, s], argTypes := #[dT, sT] }) (e sz g n c1 c2 : Nat) (A : Option Addr) (t : TypeId) (f0 f : Nat → Value) (hu : P.underlying dT = some (.slice e)) (hs : (P.info? e).map (·.size) = some sz)
    (hd : a.eval d = .slice (some ⟨g, 0, none⟩) n c1) (hsv : a.eval s = .slice A n c2) (hrow : w.rowIs g t (n * sz) f0) (hsrc : Rd w A (n * sz) f) (h1 : ∀ j, j < n * sz → (f j).oneCell' = true)
    (h : ∀ w', w'.rowIs g t (n * sz) f → w.grownBy w' (some g) → wpList P ops Q rest (a.put o.dst (goInt n)) w') : wpList P ops Q (o :: rest) a w := by
  refine wpList_plain hgd fun K hK => ?_
  obtain ⟨w', hrun, h2, h3⟩ := run_copyAll (P := P) w dT sT o.type e sz g n c1 c2 A t f0 f hu hs hrow hsrc h1
  unfold Oper.wp
  simp [execOp, ho, resolve, invoke, builtin, hd, hsv, hrun, Result.andThen]
  exact hK _ _ (h w' h2 h3)
end

/-- Two cells an element, as cells. -/
def two (f g : Nat → Value) (j : Nat) : Value := if j % 2 = 0 then f (j / 2) else g (j / 2)
theorem Rd2.cells {w : World} {A : Option Addr} {n : Nat} {f g : Nat → Value} (h : Rd2 w A n f g) : Rd w A (n * 2) (two f g) := fun j hj => by
  obtain ⟨b, o, e, hb, h1, h2⟩ := h (j / 2) (by omega)
  refine ⟨b, o, e, hb, ?_⟩
  unfold two
  rcases Nat.mod_two_eq_zero_or_one j with hm | hm
  · rw [if_pos hm, show o + j = o + j / 2 * 2 by omega]; exact h1
  · rw [if_neg (by omega), show o + j = o + j / 2 * 2 + 1 by omega]; exact h2
theorem flat2 (n : Nat) (f g : Nat → Value) : ((List.range n).flatMap fun i => [f i, g i]) = (List.range (n * 2)).map (two f g) := by
  induction n with
  | zero => rfl
  | succ n ih =>
    rw [List.range_succ, List.flatMap_append, ih, show (n + 1) * 2 = n * 2 + 1 + 1 by omega, List.range_succ, List.range_succ]
    simp [two, show n * 2 / 2 = n by omega, show (n * 2 + 1) / 2 = n by omega]
theorem Own.rd2 {w : World} {B e : Nat} {v : Value} {n : Nat} {f g : Nat → Value} (h : Own w B e 2 v n fun i => [f i, g i]) :
    ∃ A c, v = .slice A n c ∧ n ≤ c ∧ c ≤ maxLen ∧ Rd2 w A n f g := by
  obtain ⟨h1, h2⟩ := h
  rcases h2 with ⟨rfl, rfl⟩ | ⟨b, cap, cur, rfl, hg, hh, hn, hc, hcur, htake⟩
  · exact ⟨none, 0, rfl, Nat.le_refl _, by unfold maxLen; omega, fun i hi => absurd hi (by omega)⟩
  · refine ⟨_, cap, rfl, hn, hc, fun i hi => ⟨b, 0, rfl, (Array.getElem?_eq_some_iff.1 hh).1, ?_, ?_⟩⟩
    all_goals
      rw [Nat.zero_add, cell_of_row w b _ cur e (0, 0) hh]
      rw [flat2] at htake
    · have h4 : (cur.toList.take (n * 2))[i * 2]? = some (f i) := by rw [htake]; simp [two, show i * 2 < n * 2 by omega]
      rw [List.getElem?_take, if_pos (by omega)] at h4
      simpa using h4
    · have h4 : (cur.toList.take (n * 2))[i * 2 + 1]? = some (g i) := by rw [htake]; simp [two, show i * 2 + 1 < n * 2 by omega, show (i * 2 + 1) / 2 = i by omega]
      rw [List.getElem?_take, if_pos (by omega)] at h4
      simpa using h4

/-- A list of rows that the call builds by append, each row its own memory, elements of sz cells. -/
def OwnQ (w : World) (B tR e sz : Nat) (v : Value) (k : Nat) (S : Nat → Option Addr) (C : Nat → Nat) (L : Nat → Nat) (f : Nat → Nat → List Value) : Prop :=
  Own w B tR 1 v k (fun i => [.slice (S i) (L i) (C i)]) ∧ ∀ i, i < k → Own w B e sz (.slice (S i) (L i) (C i)) (L i) (f i)
section
variable {w w' : World} {B tR e sz : Nat} {v v' : Value} {k : Nat} {S : Nat → Option Addr} {C : Nat → Nat} {L : Nat → Nat} {f : Nat → Nat → List Value}
theorem OwnQ.nil (w : World) (B tR e sz : Nat) (S : Nat → Option Addr) (C : Nat → Nat) (L : Nat → Nat) (f : Nat → Nat → List Value) : OwnQ w B tR e sz (.slice none 0 0) 0 S C L f := ⟨Own.nil _ _ _ _ _, fun i hi => absurd hi (by omega)⟩
theorem OwnQ.kept (h : OwnQ w B tR e sz v k S C L f) (hb : Below w.heap.size w w') : OwnQ w' B tR e sz v k S C L f := ⟨h.1.kept hb, fun i hi => (h.2 i hi).kept hb⟩
theorem OwnQ.mono {B' : Nat} (h : OwnQ w B tR e sz v k S C L f) (hB : B' ≤ B) : OwnQ w B' tR e sz v k S C L f := ⟨h.1.mono hB, fun i hi => (h.2 i hi).mono hB⟩
theorem OwnQ.next (h : OwnQ w B tR e sz v k S C L f) (A : Option Addr) (c : Nat) : OwnQ w B tR e sz v k (upd S k A) (upd C k c) L f :=
  ⟨h.1.congr fun i hi => by rw [upd_ne _ _ _ (by omega), upd_ne _ _ _ (by omega)], fun i hi => by rw [upd_ne _ _ _ (by omega), upd_ne _ _ _ (by omega)]; exact h.2 i hi⟩
theorem OwnQ.push (hne : e ≠ tR) (h : OwnQ w B tR e sz v k S C L f) (hr : Own w B e sz (.slice (S k) (L k) (C k)) (L k) (f k)) (hown : Own w' B tR 1 v' (k + 1) (fun i => [.slice (S i) (L i) (C i)])) (hg : w.grownBy w' v.ownBlock) : OwnQ w' B tR e sz v' (k + 1) S C L f :=
  ⟨hown, fun i hi => by
    by_cases e1 : i = k
    · subst e1; exact hr.keptRow hg (own_ne hr h.1 hne)
    · exact (h.2 i (by omega)).keptRow hg (own_ne (h.2 i (by omega)) h.1 hne)⟩
theorem OwnQ.rdm {g : Nat → Nat → Value} (h : OwnQ w B tR e 1 v k S C L fun i j => [g i j]) : ∃ A c, v = .slice A k c ∧ k ≤ c ∧ c ≤ maxLen ∧ RdM w A k L g := by
  obtain ⟨A, c, hv, hkc, hcm, hr, _⟩ := h.1.rd
  refine ⟨A, c, hv, hkc, hcm, S, C, hr, fun i hi => ?_⟩
  obtain ⟨A', c', e1, _, _, hr', _⟩ := (h.2 i hi).rd
  injection e1 with e1 _ _
  rw [e1]; exact hr'
theorem OwnQ.rdm2 {g1 g2 : Nat → Nat → Value} (h : OwnQ w B tR e 2 v k S C L fun i j => [g1 i j, g2 i j]) : ∃ A c, v = .slice A k c ∧ k ≤ c ∧ c ≤ maxLen ∧ RdM2 w A k L g1 g2 := by
  obtain ⟨A, c, hv, hkc, hcm, hr, _⟩ := h.1.rd
  refine ⟨A, c, hv, hkc, hcm, S, C, hr, fun i hi => ?_⟩
  obtain ⟨A', c', e1, _, _, hr'⟩ := (h.2 i hi).rd2
  injection e1 with e1 _ _
  rw [e1]; exact hr'
end

/-- A row known whole, owned, of whatever cells. -/
theorem own_of_rowN {w : World} {b e n sz B : Nat} {f : Nat → Value} {fl : Nat → List Value} (h : w.rowIs b e (n * sz) f) (hfl : (List.range n).flatMap fl = (List.range (n * sz)).map f) (hB : B ≤ b) (hn : n ≤ maxLen) : Own w B e sz (.slice (some ⟨b, 0, none⟩) n n) n fl := by
  obtain ⟨c, hb, hs, hc⟩ := h
  refine ⟨by rw [hfl]; simp, .inr ⟨b, n, c, rfl, hB, hb, Nat.le_refl _, hn, hs, ?_⟩⟩
  rw [hfl]
  apply List.ext_getElem?
  intro j
  rw [List.getElem?_take]
  by_cases hj : j < n * sz
  · rw [if_pos hj]
    have := hc j hj
    simp [hj] at this ⊢
    exact this
  · rw [if_neg hj]
    simp [hj]
end Go.Proofs.Ythodpgkelmalmaa
