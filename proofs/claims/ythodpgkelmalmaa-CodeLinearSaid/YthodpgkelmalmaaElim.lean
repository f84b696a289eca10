/- Elimination: what it leaves, step by step; what the staircase says of ranks, inverses, solutions. Plain. Conditions: none. -/
import Derived.Test.YthodpgkelmalmaaFld
namespace Go.Proofs.Ythodpgkelmalmaa
namespace Fd
variable {α : Type} (F : Fd α)

/-- G' has G's span; its first st rows have a one, alone in its column, at rising columns below c; the others are zero there. -/
structure RR (n L c : Nat) (G G' : Nat → Nat → α) (st : Nat) (p : Nat → Nat) : Prop where
  same : F.Same n n L G G'
  le : st ≤ n
  piv : ∀ i, i < st → p i < c ∧ G' i (p i) = F.u ∧ ∀ k, k < n → k ≠ i → G' k (p i) = F.z
  up : ∀ i k, i < k → k < st → p i < p k
  zero : ∀ i, st ≤ i → i < n → ∀ j, j < c → G' i j = F.z
/-- Rows r and t change places. -/
def swp (r t i : Nat) : Nat := if i = t then r else if i = r then t else i
theorem swp_lt {r t i n : Nat} (hr : r < n) (ht : t < n) (hi : i < n) : swp r t i < n := by unfold swp; split <;> (try split) <;> omega
theorem swp_swp (r t i : Nat) : swp r t (swp r t i) = i := by
  unfold swp
  by_cases h1 : i = t
  · subst h1
    simp only [if_true]
    by_cases h2 : r = i
    · rw [if_pos h2]; exact h2
    · rw [if_neg h2]
  · rw [if_neg h1]
    by_cases h2 : i = r
    · subst h2; simp
    · simp [h1, h2]
/-- The rows when t's has been scaled. -/
def scl (x : α) (t : Nat) (R : Nat → Nat → α) (i j : Nat) : α := if i = t then F.m (R t j) x else R i j
/-- The rows when t's has been taken from those before e, as often as column c says. -/
def elm (c t e : Nat) (R : Nat → Nat → α) (i j : Nat) : α := if i < e ∧ i ≠ t then F.a (R i j) (F.m (R t j) (R i c)) else R i j
variable {F}
theorem RR.start (n L : Nat) (G : Nat → Nat → α) (p : Nat → Nat) : F.RR n L 0 G G 0 p :=
  ⟨Same.refl n L G, Nat.zero_le _, fun i hi => absurd hi (by omega), fun i k _ hk => absurd hk (by omega), fun i _ _ j hj => absurd hj (by omega)⟩
theorem RR.skip {n L c : Nat} {G G' : Nat → Nat → α} {st : Nat} {p : Nat → Nat} (h : F.RR n L c G G' st p) (hz : ∀ i, st ≤ i → i < n → G' i c = F.z) : F.RR n L (c + 1) G G' st p :=
  ⟨h.same, h.le, fun i hi => ⟨by have := (h.piv i hi).1; omega, (h.piv i hi).2⟩, h.up, fun i h1 h2 j hj => by
    by_cases e : j = c
    · subst e; exact hz i h1 h2
    · exact h.zero i h1 h2 j (by omega)⟩
theorem same_swp {n L r t : Nat} (hr : r < n) (ht : t < n) (G : Nat → Nat → α) : F.Same n n L G (fun i => G (swp r t i)) :=
  ⟨fun i hi => (In.row F (fun i => G (swp r t i)) (swp_lt hr ht hi)).congr fun j _ => by rw [swp_swp], fun i hi => In.row F G (swp_lt hr ht hi)⟩
theorem same_scl {n L t : Nat} (ht : t < n) {x : α} (hx : x ≠ F.z) (R : Nat → Nat → α) : F.Same n n L R (F.scl x t R) := by
  refine ⟨fun i hi => ?_, fun i hi => ?_⟩
  · by_cases e : i = t
    · subst e
      refine ((In.row F (F.scl x i R) ht).mul (F.v x)).congr fun j _ => ?_
      unfold scl
      rw [if_pos rfl, F.m_left, F.m_comm (F.v x), F.m_v x hx, F.m_u]
    · exact (In.row F (F.scl x t R) hi).congr fun j _ => by unfold scl; rw [if_neg e]
  · by_cases e : i = t
    · subst e
      exact ((In.row F R ht).mul x).congr fun j _ => by unfold scl; rw [if_pos rfl, F.m_comm]
    · exact (In.row F R hi).congr fun j _ => by unfold scl; rw [if_neg e]
theorem same_elm {n L c t : Nat} (ht : t < n) (R : Nat → Nat → α) : F.Same n n L R (F.elm c t n R) := by
  have ht' : ∀ j, F.elm c t n R t j = R t j := fun j => by unfold elm; rw [if_neg fun h => h.2 rfl]
  refine ⟨fun i hi => ?_, fun i hi => ?_⟩
  · by_cases e : i = t
    · subst e
      exact (In.row F (F.elm c i n R) ht).congr fun j _ => (ht' j).symm
    · refine ((In.row F (F.elm c t n R) hi).add ((In.row F (F.elm c t n R) ht).mul (R i c))).congr fun j _ => ?_
      rw [ht' j]
      unfold elm
      rw [if_pos ⟨hi, e⟩, F.m_comm (R i c), F.a_assoc, F.a_self, F.a_z]
  · by_cases e : i = t
    · subst e
      exact (In.row F R ht).congr fun j _ => ht' j
    · refine ((In.row F R hi).add ((In.row F R ht).mul (R i c))).congr fun j _ => ?_
      unfold elm
      rw [if_pos ⟨hi, e⟩, F.m_comm (R i c)]
theorem RR.pivot {n L c r : Nat} {G G' : Nat → Nat → α} {st : Nat} {p : Nat → Nat} (h : F.RR n L c G G' st p) (h1 : st ≤ r) (hr : r < n) (hne : G' r c ≠ F.z) :
    F.RR n L (c + 1) G (F.elm c st n (F.scl (F.v (G' r c)) st fun i => G' (swp r st i))) (st + 1) (fun i => if i = st then c else p i) := by
  have hst : st < n := by omega
  have hx := F.v_ne hne
  have hS : ∀ i j, i < n → j < L → True := fun _ _ _ _ => trivial
  clear hS
  let R : Nat → Nat → α := fun i => G' (swp r st i)
  let N := F.elm c st n (F.scl (F.v (G' r c)) st R)
  have hRst : ∀ j, R st j = G' r j := fun j => by show G' (swp r st st) j = _; unfold swp; rw [if_pos rfl]
  have hRlo : ∀ i, i < st → ∀ j, R i j = G' i j := fun i hi j => by show G' (swp r st i) j = _; unfold swp; rw [if_neg (by omega), if_neg (by omega)]
  have hRz : ∀ i, st ≤ i → i < n → ∀ j, j < c → R i j = F.z := fun i hi hin j hj => by
    show G' (swp r st i) j = _
    unfold swp
    split
    · exact h.zero r h1 hr j hj
    · split
      · exact h.zero st (Nat.le_refl _) hst j hj
      · exact h.zero i hi hin j hj
  have hN0 : ∀ j, N st j = F.m (G' r j) (F.v (G' r c)) := fun j => by
    show F.elm _ _ _ _ _ _ = _
    unfold elm scl
    rw [if_neg (fun h => h.2 rfl), if_pos rfl, hRst]
  have hN1 : ∀ i, i < n → i ≠ st → ∀ j, N i j = F.a (R i j) (F.m (N st j) (R i c)) := fun i hi hne j => by
    rw [hN0]
    show F.elm _ _ _ _ _ _ = _
    unfold elm scl
    rw [if_pos ⟨hi, hne⟩, if_neg hne, if_pos rfl, if_neg hne, hRst]
  have hNc : N st c = F.u := by rw [hN0, F.m_v _ hne]
  have hNz : ∀ i, i < n → i ≠ st → N i c = F.z := fun i hi hne => by rw [hN1 i hi hne, hNc, F.u_m, F.a_self]
  have hNp : ∀ i, i < st → N st (p i) = F.z := fun i hi => by
    rw [hN0, (h.piv i hi).2.2 r hr (by omega), F.z_m]
  refine ⟨h.same.trans ((same_swp hr hst G').trans ((same_scl hst hx R).trans (same_elm hst _))), by omega, fun i hi => ?_, fun i k hik hk => ?_, fun i hi hin j hj => ?_⟩
  · by_cases e : i = st
    · subst e
      rw [if_pos rfl]
      exact ⟨by omega, hNc, fun k hk hki => hNz k hk hki⟩
    · obtain ⟨h2, h3, h4⟩ := h.piv i (by omega)
      rw [if_neg e]
      refine ⟨by omega, ?_, fun k hk hki => ?_⟩
      · show N i (p i) = _
        rw [hN1 i (by omega) e, hNp i (by omega), F.z_m, F.a_z, hRlo i (by omega), h3]
      · show N k (p i) = _
        by_cases e2 : k = st
        · subst e2; exact hNp i (by omega)
        · rw [hN1 k hk e2, hNp i (by omega), F.z_m, F.a_z]
          show G' (swp r st k) (p i) = _
          exact h4 _ (swp_lt hr hst hk) (by unfold swp; split <;> (try split) <;> omega)
  · by_cases e : k = st
    · subst e
      rw [if_pos rfl, if_neg (by omega)]
      exact (h.piv i hik).1
    · rw [if_neg (by omega), if_neg e]
      exact h.up i k hik (by omega)
  · show N i j = _
    by_cases e : j = c
    · subst e; exact hNz i hin (by omega)
    · rw [hN1 i hin (by omega), hRz i (by omega) hin j (by omega), hN0, h.zero r h1 hr j (by omega), F.z_m, F.z_m, F.a_z]
/-- The staircase's first rows, as rows with pivots. -/
theorem RR.red {n L c : Nat} {G G' : Nat → Nat → α} {st : Nat} {p : Nat → Nat} (h : F.RR n L c G G' st p) (hc : c ≤ L) : F.Red st L G' p := fun i hi =>
  ⟨by have := (h.piv i hi).1; omega, (h.piv i hi).2.1, fun k hk hne => (h.piv i hi).2.2 k (by have := h.le; omega) hne⟩
/-- All columns gone through: the first rows have the span. -/
theorem RR.span {n L : Nat} {G G' : Nat → Nat → α} {st : Nat} {p : Nat → Nat} (h : F.RR n L L G G' st p) : F.Same n st L G G' := by
  refine ⟨fun i hi => (h.same.1 i hi).trans fun k hk => ?_, fun i hi => h.same.2 i (by have := h.le; omega)⟩
  by_cases e : k < st
  · exact In.row F G' e
  · exact In.zero fun j hj => h.zero k (by omega) hk j hj
end Fd
end Go.Proofs.Ythodpgkelmalmaa
