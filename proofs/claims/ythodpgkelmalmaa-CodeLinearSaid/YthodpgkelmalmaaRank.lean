/- Ranks, inverses and solutions: what the program's staircase and the document's basis have in common. Plain. Conditions: none. -/
import Derived.Test.YthodpgkelmalmaaElim
namespace Go.Proofs.Ythodpgkelmalmaa
namespace Fd
variable {α : Type} {F : Fd α}

/-- n free rows in the span of n others: those are free, too. -/
theorem free_of_span {n L : Nat} {X Y : Nat → Nat → α} (hX : F.Free n L X) (h : ∀ i, i < n → F.In n L Y (X i)) : F.Free n L Y := fun c hc i hi => Classical.byContradiction fun hne => by
  obtain ⟨n', rfl⟩ : ∃ n', n = n' + 1 := ⟨n - 1, by omega⟩
  have hY : ∀ k, k < n' + 1 → F.In n' L (fun k => Y (jump i k)) (Y k) := fun k hk => by
    by_cases e : k = i
    · subst e
      refine ⟨fun t => F.m (F.v (c k)) (c (jump k t)), fun j hj => ?_⟩
      have h1 := hc j hj
      rw [F.s_jump hk] at h1
      have h2 := F.eq_of_a h1
      have h3 : F.m (F.v (c k)) (F.m (c k) (Y k j)) = Y k j := by rw [← F.m_assoc, F.m_comm (F.v _), F.m_v _ hne, F.u_m]
      rw [← h3, h2, F.s_m]
      exact F.s_congr fun t _ => (F.m_assoc _ _ _).symm
    · rcases Nat.lt_or_ge k i with h1 | h1
      · exact (In.row F (fun k => Y (jump i k)) (show k < n' by omega)).congr fun j _ => by show Y k j = Y (jump i k) j; unfold jump; rw [if_pos h1]
      · exact (In.row F (fun k => Y (jump i k)) (show k - 1 < n' by omega)).congr fun j _ => by show Y k j = Y (jump i (k - 1)) j; unfold jump; rw [if_neg (by omega), show k - 1 + 1 = k by omega]
  have := F.free_le hX fun k hk => (h k hk).trans hY
  omega
theorem Free.more {n L L' : Nat} {A : Nat → Nat → α} (h : F.Free n L A) (hl : L ≤ L') : F.Free n L' A := fun c hc => h c fun j hj => hc j (by omega)
/-- As many steps as rows just if the rows are free over the first columns. -/
theorem RR.full_iff {n L c : Nat} {G G' : Nat → Nat → α} {st : Nat} {p : Nat → Nat} (h : F.RR n L c G G' st p) (hc : c ≤ L) : st = n ↔ F.Free n c G := by
  have hs := h.same.less hc
  constructor
  · intro e
    subst e
    have hr : F.Red st c G' p := fun i hi => ⟨(h.piv i hi).1, (h.piv i hi).2.1, (h.piv i hi).2.2⟩
    exact free_of_span hr.free hs.2
  · intro hf
    have := F.free_le hf (t := st) (B := G') fun i hi => (hs.1 i hi).trans fun k hk => by
      by_cases e : k < st
      · exact In.row F G' e
      · exact In.zero fun j hj => h.zero k (by omega) hk j hj
    have := h.le
    omega
theorem rising {n : Nat} {p : Nat → Nat} (h1 : ∀ i k, i < k → k < n → p i < p k) (h2 : ∀ i, i < n → p i < n) : ∀ i, i < n → p i = i := by
  have lo : ∀ i, i < n → i ≤ p i := by
    intro i
    induction i with
    | zero => intro _; omega
    | succ i ih => intro hi; have := ih (by omega); have := h1 i (i + 1) (by omega) hi; omega
  have hi : ∀ d i, n - i = d → i < n → p i ≤ i := by
    intro d
    induction d with
    | zero => intro i hd hi; omega
    | succ d ih =>
      intro i hd hi
      by_cases e : i + 1 < n
      · have := ih (i + 1) (by omega) e; have := h1 i (i + 1) (by omega) e; omega
      · have := h2 i hi; omega
  intro i hlt
  have := lo i hlt
  have := hi _ i rfl hlt
  omega
/-- A full staircase: the i-th row is one at i, zero at the other first columns. -/
theorem RR.unit {n L : Nat} {G G' : Nat → Nat → α} {p : Nat → Nat} (h : F.RR n L n G G' n p) : ∀ i, i < n → p i = i :=
  rising h.up fun i hi => (h.piv i hi).1
theorem RR.full_red {n L : Nat} {G G' : Nat → Nat → α} {p : Nat → Nat} (h : F.RR n L n G G' n p) (hL : n ≤ L) : F.Red n L G' (fun i => i) := fun i hi => by
  have := h.red hL i hi
  rwa [h.unit i hi] at this

/-! ### The document's basis -/
/-- Rows R, each with a one at its pivot below n and zeros there in the others, with the span of A's first k rows. -/
structure BS (F : Fd α) (k r W n : Nat) (A R : Nat → Nat → α) (p : Nat → Nat) : Prop where
  same : F.Same k r W A R
  piv : ∀ i, i < r → p i < n ∧ R i (p i) = F.u ∧ ∀ t, t < r → t ≠ i → R t (p i) = F.z
theorem BS.start (W n : Nat) (A R : Nat → Nat → α) (p : Nat → Nat) : F.BS 0 0 W n A R p := ⟨⟨fun i hi => absurd hi (by omega), fun i hi => absurd hi (by omega)⟩, fun i hi => absurd hi (by omega)⟩
theorem BS.red {k r W n : Nat} {A R : Nat → Nat → α} {p : Nat → Nat} (h : F.BS k r W n A R p) (hn : n ≤ W) : F.Red r W R p := fun i hi => ⟨by have := (h.piv i hi).1; omega, (h.piv i hi).2⟩
theorem BS.red' {k r W n : Nat} {A R : Nat → Nat → α} {p : Nat → Nat} (h : F.BS k r W n A R p) : F.Red r n R p := fun i hi => h.piv i hi
variable (F)
/-- A row less its parts in the first k rows of a basis, one after the other. -/
def lss (R : Nat → Nat → α) (p : Nat → Nat) (x : Nat → α) : Nat → Nat → α
  | 0 => x
  | k + 1 => fun j => F.a (lss R p x k j) (F.m (lss R p x k (p k)) (R k j))
variable {F}
theorem lss_in {r W : Nat} (R : Nat → Nat → α) (p : Nat → Nat) (x : Nat → α) : ∀ k, k ≤ r → F.In r W R (fun j => F.a (x j) (F.lss R p x k j))
  | 0, _ => In.zero fun j _ => F.a_self _
  | k + 1, hk => ((lss_in R p x k (by omega)).add ((In.row F R (show k < r by omega)).mul (F.lss R p x k (p k)))).congr fun j _ => by
    show F.a (x j) (F.a _ _) = F.a (F.a (x j) _) _
    rw [F.a_assoc]
theorem lss_z {r n : Nat} {R : Nat → Nat → α} {p : Nat → Nat} (h : F.Red r n R p) (x : Nat → α) : ∀ k, k ≤ r → ∀ i, i < k → F.lss R p x k (p i) = F.z
  | 0, _, i, hi => absurd hi (by omega)
  | k + 1, hk, i, hi => by
    show F.a (F.lss R p x k (p i)) (F.m _ (R k (p i))) = _
    by_cases e : i = k
    · subst e
      rw [(h i (by omega)).2.1, F.m_u, F.a_self]
    · rw [lss_z h x k (by omega) i (by omega), (h i (by omega)).2.2 k (by omega) (fun e' => e e'.symm), F.m_z, F.a_z]
/-- Nothing is left of the row. -/
theorem BS.skip {k r W : Nat} {A R : Nat → Nat → α} {p : Nat → Nat} (h : F.BS k r W W A R p) (hz : ∀ j, j < W → F.lss R p (A k) r j = F.z) : F.BS (k + 1) r W W A R p :=
  ⟨⟨fun i hi => by
    by_cases e : i = k
    · subst e
      exact (lss_in R p (A i) r (Nat.le_refl _)).congr fun j hj => by rw [hz j hj, F.a_z]
    · exact h.same.1 i (by omega), fun i hi => (h.same.2 i hi).more (by omega)⟩, h.piv⟩
/-- The basis with one row more. -/
def nrow (F : Fd α) (R : Nat → Nat → α) (p : Nat → Nat) (x : Nat → α) (r q : Nat) (j : Nat) : α := F.a F.z (F.m (F.v (F.lss R p x r q)) (F.lss R p x r j))
def nbas (F : Fd α) (R : Nat → Nat → α) (p : Nat → Nat) (x : Nat → α) (r q : Nat) (i j : Nat) : α := if i < r then F.a (R i j) (F.m (R i q) (F.nrow R p x r q j)) else F.nrow R p x r q j
theorem BS.next {k r W n : Nat} {A R : Nat → Nat → α} {p : Nat → Nat} (h : F.BS k r W n A R p) {q : Nat} (hq : q < n) (hne : F.lss R p (A k) r q ≠ F.z) :
    F.BS (k + 1) (r + 1) W n A (F.nbas R p (A k) r q) (fun i => if i < r then p i else q) := by
  have hred := h.red'
  have hv : ∀ j, F.nrow R p (A k) r q j = F.m (F.v (F.lss R p (A k) r q)) (F.lss R p (A k) r j) := fun j => F.z_a _
  have hvq : F.nrow R p (A k) r q q = F.u := by rw [hv, F.m_comm, F.m_v _ hne]
  have hvp : ∀ i, i < r → F.nrow R p (A k) r q (p i) = F.z := fun i hi => by rw [hv, lss_z hred (A k) r (Nat.le_refl _) i hi, F.m_z]
  have hnb : ∀ i, i < r → ∀ j, F.nbas R p (A k) r q i j = F.a (R i j) (F.m (R i q) (F.nrow R p (A k) r q j)) := fun i hi j => by unfold nbas; rw [if_pos hi]
  have hnr : ∀ j, F.nbas R p (A k) r q r j = F.nrow R p (A k) r q j := fun j => by unfold nbas; rw [if_neg (by omega)]
  -- the old rows in the new span
  have hlast : F.In (r + 1) W (F.nbas R p (A k) r q) (F.nrow R p (A k) r q) := (In.row F (F.nbas R p (A k) r q) (show r < r + 1 by omega)).congr fun j _ => (hnr j).symm
  have hold : ∀ i, i < r → F.In (r + 1) W (F.nbas R p (A k) r q) (R i) := fun i hi =>
    ((In.row F (F.nbas R p (A k) r q) (show i < r + 1 by omega)).add (hlast.mul (R i q))).congr fun j _ => by rw [hnb i hi, F.a_assoc, F.a_self, F.a_z]
  have hl : F.In (r + 1) W (F.nbas R p (A k) r q) (F.lss R p (A k) r) := (hlast.mul (F.lss R p (A k) r q)).congr fun j _ => by
    rw [hv, ← F.m_assoc, F.m_v _ hne, F.u_m]
  -- the new row in the span of the first k + 1
  have hAk : F.In (k + 1) W A (F.lss R p (A k) r) := by
    refine ((In.row F A (show k < k + 1 by omega)).add (((lss_in (W := W) R p (A k) r (Nat.le_refl _)).trans h.same.2).more (show k ≤ k + 1 by omega))).congr fun j _ => ?_
    rw [F.a_can]
  have hrow : F.In (k + 1) W A (F.nrow R p (A k) r q) := (hAk.mul (F.v (F.lss R p (A k) r q))).congr fun j _ => hv j
  refine ⟨⟨fun i hi => ?_, fun i hi => ?_⟩, fun i hi => ?_⟩
  · by_cases e : i = k
    · subst e
      have h1 := ((lss_in (W := W) R p (A i) r (Nat.le_refl _)).trans hold).add hl
      exact h1.congr fun j _ => by rw [F.a_assoc, F.a_self, F.a_z]
    · exact (h.same.1 i (by omega)).trans hold
  · by_cases e : i < r
    · exact (((h.same.2 i e).more (show k ≤ k + 1 by omega)).add (hrow.mul (R i q))).congr fun j _ => hnb i e j
    · have : i = r := by omega
      subst this
      exact hrow.congr fun j _ => hnr j
  · by_cases e : i < r
    · obtain ⟨h1, h2, h3⟩ := h.piv i e
      rw [if_pos e]
      refine ⟨h1, by rw [hnb i e, hvp i e, F.m_z, F.a_z, h2], fun t ht hti => ?_⟩
      by_cases e2 : t < r
      · rw [hnb t e2, hvp i e, F.m_z, F.a_z, h3 t e2 hti]
      · have : t = r := by omega
        subst this
        rw [hnr, hvp i e]
    · have : i = r := by omega
      subst this
      rw [if_neg (by omega)]
      refine ⟨hq, by rw [hnr, hvq], fun t ht hti => ?_⟩
      rw [hnb t (by omega), hvq, F.m_u, F.a_self]
/-- Nothing is left of a row over the first columns: the rows are not free there. -/
theorem BS.bound {k r W n m : Nat} {A R : Nat → Nat → α} {p : Nat → Nat} (h : F.BS k r W n A R p) (hn : n ≤ W) (hk : k < m) (hz : ∀ j, j < n → F.lss R p (A k) r j = F.z) : ¬ F.Free m n A := fun hf => by
  obtain ⟨c, hc⟩ := ((lss_in (W := W) R p (A k) r (Nat.le_refl _)).trans h.same.2)
  let d : Nat → α := fun i => if i < k then c i else if i = k then F.u else F.z
  have h1 := hf d (fun j hj => by
    have h2 : F.s m (fun i => F.m (d i) (A i j)) = F.a (F.s k fun i => F.m (c i) (A i j)) (A k j) := by
      obtain ⟨e, rfl⟩ : ∃ e, m = k + (1 + e) := ⟨m - k - 1, by omega⟩
      rw [F.s_split, F.s_split]
      have e1 : F.s k (fun i => F.m (d i) (A i j)) = F.s k fun i => F.m (c i) (A i j) := F.s_congr fun i hi => by simp [d, hi]
      have e2 : F.s 1 (fun i => F.m (d (k + i)) (A (k + i) j)) = A k j := by
        show F.a F.z (F.m (d (k + 0)) (A (k + 0) j)) = _
        rw [F.z_a]; simp [d, F.u_m]
      have e3 : F.s e (fun i => F.m (d (k + (1 + i))) (A (k + (1 + i)) j)) = F.z := F.s_zero fun i _ => by
        simp [d, show ¬ k + (1 + i) < k by omega, F.z_m]
      rw [e1, e2, e3, F.a_z]
    have h3 : F.a (A k j) (F.lss R p (A k) r j) = F.s k fun i => F.m (c i) (A i j) := hc j (by omega)
    rw [h2, ← h3, hz j hj, F.a_z, F.a_self]) k hk
  simp [d] at h1
  exact F.u_z h1
/-- All rows taken in: they are free over the first columns. -/
theorem BS.free {W n : Nat} {A R : Nat → Nat → α} {p : Nat → Nat} (h : F.BS n n W n A R p) (hn : n ≤ W) : F.Free n n A := free_of_span h.red'.free (h.same.less hn).2
/-- The rank: of the program, of the document. -/
theorem rank_eq {n L r st : Nat} {A G' R : Nat → Nat → α} {p q : Nat → Nat} (h : F.RR n L L A G' st p) (hB : F.BS n r L L A R q) : st = r :=
  red_len (h.red (Nat.le_refl _)) (hB.red (Nat.le_refl _)) h.span hB.same
/-- The inverse's rows: the basis' row with pivot i is the staircase's row i. -/
theorem row_eq {n L : Nat} {A G' R : Nat → Nat → α} {p q : Nat → Nat} (h : F.RR n L n A G' n p) (hL : n ≤ L) (hB : F.BS n n L n A R q) {t : Nat} (ht : t < n) : ∀ j, j < L → R t j = G' (q t) j := by
  have hr := h.full_red hL
  intro j hj
  have h1 := hr.told ((hB.same.2 t ht).trans h.same.1) j hj
  rw [h1, F.s_one (k := q t) (hB.piv t ht).1, (hB.piv t ht).2.1, F.u_m]
  intro i hi hne
  -- the basis' row is zero at i: i is another's pivot
  obtain ⟨u, hu⟩ : ∃ u, u < n ∧ q u = i := Classical.byContradiction fun hno => by
    have h2 := (hB.red hL).told ((h.same.2 i hi).trans hB.same.1) i (by omega)
    rw [F.s_zero] at h2
    · rw [(hr i hi).2.1] at h2; exact F.u_z h2
    · intro u hu
      have h3 := (hr (q u) (hB.piv u hu).1).2.2 i hi (fun e => hno ⟨u, hu, e.symm⟩)
      rw [h3, F.z_m]
  have hut : u ≠ t := fun e => hne (by rw [← hu.2, e])
  rw [← hu.2, (hB.piv u hu.1).2.2 t ht (fun e => hut e.symm), F.z_m]
theorem piv_all {n L : Nat} {A G' R : Nat → Nat → α} {p q : Nat → Nat} (h : F.RR n L n A G' n p) (hL : n ≤ L) (hB : F.BS n n L n A R q) {i : Nat} (hi : i < n) : ∃ u, u < n ∧ q u = i := Classical.byContradiction fun hno => by
  have hr := h.full_red hL
  have h2 := (hB.red hL).told ((h.same.2 i hi).trans hB.same.1) i (by omega)
  rw [F.s_zero] at h2
  · rw [(hr i hi).2.1] at h2; exact F.u_z h2
  · intro u hu
    have h3 := (hr (q u) (hB.piv u hu).1).2.2 i hi (fun e => hno ⟨u, hu, e.symm⟩)
    rw [h3, F.z_m]
end Fd
end Go.Proofs.Ythodpgkelmalmaa
