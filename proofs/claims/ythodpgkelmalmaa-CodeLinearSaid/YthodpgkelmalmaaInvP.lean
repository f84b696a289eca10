/- Inverses and solutions, in plain: the program's and the document's are one. Conditions: none. -/
import Derived.Test.YthodpgkelmalmaaRank
namespace Go.Proofs.Ythodpgkelmalmaa
/-- A row and another behind it. -/
def bsd {α : Type} (C : Nat) (g h : Nat → α) (j : Nat) : α := if j < C then g j else h (j - C)
namespace Fd
variable {α : Type} {F : Fd α}
/-- Every place is a pivot. -/
theorem red_surj {n : Nat} {R : Nat → Nat → α} {q : Nat → Nat} (h : F.Red n n R q) {i : Nat} (hi : i < n) : ∃ t, t < n ∧ q t = i := Classical.byContradiction fun hno => by
  obtain ⟨c, ⟨k, hk, hne⟩, hs⟩ := F.bound n (n + 1) (fun t j => if t = n then (if j = i then F.u else F.z) else R t j) (Nat.lt_succ_self n)
  have hrow : ∀ j, F.s n (fun t => F.m (c t) (if t = n then (if j = i then F.u else F.z) else R t j)) = F.s n fun t => F.m (c t) (R t j) := fun j => F.s_congr fun t ht => by rw [if_neg (by omega)]
  have hp : ∀ t, t < n → c t = F.z := fun t ht => by
    have h1 := hs (q t) (h t ht).1
    rw [F.s_succ, hrow, h.at c ht, if_pos rfl, if_neg (fun e => hno ⟨t, ht, e⟩), F.m_z, F.a_z] at h1
    exact h1
  have hn : c n = F.z := by
    have h1 := hs i hi
    rw [F.s_succ, hrow, F.s_zero (fun t ht => by rw [hp t ht, F.z_m]), F.z_a, if_pos rfl, if_pos rfl, F.m_u] at h1
    exact h1
  rcases Nat.lt_or_ge k n with h1 | h1
  · exact hne (hp k h1)
  · exact hne (by rw [show k = n by omega]; exact hn)
variable (F)
/-- The identity. -/
def idm (i j : Nat) : α := if i = j then F.u else F.z
/-- A square matrix with the identity behind it. -/
def aug (n : Nat) (G : Nat → Nat → α) (i : Nat) : Nat → α := bsd n (G i) (F.idm i)
variable {F}
theorem aug_lo {n : Nat} {G : Nat → Nat → α} {i j : Nat} (h : j < n) : F.aug n G i j = G i j := if_pos h
theorem free_aug {n : Nat} {G : Nat → Nat → α} : F.Free n n (F.aug n G) ↔ F.Free n n G := by
  have e : ∀ c : Nat → α, ∀ j, j < n → F.s n (fun i => F.m (c i) (F.aug n G i j)) = F.s n fun i => F.m (c i) (G i j) := fun c j hj => F.s_congr fun i _ => by rw [aug_lo hj]
  exact ⟨fun h c hc => h c fun j hj => by rw [e c j hj]; exact hc j hj, fun h c hc => h c fun j hj => by rw [← e c j hj]; exact hc j hj⟩
/-- A row of the full staircase of (A | I): what makes it of A's rows stands behind. -/
theorem inv_row {n : Nat} {G G' : Nat → Nat → α} {p : Nat → Nat} (h : F.RR n (n + n) n (F.aug n G) G' n p) {i : Nat} (hi : i < n) : ∀ j, j < n → F.s n (fun t => F.m (G' i (n + t)) (G t j)) = F.idm i j := by
  obtain ⟨c, hc⟩ := h.same.2 i hi
  have h1 : ∀ t, t < n → G' i (n + t) = c t := fun t ht => by
    rw [hc (n + t) (by omega), F.s_one (k := t) ht]
    · show F.m (c t) (bsd n (G t) (F.idm t) (n + t)) = _
      unfold bsd idm
      rw [if_neg (by omega), if_pos (by omega), F.m_u]
    · intro k _ hne
      show F.m (c k) (bsd n (G k) (F.idm k) (n + t)) = _
      unfold bsd idm
      rw [if_neg (by omega), if_neg (by omega), F.m_z]
  intro j hj
  have hr := h.full_red (by omega)
  have h2 : G' i j = F.idm i j := by
    unfold idm
    by_cases e : i = j
    · subst e; rw [if_pos rfl]; exact (hr i hi).2.1
    · rw [if_neg e]; exact (hr j hj).2.2 i hi e
  rw [← h2, hc j (by omega)]
  exact F.s_congr fun t ht => by rw [h1 t ht, aug_lo hj]
/-- The other way round: the matrix times the staircase's hind part is the identity. -/
theorem inv_right {n : Nat} {G G' : Nat → Nat → α} {p : Nat → Nat} (h : F.RR n (n + n) n (F.aug n G) G' n p) {i : Nat} (hi : i < n) : ∀ j, j < n → F.s n (fun t => F.m (G i t) (G' t (n + j))) = F.idm i j := by
  intro j hj
  have hr := h.full_red (show n ≤ n + n by omega)
  have h1 := hr.told (h.same.1 i hi) (n + j) (by omega)
  have h2 : F.aug n G i (n + j) = F.idm i j := by
    show bsd n (G i) (F.idm i) (n + j) = _
    unfold bsd
    rw [if_neg (by omega)]
    congr 1
    omega
  rw [← h2, h1]
  exact F.s_congr fun t ht => by rw [aug_lo ht]
/-- The solution out of the staircase of (A | v) is the inverse's row times v. -/
theorem solve_row {n : Nat} {G G' N : Nat → Nat → α} {p r : Nat → Nat} {v : Nat → α} (h : F.RR n (n + n) n (F.aug n G) G' n p) (hN : F.RR n (n + 1) n (fun i => bsd n (G i) (fun _ => v i)) N n r) {i : Nat} (hi : i < n) :
    N i n = F.s n fun t => F.m (G' i (n + t)) (v t) := by
  have hr := hN.full_red (show n ≤ n + 1 by omega)
  -- the row that the inverse makes of (A | v)
  let y : Nat → α := fun j => F.s n fun t => F.m (G' i (n + t)) (bsd n (G t) (fun _ => v t) j)
  have hy : F.In n (n + 1) N y := (In.sum (fun t => G' i (n + t)) fun t ht => In.row F (fun i => bsd n (G i) (fun _ => v i)) ht).trans hN.same.1
  have hlo : ∀ j, j < n → y j = F.idm i j := fun j hj => by
    rw [← inv_row h hi j hj]
    exact F.s_congr fun t _ => by unfold bsd; rw [if_pos hj]
  have h1 := hr.told hy n (by omega)
  have h2 : y n = F.s n fun t => F.m (G' i (n + t)) (v t) := F.s_congr fun t _ => by unfold bsd; rw [if_neg (by omega)]
  rw [← h2, h1, F.s_one (k := i) hi]
  · rw [hlo i hi]; unfold idm; rw [if_pos rfl, F.u_m]
  · intro k hk hne
    rw [hlo k hk]; unfold idm; rw [if_neg (fun e => hne e.symm), F.z_m]
end Fd
end Go.Proofs.Ythodpgkelmalmaa
