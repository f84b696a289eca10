/- Solutions, in plain: the program's and the document's are one. Conditions: none. -/
import Derived.Test.YtpocjpodeahanaaRef5
namespace Go.Proofs.Ytpocjpodeahanaa
namespace Fd
variable {α : Type} {F : Fd α}
/-- A row of the document's full basis of (A | I): what makes it of A's rows stands behind. -/
theorem bs_row {n : Nat} {G R : Nat → Nat → α} {q : Nat → Nat} (h : F.BS n n (n + n) n (F.aug n G) R q) {t : Nat} (ht : t < n) : ∀ j, j < n → F.s n (fun u => F.m (R t (n + u)) (G u j)) = F.idm (q t) j := by
  obtain ⟨c, hc⟩ := h.same.2 t ht
  have h1 : ∀ u, u < n → R t (n + u) = c u := fun u hu => by
    rw [hc (n + u) (by omega), F.s_one (k := u) hu]
    · show F.m (c u) (bsd n (G u) (F.idm u) (n + u)) = _
      unfold bsd idm
      rw [if_neg (by omega), if_pos (by omega), F.m_u]
    · intro k _ hne
      show F.m (c k) (bsd n (G k) (F.idm k) (n + u)) = _
      unfold bsd idm
      rw [if_neg (by omega), if_neg (by omega), F.m_z]
  intro j hj
  have h2 : R t j = F.idm (q t) j := by
    obtain ⟨t', ht', hq'⟩ := red_surj h.red' hj
    have h3 := h.piv t' ht'
    unfold idm
    by_cases e : q t = j
    · rw [if_pos e, ← e]; exact (h.piv t ht).2.1
    · rw [if_neg e, ← hq']; exact h3.2.2 t ht (fun e2 => e (by rw [e2, hq']))
  rw [← h2, hc j (by omega)]
  exact F.s_congr fun u hu => by rw [h1 u hu, aug_lo hj]
/-- What makes unit rows of A's makes the solution of the list. -/
theorem solve_gen {n : Nat} {G N : Nat → Nat → α} {r : Nat → Nat} {v c : Nat → α} {i : Nat} (hi : i < n) (hc : ∀ j, j < n → F.s n (fun t => F.m (c t) (G t j)) = F.idm i j) (hN : F.RR n (n + 1) n (fun i => bsd n (G i) (fun _ => v i)) N n r) :
    N i n = F.s n fun t => F.m (c t) (v t) := by
  have hr := hN.full_red (show n ≤ n + 1 by omega)
  let y : Nat → α := fun j => F.s n fun t => F.m (c t) (bsd n (G t) (fun _ => v t) j)
  have hy : F.In n (n + 1) N y := (In.sum c fun t ht => In.row F (fun i => bsd n (G i) (fun _ => v i)) ht).trans hN.same.1
  have hlo : ∀ j, j < n → y j = F.idm i j := fun j hj => by
    rw [← hc j hj]
    exact F.s_congr fun t _ => by unfold bsd; rw [if_pos hj]
  have h1 := hr.told hy n (by omega)
  have h2 : y n = F.s n fun t => F.m (c t) (v t) := F.s_congr fun t _ => by unfold bsd; rw [if_neg (by omega)]
  rw [← h2, h1, F.s_one (k := i) hi]
  · rw [hlo i hi]; unfold idm; rw [if_pos rfl, F.u_m]
  · intro k hk hne
    rw [hlo k hk]; unfold idm; rw [if_neg (fun e => hne e.symm), F.z_m]
theorem free_bsd {n : Nat} {G : Nat → Nat → α} {v : Nat → Nat → α} : F.Free n n (fun i => bsd n (G i) (v i)) ↔ F.Free n n G := by
  have e : ∀ c : Nat → α, ∀ j, j < n → F.s n (fun i => F.m (c i) (bsd n (G i) (v i) j)) = F.s n fun i => F.m (c i) (G i j) := fun c j hj => F.s_congr fun i _ => by unfold bsd; rw [if_pos hj]
  exact ⟨fun h c hc => h c fun j hj => by rw [e c j hj]; exact hc j hj, fun h c hc => h c fun j hj => by rw [← e c j hj]; exact hc j hj⟩
end Fd
/-- What Solve says, by what the program does. -/
def SolP {α : Type} (F : Fd α) (n : Nat) (L : Nat → Nat) (m : Nat) (G : Nat → Nat → α) (v : Nat → α) (er : Int) (x : Nat → α) : Prop :=
  (faultE n L ≠ 0 ∧ er = faultE n L) ∨ (faultE n L = 0 ∧ ¬ (colsN n L = n ∧ m = n) ∧ er = 31) ∨ (faultE n L = 0 ∧ (colsN n L = n ∧ m = n) ∧ ¬ F.Free n n G ∧ er = 32) ∨
  (faultE n L = 0 ∧ (colsN n L = n ∧ m = n) ∧ er = 0 ∧ ∃ N r, F.RR n (n + 1) n (fun i => bsd n (G i) (fun _ => v i)) N n r ∧ ∀ i, x i = N i n)
/-- What Solve says, by the document. -/
def SolR {α : Type} (F : Fd α) (n : Nat) (L : Nat → Nat) (m : Nat) (G : Nat → Nat → α) (v : Nat → α) (er : Int) (x : Nat → α) : Prop :=
  (faultE n L ≠ 0 ∧ er = faultE n L) ∨ (faultE n L = 0 ∧ ¬ (colsN n L = n ∧ m = n) ∧ er = 31) ∨ (faultE n L = 0 ∧ (colsN n L = n ∧ m = n) ∧ ∃ X, InvR F n L G er X ∧ (er = 0 → ∀ i, i < n → x i = F.s n fun t => F.m (X i t) (v t)))
theorem sol_same {α : Type} {F : Fd α} {n : Nat} {L : Nat → Nat} {m : Nat} {G : Nat → Nat → α} {v : Nat → α} {er er' : Int} {x x' : Nat → α} (h : SolP F n L m G v er x) (h' : SolR F n L m G v er' x') : er = er' ∧ (er = 0 → ∀ i, i < n → x i = x' i) := by
  rcases h with ⟨a1, a2⟩ | ⟨a1, a2, a3⟩ | ⟨a1, a2, a3, a4⟩ | ⟨a1, a2, a3, N, r, hr, hx⟩
  · rcases h' with ⟨b1, b2⟩ | ⟨b1, _⟩ | ⟨b1, _⟩
    · exact ⟨by rw [a2, b2], fun e => absurd (a2 ▸ e) a1⟩
    · exact absurd b1 a1
    · exact absurd b1 a1
  · rcases h' with ⟨b1, b2⟩ | ⟨b1, b2, b3⟩ | ⟨b1, b2, _⟩
    · exact absurd a1 b1
    · exact ⟨by rw [a3, b3], fun e => by omega⟩
    · exact absurd b2 a2
  · rcases h' with ⟨b1, b2⟩ | ⟨b1, b2, b3⟩ | ⟨b1, b2, X, hX, hx⟩
    · exact absurd a1 b1
    · exact absurd a2 b2
    · rcases hX with ⟨c1, c2⟩ | ⟨c1, c2, c3⟩ | ⟨c1, c2, c3, c4⟩ | ⟨c1, c2, c3, R, q, hb, _⟩
      · exact absurd a1 c1
      · exact absurd b2.1 c2
      · exact ⟨by rw [a4, c4], fun e => by omega⟩
      · exact absurd (Fd.free_aug.1 (hb.free (by omega))) a3
  · rcases h' with ⟨b1, b2⟩ | ⟨b1, b2, b3⟩ | ⟨b1, b2, X, hX, hxx⟩
    · exact absurd a1 b1
    · exact absurd a2 b2
    · rcases hX with ⟨c1, c2⟩ | ⟨c1, c2, c3⟩ | ⟨c1, c2, c3, c4⟩ | ⟨c1, c2, c3, R, q, hb, hy⟩
      · exact absurd a1 c1
      · exact absurd b2.1 c2
      · exact absurd (Fd.free_bsd.1 ((hr.full_iff (by omega)).1 rfl)) c3
      · refine ⟨by rw [a3, c3], fun _ i hi => ?_⟩
        obtain ⟨t, ht, hqt, hxt⟩ := hy i hi
        rw [hx, hxx c3 i hi, Fd.solve_gen hi (c := fun u => R t (n + u)) (by rw [← hqt]; exact Fd.bs_row hb ht) hr]
        exact F.s_congr fun u hu => by rw [hxt u hu]
theorem SolP.small {α : Type} {F : Fd α} {n m : Nat} {L : Nat → Nat} {G : Nat → Nat → α} {v : Nat → α} {er : Int} {x : Nat → α} (h : SolP F n L m G v er x) : (if er = 0 then n else 0) ≤ 255 := by
  by_cases e : er = 0
  · rw [if_pos e]
    rcases h with ⟨a1, a2⟩ | ⟨a1, _⟩ | ⟨a1, _⟩ | ⟨a1, _⟩
    · exact absurd (a2 ▸ e) a1
    · exact (faultE_ok a1).1
    · exact (faultE_ok a1).1
    · exact (faultE_ok a1).1
  · rw [if_neg e]; omega
end Go.Proofs.Ytpocjpodeahanaa
