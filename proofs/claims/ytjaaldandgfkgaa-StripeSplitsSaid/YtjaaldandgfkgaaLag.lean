/- Lagrange's weights, in plain: products, the program's form and the document's. Conditions: none. -/
import Derived.Test.YtjaaldandgfkgaaInvP
namespace Go.Proofs.Ytjaaldandgfkgaa
namespace Fd
variable {α : Type} (F : Fd α)
/-- The product of the first n. -/
def pd : Nat → (Nat → α) → α
  | 0, _ => F.u
  | n + 1, f => F.m (pd n f) (f n)
/-- The product of the first n but one, times a. -/
def skp (a : α) (j : Nat) : Nat → (Nat → α) → α
  | 0, _ => a
  | n + 1, f => if n = j then skp a j n f else F.m (skp a j n f) (f n)
variable {F}
theorem pd_congr {n : Nat} {f g : Nat → α} (h : ∀ i, i < n → f i = g i) : F.pd n f = F.pd n g := by
  induction n with
  | zero => rfl
  | succ n ih => unfold pd; rw [ih fun i hi => h i (by omega), h n (by omega)]
theorem skp_congr {a : α} {j n : Nat} {f g : Nat → α} (h : ∀ i, i < n → i ≠ j → f i = g i) : F.skp a j n f = F.skp a j n g := by
  induction n with
  | zero => rfl
  | succ n ih =>
    unfold skp
    rw [ih fun i hi => h i (by omega)]
    by_cases e : n = j
    · rw [if_pos e, if_pos e]
    · rw [if_neg e, if_neg e, h n (by omega) e]
theorem skp_a (a : α) (j n : Nat) (f : Nat → α) : F.skp a j n f = F.m a (F.skp F.u j n f) := by
  induction n with
  | zero => exact (F.m_u a).symm
  | succ n ih =>
    unfold skp
    by_cases e : n = j
    · rw [if_pos e, if_pos e, ih]
    · rw [if_neg e, if_neg e, ih, F.m_assoc]
theorem skp_pd {a : α} {j : Nat} {n : Nat} (f : Nat → α) (h : n ≤ j) : F.skp a j n f = F.m a (F.pd n f) := by
  induction n with
  | zero => exact (F.m_u a).symm
  | succ n ih => unfold skp pd; rw [if_neg (by omega), ih (by omega), F.m_assoc]
theorem pd_out {j n : Nat} (hj : j < n) (f : Nat → α) : F.pd n f = F.m (f j) (F.skp F.u j n f) := by
  induction n with
  | zero => omega
  | succ n ih =>
    unfold pd skp
    by_cases e : n = j
    · subst e
      rw [if_pos rfl, skp_pd f (Nat.le_refl _), F.u_m, F.m_comm]
    · rw [if_neg e, ih (by omega), F.m_assoc]
theorem v_m (x y : α) : F.v (F.m x y) = F.m (F.v x) (F.v y) := by
  by_cases hx : x = F.z
  · subst hx; rw [F.z_m, F.v_z, F.z_m]
  · by_cases hy : y = F.z
    · subst hy; rw [F.m_z, F.v_z, F.m_z]
    · refine (F.v_uniq ?_).symm
      rw [F.m_assoc, F.m_left y, ← F.m_assoc, F.m_v x hx, F.u_m, F.m_v y hy]
variable (F)
/-- The program's weight. -/
def wP (q : Nat → α) (k : Nat) (x : α) (j : Nat) : α := F.m (F.pd k fun i => F.a x (q i)) (F.v (F.skp (F.a x (q j)) j k fun i => F.a (q i) (q j)))
/-- The document's weight. -/
def wD (q : Nat → α) (k : Nat) (x : α) (j : Nat) : α := F.m (F.skp F.u j k fun i => F.a x (q i)) (F.v (F.skp F.u j k fun i => F.a (q j) (q i)))
/-- What the document's Shares says. -/
def ShP (q : Nat → α) (k : Nat) (x : α) (o : Nat → α) : Prop :=
  (∃ i0, i0 < k ∧ q i0 = x ∧ (∀ i, i < i0 → q i ≠ x) ∧ ∀ j, j < k → o j = if j = i0 then F.u else F.z) ∨ ((∀ i, i < k → q i ≠ x) ∧ ∀ j, j < k → o j = F.wD q k x j)
variable {F}
theorem wP_wD {q : Nat → α} {k j : Nat} {x : α} (hj : j < k) (h : q j ≠ x) : F.wP q k x j = F.wD q k x j := by
  unfold wP wD
  have hd : F.a x (q j) ≠ F.z := fun e => h (F.eq_of_a e).symm
  rw [pd_out hj, skp_a (F.a x (q j)), v_m, skp_congr (f := fun i => F.a (q i) (q j)) (g := fun i => F.a (q j) (q i)) fun i _ _ => F.a_comm _ _]
  rw [F.m_assoc, F.m_left (F.skp F.u j k fun i => F.a x (q i)), ← F.m_assoc, F.m_v _ hd, F.u_m]
/-- The code's matrix. -/
def cM (F : Fd α) (q : Nat → α) (k i j : Nat) : α := if i < k then F.idm i j else F.wP q k (q i) j
theorem shP_cM {q : Nat → α} {k i : Nat} {o : Nat → α} (hq : ∀ a b, a < b → b < max k (i + 1) → q a ≠ q b) (h : F.ShP q k (q i) o) : ∀ j, j < k → o j = F.cM q k i j := by
  intro j hj
  unfold cM
  rcases h with ⟨i0, h0, h1, h2, h3⟩ | ⟨h1, h2⟩
  · have hi : i0 = i := by
      rcases Nat.lt_trichotomy i0 i with hl | hl | hl
      · exact absurd h1 (hq i0 i hl (by omega))
      · exact hl
      · exact absurd h1.symm (hq i i0 hl (by omega))
    subst hi
    rw [if_pos h0, h3 j hj]
    unfold idm
    by_cases e : j = i0
    · rw [if_pos e, if_pos e.symm]
    · rw [if_neg e, if_neg (fun e' => e e'.symm)]
  · have hi : ¬ i < k := fun hi => h1 i hi rfl
    rw [if_neg hi, h2 j hj, wP_wD hj (h1 j hj)]
end Fd
/-- A number as an element. -/
def el (n : Nat) : Fin 256 := ⟨n % 256, by omega⟩
theorem el_val {n : Nat} (h : n < 256) : (el n).val = n := Nat.mod_eq_of_lt h
theorem el_ne {a b : Nat} (h : a < b) (hb : b < 256) : el a ≠ el b := fun e => by
  have := congrArg Fin.val e
  rw [el_val (by omega), el_val hb] at this
  omega
end Go.Proofs.Ytjaaldandgfkgaa
