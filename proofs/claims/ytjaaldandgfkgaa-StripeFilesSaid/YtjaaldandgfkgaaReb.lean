/- Lagrange's weights, in plain: products, the program's form and the document's. Conditions: none. -/
import Derived.Test.YtjaaldandgfkgaaInvP
namespace Go.Proofs.Ytjaaldandgfkgaa
namespace Fd
variable {α : Type} (F : Fd α)
/-- The product of the first n. -/
def pd : Nat → (Nat → α) → α
  | 0, _ => F.u
  | n + 1, f => F.m (pd n f) (f n)
/-- The product of the first n but one, times a. -/
def skp (a : α) (j : Nat) : Nat → (Nat → α) → α
  | 0, _ => a
  | n + 1, f => if n = j then skp a j n f else F.m (skp a j n f) (f n)
variable {F}
theorem pd_congr {n : Nat} {f g : Nat → α} (h : ∀ i, i < n → f i = g i) : F.pd n f = F.pd n g := by
  induction n with
  | zero => rfl
  | succ n ih => unfold pd; rw [ih fun i hi => h i (by omega), h n (by omega)]
theorem skp_congr {a : α} {j n : Nat} {f g : Nat → α} (h : ∀ i, i < n → i ≠ j → f i = g i) : F.skp a j n f = F.skp a j n g := by
  induction n with
  | zero => rfl
  | succ n ih =>
    unfold skp
    rw [ih fun i hi => h i (by omega)]
    by_cases e : n = j
    · rw [if_pos e, if_pos e]
    · rw [if_neg e, if_neg e, h n (by omega) e]
theorem skp_a (a : α) (j n : Nat) (f : Nat → α) : F.skp a j n f = F.m a (F.skp F.u j n f) := by
  induction n with
  | zero => exact (F.m_u a).symm
  | succ n ih =>
    unfold skp
    by_cases e : n = j
    · rw [if_pos e, if_pos e, ih]
    · rw [if_neg e, if_neg e, ih, F.m_assoc]
theorem skp_pd {a : α} {j : Nat} {n : Nat} (f : Nat → α) (h : n ≤ j) : F.skp a j n f = F.m a (F.pd n f) := by
  induction n with
  | zero => exact (F.m_u a).symm
  | succ n ih => unfold skp pd; rw [if_neg (by omega), ih (by omega), F.m_assoc]
theorem pd_out {j n : Nat} (hj : j < n) (f : Nat → α) : F.pd n f = F.m (f j) (F.skp F.u j n f) := by
  induction n with
  | zero => omega
  | succ n ih =>
    unfold pd skp
    by_cases e : n = j
    · subst e
      rw [if_pos rfl, skp_pd f (Nat.le_refl _), F.u_m, F.m_comm]
    · rw [if_neg e, ih (by omega), F.m_assoc]
theorem v_m (x y : α) : F.v (F.m x y) = F.m (F.v x) (F.v y) := by
  by_cases hx : x = F.z
  · subst hx; rw [F.z_m, F.v_z, F.z_m]
  · by_cases hy : y = F.z
    · subst hy; rw [F.m_z, F.v_z, F.m_z]
    · refine (F.v_uniq ?_).symm
      rw [F.m_assoc, F.m_left y, ← F.m_assoc, F.m_v x hx, F.u_m, F.m_v y hy]
variable (F)
/-- The program's weight. -/
def wP (q : Nat → α) (k : Nat) (x : α) (j : Nat) : α := F.m (F.pd k fun i => F.a x (q i)) (F.v (F.skp (F.a x (q j)) j k fun i => F.a (q i) (q j)))
/-- The document's weight. -/
def wD (q : Nat → α) (k : Nat) (x : α) (j : Nat) : α := F.m (F.skp F.u j k fun i => F.a x (q i)) (F.v (F.skp F.u j k fun i => F.a (q j) (q i)))
/-- What the document's Shares says. -/
def ShP (q : Nat → α) (k : Nat) (x : α) (o : Nat → α) : Prop :=
  (∃ i0, i0 < k ∧ q i0 = x ∧ (∀ i, i < i0 → q i ≠ x) ∧ ∀ j, j < k → o j = if j = i0 then F.u else F.z) ∨ ((∀ i, i < k → q i ≠ x) ∧ ∀ j, j < k → o j = F.wD q k x j)
variable {F}
theorem wP_wD {q : Nat → α} {k j : Nat} {x : α} (hj : j < k) (h : q j ≠ x) : F.wP q k x j = F.wD q k x j := by
  unfold wP wD
  have hd : F.a x (q j) ≠ F.z := fun e => h (F.eq_of_a e).symm
  rw [pd_out hj, skp_a (F.a x (q j)), v_m, skp_congr (f := fun i => F.a (q i) (q j)) (g := fun i => F.a (q j) (q i)) fun i _ _ => F.a_comm _ _]
  rw [F.m_assoc, F.m_left (F.skp F.u j k fun i => F.a x (q i)), ← F.m_assoc, F.m_v _ hd, F.u_m]
/-- The code's matrix. -/
def cM (F : Fd α) (q : Nat → α) (k i j : Nat) : α := if i < k then F.idm i j else F.wP q k (q i) j
theorem shP_cM {q : Nat → α} {k i : Nat} {o : Nat → α} (hq : ∀ a b, a < b → b < max k (i + 1) → q a ≠ q b) (h : F.ShP q k (q i) o) : ∀ j, j < k → o j = F.cM q k i j := by
  intro j hj
  unfold cM
  rcases h with ⟨i0, h0, h1, h2, h3⟩ | ⟨h1, h2⟩
  · have hi : i0 = i := by
      rcases Nat.lt_trichotomy i0 i with hl | hl | hl
      · exact absurd h1 (hq i0 i hl (by omega))
      · exact hl
      · exact absurd h1.symm (hq i i0 hl (by omega))
    subst hi
    rw [if_pos h0, h3 j hj]
    unfold idm
    by_cases e : j = i0
    · rw [if_pos e, if_pos e.symm]
    · rw [if_neg e, if_neg (fun e' => e e'.symm)]
  · have hi : ¬ i < k := fun hi => h1 i hi rfl
    rw [if_neg hi, h2 j hj, wP_wD hj (h1 j hj)]
end Fd
/-- A number as an element. -/
def el (n : Nat) : Fin 256 := ⟨n % 256, by omega⟩
theorem el_val {n : Nat} (h : n < 256) : (el n).val = n := Nat.mod_eq_of_lt h
theorem el_ne {a b : Nat} (h : a < b) (hb : b < 256) : el a ≠ el b := fun e => by
  have := congrArg Fin.val e
  rw [el_val (by omega), el_val hb] at this
  omega
end Go.Proofs.Ytjaaldandgfkgaa

/- Powers of unlike points; the code's rows at any unlike points are free. Plain. Conditions: none. -/
namespace Go.Proofs.Ytjaaldandgfkgaa
namespace Fd
variable {α : Type} {F : Fd α}
theorem pd_ne {n : Nat} {f : Nat → α} (h : ∀ i, i < n → f i ≠ F.z) : F.pd n f ≠ F.z := by
  induction n with
  | zero => exact F.u_z
  | succ n ih => exact F.m_ne (ih fun i hi => h i (by omega)) (h n (by omega))
theorem skp_ne {a : α} {j n : Nat} {f : Nat → α} (ha : a ≠ F.z) (h : ∀ i, i < n → i ≠ j → f i ≠ F.z) : F.skp a j n f ≠ F.z := by
  induction n with
  | zero => exact ha
  | succ n ih =>
    unfold skp
    by_cases e : n = j
    · rw [if_pos e]; exact ih fun i hi => h i (by omega)
    · rw [if_neg e]; exact F.m_ne (ih fun i hi => h i (by omega)) (h n (by omega) e)
theorem skp_hit {a : α} {j n t : Nat} {f : Nat → α} (ht : t < n) (hj : t ≠ j) (h : f t = F.z) : F.skp a j n f = F.z := by
  induction n with
  | zero => omega
  | succ n ih =>
    unfold skp
    by_cases e : n = j
    · rw [if_pos e]; exact ih (by omega)
    · rw [if_neg e]
      by_cases e2 : t = n
      · subst e2; rw [h, F.m_z]
      · rw [ih (by omega), F.z_m]
variable (F)
/-- x to the n-th. -/
def pow (x : α) : Nat → α
  | 0 => F.u
  | n + 1 => F.m (pow x n) x
/-- Sums with these numbers are zero for every power below k. -/
def Kills (N k : Nat) (d x : Nat → α) : Prop := ∀ e, e < k → F.s N (fun t => F.m (d t) (F.pow (x t) e)) = F.z
variable {F}
/-- What kills the powers kills the products of few factors (one may be left out). -/
theorem Kills.skp {N k : Nat} {d x : Nat → α} (h : F.Kills N k d x) (r : Nat → α) (j : Nat) : ∀ n e, e + (if j < n then n - 1 else n) < k → F.s N (fun t => F.m (d t) (F.m (F.pow (x t) e) (F.skp F.u j n fun i => F.a (x t) (r i)))) = F.z
  | 0, e, he => by
    have h1 := h e (by simpa using he)
    rw [← h1]
    exact F.s_congr fun t _ => by show F.m (d t) (F.m _ F.u) = _; rw [F.m_u]
  | n + 1, e, he => by
    by_cases hj : n = j
    · have h1 := Kills.skp h r j n e (by rw [if_neg (by omega)]; rw [if_pos (by omega)] at he; omega)
      rw [← h1]
      exact F.s_congr fun t _ => by show F.m (d t) (F.m _ (if n = j then _ else _)) = _; rw [if_pos hj]
    · have h1 := Kills.skp h r j n (e + 1) (by split at he <;> split <;> omega)
      have h2 := Kills.skp h r j n e (by split at he <;> split <;> omega)
      have h3 : F.s N (fun t => F.m (d t) (F.m (F.pow (x t) e) (F.skp F.u j (n + 1) fun i => F.a (x t) (r i)))) =
          F.a (F.s N (fun t => F.m (d t) (F.m (F.pow (x t) (e + 1)) (F.skp F.u j n fun i => F.a (x t) (r i))))) (F.m (r n) (F.s N (fun t => F.m (d t) (F.m (F.pow (x t) e) (F.skp F.u j n fun i => F.a (x t) (r i)))))) := by
        rw [F.s_m, ← F.s_a]
        refine F.s_congr fun t _ => ?_
        show F.m (d t) (F.m (F.pow (x t) e) (if n = j then _ else F.m (F.skp F.u j n fun i => F.a (x t) (r i)) (F.a (x t) (r n)))) = F.a (F.m (d t) (F.m (F.m (F.pow (x t) e) (x t)) _)) _
        rw [if_neg hj]
        generalize F.skp F.u j n (fun i => F.a (x t) (r i)) = S
        generalize F.pow (x t) e = P
        rw [F.dist, F.dist, F.dist, F.m_assoc P (x t) S, F.m_comm (x t) S, F.m_left (r n) (d t), F.m_left (r n) P, F.m_comm (r n) S]
      rw [h3, h1, h2, F.m_z, F.a_z]
/-- Unlike points: nothing but zeros kills as many powers as there are points. -/
theorem Kills.zero {k : Nat} {d x : Nat → α} (h : F.Kills k k d x) (hx : ∀ i j, i < k → j < k → x i = x j → i = j) : ∀ t, t < k → d t = F.z := fun t ht => by
  have h1 := h.skp x t k 0 (by rw [if_pos ht]; omega)
  rw [F.s_one ht] at h1
  · rcases F.m_eq_z h1 with h2 | h2
    · exact h2
    · exfalso
      have h3 : F.m (F.pow (x t) 0) (F.skp F.u t k fun i => F.a (x t) (x i)) ≠ F.z := F.m_ne F.u_z (skp_ne F.u_z fun i hi hne e => hne (hx t i ht hi (F.eq_of_a e)).symm)
      exact h3 h2
  · intro i hi hne
    rw [skp_hit (t := i) hi hne (F.a_self _), F.m_z, F.m_z]
/-- The weights give every power below k. -/
theorem wD_pow {k : Nat} {q : Nat → α} {x : α} (hq : ∀ i j, i < k → j < k → q i = q j → i = j) : ∀ e, e < k → F.s k (fun j => F.m (F.wD q k x j) (F.pow (q j) e)) = F.pow x e := by
  -- k + 1 rows over k places are bound
  let y : Nat → α := fun t => if t = k then x else q t
  obtain ⟨d, ⟨t0, ht0, hne⟩, hd⟩ := F.bound k (k + 1) (fun t e => F.pow (y t) e) (Nat.lt_succ_self k)
  have hK : F.Kills (k + 1) k d y := fun e he => hd e he
  have hyk : y k = x := if_pos rfl
  have hyq : ∀ t, t < k → y t = q t := fun t ht => if_neg (by omega)
  have hdk : d k ≠ F.z := fun hz => by
    have h2 : F.Kills k k d q := fun e he => by
      have h3 := hK e he
      rw [F.s_succ, hz, F.z_m, F.a_z] at h3
      rw [← h3]
      exact F.s_congr fun t ht => by rw [hyq t ht]
    have h4 := h2.zero hq
    rcases Nat.lt_or_ge t0 k with h5 | h5
    · exact hne (h4 t0 h5)
    · exact hne (by rw [show t0 = k by omega]; exact hz)
  have hw : ∀ j, j < k → F.m (d k) (F.wD q k x j) = d j := fun j hj => by
    have h1 := hK.skp q j k 0 (by rw [if_pos hj]; omega)
    rw [F.s_succ, F.s_one hj] at h1
    · rw [hyk, hyq j hj] at h1
      have h2 := F.eq_of_a h1
      have hd0 : F.skp F.u j k (fun i => F.a (q j) (q i)) ≠ F.z := skp_ne F.u_z fun i hi hne e => hne (hq j i hj hi (F.eq_of_a e)).symm
      have h3 : F.m (d j) (F.skp F.u j k fun i => F.a (q j) (q i)) = F.m (d k) (F.skp F.u j k fun i => F.a x (q i)) := by
        have e1 : ∀ y : α, F.m (F.pow y 0) (F.skp F.u j k fun i => F.a y (q i)) = F.skp F.u j k fun i => F.a y (q i) := fun y => F.u_m _
        rw [e1, e1] at h2
        exact h2
      unfold wD
      rw [← F.m_assoc, ← h3, F.m_assoc, F.m_v _ hd0, F.m_u]
    · intro i hi hne
      rw [hyq i hi, skp_hit (t := i) hi hne (F.a_self _), F.m_z, F.m_z]
  intro e he
  have h1 := hK e he
  rw [F.s_succ, hyk] at h1
  have h2 := F.eq_of_a h1
  refine F.m_can hdk ?_
  rw [← h2, F.s_m]
  exact F.s_congr fun j hj => by rw [hyq j hj, ← F.m_assoc, hw j hj]
/-- The code's rows give the powers at their points. -/
theorem cM_pow {k : Nat} {q : Nat → α} {i : Nat} (hq : ∀ a b, a < max k (i + 1) → b < max k (i + 1) → q a = q b → a = b) : ∀ e, e < k → F.s k (fun j => F.m (F.cM q k i j) (F.pow (q j) e)) = F.pow (q i) e := fun e he => by
  by_cases hi : i < k
  · rw [F.s_one hi]
    · show F.m (if i < k then F.idm i i else _) _ = _
      rw [if_pos hi]; unfold idm; rw [if_pos rfl, F.u_m]
    · intro j hj hne
      show F.m (if i < k then F.idm i j else _) _ = _
      rw [if_pos hi]; unfold idm; rw [if_neg (fun e => hne e.symm), F.z_m]
  · have hx : ∀ j, j < k → q j ≠ q i := fun j hj e => by have := hq j i (by omega) (by omega) e; omega
    rw [← wD_pow (F := F) (q := q) (x := q i) (fun a b ha hb => hq a b (by omega) (by omega)) e he]
    exact F.s_congr fun j hj => by
      show F.m (if i < k then _ else F.wP q k (q i) j) _ = _
      rw [if_neg hi, wP_wD hj (hx j hj)]
/-- Any k rows of the code are free. -/
theorem cM_free {k n : Nat} {q : Nat → α} {at' : Nat → Nat} (hk : k ≤ n) (hq : ∀ a b, a < n → b < n → q a = q b → a = b) (ha : ∀ t, t < k → at' t < n) (hinj : ∀ s t, s < k → t < k → at' s = at' t → s = t) : F.Free k k (fun t => F.cM q k (at' t)) := fun c hc => by
  have hK : F.Kills k k c (fun t => q (at' t)) := fun e he => by
    have h1 : F.s k (fun t => F.m (c t) (F.pow (q (at' t)) e)) = F.s k fun t => F.s k fun j => F.m (F.m (c t) (F.cM q k (at' t) j)) (F.pow (q j) e) := F.s_congr fun t ht => by
      rw [← cM_pow (F := F) (k := k) (q := q) (i := at' t) (fun a b h1 h2 => hq a b (by have := ha t ht; omega) (by have := ha t ht; omega)) e he, F.s_m]
      exact F.s_congr fun j _ => (F.m_assoc _ _ _).symm
    rw [h1, F.s_swap, F.s_zero]
    intro j hj
    rw [← F.s_m', hc j hj, F.z_m]
  exact hK.zero fun s t hs ht e => hinj s t hs ht (hq _ _ (ha s hs) (ha t ht) e)
end Fd
theorem el_inj {a b : Nat} (ha : a < 256) (hb : b < 256) (h : el a = el b) : a = b := by
  have := congrArg Fin.val h
  rwa [el_val ha, el_val hb] at this
end Go.Proofs.Ytjaaldandgfkgaa

/- Rebuilding, in plain: the inverse of k rows of the code gives the document's shares at their places. Conditions: none. -/
namespace Go.Proofs.Ytjaaldandgfkgaa
namespace Fd
variable {α : Type} {F : Fd α}
/-- The shares give every power below k. -/
theorem shP_pow {k : Nat} {q : Nat → α} {x : α} {o : Nat → α} (hq : ∀ i j, i < k → j < k → q i = q j → i = j) (h : F.ShP q k x o) : ∀ e, e < k → F.s k (fun j => F.m (o j) (F.pow (q j) e)) = F.pow x e := fun e he => by
  rcases h with ⟨i0, h0, h1, _, h3⟩ | ⟨_, h2⟩
  · rw [F.s_one h0]
    · rw [h3 i0 h0, if_pos rfl, F.u_m, h1]
    · intro i hi hne
      rw [h3 i hi, if_neg hne, F.z_m]
  · rw [← wD_pow (F := F) (q := q) (x := x) hq e he]
    exact F.s_congr fun j hj => by rw [h2 j hj]
/-- A row of the code is the shares' sum of the rows at the points. -/
theorem shares_rows {k n i : Nat} {q : Nat → α} {at' : Nat → Nat} {o : Nat → α} (hk : k ≤ n) (hi : i < n) (hq : ∀ a b, a < n → b < n → q a = q b → a = b) (ha : ∀ t, t < k → at' t < n) (hinj : ∀ s t, s < k → t < k → at' s = at' t → s = t)
    (ho : F.ShP (fun t => q (at' t)) k (q i) o) : ∀ j, j < k → F.s k (fun t => F.m (o t) (F.cM q k (at' t) j)) = F.cM q k i j := by
  have hp : ∀ x, x < n → ∀ e, e < k → F.s k (fun j => F.m (F.cM q k x j) (F.pow (q j) e)) = F.pow (q x) e := fun x hx => cM_pow fun a b h1 h2 => hq a b (by omega) (by omega)
  have hs := shP_pow (F := F) (k := k) (q := fun t => q (at' t)) (x := q i) (fun s t hs ht e => hinj s t hs ht (hq _ _ (ha s hs) (ha t ht) e)) ho
  have hK : F.Kills k k (fun j => F.a (F.s k fun t => F.m (o t) (F.cM q k (at' t) j)) (F.cM q k i j)) q := fun e he => by
    have h1 : F.s k (fun j => F.m (F.a (F.s k fun t => F.m (o t) (F.cM q k (at' t) j)) (F.cM q k i j)) (F.pow (q j) e)) = F.a (F.s k fun j => F.s k fun t => F.m (o t) (F.m (F.cM q k (at' t) j) (F.pow (q j) e))) (F.s k fun j => F.m (F.cM q k i j) (F.pow (q j) e)) := by
      rw [← F.s_a]
      refine F.s_congr fun j _ => ?_
      rw [F.dist', F.s_m']
      congr 1
      exact F.s_congr fun t _ => F.m_assoc _ _ _
    rw [h1, F.s_swap, hp i hi e he]
    have h2 : (F.s k fun t => F.s k fun j => F.m (o t) (F.m (F.cM q k (at' t) j) (F.pow (q j) e))) = F.pow (q i) e := by
      rw [← hs e he]
      exact F.s_congr fun t ht => by rw [← F.s_m, hp (at' t) (ha t ht) e he]
    rw [h2, F.a_self]
  have h0 := hK.zero fun a b h1 h2 => hq a b (by omega) (by omega)
  intro j hj
  exact F.eq_of_a (h0 j hj)
/-- What the inverse makes of a row of the code is the shares. -/
theorem shares_inv {k n i : Nat} {q : Nat → α} {at' : Nat → Nat} {o : Nat → α} {X : Nat → Nat → α} (hk : k ≤ n) (hi : i < n) (hq : ∀ a b, a < n → b < n → q a = q b → a = b) (ha : ∀ t, t < k → at' t < n) (hinj : ∀ s t, s < k → t < k → at' s = at' t → s = t)
    (ho : F.ShP (fun t => q (at' t)) k (q i) o) (hX : ∀ s t, s < k → t < k → F.s k (fun j => F.m (F.cM q k (at' s) j) (X j t)) = F.idm s t) : ∀ t, t < k → F.s k (fun j => F.m (F.cM q k i j) (X j t)) = o t := fun t ht => by
  have h1 : F.s k (fun j => F.m (F.cM q k i j) (X j t)) = F.s k fun j => F.s k fun s => F.m (o s) (F.m (F.cM q k (at' s) j) (X j t)) := F.s_congr fun j hj => by
    rw [← shares_rows hk hi hq ha hinj ho j hj, F.s_m']
    exact F.s_congr fun s _ => F.m_assoc _ _ _
  rw [h1, F.s_swap]
  have h2 : (F.s k fun s => F.s k fun j => F.m (o s) (F.m (F.cM q k (at' s) j) (X j t))) = F.s k fun s => F.m (o s) (F.idm s t) := F.s_congr fun s hs => by rw [← F.s_m, hX s t hs ht]
  rw [h2, F.s_one ht]
  · unfold idm; rw [if_pos rfl, F.m_u]
  · intro s _ hne
    unfold idm; rw [if_neg hne, F.m_z]
end Fd
end Go.Proofs.Ytjaaldandgfkgaa
