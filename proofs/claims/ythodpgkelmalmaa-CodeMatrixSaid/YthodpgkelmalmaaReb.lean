/- Rebuilding, in plain: the inverse of k rows of the code gives the document's shares at their places. Conditions: none. -/
import Derived.Test.YthodpgkelmalmaaVan
namespace Go.Proofs.Ythodpgkelmalmaa
namespace Fd
variable {α : Type} {F : Fd α}
/-- The shares give every power below k. -/
theorem shP_pow {k : Nat} {q : Nat → α} {x : α} {o : Nat → α} (hq : ∀ i j, i < k → j < k → q i = q j → i = j) (h : F.ShP q k x o) : ∀ e, e < k → F.s k (fun j => F.m (o j) (F.pow (q j) e)) = F.pow x e := fun e he => by
  rcases h with ⟨i0, h0, h1, _, h3⟩ | ⟨_, h2⟩
  · rw [F.s_one h0]
    · rw [h3 i0 h0, if_pos rfl, F.u_m, h1]
    · intro i hi hne
      rw [h3 i hi, if_neg hne, F.z_m]
  · rw [← wD_pow (F := F) (q := q) (x := x) hq e he]
    exact F.s_congr fun j hj => by rw [h2 j hj]
/-- A row of the code is the shares' sum of the rows at the points. -/
theorem shares_rows {k n i : Nat} {q : Nat → α} {at' : Nat → Nat} {o : Nat → α} (hk : k ≤ n) (hi : i < n) (hq : ∀ a b, a < n → b < n → q a = q b → a = b) (ha : ∀ t, t < k → at' t < n) (hinj : ∀ s t, s < k → t < k → at' s = at' t → s = t)
    (ho : F.ShP (fun t => q (at' t)) k (q i) o) : ∀ j, j < k → F.s k (fun t => F.m (o t) (F.cM q k (at' t) j)) = F.cM q k i j := by
  have hp : ∀ x, x < n → ∀ e, e < k → F.s k (fun j => F.m (F.cM q k x j) (F.pow (q j) e)) = F.pow (q x) e := fun x hx => cM_pow fun a b h1 h2 => hq a b (by omega) (by omega)
  have hs := shP_pow (F := F) (k := k) (q := fun t => q (at' t)) (x := q i) (fun s t hs ht e => hinj s t hs ht (hq _ _ (ha s hs) (ha t ht) e)) ho
  have hK : F.Kills k k (fun j => F.a (F.s k fun t => F.m (o t) (F.cM q k (at' t) j)) (F.cM q k i j)) q := fun e he => by
    have h1 : F.s k (fun j => F.m (F.a (F.s k fun t => F.m (o t) (F.cM q k (at' t) j)) (F.cM q k i j)) (F.pow (q j) e)) = F.a (F.s k fun j => F.s k fun t => F.m (o t) (F.m (F.cM q k (at' t) j) (F.pow (q j) e))) (F.s k fun j => F.m (F.cM q k i j) (F.pow (q j) e)) := by
      rw [← F.s_a]
      refine F.s_congr fun j _ => ?_
      rw [F.dist', F.s_m']
      congr 1
      exact F.s_congr fun t _ => F.m_assoc _ _ _
    rw [h1, F.s_swap, hp i hi e he]
    have h2 : (F.s k fun t => F.s k fun j => F.m (o t) (F.m (F.cM q k (at' t) j) (F.pow (q j) e))) = F.pow (q i) e := by
      rw [← hs e he]
      exact F.s_congr fun t ht => by rw [← F.s_m, hp (at' t) (ha t ht) e he]
    rw [h2, F.a_self]
  have h0 := hK.zero fun a b h1 h2 => hq a b (by omega) (by omega)
  intro j hj
  exact F.eq_of_a (h0 j hj)
/-- What the inverse makes of a row of the code is the shares. -/
theorem shares_inv {k n i : Nat} {q : Nat → α} {at' : Nat → Nat} {o : Nat → α} {X : Nat → Nat → α} (hk : k ≤ n) (hi : i < n) (hq : ∀ a b, a < n → b < n → q a = q b → a = b) (ha : ∀ t, t < k → at' t < n) (hinj : ∀ s t, s < k → t < k → at' s = at' t → s = t)
    (ho : F.ShP (fun t => q (at' t)) k (q i) o) (hX : ∀ s t, s < k → t < k → F.s k (fun j => F.m (F.cM q k (at' s) j) (X j t)) = F.idm s t) : ∀ t, t < k → F.s k (fun j => F.m (F.cM q k i j) (X j t)) = o t := fun t ht => by
  have h1 : F.s k (fun j => F.m (F.cM q k i j) (X j t)) = F.s k fun j => F.s k fun s => F.m (o s) (F.m (F.cM q k (at' s) j) (X j t)) := F.s_congr fun j hj => by
    rw [← shares_rows hk hi hq ha hinj ho j hj, F.s_m']
    exact F.s_congr fun s _ => F.m_assoc _ _ _
  rw [h1, F.s_swap]
  have h2 : (F.s k fun s => F.s k fun j => F.m (o s) (F.m (F.cM q k (at' s) j) (X j t))) = F.s k fun s => F.m (o s) (F.idm s t) := F.s_congr fun s hs => by rw [← F.s_m, hX s t hs ht]
  rw [h2, F.s_one ht]
  · unfold idm; rw [if_pos rfl, F.m_u]
  · intro s _ hne
    unfold idm; rw [if_neg hne, F.m_z]
end Fd
end Go.Proofs.Ythodpgkelmalmaa
