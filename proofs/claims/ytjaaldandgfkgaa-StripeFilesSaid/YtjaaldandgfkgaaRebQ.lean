/- Rebuilding, in plain: which rows stand, what the word is. Conditions: none. -/
import Derived.Test.YtjaaldandgfkgaaReb
import Derived.Test.YtjaaldandgfkgaaRowsE
import Derived.Test.YtjaaldandgfkgaaREnp
namespace Go.Proofs.Ytjaaldandgfkgaa
/-- The places of the rows that are not empty. -/
def pkL (L : Nat → Nat) : Nat → List Nat
  | 0 => []
  | n + 1 => if 0 < L n then pkL L n ++ [n] else pkL L n
def pkN (L : Nat → Nat) (n : Nat) : Nat := (pkL L n).length
def pkA (L : Nat → Nat) (n t : Nat) : Nat := (pkL L n).getD t 0
theorem pkN_yes {L : Nat → Nat} {n : Nat} (h : 0 < L n) : pkN L (n + 1) = pkN L n + 1 := by
  unfold pkN; show (if 0 < L n then pkL L n ++ [n] else pkL L n).length = _; rw [if_pos h, List.length_append]; rfl
theorem pkN_no {L : Nat → Nat} {n : Nat} (h : ¬ 0 < L n) : pkN L (n + 1) = pkN L n := by
  unfold pkN; show (if 0 < L n then pkL L n ++ [n] else pkL L n).length = _; rw [if_neg h]
theorem pkA_no {L : Nat → Nat} {n t : Nat} (h : ¬ 0 < L n) : pkA L (n + 1) t = pkA L n t := by
  unfold pkA; show (if 0 < L n then pkL L n ++ [n] else pkL L n).getD t 0 = _; rw [if_neg h]
theorem pkA_lo {L : Nat → Nat} {n t : Nat} (ht : t < pkN L n) : pkA L (n + 1) t = pkA L n t := by
  by_cases h : 0 < L n
  · unfold pkA; show (if 0 < L n then pkL L n ++ [n] else pkL L n).getD t 0 = _; rw [if_pos h]
    unfold pkN at ht
    simp [List.getD, List.getElem?_append_left ht]
  · exact pkA_no h
theorem pkA_hi {L : Nat → Nat} {n : Nat} (h : 0 < L n) : pkA L (n + 1) (pkN L n) = n := by
  unfold pkA pkN; show (if 0 < L n then pkL L n ++ [n] else pkL L n).getD _ 0 = _; rw [if_pos h]
  simp [List.getD]
theorem pkN_le (L : Nat → Nat) : ∀ n, pkN L n ≤ n
  | 0 => Nat.le_refl 0
  | n + 1 => by
    have := pkN_le L n
    by_cases h : 0 < L n
    · rw [pkN_yes h]; omega
    · rw [pkN_no h]; omega
theorem pkA_ok (L : Nat → Nat) : ∀ n t, t < pkN L n → pkA L n t < n ∧ 0 < L (pkA L n t)
  | 0, t, ht => absurd ht (by show ¬ t < 0; omega)
  | n + 1, t, ht => by
    by_cases h : 0 < L n
    · rw [pkN_yes h] at ht
      by_cases e : t < pkN L n
      · rw [pkA_lo e]; have := pkA_ok L n t e; exact ⟨by omega, this.2⟩
      · have e2 : t = pkN L n := by omega
        rw [e2, pkA_hi h]; exact ⟨by omega, h⟩
    · rw [pkN_no h] at ht
      rw [pkA_no h]; have := pkA_ok L n t ht; exact ⟨by omega, this.2⟩
theorem pkA_inc (L : Nat → Nat) : ∀ n s t, s < t → t < pkN L n → pkA L n s < pkA L n t
  | 0, s, t, _, ht => absurd ht (by show ¬ t < 0; omega)
  | n + 1, s, t, hst, ht => by
    by_cases h : 0 < L n
    · rw [pkN_yes h] at ht
      by_cases e : t < pkN L n
      · rw [pkA_lo e, pkA_lo (show s < pkN L n by omega)]; exact pkA_inc L n s t hst e
      · have e2 : t = pkN L n := by omega
        rw [e2, pkA_hi h, pkA_lo (show s < pkN L n by omega)]
        exact (pkA_ok L n s (by omega)).1
    · rw [pkN_no h] at ht
      rw [pkA_no h, pkA_no h]; exact pkA_inc L n s t hst ht
theorem pkA_inj {L : Nat → Nat} {n s t : Nat} (hs : s < pkN L n) (ht : t < pkN L n) (h : pkA L n s = pkA L n t) : s = t := by
  rcases Nat.lt_trichotomy s t with e | e | e
  · have := pkA_inc L n s t e ht; omega
  · exact e
  · have := pkA_inc L n t s e hs; omega
theorem pkA_ge (L : Nat → Nat) (n : Nat) : ∀ t, t < pkN L n → t ≤ pkA L n t
  | 0, _ => Nat.zero_le _
  | t + 1, h => by have := pkA_ge L n t (by omega); have := pkA_inc L n t (t + 1) (by omega) h; omega
theorem pkA_up {L : Nat → Nat} {n t : Nat} : ∀ d, t + d < pkN L n → pkA L n t + d ≤ pkA L n (t + d)
  | 0, _ => Nat.le_refl _
  | d + 1, h => by have := pkA_up (L := L) (n := n) (t := t) d (by omega); have := pkA_inc L n (t + d) (t + (d + 1)) (by omega) h; omega
/-- The k-th stands at its own place: so do all before it. -/
theorem pkA_own {L : Nat → Nat} {n k : Nat} (hk : 0 < k) (hkn : k ≤ pkN L n) (h : pkA L n (k - 1) = k - 1) {t : Nat} (ht : t < k) : pkA L n t = t := by
  have h1 := pkA_ge L n t (by omega)
  have h2 := pkA_up (L := L) (n := n) (t := t) (k - 1 - t) (by omega)
  rw [show t + (k - 1 - t) = k - 1 by omega, h] at h2
  omega
namespace Fd
variable {α : Type} {F : Fd α}
theorem shP_uniq {k : Nat} {q : Nat → α} {x : α} {o o' : Nat → α} (hq : ∀ i j, i < k → j < k → q i = q j → i = j) (h : F.ShP q k x o) (h' : F.ShP q k x o') : ∀ j, j < k → o j = o' j := by
  have hK : F.Kills k k (fun j => F.a (o j) (o' j)) q := fun e he => by
    have h1 : F.s k (fun j => F.m (F.a (o j) (o' j)) (F.pow (q j) e)) = F.a (F.s k fun j => F.m (o j) (F.pow (q j) e)) (F.s k fun j => F.m (o' j) (F.pow (q j) e)) := by
      rw [← F.s_a]; exact F.s_congr fun j _ => F.dist' _ _ _
    rw [h1, shP_pow hq h e he, shP_pow hq h' e he, F.a_self]
  exact fun j hj => F.eq_of_a (hK.zero hq j hj)
end Fd
theorem el_inj' {a b : Nat} (ha : a < 256) (hb : b < 256) (h : el a = el b) : a = b := el_inj ha hb h
/-- The rows of the code at unlike places are free. -/
theorem code_free {k n : Nat} {a : Nat → Nat} (hk : k ≤ n) (hn : n ≤ 256) (ha : ∀ t, t < k → a t < n) (hinj : ∀ s t, s < k → t < k → a s = a t → s = t) : gE.Free k k (fun t j => gE.cM el k (a t) j) :=
  Fd.cM_free hk (fun x y hx hy e => el_inj (by omega) (by omega) e) ha hinj
/-- What the inverse makes: the shares. -/
theorem back_shares {k n i : Nat} {a : Nat → Nat} {o : Nat → Fin 256} {X : Nat → Nat → Fin 256} (hk : k ≤ n) (hn : n ≤ 256) (hi : i < n) (ha : ∀ t, t < k → a t < n) (hinj : ∀ s t, s < k → t < k → a s = a t → s = t)
    (ho : gE.ShP (fun t => el (a t)) k (el i) o) (hX : ∀ s t, s < k → t < k → gE.s k (fun j => gE.m (gE.cM el k (a s) j) (X j t)) = gE.idm s t) (D : Nat → Fin 256) :
    gE.s k (fun j => gE.m (gE.cM el k i j) (gE.s k fun t => gE.m (X j t) (D t))) = gE.s k fun t => gE.m (o t) (D t) := by
  have h1 : gE.s k (fun j => gE.m (gE.cM el k i j) (gE.s k fun t => gE.m (X j t) (D t))) = gE.s k fun j => gE.s k fun t => gE.m (gE.m (gE.cM el k i j) (X j t)) (D t) := gE.s_congr fun j _ => by
    rw [gE.s_m]; exact gE.s_congr fun t _ => (gE.m_assoc _ _ _).symm
  rw [h1, gE.s_swap]
  refine gE.s_congr fun t ht => ?_
  rw [← gE.s_m', Fd.shares_inv hk hi (fun x y hx hy e => el_inj (by omega) (by omega) e) ha hinj ho hX t ht]
/-- Rebuild's answer: its error. -/
def RebE (k n nr : Nat) (L : Nat → Nat) (er : Int) : Prop :=
  (nr ≠ n ∧ er = 40) ∨ (nr = n ∧ ¬ (∀ t, t < pkN L n → L (pkA L n t) = L (pkA L n 0)) ∧ er = 41) ∨ (nr = n ∧ (∀ t, t < pkN L n → L (pkA L n t) = L (pkA L n 0)) ∧ pkN L n < k ∧ er = 42) ∨
  (nr = n ∧ (∀ t, t < pkN L n → L (pkA L n t) = L (pkA L n 0)) ∧ k ≤ pkN L n ∧ er = 0)
theorem RebE.uniq {k n nr : Nat} {L : Nat → Nat} {er er' : Int} (h : RebE k n nr L er) (h' : RebE k n nr L er') : er = er' := by
  rcases h with ⟨a, b⟩ | ⟨a, b, c⟩ | ⟨a, b, c, d⟩ | ⟨a, b, c, d⟩ <;> rcases h' with ⟨a', b'⟩ | ⟨a', b', c'⟩ | ⟨a', b', c', d'⟩ | ⟨a', b', c', d'⟩ <;>
    first | (exact absurd a' a) | (exact absurd a a') | (exact absurd b' b) | (exact absurd b b') | omega
/-- Rebuild's word: what all shares say. -/
def RebW (k n : Nat) (L : Nat → Nat) (g : Nat → Nat → Nat) (len : Nat) (W : Nat → Nat → Fin 256) : Prop :=
  ∀ O : Nat → Nat → Fin 256, (∀ i, i < n → gE.ShP (fun t => el (pkA L n t)) k (el i) (O i)) → ∀ i, i < n → ∀ c, c < len → W i c = gE.s k fun t => gE.m (O i t) (el (g (pkA L n t) c))
end Go.Proofs.Ytjaaldandgfkgaa

/- Plain words for Rebuild. Conditions: none. -/
namespace Go.Proofs.Ytjaaldandgfkgaa
open Go.RowKit

/-- The rows that stand, read. -/
theorem have_rd {w w1 : World} {n len : Nat} {L C : Nat → Nat} {S : Nat → Option Addr} {g : Nat → Nat → Nat} {A : Option Addr} {k : Nat} (h2 : ∀ i, i < n → Rd w (S i) (L i) (fun j => .int .u8 (g i j))) (hg : ∀ i, i < n → ∀ j, j < L i → g i j < 256) (hb : Below w.heap.size w w1) (hk : k ≤ pkN L n)
    (hH : Rd w1 A (pkN L n) (fun t => .slice (S (pkA L n t)) (L (pkA L n t)) (C (pkA L n t)))) (hlen : ∀ t, t < pkN L n → L (pkA L n t) = len) : RdM w1 A k (fun _ => len) (fun t c => .int .u8 ((el (g (pkA L n t) c)).val : Nat)) :=
  ⟨fun t => S (pkA L n t), fun t => C (pkA L n t), fun t ht => by
    obtain ⟨b, o, e, hb', hc⟩ := hH t (by omega)
    exact ⟨b, o, e, hb', by
      rw [hc]
      show some (Value.slice (S (pkA L n t)) (L (pkA L n t)) (C (pkA L n t))) = some (Value.slice (S (pkA L n t)) len (C (pkA L n t)))
      rw [hlen t (by omega)]⟩, fun t ht => by
    have h := pkA_ok L n t (by omega)
    have h3 := (h2 _ h.1).below hb
    rw [hlen t (by omega)] at h3
    exact h3.congr fun c hc => by
      show Value.int .u8 ((g (pkA L n t) c : Nat) : Int) = Value.int .u8 ((el (g (pkA L n t) c)).val : Int)
      rw [el_val (hg _ h.1 c (by rw [hlen t (by omega)]; exact hc))]⟩
/-- What Rebuild answers: error, rows. -/
def RebO (k n nr : Nat) (L : Nat → Nat) (g : Nat → Nat → Nat) (w : World) (e : Ending) (w' : World) : Prop :=
  ∃ (er : Int) (A' : Option Addr) (R c' : Nat) (W : Nat → Nat → Fin 256), e = .returned (.tuple #[.slice A' R c', .int .i64 er]) ∧ RebE k n nr L er ∧ R = (if er = 0 then n else 0) ∧ (er = 0 → RebW k n L g (L (pkA L n 0)) W) ∧ RdM w' A' R (fun _ => L (pkA L n 0)) (fun i c => .int .u8 ((W i c).val : Nat)) ∧ Below w.heap.size w w'
end Go.Proofs.Ytjaaldandgfkgaa
