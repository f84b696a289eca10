/- Where the shards of two objects differ; plain. Conditions: as the theorems have them. -/
import Derived.Test.YtjaaldandgfkgaaOw10
import Derived.Test.YtjaaldandgfkgaaUnl10
namespace Go.Proofs.Ytjaaldandgfkgaa
open Go.RowKit
namespace Fd
variable {α : Type} {F : Fd α}
theorem free_ker {k : Nat} {M : Nat → Nat → α} {x : Nat → α} (h : F.Free k k M) (hx : ∀ t, t < k → F.s k (fun j => F.m (M t j) (x j)) = F.z) : ∀ j, j < k → x j = F.z := fun j0 hj0 => by
  obtain ⟨d, ⟨t0, ht0, hne⟩, hd⟩ := F.bound k (k + 1) (fun t j => if t = k then F.idm j0 j else M t j) (Nat.lt_succ_self k)
  have hd' : ∀ j, j < k → F.a (F.s k fun t => F.m (d t) (M t j)) (F.m (d k) (F.idm j0 j)) = F.z := fun j hj => by
    have h1 := hd j hj
    rw [F.s_succ, if_pos rfl] at h1
    rw [← h1]
    congr 1
    exact F.s_congr fun t ht => by rw [if_neg (by omega)]
  have hdk : d k ≠ F.z := fun hz => by
    have h1 := h d (fun j hj => by
      have h2 := hd' j hj
      rwa [hz, F.z_m, F.a_z] at h2)
    rcases Nat.lt_or_ge t0 k with h3 | h3
    · exact hne (h1 t0 h3)
    · exact hne (by rw [show t0 = k by omega]; exact hz)
  have h4 : F.s k (fun j => F.m (F.a (F.s k fun t => F.m (d t) (M t j)) (F.m (d k) (F.idm j0 j))) (x j)) = F.z := F.s_zero fun j hj => by rw [hd' j hj, F.z_m]
  have h5 : F.s k (fun j => F.m (F.a (F.s k fun t => F.m (d t) (M t j)) (F.m (d k) (F.idm j0 j))) (x j)) = F.a (F.s k fun j => F.s k fun t => F.m (d t) (F.m (M t j) (x j))) (F.s k fun j => F.m (F.m (d k) (F.idm j0 j)) (x j)) := by
    rw [← F.s_a]
    refine F.s_congr fun j _ => ?_
    rw [F.dist', F.s_m']
    congr 1
    exact F.s_congr fun t _ => F.m_assoc _ _ _
  rw [h5, F.s_swap, F.s_zero (fun t ht => by rw [← F.s_m, hx t ht, F.m_z]), F.z_a, F.s_one hj0] at h4
  · unfold idm at h4
    rw [if_pos rfl, F.m_u] at h4
    rcases F.m_eq_z h4 with h6 | h6
    · exact absurd h6 hdk
    · exact h6
  · intro j _ hne
    unfold idm
    rw [if_neg (fun e => hne e.symm), F.m_z, F.z_m]
end Fd
/-- K places, on which two words agree: the words are one. -/
theorem same_wrd {k n c : Nat} {a b : Nat → Nat → Nat} {f : Nat → Nat} (hn : n ≤ 255) (hk : k ≤ n) (ha : ∀ j, j < k → a j c < 256) (hb : ∀ j, j < k → b j c < 256) (hf : ∀ t, t < k → f t < n) (hinj : ∀ s t, s < k → t < k → f s = f t → s = t)
    (heq : ∀ t, t < k → wrd k a (f t) c = wrd k b (f t) c) : ∀ j, j < k → a j c = b j c := by
  have hfree : gE.Free k k (fun t => gE.cM el k (f t)) := Fd.cM_free (n := n) hk (fun x y hx hy e => el_inj (by omega) (by omega) e) hf hinj
  intro j hj
  have h4 := Fd.free_ker hfree (x := fun j => gE.a (el (a j c)) (el (b j c))) (fun t ht => by
    have h5 : gE.s k (fun j => gE.m (gE.cM el k (f t) j) (gE.a (el (a j c)) (el (b j c)))) = gE.a (gE.s k fun j => gE.m (gE.cM el k (f t) j) (el (a j c))) (gE.s k fun j => gE.m (gE.cM el k (f t) j) (el (b j c))) := by
      rw [← gE.s_a]
      exact gE.s_congr fun j _ => gE.dist _ _ _
    show gE.s k (fun j => gE.m (gE.cM el k (f t) j) (gE.a (el (a j c)) (el (b j c)))) = gE.z
    rw [h5]
    have h6 : (gE.s k fun j => gE.m (gE.cM el k (f t) j) (el (a j c))) = gE.s k fun j => gE.m (gE.cM el k (f t) j) (el (b j c)) := Fin.ext (heq t ht)
    rw [h6, gE.a_self]) j hj
  exact el_inj (ha j hj) (hb j hj) (gE.eq_of_a h4)
theorem wrd_own {k i c : Nat} {a : Nat → Nat → Nat} (hi : i < k) (ha : a i c < 256) : wrd k a i c = a i c := by
  unfold wrd
  rw [gE.s_congr (g := fun t => gE.m (gE.idm i t) (el (a t c))) fun t _ => by unfold Fd.cM; rw [if_pos hi], Fd.s_one gE hi]
  · unfold Fd.idm
    rw [if_pos rfl, gE.u_m]
    exact el_val ha
  · intro t _ hne
    unfold Fd.idm
    rw [if_neg (fun e => hne e.symm), gE.z_m]
theorem cntB_ext {P Q : Nat → Bool} : ∀ {n : Nat}, (∀ q, q < n → P q = Q q) → cntB P n = cntB Q n
  | 0, _ => rfl
  | n + 1, h => by
    unfold cntB
    rw [cntB_ext (n := n) fun q hq => h q (by omega), h n (by omega)]
theorem cntB_one {P : Nat → Bool} {n c : Nat} (hc : c < n) (h : ∀ q, q < n → (P q = true ↔ q = c)) : cntB P n = 1 := by
  rw [cntB_ext (Q := fun j => if j = c then true else (fun _ => false) j) fun q hq => by
    by_cases e : q = c
    · rw [if_pos e]; exact (h q hq).2 e
    · rw [if_neg e]
      cases e2 : P q with
      | false => rfl
      | true => exact absurd ((h q hq).1 e2) e, cntB_new _ rfl, cntB_zero, if_pos hc]
theorem cntB_none {P : Nat → Bool} {n : Nat} (h : ∀ q, q < n → P q = false) : cntB P n = 0 := by
  rw [cntB_ext (Q := fun _ => false) h, cntB_zero]
/-- Bytes from a on, i of them, turned by ty's. -/
def tuF (f ty : Nat → Nat) (a i p : Nat) : Nat := if a ≤ p ∧ p < a + i then f p ^^^ ty (p - a) else f p
theorem tuF_zero (f ty : Nat → Nat) (a p : Nat) : tuF f ty a 0 p = f p := if_neg (by omega)
theorem tuF_at (f ty : Nat → Nat) (a i : Nat) : tuF f ty a i (a + i) = f (a + i) := if_neg (by omega)
theorem tuF_next (f ty : Nat → Nat) (a i p : Nat) : tuF f ty a (i + 1) p = if p = a + i then f (a + i) ^^^ ty i else tuF f ty a i p := by
  unfold tuF
  by_cases e : p = a + i
  · subst e
    rw [if_pos (by omega), if_pos rfl, Nat.add_sub_cancel_left]
  · rw [if_neg e]
    by_cases h : a ≤ p ∧ p < a + i
    · rw [if_pos h, if_pos (by omega)]
    · rw [if_neg h, if_neg (by omega)]
theorem tuF_lt {f ty : Nat → Nat} {a i p : Nat} (hf : f p < 256) (ht : ∀ q, q < i → ty q < 256) : tuF f ty a i p < 256 := by
  unfold tuF
  split
  · exact Nat.xor_lt_two_pow (n := 8) hf (ht _ (by omega))
  · exact hf
theorem tuF_off {f ty : Nat → Nat} {a i p : Nat} (h : p < a ∨ a + i ≤ p) : tuF f ty a i p = f p := if_neg (by omega)
theorem pos_div {S c x : Nat} (hx : x < S) : (c * S + x) / S = c := by
  rw [Nat.mul_comm, Nat.mul_add_div (by omega), Nat.div_eq_of_lt hx, Nat.add_zero]
theorem blk_in {K B bl i q : Nat} (hi : i < K) (hq : q < bl) (hb : bl ≤ B) : i * bl + q < K * B := by
  have h1 : (i + 1) * bl ≤ K * bl := Nat.mul_le_mul_right _ hi
  have h2 : K * bl ≤ K * B := Nat.mul_le_mul_left _ hb
  rw [Nat.add_mul] at h1
  omega
/-- Stripes without a change have the same blocks. -/
theorem spB_off {K B j c i : Nat} {l l' : List Nat} (hK : 1 ≤ K) (hB : 1 ≤ B) (hlen : l'.length = l.length) (hc : c < nblk (K * B) l.length) (hcj : c ≠ j) (h : ∀ p, p / (K * B) ≠ j → l'.getD p 0 = l.getD p 0) : spB K B l' i c = spB K B l i c := by
  obtain ⟨b1, b2, _⟩ := blen_facts (K := K) (B := B) hK hB hc
  unfold spB
  rw [hlen]
  refine mkL_ext (by rw [mkL_length]) fun q hq => ?_
  rw [mkL_get hq]
  refine wrd_congr fun t ht => ?_
  unfold sby
  rw [hlen]
  refine h _ ?_
  rw [Nat.add_assoc, pos_div (blk_in ht hq b2)]
  exact hcj
/-- One byte is unlike: which blocks of its stripe are. -/
theorem al_one {K B n a i : Nat} {l l' : List Nat} (hn : n ≤ 255) (hK : 1 ≤ K) (hKn : K ≤ n) (hB : 1 ≤ B) (hlen : l'.length = l.length) (ha : a < l.length) (hl : ∀ x ∈ l, x < 256) (hl' : ∀ x ∈ l', x < 256) (h : ∀ p, p ≠ a → l'.getD p 0 = l.getD p 0) (hne : l'.getD a 0 ≠ l.getD a 0) (hi : i < n) :
    cntB (fun q => (spB K B l i (a / (K * B))).getD q 0 != (spB K B l' i (a / (K * B))).getD q 0) (spB K B l i (a / (K * B))).length = (if i = (a - a / (K * B) * (K * B)) / blen K B l.length (a / (K * B)) ∨ K ≤ i then 1 else 0) := by
  have hS : 0 < K * B := Nat.mul_pos hK hB
  obtain ⟨j, hj⟩ : ∃ j, j = a / (K * B) := ⟨_, rfl⟩
  rw [← hj]
  have hjn : j < nblk (K * B) l.length := by
    refine (lt_nblk hS).2 ?_
    have := Nat.div_mul_le_self a (K * B)
    rw [← hj] at this
    omega
  obtain ⟨b1, b2, b3, b4, b5⟩ := blen_facts (K := K) (B := B) hK hB hjn
  obtain ⟨bl, hbl⟩ : ∃ bl, bl = blen K B l.length j := ⟨_, rfl⟩
  rw [← hbl] at b1 b2 b4 b5 ⊢
  have hja : j * (K * B) ≤ a := by rw [hj]; exact Nat.div_mul_le_self a (K * B)
  have haj : a - j * (K * B) < K * B := by
    have h1 := Nat.mod_lt a hS
    have h2 := Nat.div_add_mod a (K * B)
    rw [← hj, Nat.mul_comm] at h2
    omega
  have hal : a - j * (K * B) < lng (K * B) l.length j := by unfold lng; omega
  obtain ⟨x, hx⟩ : ∃ x, x = a - j * (K * B) := ⟨_, rfl⟩
  rw [← hx] at haj hal ⊢
  have hax : a = j * (K * B) + x := by omega
  have hrow : x / bl < K := by rw [Nat.div_lt_iff_lt_mul (by omega)]; omega
  have hcol : x % bl < bl := Nat.mod_lt _ (by omega)
  have hdm : x / bl * bl + x % bl = x := by rw [Nat.mul_comm]; exact Nat.div_add_mod x bl
  obtain ⟨row, hr⟩ : ∃ r, r = x / bl := ⟨_, rfl⟩
  obtain ⟨col, hc⟩ : ∃ c, c = x % bl := ⟨_, rfl⟩
  rw [← hr, ← hc] at hdm
  rw [← hr] at hrow ⊢
  rw [← hc] at hcol
  have hpos : ∀ t q, q < bl → (j * (K * B) + t * bl + q = a ↔ t = row ∧ q = col) := fun t q hq => by
    constructor
    · intro e
      have e1 : t * bl + q = x := by omega
      constructor
      · rw [hr, ← e1, pos_div hq]
      · rw [hc, ← e1, Nat.mul_comm, Nat.mul_add_mod, Nat.mod_eq_of_lt hq]
    · rintro ⟨rfl, rfl⟩; omega
  have hsame : ∀ t q, q < bl → ¬ (t = row ∧ q = col) → sby K B l' j t q = sby K B l j t q := fun t q hq hne' => by
    unfold sby
    rw [hlen, ← hbl]
    exact h _ fun e => hne' ((hpos t q hq).1 e)
  have hdiff : sby K B l' j row col ≠ sby K B l j row col := by
    unfold sby
    rw [hlen, ← hbl, (hpos row col hcol).2 ⟨rfl, rfl⟩]
    exact hne
  have hg : ∀ q, q < bl → (spB K B l i j).getD q 0 = wrd K (sby K B l j) i q ∧ (spB K B l' i j).getD q 0 = wrd K (sby K B l' j) i q := fun q hq => by
    unfold spB
    rw [hlen, ← hbl, mkL_get hq, mkL_get hq]
    exact ⟨rfl, rfl⟩
  rw [spB_length, ← hbl]
  have hb := sby_lt (K := K) (B := B) hl j
  have hb' := sby_lt (K := K) (B := B) hl' j
  by_cases hiK : i < K
  · by_cases hir : i = row
    · rw [if_pos (.inl hir)]
      subst hir
      refine cntB_one hcol fun q hq => ?_
      rw [(hg q hq).1, (hg q hq).2, wrd_own hiK (hb _ _), wrd_own hiK (hb' _ _), bne_iff_ne]
      constructor
      · intro e
        by_cases e2 : q = col
        · exact e2
        · exact absurd (hsame i q hq (fun e3 => e2 e3.2)).symm e
      · rintro rfl
        exact hdiff.symm
    · rw [if_neg (by omega)]
      refine cntB_none fun q hq => ?_
      rw [(hg q hq).1, (hg q hq).2, wrd_own hiK (hb _ _), wrd_own hiK (hb' _ _), hsame i q hq (fun e => hir e.1)]
      simp
  · rw [if_pos (.inr (by omega))]
    refine cntB_one hcol fun q hq => ?_
    rw [(hg q hq).1, (hg q hq).2, bne_iff_ne]
    constructor
    · intro e
      by_cases e2 : q = col
      · exact e2
      · exact absurd (wrd_congr fun t _ => (hsame t q hq (fun e3 => e2 e3.2)).symm) e
    · rintro rfl e
      have h5 := same_wrd (k := K) (n := n) (c := q) (a := sby K B l j) (b := sby K B l' j) (f := fun t => if t = row then i else t) hn hKn (fun t _ => hb t q) (fun t _ => hb' t q) (fun t ht => by split <;> omega) (fun s t hs ht e3 => by split at e3 <;> split at e3 <;> omega) (fun t ht => by
        by_cases e3 : t = row
        · rw [if_pos e3]; exact e
        · rw [if_neg e3, wrd_own ht (hb _ _), wrd_own ht (hb' _ _), hsame t q hq (fun e4 => e3 e4.1)]) row hrow
      exact hdiff h5.symm
theorem spL_get {K B c i : Nat} {l : List Nat} (hc : c < nblk (K * B) l.length) : (spL K B l i).getD c [] = spB K B l i c := by
  unfold spL
  exact spT_get hc
theorem spL_len (K B i : Nat) (l : List Nat) : (spL K B l i).length = nblk (K * B) l.length := by
  unfold spL
  exact spT_length _ _ _ _ _
/-- Blocks of other stripes: none is unlike. -/
theorem unD_off {K B j c i : Nat} {l l' : List Nat} (hK : 1 ≤ K) (hB : 1 ≤ B) (hlen : l'.length = l.length) (hc : c < nblk (K * B) l.length) (hcj : c ≠ j) (h : ∀ p, p / (K * B) ≠ j → l'.getD p 0 = l.getD p 0) : unD (fun t => spL K B l t) (fun t => spL K B l' t) i c = 0 := by
  unfold unD
  refine cntB_none fun q _ => ?_
  unfold unP
  rw [spL_get hc, spL_get (by rw [hlen]; exact hc), spB_off hK hB hlen hc hcj h]
  simp
theorem unD_one {K B n a i : Nat} {l l' : List Nat} (hn : n ≤ 255) (hK : 1 ≤ K) (hKn : K ≤ n) (hB : 1 ≤ B) (hlen : l'.length = l.length) (ha : a < l.length) (hl : ∀ x ∈ l, x < 256) (hl' : ∀ x ∈ l', x < 256) (h : ∀ p, p ≠ a → l'.getD p 0 = l.getD p 0) (hne : l'.getD a 0 ≠ l.getD a 0) (hi : i < n) :
    unD (fun t => spL K B l t) (fun t => spL K B l' t) i (a / (K * B)) = (if i = (a - a / (K * B) * (K * B)) / blen K B l.length (a / (K * B)) ∨ K ≤ i then 1 else 0) := by
  have hS : 0 < K * B := Nat.mul_pos hK hB
  have hjn : a / (K * B) < nblk (K * B) l.length := by
    refine (lt_nblk hS).2 ?_
    have := Nat.div_mul_le_self a (K * B)
    omega
  have h1 := al_one (i := i) hn hK hKn hB hlen ha hl hl' h hne hi
  unfold unD
  rw [spL_get hjn, ← h1]
  refine cntB_ext fun q _ => ?_
  unfold unP
  rw [spL_get hjn, spL_get (by rw [hlen]; exact hjn)]
end Go.Proofs.Ytjaaldandgfkgaa
