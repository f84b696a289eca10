/- Plain: what Join answers: the object put together of any K shards that stand. Conditions: as the theorems have them. -/
import Derived.Test.YtjaaldandgfkgaaLk2
import Derived.Test.YtjaaldandgfkgaaRebQ
namespace Go.Proofs.Ytjaaldandgfkgaa
open Go.RowKit

theorem pkL_congr {L L' : Nat → Nat} (h : ∀ t, 0 < L t ↔ 0 < L' t) : ∀ n, pkL L n = pkL L' n
  | 0 => rfl
  | n + 1 => by
    unfold pkL
    rw [pkL_congr h n]
    by_cases e : 0 < L n
    · rw [if_pos e, if_pos ((h n).1 e)]
    · rw [if_neg e, if_neg fun e' => e ((h n).2 e')]
theorem pkN_congr {L L' : Nat → Nat} (h : ∀ t, 0 < L t ↔ 0 < L' t) (n : Nat) : pkN L n = pkN L' n := by unfold pkN; rw [pkL_congr h]
theorem pkA_congr {L L' : Nat → Nat} (h : ∀ t, 0 < L t ↔ 0 < L' t) (n t : Nat) : pkA L n t = pkA L' n t := by unfold pkA; rw [pkL_congr h]
/-- One for each shard that stands. -/
def lsG (H : Nat → Hd) (t : Nat) : Nat := if gone (H t) = true then 0 else 1
theorem pkN_cntG (H : Nat → Hd) : ∀ n, pkN (lsG H) n = cntG H n
  | 0 => rfl
  | n + 1 => by
    by_cases e : gone (H n) = true
    · rw [pkN_no (by unfold lsG; rw [if_pos e]; omega), pkN_cntG H n]; show _ = cntG H n + _; rw [if_pos e]; rfl
    · rw [pkN_yes (by unfold lsG; rw [if_neg e]; omega), pkN_cntG H n]; show _ = cntG H n + _; rw [if_neg e]
theorem pkA_gone {H : Nat → Hd} {n t : Nat} (h : t < cntG H n) : pkA (lsG H) n t < n ∧ gone (H (pkA (lsG H) n t)) = false := by
  obtain ⟨h1, h2⟩ := pkA_ok (lsG H) n t (by rw [pkN_cntG]; exact h)
  refine ⟨h1, ?_⟩
  unfold lsG at h2
  cases hg : gone (H (pkA (lsG H) n t))
  · rfl
  · unfold lsG at hg; rw [if_pos hg] at h2; omega
/-- A byte of the object, by the shares O. -/
def jnB (K B s n : Nat) (H : Nat → Hd) (BL : Nat → List (List Nat)) (O : Nat → Nat → Fin 256) (p : Nat) : Nat :=
  (gE.s K fun t => gE.m (O ((p % (K * B)) / blen K B s (p / (K * B))) t) (el (((BL (pkA (lsG H) n t)).getD (p / (K * B)) []).getD ((p % (K * B)) % blen K B s (p / (K * B))) 0))).val
theorem jnB_lt {K B s n : Nat} {H : Nat → Hd} {BL : Nat → List (List Nat)} {O : Nat → Nat → Fin 256} (p : Nat) : jnB K B s n H BL O p < 256 := (gE.s K _).isLt
/-- The object that the first K shards that stand make. -/
def JnL (n : Nat) (H : Nat → Hd) (BL : Nat → List (List Nat)) (Z : Hd) (l : List Nat) : Prop :=
  ∃ O : Nat → Nat → Fin 256, (∀ i, i < n → gE.ShP (fun t => el (pkA (lsG H) n t)) Z.K.toNat (el i) (O i)) ∧ l = mkL Z.size.toNat (jnB Z.K.toNat Z.B.toNat Z.size.toNat n H BL O)
theorem row_at {K B s p : Nat} (hK : 1 ≤ K) (hB : 1 ≤ B) (hp : p < s) : p / (K * B) < nblk (K * B) s ∧ (p % (K * B)) / blen K B s (p / (K * B)) < K ∧ (p % (K * B)) % blen K B s (p / (K * B)) < blen K B s (p / (K * B)) := by
  have hS : 1 ≤ K * B := Nat.mul_pos (by omega) (by omega)
  have hd := Nat.div_add_mod p (K * B)
  have hm := Nat.mod_lt p (show K * B > 0 by omega)
  have hj : p / (K * B) < nblk (K * B) s := (lt_nblk hS).2 (by rw [Nat.mul_comm]; omega)
  obtain ⟨b1, b2, b3, b4, b5⟩ := blen_facts hK hB hj
  refine ⟨hj, ?_, Nat.mod_lt _ (by omega)⟩
  rw [Nat.div_lt_iff_lt_mul (by omega)]
  have hl : p % (K * B) < lng (K * B) s (p / (K * B)) := by
    unfold lng
    have : p / (K * B) * (K * B) + p % (K * B) = p := by rw [Nat.mul_comm]; exact hd
    omega
  omega
theorem shN_255 {h : Hd} (e : checkE h = 0) : shN h ≤ 255 := by
  obtain ⟨⟨m1, m2, m3, m4, m5, m6⟩, _⟩ := check_facts e
  unfold shN; omega
theorem JnL.uniq {n : Nat} {H : Nat → Hd} {BL : Nat → List (List Nat)} {Z : Hd} {l l' : List Nat} (hE : checkE Z = 0) (hn : n = shN Z) (hc : Z.K.toNat ≤ cntG H n) (h : JnL n H BL Z l) (h' : JnL n H BL Z l') : l = l' := by
  obtain ⟨O, h1, rfl⟩ := h
  obtain ⟨O', h1', rfl⟩ := h'
  obtain ⟨⟨m1, m2, m3, m4, m5, m6⟩, _⟩ := check_facts hE
  have hn5 := shN_255 hE
  refine mkL_congr fun p hp => ?_
  obtain ⟨_, hi, _⟩ := row_at (K := Z.K.toNat) (B := Z.B.toNat) (by omega) (by omega) hp
  unfold jnB
  congr 1
  refine gE.s_congr fun t ht => ?_
  have hin : (p % (Z.K.toNat * Z.B.toNat)) / blen Z.K.toNat Z.B.toNat Z.size.toNat (p / (Z.K.toNat * Z.B.toNat)) < n := by
    have : Z.K.toNat ≤ n := Nat.le_trans hc (cntG_le H n)
    omega
  have := Fd.shP_uniq (F := gE) (q := fun t => el (pkA (lsG H) n t)) (fun a b ha hb e => pkA_inj (L := lsG H) (n := n) (by rw [pkN_cntG]; omega) (by rw [pkN_cntG]; omega) (el_inj' (by have := (pkA_gone (H := H) (n := n) (show a < cntG H n by omega)).1; omega) (by have := (pkA_gone (H := H) (n := n) (show b < cntG H n by omega)).1; omega) e)) (h1 _ hin) (h1' _ hin) t ht
  rw [this]
theorem shP_ex (k : Nat) (q : Nat → Fin 256) (x : Fin 256) : ∃ o, gE.ShP q k x o := by
  by_cases h : ∃ i, i < k ∧ q i = x
  · obtain ⟨i, hi⟩ := h
    obtain ⟨i0, h0⟩ : ∃ i0, (i0 < k ∧ q i0 = x) ∧ ∀ i, i < i0 → ¬ (i < k ∧ q i = x) := by
      have : ∀ m, (∃ i, i < m ∧ i < k ∧ q i = x) → ∃ i0, (i0 < k ∧ q i0 = x) ∧ ∀ i, i < i0 → ¬ (i < k ∧ q i = x) := by
        intro m
        induction m with
        | zero => rintro ⟨i, h, _⟩; omega
        | succ m ih =>
          rintro ⟨i, h1, h2⟩
          by_cases h3 : ∃ i, i < m ∧ i < k ∧ q i = x
          · exact ih h3
          · refine ⟨i, h2, fun j hj hj2 => h3 ⟨j, by omega, hj2⟩⟩
      exact this (i + 1) ⟨i, by omega, hi⟩
    exact ⟨fun j => if j = i0 then gE.u else gE.z, .inl ⟨i0, h0.1.1, h0.1.2, fun i hi e => h0.2 i hi ⟨by omega, e⟩, fun j _ => rfl⟩⟩
  · exact ⟨fun j => gE.wD q k x j, .inr ⟨fun i hi e => h ⟨i, hi, e⟩, fun _ _ => rfl⟩⟩
theorem flat_fit {K B s : Nat} {BL : List (List Nat)} (h : fitS K B s BL) : BL.flatten.length = sumN (blen K B s) (nblk (K * B) s) := by
  rw [flatten_all, catL_length, ← h.1]
  exact sumN_congr fun j hj => h.2 j hj
theorem flat_get_fit {K B s j c : Nat} {BL : List (List Nat)} (h : fitS K B s BL) (hj : j < nblk (K * B) s) (hc : c < blen K B s j) : BL.flatten.getD (sumN (blen K B s) j + c) 0 = (BL.getD j []).getD c 0 := by
  have hjl : j < BL.length := by rw [h.1]; exact hj
  rw [flatten_all, ← catL_get (f := fun j => BL.getD j []) hjl (by rw [h.2 j hjl]; exact hc)]
  rw [sumN_congr (g := blen K B s) fun i hi => h.2 i (by omega)]
/-- The object's bytes, row by row: the next row. -/
theorem joi_next {K B s j i : Nat} {F : Nat → Nat} {WR : Nat → Nat → Nat} (hK : 1 ≤ K) (hB : 1 ≤ B) (hj : j < nblk (K * B) s) (hi : i < K)
    (hF : ∀ p, p < s → F p = WR ((p % (K * B)) / blen K B s (p / (K * B))) (sumN (blen K B s) (p / (K * B)) + (p % (K * B)) % blen K B s (p / (K * B)))) :
    mkL (cutP K B s j i) F ++ mkL (min (blen K B s j) (s - cutP K B s j i)) (fun c => WR i (sumN (blen K B s) j + c)) = mkL (cutP K B s j (i + 1)) F := by
  rw [cutP_next, mkL_app]
  congr 1
  refine mkL_congr fun c hc => ?_
  have hlt : cutP K B s j i < s := by omega
  have hin := cutP_in hlt
  obtain ⟨b1, b2, b3, b4, b5⟩ := blen_facts hK hB hj
  have h1 : (i + 1) * blen K B s j ≤ K * blen K B s j := Nat.mul_le_mul_right _ hi
  rw [Nat.add_mul] at h1
  have h2 : K * blen K B s j ≤ K * B := Nat.mul_le_mul_left _ b2
  have hr : i * blen K B s j + c < K * B := by omega
  have hp : cutP K B s j i + c = (i * blen K B s j + c) + j * (K * B) := by omega
  rw [hF _ (by omega), hp, Nat.add_mul_div_right _ _ (by omega), Nat.div_eq_of_lt hr, Nat.zero_add, Nat.add_mul_mod_self_right, Nat.mod_eq_of_lt hr]
  have hcl : c < blen K B s j := by omega
  have e1 : (i * blen K B s j + c) / blen K B s j = i := by rw [Nat.add_comm, Nat.add_mul_div_right _ _ (by omega), Nat.div_eq_of_lt hcl, Nat.zero_add]
  have e2 : (i * blen K B s j + c) % blen K B s j = c := by rw [Nat.add_comm, Nat.add_mul_mod_self_right, Nat.mod_eq_of_lt hcl]
  rw [e1, e2]
end Go.Proofs.Ytjaaldandgfkgaa

/- Plain: what Join answers is one; its bytes are below 256. Conditions: as the theorems have them. -/
namespace Go.Proofs.Ytjaaldandgfkgaa
open Go.RowKit

theorem join_uniq {n : Nat} {H : Nat → Hd} {BL : Nat → List (List Nat)} {er er' : Int} {l l' : List Nat} (h1 : LookE n H BL er) (h1' : LookE n H BL er') (h2 : er ≠ 0 → l = []) (h2' : er' ≠ 0 → l' = [])
    (h3 : er = 0 → ∃ k, FstS n H k ∧ JnL n H BL (H k) l) (h3' : er' = 0 → ∃ k, FstS n H k ∧ JnL n H BL (H k) l') : er = er' ∧ l = l' := by
  have e := h1.uniq h1'
  subst e
  refine ⟨rfl, ?_⟩
  by_cases h0 : er = 0
  · obtain ⟨k, hk, hj⟩ := h3 h0
    obtain ⟨k', hk', hj'⟩ := h3' h0
    obtain rfl := hk.uniq hk'
    rcases h1 with ⟨_, e⟩ | ⟨k2, hk2, hz⟩
    · rw [h0] at e; cases e
    · obtain rfl := hk.uniq hk2
      rcases hz with ⟨a, e⟩ | ⟨a, b, e⟩ | ⟨a, b, t, ht, hu, hg, hc⟩ | ⟨a, b, c, d, e⟩ | ⟨a, b, c, d, e⟩
      · exact absurd (e.symm.trans h0) a
      · rw [h0] at e; cases e
      · rcases hc with ⟨_, e⟩ | ⟨_, _, e⟩ <;> (rw [h0] at e; cases e)
      · rw [h0] at e; cases e
      · exact hj.uniq a b d hj'
  · rw [h2 h0, h2' h0]
theorem JnL.lt {n : Nat} {H : Nat → Hd} {BL : Nat → List (List Nat)} {Z : Hd} {l : List Nat} (h : JnL n H BL Z l) : ∀ x ∈ l, x < 256 := by
  obtain ⟨O, _, rfl⟩ := h
  exact mkL_lt fun i _ => jnB_lt i
end Go.Proofs.Ytjaaldandgfkgaa
