/- The word of a sum, of scaled rows, ; in plain. Conditions: none. -/
import Derived.Test.YtjaaldandgfkgaaREnp
import Derived.Test.YtjaaldandgfkgaaJnU
import Derived.Test.YtjaaldandgfkgaaReb
namespace Go.Proofs.Ytjaaldandgfkgaa
open Go.RowKit

theorem el_fin (x : Fin 256) : el x.val = x := Fin.ext (el_val x.isLt)
theorem wrd_el {k : Nat} {g : Nat → Nat → Nat} {i c : Nat} : el (wrd k g i c) = gE.s k (fun t => gE.m (gE.cM el k i t) (el (g t c))) := el_fin _
theorem wrd_plus {k : Nat} {a b : Nat → Nat → Nat} {i c : Nat} : wrd k (fun j c => (gE.a (el (a j c)) (el (b j c))).val) i c = (gE.a (el (wrd k a i c)) (el (wrd k b i c))).val := by
  rw [wrd_el, wrd_el, ← gE.s_a]
  show (gE.s k _).val = _
  rw [gE.s_congr (g := fun t => gE.a (gE.m (gE.cM el k i t) (el (a t c))) (gE.m (gE.cM el k i t) (el (b t c)))) fun t _ => by rw [el_fin, gE.dist]]
theorem wrd_scale {k : Nat} {a : Nat → Nat → Nat} {s : Fin 256} {i c : Nat} : wrd k (fun j c => (gE.m (el (a j c)) s).val) i c = (gE.m (el (wrd k a i c)) s).val := by
  rw [wrd_el, gE.s_m']
  show (gE.s k _).val = _
  rw [gE.s_congr (g := fun t => gE.m (gE.m (gE.cM el k i t) (el (a t c))) s) fun t _ => by rw [el_fin, gE.m_assoc]]
theorem wrd_lo {k : Nat} {a : Nat → Nat → Nat} {i c : Nat} (hi : i < k) (h : a i c < 256) : wrd k a i c = a i c := by
  unfold wrd
  rw [gE.s_one hi]
  · show (gE.m (if i < k then gE.idm i i else _) _).val = _
    rw [if_pos hi]
    unfold Fd.idm
    rw [if_pos rfl, gE.u_m, el_val h]
  · intro j _ hne
    show gE.m (if i < k then gE.idm i j else _) _ = _
    rw [if_pos hi]
    unfold Fd.idm
    rw [if_neg (fun e => hne e.symm), gE.z_m]
end Go.Proofs.Ytjaaldandgfkgaa

/- What Join makes of the shards of an object, K of them or more, is the object; plain. Conditions: as the theorems have them. -/
namespace Go.Proofs.Ytjaaldandgfkgaa
open Go.RowKit

/-- The shares of k rows of a word make every row of it. -/
theorem shp_word {k n i : Nat} {a : Nat → Nat} {o : Nat → Fin 256} {g : Nat → Nat} {D : Nat → Nat → Nat} {c : Nat} (hk : k ≤ n) (hn : n ≤ 255) (hi : i < n) (ha : ∀ t, t < k → a t < n) (hinj : ∀ s t, s < k → t < k → a s = a t → s = t)
    (ho : gE.ShP (fun t => el (a t)) k (el i) o) (hg : ∀ t, t < k → g t = wrd k D (a t) c) : (gE.s k fun t => gE.m (o t) (el (g t))).val = wrd k D i c := by
  have h2 : gE.s k (fun t => gE.m (o t) (el (g t))) = gE.s k fun t => gE.s k fun j => gE.m (gE.m (o t) (gE.cM el k (a t) j)) (el (D j c)) := gE.s_congr fun t ht => by
    rw [hg t ht, wrd_el, gE.s_m]; exact gE.s_congr fun j _ => (gE.m_assoc _ _ _).symm
  have h1 : gE.s k (fun t => gE.m (o t) (el (g t))) = gE.s k fun j => gE.m (gE.cM el k i j) (el (D j c)) := by
    rw [h2, gE.s_swap]
    refine gE.s_congr fun j hj => ?_
    rw [← gE.s_m', Fd.shares_rows (F := gE) (k := k) (n := n) (i := i) (q := el) (at' := a) hk hi (fun x y hx hy e => el_inj (by omega) (by omega) e) ha hinj ho j hj]
  rw [h1]; rfl
theorem pos_at {K B s p : Nat} (_hK : 1 ≤ K) (_hB : 1 ≤ B) (_hp : p < s) : p / (K * B) * (K * B) + p % (K * B) / blen K B s (p / (K * B)) * blen K B s (p / (K * B)) + p % (K * B) % blen K B s (p / (K * B)) = p := by
  have h1 := Nat.div_add_mod' (p % (K * B)) (blen K B s (p / (K * B)))
  have h2 := Nat.div_add_mod' p (K * B)
  omega
/-- The shards of an object, some of them missing: Join's bytes are the object's. -/
theorem jn_back {n : Nat} {H : Nat → Hd} {BL : Nat → List (List Nat)} {Z : Hd} {l l' : List Nat} (hE : checkE Z = 0) (hn : n = shN Z) (hc : Z.K.toNat ≤ cntG H n) (hs : Z.size = (l.length : Int)) (hl : ∀ x ∈ l, x < 256)
    (hB : ∀ t, t < n → gone (H t) = false → BL t = spL Z.K.toNat Z.B.toNat l t) (h : JnL n H BL Z l') : l' = l := by
  obtain ⟨O, hO, rfl⟩ := h
  have hn255 := shN_255 hE
  obtain ⟨⟨m1, m2, m3, m4, m5, m6⟩, _, _, zE, _⟩ := check_facts hE
  have hK : 1 ≤ Z.K.toNat := by omega
  have hBp : 1 ≤ Z.B.toNat := by omega
  have hKn : Z.K.toNat ≤ n := by rw [hn]; unfold shN; omega
  have hsz : Z.size.toNat = l.length := by rw [hs]; rfl
  refine (mkL_ext hsz.symm fun p hp => ?_).symm
  rw [hsz] at hp ⊢
  obtain ⟨hj, hi, hcc⟩ := row_at (K := Z.K.toNat) (B := Z.B.toNat) (s := l.length) (p := p) hK hBp hp
  unfold jnB
  have hpk : ∀ t, t < Z.K.toNat → pkA (lsG H) n t < n ∧ gone (H (pkA (lsG H) n t)) = false := fun t ht => pkA_gone (by omega)
  rw [shp_word (k := Z.K.toNat) (n := n) (D := sby Z.K.toNat Z.B.toNat l (p / (Z.K.toNat * Z.B.toNat))) (c := p % (Z.K.toNat * Z.B.toNat) % blen Z.K.toNat Z.B.toNat l.length (p / (Z.K.toNat * Z.B.toNat))) hKn (by omega) (Nat.lt_of_lt_of_le hi hKn) (fun t ht => (hpk t ht).1)
    (fun s t hs ht e => pkA_inj (by rw [pkN_cntG]; omega) (by rw [pkN_cntG]; omega) e) (hO _ (Nat.lt_of_lt_of_le hi hKn)) (fun t ht => by
      rw [hB _ (hpk t ht).1 (hpk t ht).2]
      unfold spL
      rw [spT_get hj]
      unfold spB
      rw [mkL_get hcc])]
  rw [wrd_lo hi (sby_lt hl _ _ _)]
  unfold sby
  rw [pos_at hK hBp hp]
end Go.Proofs.Ytjaaldandgfkgaa
