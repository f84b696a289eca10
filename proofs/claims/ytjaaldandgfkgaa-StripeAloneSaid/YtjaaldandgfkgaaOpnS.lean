/- K shards stand, of any blocks: the object that Join makes of them has them; the order of places; plain. Conditions: as the theorems have them. -/
import Derived.Test.YtjaaldandgfkgaaAnk0
namespace Go.Proofs.Ytjaaldandgfkgaa
open Go.RowKit

/-- What Rebuild answers has the rows that it was handed. -/
theorem reb_has {k n : Nat} {L : Nat → Nat} {g : Nat → Nat → Nat} {len : Nat} {W : Nat → Nat → Fin 256} (hn : n ≤ 255) (hkN : k ≤ pkN L n) (hW : RebW k n L g len W) {s : Nat} (hs : s < k) {c : Nat} (hc : c < len) : W (pkA L n s) c = el (g (pkA L n s) c) := by
  have hO : ∀ i, ∃ o, gE.ShP (fun t => el (pkA L n t)) k (el i) o := fun i => shP_ex _ _ _
  obtain ⟨O, hO⟩ := Classical.axiomOfChoice hO
  have ha := fun t (ht : t < k) => (pkA_ok L n t (by omega)).1
  rw [hW O (fun i _ => hO i) _ (ha s hs) c hc]
  rcases hO (pkA L n s) with ⟨i0, h0, h1, _, h3⟩ | ⟨h1, _⟩
  · have e0 : i0 = s := pkA_inj (L := L) (n := n) (by omega) (by omega) (el_inj (by have := ha i0 h0; omega) (by have := ha s hs; omega) h1)
    subst e0
    rw [gE.s_one h0]
    · rw [h3 i0 h0, if_pos rfl, gE.u_m]
    · intro i hi hne
      rw [h3 i hi, if_neg hne, gE.z_m]
  · exact absurd rfl (h1 s hs)
/-- What Rebuild answers is a word. -/
theorem reb_is {k n : Nat} {L : Nat → Nat} {g : Nat → Nat → Nat} {len : Nat} {W : Nat → Nat → Fin 256} (hk : k ≤ n) (hn : n ≤ 255) (hkN : k ≤ pkN L n) (hW : RebW k n L g len W) :
    ∀ i, i < n → ∀ c, c < len → wrd k (fun i c => (W i c).val) i c = (W i c).val := fun i hi c hc => by
  have hO : ∀ i, ∃ o, gE.ShP (fun t => el (pkA L n t)) k (el i) o := fun i => shP_ex _ _ _
  obtain ⟨O, hO⟩ := Classical.axiomOfChoice hO
  have ha := fun t (ht : t < k) => (pkA_ok L n t (by omega)).1
  have hq : ∀ s t, s < k → t < k → (fun t => el (pkA L n t)) s = (fun t => el (pkA L n t)) t → s = t := fun s t hs ht e => pkA_inj (L := L) (n := n) (by omega) (by omega) (el_inj (by have := ha s hs; omega) (by have := ha t ht; omega) e)
  have hq0 : ∀ s t, s < k → t < k → el s = el t → s = t := fun s t hs ht e => el_inj (by omega) (by omega) e
  have hK : gE.Kills k k (fun t => gE.a (gE.s k fun j => gE.m (gE.cM el k i j) (O j t)) (O i t)) (fun t => el (pkA L n t)) := fun e he => by
    have h1 : gE.s k (fun t => gE.m (gE.a (gE.s k fun j => gE.m (gE.cM el k i j) (O j t)) (O i t)) (gE.pow (el (pkA L n t)) e)) = gE.a (gE.s k fun t => gE.s k fun j => gE.m (gE.cM el k i j) (gE.m (O j t) (gE.pow (el (pkA L n t)) e))) (gE.s k fun t => gE.m (O i t) (gE.pow (el (pkA L n t)) e)) := by
      rw [← gE.s_a]
      refine gE.s_congr fun t _ => ?_
      rw [gE.dist', gE.s_m']
      congr 1
      exact gE.s_congr fun j _ => gE.m_assoc _ _ _
    rw [h1, gE.s_swap, Fd.shP_pow hq (hO i) e he]
    have h2 : (gE.s k fun j => gE.s k fun t => gE.m (gE.cM el k i j) (gE.m (O j t) (gE.pow (el (pkA L n t)) e))) = gE.pow (el i) e := by
      rw [← Fd.cM_pow (F := gE) (k := k) (q := el) (i := i) (fun x y hx hy e => el_inj (by omega) (by omega) e) e he]
      exact gE.s_congr fun j _ => by rw [← gE.s_m, Fd.shP_pow hq (hO j) e he]
    rw [h2, gE.a_self]
  have h0 := hK.zero hq
  have h1 : gE.s k (fun j => gE.m (gE.cM el k i j) (el ((W j c).val))) = W i c := by
    have h2 : gE.s k (fun j => gE.m (gE.cM el k i j) (el ((W j c).val))) = gE.s k fun j => gE.s k fun t => gE.m (gE.m (gE.cM el k i j) (O j t)) (el (g (pkA L n t) c)) := gE.s_congr fun j hj => by
      rw [show el ((W j c).val) = W j c from Fin.ext (el_val (W j c).isLt), hW O (fun i _ => hO i) j (by omega) c hc, gE.s_m]
      exact gE.s_congr fun t _ => (gE.m_assoc _ _ _).symm
    rw [h2, gE.s_swap, hW O (fun i _ => hO i) i hi c hc]
    refine gE.s_congr fun t ht => ?_
    rw [← gE.s_m', gE.eq_of_a (h0 t ht)]
  show (gE.s k (fun j => gE.m (gE.cM el k i j) (el ((W j c).val)))).val = _
  rw [h1]
theorem pkA_sur {L : Nat → Nat} : ∀ {n i : Nat}, i < n → 0 < L i → ∃ t, t < pkN L n ∧ pkA L n t = i
  | 0, _, h, _ => absurd h (Nat.not_lt_zero _)
  | n + 1, i, h, hl => by
    by_cases e : i = n
    · subst e
      exact ⟨pkN L i, by rw [pkN_yes hl]; omega, pkA_hi hl⟩
    · obtain ⟨t, h1, h2⟩ := pkA_sur (n := n) (i := i) (by omega) hl
      refine ⟨t, ?_, by rw [pkA_lo h1, h2]⟩
      by_cases h0 : 0 < L n
      · rw [pkN_yes h0]; omega
      · rw [pkN_no h0]; exact h1
theorem cntB_new (P : Nat → Bool) {q : Nat} (hP : P q = false) : ∀ n, cntB (fun j => if j = q then true else P j) n = cntB P n + (if q < n then 1 else 0)
  | 0 => rfl
  | n + 1 => by
    have ih := cntB_new P hP n
    unfold cntB
    rw [ih]
    by_cases e : n = q
    · subst e
      simp only [hP, if_true]
      rw [if_neg (Nat.lt_irrefl _), if_pos (Nat.lt_succ_self _)]
      simp
    · simp only [if_neg e]
      have hif : (if q < n + 1 then 1 else 0) = (if q < n then 1 else 0) := by
        by_cases h : q < n
        · rw [if_pos h, if_pos (by omega)]
        · rw [if_neg h, if_neg (by omega)]
      rw [hif]
      omega
/-- The order of the places: first those that are marked, then the others. -/
def OrdI (P : Nat → Bool) (n T i cnt : Nat) (ord : Nat → Nat) : Prop :=
  cnt = (if T = 0 then cntB P i else cntB P n + cntB (fun x => !P x) i) ∧ (∀ t, t < cnt → ord t < n ∧ ((P (ord t) = true ∧ (T = 0 → ord t < i)) ∨ (P (ord t) = false ∧ T ≠ 0 ∧ ord t < i))) ∧ ∀ s t, s < cnt → t < cnt → ord s = ord t → s = t
theorem OrdI.start (P : Nat → Bool) (n : Nat) (ord : Nat → Nat) : OrdI P n 0 0 0 ord := ⟨rfl, fun _ h => absurd h (Nat.not_lt_zero _), fun _ _ h => absurd h (Nat.not_lt_zero _)⟩
theorem OrdI.no {P : Nat → Bool} {n T i cnt : Nat} {ord : Nat → Nat} (h : OrdI P n T i cnt ord) (hT : P i ≠ decide (T = 0)) : OrdI P n T (i + 1) cnt ord := by
  obtain ⟨h1, h2, h3⟩ := h
  refine ⟨?_, fun t ht => ?_, h3⟩
  · rw [h1]
    by_cases e : T = 0
    · rw [if_pos e, if_pos e]; show _ = cntB P i + (if P i = true then 1 else 0)
      rw [if_neg (by intro h; rw [h] at hT; simp [e] at hT)]; rfl
    · rw [if_neg e, if_neg e]; show _ = cntB P n + (cntB (fun x => !P x) i + (if (!P i) = true then 1 else 0))
      have : P i = true := by cases hp : P i <;> simp [hp, e] at hT ⊢
      rw [this]; rfl
  · obtain ⟨a, b | ⟨b, c, d⟩⟩ := h2 t ht
    · exact ⟨a, .inl ⟨b.1, fun e => by have := b.2 e; omega⟩⟩
    · exact ⟨a, .inr ⟨b, c, by omega⟩⟩
theorem OrdI.yes {P : Nat → Bool} {n T i cnt : Nat} {ord : Nat → Nat} (h : OrdI P n T i cnt ord) (hi : i < n) (hT : P i = decide (T = 0)) : OrdI P n T (i + 1) (cnt + 1) (fun t => if t = cnt then i else ord t) := by
  obtain ⟨h1, h2, h3⟩ := h
  have hne : ∀ t, t < cnt → ord t ≠ i := fun t ht e => by
    obtain ⟨a, b | ⟨b, c, d⟩⟩ := h2 t ht
    · rw [e, hT] at b
      have := b.2 (by simpa using b.1)
      omega
    · omega
  refine ⟨?_, fun t ht => ?_, fun s t hs ht e => ?_⟩
  · rw [h1]
    by_cases e : T = 0
    · rw [if_pos e, if_pos e]; show _ = cntB P i + (if P i = true then 1 else 0)
      rw [if_pos (by rw [hT]; simp [e])]
    · rw [if_neg e, if_neg e]; show _ = cntB P n + (cntB (fun x => !P x) i + (if (!P i) = true then 1 else 0))
      have : P i = false := by rw [hT]; simp [e]
      rw [this]; simp only [Bool.not_false, if_true]; omega
  · show (if t = cnt then i else ord t) < n ∧ ((P (if t = cnt then i else ord t) = true ∧ (T = 0 → (if t = cnt then i else ord t) < i + 1)) ∨ (P (if t = cnt then i else ord t) = false ∧ T ≠ 0 ∧ (if t = cnt then i else ord t) < i + 1))
    by_cases ec : t = cnt
    · rw [if_pos ec]
      refine ⟨hi, ?_⟩
      by_cases e : T = 0
      · exact .inl ⟨by rw [hT]; simp [e], fun _ => by omega⟩
      · exact .inr ⟨by rw [hT]; simp [e], e, by omega⟩
    · rw [if_neg ec]
      obtain ⟨a, b | ⟨b, c, d⟩⟩ := h2 t (by omega)
      · exact ⟨a, .inl ⟨b.1, fun e => by have := b.2 e; omega⟩⟩
      · exact ⟨a, .inr ⟨b, c, by omega⟩⟩
  · replace e : (if s = cnt then i else ord s) = (if t = cnt then i else ord t) := e
    by_cases e1 : s = cnt <;> by_cases e2 : t = cnt
    · omega
    · rw [if_pos e1, if_neg e2] at e; exact absurd e.symm (hne t (by omega))
    · rw [if_neg e1, if_pos e2] at e; exact absurd e (hne s (by omega))
    · rw [if_neg e1, if_neg e2] at e; exact h3 s t (by omega) (by omega) e
theorem OrdI.turn {P : Nat → Bool} {n cnt : Nat} {ord : Nat → Nat} (h : OrdI P n 0 n cnt ord) : OrdI P n 1 0 cnt ord := by
  obtain ⟨h1, h2, h3⟩ := h
  refine ⟨by rw [h1]; rfl, fun t ht => ?_, h3⟩
  obtain ⟨a, b | ⟨b, c, d⟩⟩ := h2 t ht
  · exact ⟨a, .inl ⟨b.1, fun e => by omega⟩⟩
  · exact absurd rfl c
theorem OrdI.last {P : Nat → Bool} {n cnt : Nat} {ord : Nat → Nat} (h : OrdI P n 1 n cnt ord) : cnt = n ∧ (∀ t, t < n → ord t < n) ∧ ∀ s t, s < n → t < n → ord s = ord t → s = t := by
  obtain ⟨h1, h2, h3⟩ := h
  have e : cnt = n := by rw [h1]; show cntB P n + cntB (fun x => !P x) n = n; have := cntB_not P n; omega
  rw [e] at h2 h3
  exact ⟨e, fun t ht => (h2 t ht).1, h3⟩
theorem OrdI.le {P : Nat → Bool} {n T i cnt : Nat} {ord : Nat → Nat} (h : OrdI P n T i cnt ord) (hi : i ≤ n) : cnt ≤ n + n := by
  have a := cntB_not P n; have b := cntB_not P i
  have c : ∀ i j, i ≤ j → cntB P i ≤ cntB P j := fun i j hij => by
    induction hij with
    | refl => exact Nat.le_refl _
    | step _ ih => exact Nat.le_trans ih (by show _ ≤ cntB P _ + _; omega)
  have := c i n hi
  rw [h.1]; split <;> omega
/-- The places that are lost: those from the first on, so many. -/
def lostQ (ord : Nat → Nat) : Nat → Nat → Bool
  | 0 => fun _ => false
  | j + 1 => fun i => if i = ord (j + 1) then true else lostQ ord j i
theorem lostQ_no {ord : Nat → Nat} {n : Nat} (hinj : ∀ s t, s < n → t < n → ord s = ord t → s = t) : ∀ {j s : Nat}, j < s → s < n → lostQ ord j (ord s) = false
  | 0, _, _, _ => rfl
  | j + 1, s, h, hs => by
    show (if ord s = ord (j + 1) then true else lostQ ord j (ord s)) = false
    rw [if_neg (fun e => by have := hinj _ _ hs (by omega) e; omega), lostQ_no hinj (by omega) hs]
theorem lostQ_zero {ord : Nat → Nat} {n : Nat} (hinj : ∀ s t, s < n → t < n → ord s = ord t → s = t) : ∀ {j : Nat}, j < n → lostQ ord j (ord 0) = false
  | 0, _ => rfl
  | j + 1, h => by
    show (if ord 0 = ord (j + 1) then true else lostQ ord j (ord 0)) = false
    rw [if_neg (fun e => by have := hinj 0 (j + 1) (by omega) h e; omega), lostQ_zero hinj (by omega)]
theorem lostQ_cnt {ord : Nat → Nat} {n : Nat} (hlt : ∀ t, t < n → ord t < n) (hinj : ∀ s t, s < n → t < n → ord s = ord t → s = t) : ∀ {j : Nat}, j < n → cntB (lostQ ord j) n = j
  | 0, _ => cntB_zero n
  | j + 1, h => by
    show cntB (fun i => if i = ord (j + 1) then true else lostQ ord j i) n = _
    rw [cntB_new _ (lostQ_no hinj (Nat.lt_succ_self j) h) n, if_pos (hlt _ h), lostQ_cnt hlt hinj (by omega)]
theorem lostQ_step {ord : Nat → Nat} : ∀ {i : Nat}, 1 ≤ i → lostQ ord (i + 1 - 1) = fun x => if x = ord i then true else lostQ ord (i - 1) x
  | 0, h => absurd h (by decide)
  | _ + 1, _ => rfl
def opT (P : Nat → Bool) (n : Nat) : Nat → Nat → (Nat → Nat) → Prop
  | 0, c, o => OrdI P n 0 0 c o
  | 1, c, o => OrdI P n 1 0 c o
  | _, c, o => OrdI P n 1 n c o
theorem wrd_congr {k : Nat} {a b : Nat → Nat → Nat} {i c : Nat} (h : ∀ j, j < k → a j c = b j c) : wrd k a i c = wrd k b i c := by
  unfold wrd
  rw [gE.s_congr (g := fun t => gE.m (gE.cM el k i t) (el (b t c))) fun t ht => by rw [h t ht]]
theorem memL_get' {LL : List (List Nat)} {r : Nat} (h : r < LL.length) : LL.getD r [] ∈ LL := by
  rw [List.getD_eq_getElem?_getD, List.getElem?_eq_getElem h]
  exact List.getElem_mem h
theorem ll_ext' {a b : List (List Nat)} (h : a.length = b.length) (e : ∀ r, r < a.length → a.getD r [] = b.getD r []) : a = b := by
  apply List.ext_getElem h
  intro r h1 h2
  have := e r h1
  simpa [List.getD_eq_getElem?_getD, h1, h2] using this
theorem mul_back {K b n : Nat} (h1 : n ≤ K * b) (h2 : K * b < n + K) (hd : K ∣ n) : K * b = n := by
  obtain ⟨q, rfl⟩ := hd
  have h3 : q ≤ b := by
    rcases Nat.lt_or_ge b q with h | h
    · have := Nat.mul_le_mul_left K (show b + 1 ≤ q from h)
      rw [Nat.mul_add] at this
      rcases Nat.eq_zero_or_pos K with h0 | h0
      · subst h0; omega
      · omega
    · exact h
  have h4 : b ≤ q := by
    rcases Nat.lt_or_ge q b with h | h
    · have := Nat.mul_le_mul_left K (show q + 1 ≤ b from h)
      rw [Nat.mul_add] at this
      omega
    · exact h
  have : q = b := by omega
  rw [this]
theorem lng_dvd {K B s j : Nat} (hd : K ∣ s) : K ∣ lng (K * B) s j := by
  unfold lng
  have h1 : K ∣ s - j * (K * B) := Nat.dvd_sub hd (Nat.dvd_trans (Nat.dvd_mul_right K B) (Nat.dvd_mul_left (K * B) j))
  rcases Nat.le_total (s - j * (K * B)) (K * B) with h | h
  · rw [Nat.min_eq_left h]; exact h1
  · rw [Nat.min_eq_right h]; exact Nat.dvd_mul_right K B
/-- The shards that stand are those of the object that Join makes. -/
theorem opn_split {n : Nat} {H : Nat → Hd} {BL : Nat → List (List Nat)} {Z : Hd} {l' : List Nat} (hE : checkE Z = 0) (hn : n = shN Z) (hc : cntG H n = Z.K.toNat) (hd : Z.K.toNat ∣ Z.size.toNat)
    (hB : ∀ t, t < n → gone (H t) = false → fitS Z.K.toNat Z.B.toNat Z.size.toNat (BL t) ∧ ∀ l ∈ BL t, ∀ x ∈ l, x < 256) (h : JnL n H BL Z l') : l'.length = Z.size.toNat ∧ ∀ t, t < n → gone (H t) = false → spL Z.K.toNat Z.B.toNat l' t = BL t := by
  obtain ⟨O, hO, rfl⟩ := h
  obtain ⟨⟨m1, m2, m3, m4, m5, m6⟩, _⟩ := check_facts hE
  have hn255 := shN_255 hE
  generalize hs : Z.size.toNat = s at *
  have hK : 1 ≤ Z.K.toNat := by omega
  have hBp : 1 ≤ Z.B.toNat := by omega
  have hKn : Z.K.toNat ≤ n := by rw [hn]; unfold shN; omega
  generalize Z.K.toNat = K at *
  generalize Z.B.toNat = B at *
  have hlen : (mkL s (jnB K B s n H BL O)).length = s := mkL_length _ _
  refine ⟨hlen, fun t ht hg => ?_⟩
  obtain ⟨hf, hx⟩ := hB t ht hg
  refine ll_ext' (by unfold spL; rw [spT_length, hlen]; exact hf.1.symm) fun j hj => ?_
  unfold spL at hj ⊢
  rw [spT_length, hlen] at hj
  rw [spT_get (by rw [hlen]; exact hj)]
  unfold spB
  rw [hlen]
  have hjl : j < (BL t).length := by rw [hf.1]; exact hj
  obtain ⟨b1, b2, b3, b4, b5⟩ := blen_facts (K := K) (B := B) hK hBp hj
  have hKb : K * blen K B s j = lng (K * B) s j := mul_back b4 b5 (lng_dvd hd)
  have hjs := (lt_nblk (S := K * B) (s := s) (j := j) (Nat.mul_pos hK hBp)).1 hj
  have hW : RebW K n (lsG H) (fun t c => ((BL t).getD j []).getD c 0) (blen K B s j) (fun i c => gE.s K fun t => gE.m (O i t) (el (((BL (pkA (lsG H) n t)).getD j []).getD c 0))) := fun O' hO' i hi c _ => gE.s_congr fun q hq => by
    rw [Fd.shP_uniq (F := gE) (fun a b ha hb e => pkA_inj (L := lsG H) (n := n) (by rw [pkN_cntG]; omega) (by rw [pkN_cntG]; omega) (el_inj (by have := (pkA_gone (H := H) (n := n) (t := a) (by omega)).1; omega) (by have := (pkA_gone (H := H) (n := n) (t := b) (by omega)).1; omega) e)) (hO i hi) (hO' i hi) q hq]
  have hkN : K ≤ pkN (lsG H) n := by rw [pkN_cntG]; omega
  refine (mkL_ext (hf.2 j hjl) fun c hcc => ?_).symm
  have hsb : ∀ i, i < K → sby K B (mkL s (jnB K B s n H BL O)) j i c = (gE.s K fun t => gE.m (O i t) (el (((BL (pkA (lsG H) n t)).getD j []).getD c 0))).val := fun i hi => by
    unfold sby
    rw [hlen]
    have h1 : (i + 1) * blen K B s j ≤ K * blen K B s j := Nat.mul_le_mul_right _ hi
    rw [Nat.add_mul] at h1
    have hlS : lng (K * B) s j ≤ K * B := by unfold lng; omega
    have hls : lng (K * B) s j ≤ s - j * (K * B) := by unfold lng; omega
    have hin : i * blen K B s j + c < K * B := by omega
    have hp : j * (K * B) + i * blen K B s j + c < s := by omega
    rw [mkL_get hp]
    have e0 : (j * (K * B) + i * blen K B s j + c) / (K * B) = j := by
      rw [Nat.add_assoc, Nat.mul_comm j, Nat.mul_add_div (by omega), Nat.div_eq_of_lt hin, Nat.add_zero]
    have e1 : (j * (K * B) + i * blen K B s j + c) % (K * B) = i * blen K B s j + c := by
      rw [Nat.add_assoc, Nat.mul_comm j, Nat.mul_add_mod, Nat.mod_eq_of_lt hin]
    unfold jnB
    rw [e0, e1]
    have e2 : (i * blen K B s j + c) / blen K B s j = i := by
      rw [Nat.mul_comm i, Nat.mul_add_div (by omega), Nat.div_eq_of_lt hcc, Nat.add_zero]
    have e3 : (i * blen K B s j + c) % blen K B s j = c := by
      rw [Nat.mul_comm i, Nat.mul_add_mod, Nat.mod_eq_of_lt hcc]
    rw [e2, e3]
  rw [wrd_congr (b := fun i c => (gE.s K fun t => gE.m (O i t) (el (((BL (pkA (lsG H) n t)).getD j []).getD c 0))).val) hsb, reb_is hKn (by omega) hkN hW t ht c hcc]
  obtain ⟨s0, hs0, hs1⟩ := pkA_sur (L := lsG H) (n := n) ht (ls_pos.2 hg)
  have hs2 : s0 < K := by rw [pkN_cntG] at hs0; omega
  have h9 := reb_has (by omega) hkN hW hs2 hcc
  rw [hs1] at h9
  rw [h9]
  refine (el_val ?_).symm
  exact getD_lt (hx _ (memL_get' hjl)) (by rw [hf.2 j hjl]; exact hcc)
end Go.Proofs.Ytjaaldandgfkgaa
