/- What Rebuild makes of a word of which rows are lost, in plain; the code's two numbers. Conditions: none. -/
import Derived.Test.YthodpgkelmalmaaLawReb
import Derived.Test.YthodpgkelmalmaaPlac
import Derived.Test.YthodpgkelmalmaaPlus
import Derived.Test.YthodpgkelmalmaaCode4
import Derived.Test.YthodpgkelmalmaaChk
namespace Go.Proofs.Ythodpgkelmalmaa
open Go.RowKit

/-- The code's two numbers. -/
def fitK (K : Int) : Nat := 1 + pickN K 254
def fitM (K M : Int) : Nat := 1 + pickN M (min (fitK K) (255 - fitK K))
theorem fit_facts (K M : Int) : 1 ≤ fitM K M ∧ fitM K M ≤ fitK K ∧ fitK K ≤ 254 ∧ fitK K + fitM K M ≤ 255 := by
  unfold fitM fitK
  have h1 := pickN_lt (k := K) (n := 254) (by decide)
  have h2 := pickN_lt (k := M) (n := min (1 + pickN K 254) (255 - (1 + pickN K 254))) (by omega)
  omega
theorem pkN_cnt (L : Nat → Nat) : ∀ n, pkN L n = cntB (fun i => decide (0 < L i)) n
  | 0 => rfl
  | n + 1 => by
    by_cases h : 0 < L n
    · rw [pkN_yes h, pkN_cnt L n]
      show _ = cntB (fun i => decide (0 < L i)) n + (if decide (0 < L n) = true then 1 else 0)
      rw [if_pos (decide_eq_true h)]
    · rw [pkN_no h, pkN_cnt L n]
      show _ = cntB (fun i => decide (0 < L i)) n + (if decide (0 < L n) = true then 1 else 0)
      rw [if_neg (by simpa using h)]; rfl
/-- The rows' lengths when some are lost. -/
def lostL (P : Nat → Bool) (len : Nat) (i : Nat) : Nat := if P i then 0 else len
theorem lost_cnt {P : Nat → Bool} {len n m : Nat} (hl : 0 < len) (h : cntB P n ≤ m) : n - m ≤ pkN (lostL P len) n := by
  rw [pkN_cnt]
  have e : (fun i => decide (0 < lostL P len i)) = fun i => !P i := by
    funext i; unfold lostL
    cases P i <;> simp [hl]
  rw [e]
  have := cntB_not P n
  omega
theorem lost_len {P : Nat → Bool} {len n t : Nat} (h : t < pkN (lostL P len) n) : lostL P len (pkA (lostL P len) n t) = len ∧ P (pkA (lostL P len) n t) = false := by
  have h1 := (pkA_ok (lostL P len) n t h).2
  unfold lostL at h1 ⊢
  cases e : P (pkA (fun i => if P i = true then 0 else len) n t)
  · exact ⟨by simp, rfl⟩
  · rw [if_pos e] at h1; omega
/-- What Rebuild answers of rows that are a word's is the word. -/
theorem reb_word {k n : Nat} {L : Nat → Nat} {g : Nat → Nat → Nat} {len : Nat} {W : Nat → Nat → Fin 256} {D : Nat → Nat → Nat} (hk : k ≤ n) (hn : n ≤ 255) (hkN : k ≤ pkN L n) (hW : RebW k n L g len W) (hg : ∀ t, t < k → ∀ c, c < len → g (pkA L n t) c = wrd k D (pkA L n t) c) :
    ∀ i, i < n → ∀ c, c < len → (W i c).val = wrd k D i c := fun i hi c hc => by
  have hO : ∀ i, ∃ o, gE.ShP (fun t => el (pkA L n t)) k (el i) o := fun i => shares_ex _ _ _
  obtain ⟨O, hO⟩ := Classical.axiomOfChoice hO
  rw [hW O (fun i _ => hO i) i hi c hc]
  have h1 : gE.s k (fun t => gE.m (O i t) (el (g (pkA L n t) c))) = gE.s k fun j => gE.m (gE.cM el k i j) (el (D j c)) := by
    have h2 : gE.s k (fun t => gE.m (O i t) (el (g (pkA L n t) c))) = gE.s k fun t => gE.s k fun j => gE.m (gE.m (O i t) (gE.cM el k (pkA L n t) j)) (el (D j c)) := gE.s_congr fun t ht => by
      rw [hg t ht c hc, wrd_el, gE.s_m]; exact gE.s_congr fun j _ => (gE.m_assoc _ _ _).symm
    rw [h2, gE.s_swap]
    refine gE.s_congr fun j hj => ?_
    rw [← gE.s_m', Fd.shares_rows (F := gE) (k := k) (n := n) (i := i) (q := el) (at' := pkA L n) hk hi (fun x y hx hy e => el_inj (by omega) (by omega) e) (fun t ht => (pkA_ok L n t (by omega)).1) (fun s t hs ht e => pkA_inj (by omega) (by omega) e) (hO i) j hj]
  rw [h1]; rfl
theorem wrd_wrd {k len : Nat} {D : Nat → Nat → Nat} (hD : ∀ j, j < k → ∀ c, c < len → D j c < 256) {i c : Nat} (hc : c < len) : wrd k (wrd k D) i c = wrd k D i c :=
  wrd_congr fun j hj => wrd_lo hj (hD j hj c hc)
theorem chE_word (n len : Nat) : chE n n (fun _ => len) = 0 := by
  unfold chE; rw [if_pos rfl, if_pos (evB_iff.2 fun _ _ => rfl)]
theorem chB_word {k n len : Nat} {D : Nat → Nat → Nat} (hD : ∀ j, j < k → ∀ c, c < len → D j c < 256) : chB k n n (fun _ => len) (wrd k D) = true := by
  unfold chB
  rw [decide_eq_true rfl, Bool.true_and, evB_iff.2 (fun _ _ => rfl), Bool.true_and]
  exact wordB_true fun i hi => by rw [strN_congr (fun c hc => wrd_wrd hD hc)]; exact beq_self_eq_true _
theorem same_lo {k len : Nat} {D : Nat → Nat → Nat} (hD : ∀ j, j < k → ∀ c, c < len → D j c < 256) : sameB k len (wrd k D) D = true :=
  (sameB_iff (fun _ _ _ _ => wrd_lt) hD).2 fun i hi c hc => wrd_lo hi (hD i hi c hc)
theorem Own.frz {w : World} {B e sz T c n : Nat} {f : Nat → List Value} (h : Own w B e sz (.slice (some ⟨T, 0, none⟩) n c) n f) (hn : 0 < n) (i : Nat) : w.frozen? ⟨T, i, none⟩ = false := by
  obtain ⟨g, c', e1, _, _, _, h2⟩ := h.form hn
  injection e1 with e1 _ _
  injection e1 with e1
  injection e1 with e1 _ _
  rw [e1]; exact h2 i
theorem Own.rdd {w : World} {B e n c : Nat} {A : Option Addr} {f : Nat → Value} (h : Own w B e 1 (.slice A n c) n fun i => [f i]) : Rd w A n f := by
  obtain ⟨A', c', e1, _, _, hr, _⟩ := h.rd
  injection e1 with e1 _ _
  rw [e1]; exact hr
/-- The list of rows while rows are being lost. -/
def lostF (P : Nat → Bool) (len : Nat) (S : Nat → Option Addr) (C : Nat → Nat) (i t : Nat) : Value := if t < i ∧ P t = true then .slice none 0 0 else .slice (S t) len (C t)
theorem lostF_no {P : Nat → Bool} {len : Nat} {S : Nat → Option Addr} {C : Nat → Nat} {i : Nat} (h : P i = false) (t : Nat) : lostF P len S C i t = lostF P len S C (i + 1) t := by
  unfold lostF
  by_cases e : t = i
  · rw [e, h]; simp
  · by_cases e2 : t < i ∧ P t = true
    · rw [if_pos e2, if_pos ⟨by omega, e2.2⟩]
    · rw [if_neg e2, if_neg (fun h => e2 ⟨by omega, h.2⟩)]
theorem lostF_yes {P : Nat → Bool} {len : Nat} {S : Nat → Option Addr} {C : Nat → Nat} {i : Nat} (h : P i = true) (t : Nat) : (if t = i then Value.slice none 0 0 else lostF P len S C i t) = lostF P len S C (i + 1) t := by
  unfold lostF
  by_cases e : t = i
  · rw [if_pos e, if_pos ⟨by omega, by rw [e]; exact h⟩]
  · rw [if_neg e]
    by_cases e2 : t < i ∧ P t = true
    · rw [if_pos e2, if_pos ⟨by omega, e2.2⟩]
    · rw [if_neg e2, if_neg (fun h => e2 ⟨by omega, h.2⟩)]
theorem lost_rdm {w : World} {B T cT n len : Nat} {P : Nat → Bool} {S : Nat → Option Addr} {C : Nat → Nat} {g : Nat → Nat → Nat} (h1 : Own w B 24 1 (.slice (some ⟨T, 0, none⟩) n cT) n (fun t => [lostF P len S C n t])) (h2 : ∀ t, t < n → Own w B 5 1 (.slice (S t) len (C t)) len (fun j => [.int .u8 (g t j : Nat)])) :
    RdM w (some ⟨T, 0, none⟩) n (lostL P len) (fun i c => .int .u8 (g i c : Nat)) :=
  ⟨fun t => if P t then none else S t, fun t => if P t then 0 else C t, h1.rdd.congr fun t ht => by
    show lostF P len S C n t = Value.slice (if P t then none else S t) (lostL P len t) (if P t then 0 else C t)
    unfold lostF lostL
    by_cases hPt : P t = true
    · rw [if_pos ⟨ht, hPt⟩, if_pos hPt, if_pos hPt, if_pos hPt]
    · rw [if_neg (fun h => hPt h.2), if_neg hPt, if_neg hPt, if_neg hPt], fun t ht => by
    show Rd w (if P t then none else S t) (lostL P len t) _
    unfold lostL
    by_cases hPt : P t = true
    · rw [if_pos hPt, if_pos hPt]; exact Rd.zero _ _ _
    · rw [if_neg hPt, if_neg hPt]; exact (h2 t ht).rdd⟩
theorem row_ne {w : World} {B T cT n len n' : Nat} {S : Option Addr} {C : Nat} {f : Nat → List Value} {g : Nat → List Value} (h1 : Own w B 24 1 (.slice (some ⟨T, 0, none⟩) n cT) n' f) (h2 : Own w B 5 1 (.slice S len C) len g) : (Value.slice S len C).ownBlock ≠ some T := fun e => by
  rcases own_ne h2 h1 (by decide) with h | h
  · rw [h] at e; cases e
  · exact h e
end Go.Proofs.Ythodpgkelmalmaa
