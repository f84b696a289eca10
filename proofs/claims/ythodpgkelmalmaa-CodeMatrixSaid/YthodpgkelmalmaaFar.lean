/- Two words with unlike data are unlike at many rows; in plain. Conditions: none. -/
import Derived.Test.YthodpgkelmalmaaVan
import Derived.Test.YthodpgkelmalmaaREnc
import Derived.Test.YthodpgkelmalmaaStrN
import Derived.Laws.Strings
namespace Go.Proofs.Ythodpgkelmalmaa
open Go.RowKit
namespace Fd
variable {α : Type} {F : Fd α}
theorem free_ker {k : Nat} {M : Nat → Nat → α} {x : Nat → α} (h : F.Free k k M) (hx : ∀ t, t < k → F.s k (fun j => F.m (M t j) (x j)) = F.z) : ∀ j, j < k → x j = F.z := fun j0 hj0 => by
  obtain ⟨d, ⟨t0, ht0, hne⟩, hd⟩ := F.bound k (k + 1) (fun t j => if t = k then F.idm j0 j else M t j) (Nat.lt_succ_self k)
  have hd' : ∀ j, j < k → F.a (F.s k fun t => F.m (d t) (M t j)) (F.m (d k) (F.idm j0 j)) = F.z := fun j hj => by
    have h1 := hd j hj
    rw [F.s_succ, if_pos rfl] at h1
    rw [← h1]
    congr 1
    exact F.s_congr fun t ht => by rw [if_neg (by omega)]
  have hdk : d k ≠ F.z := fun hz => by
    have h1 := h d (fun j hj => by
      have h2 := hd' j hj
      rwa [hz, F.z_m, F.a_z] at h2)
    rcases Nat.lt_or_ge t0 k with h3 | h3
    · exact hne (h1 t0 h3)
    · exact hne (by rw [show t0 = k by omega]; exact hz)
  have h4 : F.s k (fun j => F.m (F.a (F.s k fun t => F.m (d t) (M t j)) (F.m (d k) (F.idm j0 j))) (x j)) = F.z := F.s_zero fun j hj => by rw [hd' j hj, F.z_m]
  have h5 : F.s k (fun j => F.m (F.a (F.s k fun t => F.m (d t) (M t j)) (F.m (d k) (F.idm j0 j))) (x j)) = F.a (F.s k fun j => F.s k fun t => F.m (d t) (F.m (M t j) (x j))) (F.s k fun j => F.m (F.m (d k) (F.idm j0 j)) (x j)) := by
    rw [← F.s_a]
    refine F.s_congr fun j _ => ?_
    rw [F.dist', F.s_m']
    congr 1
    exact F.s_congr fun t _ => F.m_assoc _ _ _
  rw [h5, F.s_swap, F.s_zero (fun t ht => by rw [← F.s_m, hx t ht, F.m_z]), F.z_a, F.s_one hj0] at h4
  · unfold idm at h4
    rw [if_pos rfl, F.m_u] at h4
    rcases F.m_eq_z h4 with h6 | h6
    · exact absurd h6 hdk
    · exact h6
  · intro j _ hne
    unfold idm
    rw [if_neg (fun e => hne e.symm), F.m_z, F.z_m]
end Fd
/-- How many of the first n have it. -/
def cntB (P : Nat → Bool) : Nat → Nat
  | 0 => 0
  | n + 1 => cntB P n + if P n then 1 else 0
theorem cntB_le (P : Nat → Bool) : ∀ n, cntB P n ≤ n
  | 0 => Nat.le_refl _
  | n + 1 => by have := cntB_le P n; unfold cntB; split <;> omega
theorem cntB_not (P : Nat → Bool) : ∀ n, cntB P n + cntB (fun i => !P i) n = n
  | 0 => rfl
  | n + 1 => by
    have := cntB_not P n
    unfold cntB
    cases P n <;> simp <;> omega
theorem cntB_pick (P : Nat → Bool) : ∀ n k, k ≤ cntB P n → ∃ f : Nat → Nat, (∀ t, t < k → f t < n ∧ P (f t) = true) ∧ ∀ s t, s < t → t < k → f s < f t
  | 0, k, h => ⟨fun _ => 0, fun t ht => by unfold cntB at h; omega, fun s t h1 h2 => by unfold cntB at h; omega⟩
  | n + 1, k, h => by
    by_cases h1 : k ≤ cntB P n
    · obtain ⟨f, h2, h3⟩ := cntB_pick P n k h1
      exact ⟨f, fun t ht => ⟨by have := (h2 t ht).1; omega, (h2 t ht).2⟩, h3⟩
    · have hp : P n = true ∧ k = cntB P n + 1 := by
        unfold cntB at h
        cases e : P n
        · rw [e] at h; simp at h; omega
        · rw [e] at h; simp at h; exact ⟨rfl, by omega⟩
      obtain ⟨f, h2, h3⟩ := cntB_pick P n (k - 1) (by omega)
      refine ⟨fun t => if t = k - 1 then n else f t, fun t ht => ?_, fun s t hs ht => ?_⟩
      · by_cases e : t = k - 1
        · simp only [e, if_true]; exact ⟨by omega, hp.1⟩
        · simp only [e, if_false]; exact ⟨by have := (h2 t (by omega)).1; omega, (h2 t (by omega)).2⟩
      · by_cases e : t = k - 1
        · have e2 : ¬ s = k - 1 := by omega
          simp only [e, e2, if_true, if_false]
          exact (h2 s (by omega)).1
        · have e2 : ¬ s = k - 1 := by omega
          simp only [e, e2, if_false]
          exact h3 s t hs (by omega)
theorem strN_inj {n : Nat} {f g : Nat → Nat} (hf : ∀ i, i < n → f i < 256) (hg : ∀ i, i < n → g i < 256) (h : ((strN n f).toList == (strN n g).toList) = true) : ∀ i, i < n → f i = g i := fun i hi => by
  have h1 : (strN n f).toList = (strN n g).toList := eq_of_beq h
  have h2 : (strN n f).data = (strN n g).data := by
    have e : ∀ s : ByteArray, s.toList = s.data.toList := fun s => ByteArray.toList_eq s
    rw [e, e] at h1
    exact Array.toList_inj.1 h1
  have h3 : ((List.range n).map fun i => UInt8.ofNat (f i)) = (List.range n).map fun i => UInt8.ofNat (g i) := by
    have := congrArg Array.toList h2
    simpa [strN] using this
  have h4 := congrArg (fun l => l[i]?) h3
  simp [hi] at h4
  have h5 := congrArg UInt8.toNat h4
  simp at h5
  have := hf i hi
  have := hg i hi
  omega
theorem wrd_congr {k : Nat} {a b : Nat → Nat → Nat} {i c : Nat} (h : ∀ j, j < k → a j c = b j c) : wrd k a i c = wrd k b i c := by
  unfold wrd
  rw [gE.s_congr (g := fun t => gE.m (gE.cM el k i t) (el (b t c))) fun t ht => by rw [h t ht]]
/-- Are row i of two words unlike? -/
def unB (len : Nat) (v w : Nat → Nat → Nat) (i : Nat) : Bool := (strN len (v i)).toList != (strN len (w i)).toList
theorem far_plain {k m len : Nat} {a b : Nat → Nat → Nat} (hk : 0 < k) (hn : k + m ≤ 255) (ha : ∀ j, j < k → ∀ c, c < len → a j c < 256) (hb : ∀ j, j < k → ∀ c, c < len → b j c < 256) (h : cntB (unB len (wrd k a) (wrd k b)) (k + m) ≤ m) : ∀ j, j < k → ∀ c, c < len → a j c = b j c := by
  have h1 := cntB_not (unB len (wrd k a) (wrd k b)) (k + m)
  obtain ⟨f, hf, hinj⟩ := cntB_pick (fun i => !unB len (wrd k a) (wrd k b) i) (k + m) k (by omega)
  have heq : ∀ t, t < k → ∀ c, c < len → wrd k a (f t) c = wrd k b (f t) c := fun t ht c hc => by
    have h2 := (hf t ht).2
    refine strN_inj (n := len) (f := wrd k a (f t)) (g := wrd k b (f t)) (fun _ _ => wrd_lt) (fun _ _ => wrd_lt) ?_ c hc
    unfold unB bne at h2
    simpa using h2
  have hfree : gE.Free k k (fun t => gE.cM el k (f t)) := Fd.cM_free (n := k + m) (by omega) (fun x y hx hy e => el_inj (by omega) (by omega) e) (fun t ht => (hf t ht).1) (fun s t hs ht e => by
    rcases Nat.lt_trichotomy s t with h3 | h3 | h3
    · have := hinj s t h3 ht; omega
    · exact h3
    · have := hinj t s h3 hs; omega)
  intro j hj c hc
  have h4 := Fd.free_ker hfree (x := fun j => gE.a (el (a j c)) (el (b j c))) (fun t ht => by
    have h5 : gE.s k (fun j => gE.m (gE.cM el k (f t) j) (gE.a (el (a j c)) (el (b j c)))) = gE.a (gE.s k fun j => gE.m (gE.cM el k (f t) j) (el (a j c))) (gE.s k fun j => gE.m (gE.cM el k (f t) j) (el (b j c))) := by
      rw [← gE.s_a]
      exact gE.s_congr fun j _ => gE.dist _ _ _
    show gE.s k (fun j => gE.m (gE.cM el k (f t) j) (gE.a (el (a j c)) (el (b j c)))) = gE.z
    rw [h5]
    have h6 : (gE.s k fun j => gE.m (gE.cM el k (f t) j) (el (a j c))) = gE.s k fun j => gE.m (gE.cM el k (f t) j) (el (b j c)) := Fin.ext (heq t ht c hc)
    rw [h6, gE.a_self]) j hj
  exact el_inj (ha j hj c hc) (hb j hj c hc) (gE.eq_of_a h4)
end Go.Proofs.Ythodpgkelmalmaa
