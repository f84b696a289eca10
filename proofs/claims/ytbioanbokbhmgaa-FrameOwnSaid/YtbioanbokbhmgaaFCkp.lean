/- Plain words of layer 8: sums, the form's length, what a head that may be is. Conditions: none. -/
import Derived.Test.YtbioanbokbhmgaaHd
namespace Go.Proofs.Ytbioanbokbhmgaa
open Go.RowKit

/-- The sum of the first n numbers. -/
def sumN (f : Nat → Nat) : Nat → Nat
  | 0 => 0
  | n + 1 => sumN f n + f n
theorem sumN_le {f : Nat → Nat} {b : Nat} (h : ∀ i, f i ≤ b) : ∀ n, sumN f n ≤ n * b
  | 0 => by simp [sumN]
  | n + 1 => by have := sumN_le h n; have := h n; rw [Nat.add_mul]; simp only [sumN]; omega
theorem blen_le {K B s j : Nat} (hK : 1 ≤ K) : blen K B s j ≤ B := by
  unfold blen
  split
  · rename_i h
    have hlt : s % (K * B) < K * B := by
      refine Nat.mod_lt _ ?_
      rcases Nat.eq_zero_or_pos (K * B) with h0 | h0
      · obtain ⟨h1, h2⟩ := h
        unfold nblk at h1
        rw [h0] at h1
        simp at h1
      · exact h0
    have : (s % (K * B) + K - 1) / K < B + 1 := (Nat.div_lt_iff_lt_mul (by omega)).2 (by rw [Nat.add_mul, Nat.mul_comm B K]; omega)
    omega
  · exact Nat.le_refl _

/-- How many bytes a form has (0 beside an error). -/
def lenE (h : Hd) : Int := if checkE h = 0 then (40 + h.key.size + sumN (fun j => blen h.K.toNat h.B.toNat h.size.toNat j + 4) (sizeN h.K h.M h.B h.size) : Nat) else 0

theorem check_facts {h : Hd} (e : checkE h = 0) : MayS h.K h.M h.B ∧ 0 < h.key.size ∧ h.key.size ≤ 255 ∧ sizeE h.K h.M h.B h.size = 0 ∧ 0 ≤ h.idx ∧ h.idx < h.K + h.M ∧ 1 ≤ h.ep ∧ h.ep ≤ 4294967295 ∧ 1 ≤ h.ct ∧ h.ct ≤ 4294967295 := by
  unfold checkE at e
  by_cases h0 : MayS h.K h.M h.B
  · rw [if_neg (by simpa using h0)] at e
    by_cases h1 : h.key.size = 0 ∨ 255 < h.key.size
    · rw [if_pos h1] at e; omega
    · rw [if_neg h1] at e
      by_cases h2 : sizeE h.K h.M h.B h.size = 0
      · rw [if_neg (by simpa using h2)] at e
        by_cases h3 : h.idx < 0 ∨ h.K + h.M ≤ h.idx
        · rw [if_pos h3] at e; omega
        · rw [if_neg h3] at e
          by_cases h4 : h.ep < 1 ∨ 4294967295 < h.ep ∨ h.ct < 1 ∨ 4294967295 < h.ct
          · rw [if_pos h4] at e; omega
          · exact ⟨h0, by omega, by omega, h2, by omega, by omega, by omega, by omega, by omega, by omega⟩
      · rw [if_pos h2] at e; exact absurd e h2
  · rw [if_pos h0] at e; omega
theorem size_facts {K M B s : Int} (h : sizeE K M B s = 0) : 0 ≤ s ∧ s ≤ 1048576 ∧ MayS K M B := by
  unfold sizeE at h
  by_cases hm : MayS K M B
  · rw [if_pos hm] at h
    unfold fitE at h
    by_cases h1 : s < 0
    · rw [if_pos h1] at h; omega
    · rw [if_neg h1] at h
      by_cases h2 : 1048576 < s ∨ 4096 < nblk (K.toNat * B.toNat) s.toNat
      · rw [if_pos h2] at h; omega
      · exact ⟨by omega, by omega, hm⟩
  · rw [if_neg hm] at h; omega
theorem sizeN_le (K M B s : Int) : sizeN K M B s ≤ 4096 := by
  unfold sizeN
  by_cases h : sizeE K M B s = 0
  · rw [if_pos h]
    unfold sizeE at h
    by_cases hm : MayS K M B
    · rw [if_pos hm] at h
      unfold fitE at h
      by_cases h1 : s < 0
      · rw [if_pos h1] at h; omega
      · rw [if_neg h1] at h
        by_cases h2 : 1048576 < s ∨ 4096 < nblk (K.toNat * B.toNat) s.toNat
        · rw [if_pos h2] at h; omega
        · omega
    · rw [if_neg hm] at h; omega
  · rw [if_neg h]; omega
end Go.Proofs.Ytbioanbokbhmgaa
