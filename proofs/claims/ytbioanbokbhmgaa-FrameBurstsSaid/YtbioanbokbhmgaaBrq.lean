/- Bits turned one by one, in plain. Conditions: bytes. -/
import Derived.Test.YtbioanbokbhmgaaTrn
namespace Go.Proofs.Ytbioanbokbhmgaa
open Go.RowKit

theorem patB_bit {x bit p i : Nat} : (patB x bit p).testBit i = (decide (i < 8) && (decide (bit ≤ i + 8 * p) && x.testBit (i + 8 * p - bit))) := by
  unfold patB
  rw [show (256 : Nat) = 2 ^ 8 from rfl, ← Nat.pow_mul, Nat.testBit_mod_two_pow, Nat.testBit_div_two_pow, Nat.testBit_mul_two_pow]
theorem low_next {pat k : Nat} (h : pat / 2 ^ k % 2 = 1) : pat % 2 ^ (k + 1) = (pat % 2 ^ k) ^^^ 2 ^ k := by
  apply Nat.eq_of_testBit_eq
  intro i
  rw [Nat.testBit_xor, Nat.testBit_mod_two_pow, Nat.testBit_mod_two_pow, Nat.testBit_two_pow]
  by_cases e : k = i
  · subst e
    have := bit_iff.2 h
    simp [this]
  · by_cases h1 : i < k
    · have h2 : i < k + 1 := by omega
      simp [e, h1, h2]
    · have h2 : ¬ i < k + 1 := by omega
      simp [e, h1, h2]
theorem low_same {pat k : Nat} (h : pat / 2 ^ k % 2 = 0) : pat % 2 ^ (k + 1) = pat % 2 ^ k := by
  apply Nat.eq_of_testBit_eq
  intro i
  rw [Nat.testBit_mod_two_pow, Nat.testBit_mod_two_pow]
  by_cases e : k = i
  · subst e
    have : pat.testBit k = false := by
      cases hb : pat.testBit k with
      | false => rfl
      | true => have := bit_iff.1 hb; omega
    simp [this]
  · by_cases h1 : i < k
    · have h2 : i < k + 1 := by omega
      simp [h1, h2]
    · have h2 : ¬ i < k + 1 := by omega
      simp [h1, h2]
theorem patB_next {pat bit k p : Nat} (h : pat / 2 ^ k % 2 = 1) : patB (pat % 2 ^ (k + 1)) bit p = patB (pat % 2 ^ k) bit p ^^^ (if p = (bit + k) / 8 then 2 ^ ((bit + k) % 8) else 0) := by
  apply Nat.eq_of_testBit_eq
  intro i
  rw [Nat.testBit_xor, patB_bit, patB_bit, low_next h, Nat.testBit_xor, Nat.testBit_two_pow]
  by_cases e : p = (bit + k) / 8
  · rw [if_pos e, Nat.testBit_two_pow]
    by_cases e2 : (bit + k) % 8 = i
    · have a1 : i < 8 := by omega
      have a2 : bit ≤ i + 8 * p := by omega
      have a3 : k = i + 8 * p - bit := by omega
      simp [a1, a2, e2, ← a3]
    · by_cases a1 : i < 8
      · by_cases a2 : bit ≤ i + 8 * p
        · have a3 : ¬ k = i + 8 * p - bit := by omega
          simp [a1, a2, a3, e2]
        · simp [a2, e2]
      · simp [a1, e2]
  · rw [if_neg e, Nat.zero_testBit]
    by_cases a1 : i < 8
    · by_cases a2 : bit ≤ i + 8 * p
      · have a3 : ¬ k = i + 8 * p - bit := by omega
        simp [a1, a2, a3]
      · simp [a2]
    · simp [a1]
theorem burst_more {b : List Nat} {pat bit k : Nat} (h : pat / 2 ^ k % 2 = 1) (_hp : (bit + k) / 8 < b.length) :
    (burst b (pat % 2 ^ k) bit).set ((bit + k) / 8) ((burst b (pat % 2 ^ k) bit).getD ((bit + k) / 8) 0 ^^^ 2 ^ ((bit + k) % 8)) = burst b (pat % 2 ^ (k + 1)) bit := by
  have l1 := burst_length b (pat % 2 ^ k) bit
  have l2 := burst_length b (pat % 2 ^ (k + 1)) bit
  apply list_getD_ext (by rw [List.length_set, l1, l2])
  intro i hi
  rw [List.length_set, l1] at hi
  rw [burst_get hi, patB_next h, List.getD_eq_getElem?_getD, List.getElem?_set]
  by_cases e : (bit + k) / 8 = i
  · subst e
    rw [if_pos rfl, if_pos (by rw [l1]; exact hi), if_pos rfl, Option.getD_some, burst_get hi, Nat.xor_assoc]
  · rw [if_neg e, ← List.getD_eq_getElem?_getD, burst_get hi, if_neg (fun h => e h.symm), Nat.xor_zero]
theorem burst_skip {b : List Nat} {pat bit k : Nat} (h : pat / 2 ^ k % 2 = 0 ∨ b.length ≤ (bit + k) / 8) : burst b (pat % 2 ^ (k + 1)) bit = burst b (pat % 2 ^ k) bit := by
  by_cases h0 : pat / 2 ^ k % 2 = 0
  · rw [low_same h0]
  · have h1 : pat / 2 ^ k % 2 = 1 := by omega
    have h2 : b.length ≤ (bit + k) / 8 := by rcases h with h | h; exact absurd h h0; exact h
    have l1 := burst_length b (pat % 2 ^ k) bit
    have l2 := burst_length b (pat % 2 ^ (k + 1)) bit
    apply list_getD_ext (by rw [l1, l2])
    intro i hi
    rw [l2] at hi
    rw [burst_get hi, burst_get hi, patB_next h1, if_neg (by omega), Nat.xor_zero]
theorem pow_bit : ∀ r, r < 8 → ((2 : Int) ^ r % 256) = ((2 ^ r : Nat) : Int) := by decide
theorem pow_lt8 : ∀ r, r < 8 → 2 ^ r < 256 := by decide
theorem xor_bit (x s : Nat) (hx : x < 256) : bits .xor .u8 (x : Int) ((2 : Int) ^ (s % 8) % 256) = ((x ^^^ 2 ^ (s % 8) : Nat) : Int) := by
  have h8 : s % 8 < 8 := Nat.mod_lt _ (by decide)
  rw [pow_bit _ h8, u8_xor_nat x _ hx (pow_lt8 _ h8)]
theorem burst_zero {b : List Nat} {bit : Nat} : burst b 0 bit = b := by
  apply list_getD_ext (burst_length _ _ _)
  intro i hi
  rw [burst_length] at hi
  rw [burst_get hi]
  unfold patB
  simp
end Go.Proofs.Ytbioanbokbhmgaa
