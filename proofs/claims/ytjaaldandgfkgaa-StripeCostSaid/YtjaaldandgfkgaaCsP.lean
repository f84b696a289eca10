/- StripeCost in plain: the blocks' lengths in all; the stripes of a range. Conditions: as the theorems have them. -/
import Derived.Test.YtjaaldandgfkgaaStP
import Derived.Test.YtjaaldandgfkgaaWhrQ
namespace Go.Proofs.Ytjaaldandgfkgaa
open Go.RowKit

theorem sum_cost {K B s : Nat} (hK : 1 ≤ K) (hB : 1 ≤ B) : sumN (blen K B s) (nblk (K * B) s) = (s + K - 1) / K := by
  have hS : 1 ≤ K * B := Nat.mul_pos hK hB
  cases hn : nblk (K * B) s with
  | zero =>
    have hs : s = 0 := by
      rcases Nat.eq_zero_or_pos s with h | h
      · exact h
      · have := (lt_nblk (S := K * B) (s := s) (j := 0) hS).2 (by omega)
        omega
    subst hs
    show 0 = _
    rw [Nat.div_eq_of_lt (by omega)]
  | succ t =>
    have ht : t < nblk (K * B) s := by omega
    show sumN (blen K B s) t + blen K B s t = _
    rw [sum_mid ht, blen_lng hK hB ht]
    have h1 : t * (K * B) < s := (lt_nblk hS).1 ht
    have h2 : ¬ (t + 1) * (K * B) < s := fun h => by have := (lt_nblk (S := K * B) (s := s) (j := t + 1) hS).2 h; omega
    have h3 : lng (K * B) s t = s - t * (K * B) := by
      unfold lng
      rw [Nat.add_mul] at h2
      omega
    rw [h3]
    have h4 : t * (K * B) = t * B * K := by rw [Nat.mul_comm K B, Nat.mul_assoc]
    rw [h4] at h1 ⊢
    rw [show s + K - 1 = (s - t * B * K + K - 1) + t * B * K by omega, Nat.add_mul_div_right _ _ (by omega)]
    omega
theorem range_cost {S s off e : Nat} (hS : 1 ≤ S) (he : off < e) (hes : e ≤ s) : off / S * S + off % S = off ∧ off % S < S ∧ ((e - 1) / S + 1 - 1) * S < e ∧ e ≤ ((e - 1) / S + 1) * S ∧ (e - 1) / S + 1 ≤ nblk S s := by
  have h1 := Nat.div_add_mod' off S
  have h2 := Nat.div_add_mod' (e - 1) S
  have h3 := Nat.mod_lt (e - 1) (show 0 < S by omega)
  refine ⟨h1, Nat.mod_lt _ (by omega), ?_, ?_, ?_⟩
  · rw [Nat.add_sub_cancel]; omega
  · rw [Nat.add_mul]; omega
  · unfold nblk
    rw [ceil_last hS (by omega)]
    exact Nat.succ_le_succ (Nat.div_le_div_right (by omega))
/-- Where a range of an object lies. -/
theorem where_cost (K M B s off n : Nat) (hE : sizeE K M B s = 0) (hn : n ≤ 9223372036854775807) : ∃ a b c : Nat, (∀ w, Calls Try.prog 19 #[.agg #[.int .i64 K, .int .i64 M, .int .i64 B], .int .i64 s, .int .i64 off, .int .i64 n] w fun x w' => x = .returned (.tuple #[.int .i64 a, .int .i64 b, .int .i64 c, .int .i64 0]) ∧ Below w.heap.size w w') ∧
    ((min n (s - off) = 0 ∧ a = 0 ∧ b = 0 ∧ c = 0) ∨ (0 < min n (s - off) ∧ off < s ∧ a * (K * B) + c = off ∧ c < K * B ∧ 1 ≤ b ∧ (b - 1) * (K * B) < off + min n (s - off) ∧ off + min n (s - off) ≤ b * (K * B) ∧ b ≤ nblk (K * B) s)) := by
  obtain ⟨_, _, m1, m2, m3, m4, m5, m6⟩ := size_facts hE
  have hS : 1 ≤ K * B := Nat.mul_pos (by omega) (by omega)
  by_cases h0 : n = 0
  · subst h0
    exact ⟨0, 0, 0, fun w => fwhere_none1 K M B s off 0 w hE (by omega) rfl, .inl ⟨by omega, rfl, rfl, rfl⟩⟩
  · by_cases h1 : s ≤ off
    · exact ⟨0, 0, 0, fun w => fwhere_none2 K M B s off n w hE (by omega) (by omega) (by omega), .inl ⟨by omega, rfl, rfl, rfl⟩⟩
    · by_cases h2 : n < s - off
      · have hm : min n (s - off) = n := by omega
        obtain ⟨r1, r2, r3, r4, r5⟩ := range_cost (S := K * B) (s := s) (off := off) (e := off + n) hS (by omega) (by omega)
        exact ⟨_, _, _, fun w => fwhere_in K M B s off n w hE (by omega) (by omega) (by omega) hn, .inr ⟨by omega, by omega, r1, r2, Nat.le_add_left 1 _, by rw [hm]; exact r3, by rw [hm]; exact r4, r5⟩⟩
      · have hm : min n (s - off) = s - off := by omega
        have he : off + (s - off) = s := by omega
        obtain ⟨r1, r2, r3, r4, r5⟩ := range_cost (S := K * B) (s := s) (off := off) (e := s) hS (by omega) (by omega)
        exact ⟨_, _, _, fun w => fwhere_end K M B s off n w hE (by omega) (by omega) (by omega) hn, .inr ⟨by omega, by omega, r1, r2, Nat.le_add_left 1 _, by rw [hm, he]; exact r3, by rw [hm, he]; exact r4, r5⟩⟩
end Go.Proofs.Ytjaaldandgfkgaa
