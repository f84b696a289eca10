/- turned of the law's text: whether a bit within some bytes is one of the pattern's. Conditions: a pattern of 32 bits. -/
import Derived.Test.YtbioanbokbhmgaaPar4
import Derived.Test.YtbioanbokbhmgaaBr3
namespace Go.Proofs.Ytbioanbokbhmgaa
open Go.RowKit

/-- The pattern's bit k is there, and lies in the bytes f .. t - 1. -/
def hit (pat bit f t k : Nat) : Prop := pat / 2 ^ k % 2 = 1 ∧ f ≤ (bit + k) / 8 ∧ (bit + k) / 8 < t
theorem zero_of_bits {x : Nat} (h : ∀ i, x.testBit i = false) : x = 0 := by
  apply Nat.eq_of_testBit_eq
  intro i
  rw [h i, Nat.zero_testBit]
theorem bit_iff {x k : Nat} : x.testBit k = true ↔ x / 2 ^ k % 2 = 1 := by
  rw [Nat.testBit_eq_decide_div_mod_eq, decide_eq_true_iff]
theorem still_hit {pat bit f n : Nat} (hp : pat < 4294967296) : still pat bit f n ↔ ∀ k, k < 32 → ¬ hit pat bit f (f + n) k := by
  unfold still
  constructor
  · rintro h k _ ⟨h1, h2, h3⟩
    have h4 : (pat * 2 ^ bit / 256 ^ f % 256 ^ n).testBit (bit + k - 8 * f) = true := by
      rw [pow256, pow256, Nat.testBit_mod_two_pow, Nat.testBit_div_two_pow, Nat.testBit_mul_two_pow]
      rw [show bit + k - 8 * f + 8 * f = bit + k by omega, Nat.add_sub_cancel_left, bit_iff.2 h1]
      have e1 : bit + k - 8 * f < 8 * n := by omega
      have e2 : bit ≤ bit + k := by omega
      simp [e1, e2]
    rw [h, Nat.zero_testBit] at h4
    cases h4
  · intro h
    apply zero_of_bits
    intro i
    cases hb : (pat * 2 ^ bit / 256 ^ f % 256 ^ n).testBit i with
    | false => rfl
    | true =>
      exfalso
      rw [pow256, pow256, Nat.testBit_mod_two_pow, Nat.testBit_div_two_pow, Nat.testBit_mul_two_pow] at hb
      simp only [Bool.and_eq_true, decide_eq_true_eq] at hb
      obtain ⟨h1, h2, h3⟩ := hb
      have hk : i + 8 * f - bit < 32 := by
        rcases Nat.lt_or_ge (i + 8 * f - bit) 32 with h4 | h4
        · exact h4
        · exfalso
          have h5 : pat < 2 ^ (i + 8 * f - bit) := Nat.lt_of_lt_of_le hp (Nat.pow_le_pow_right (n := 2) (by decide) h4)
          rw [Nat.testBit_lt_two_pow h5] at h3
          cases h3
      exact h _ hk ⟨bit_iff.1 h3, by omega, by omega⟩
set_option maxRecDepth 100000 in
set_option maxHeartbeats 2000000 in
theorem turned_any (pat bit f n : Nat) (w : World) (hp : pat < 4294967296) (hb : bit ≤ 10000000000) (hf : f ≤ 10000000000) (hn : n ≤ 10000000000) :
    Calls Try.prog 39 #[.int .i64 (f : Int), .int .i64 ((f + n : Nat) : Int), .int .i64 (bit : Int), .int .u32 (pat : Int)] w fun e w' => e = .returned (.bool (!decide (still pat bit f n))) ∧ w' = w := by
  obtain ⟨t, ht⟩ : ∃ t, t = f + n := ⟨_, rfl⟩
  have HS := Lib.hid (still_hit (bit := bit) (f := f) (n := n) hp)
  rw [← ht] at HS ⊢
  have htl : t ≤ 20000000000 := by omega
  clear ht
  go_enter Try.func39, Try.ntmps39
  go_wp2
  go_loopg [9, 10] 32 (fun gk i _ wr => ∃ k : Nat, k ≤ 32 ∧ gk = 32 - k ∧ i = .int .i64 k ∧ wr = w ∧ Hid (∀ j, j < k → ¬ hit pat bit f t j))
  case atStart => exact ⟨0, Nat.zero_le _, rfl, rfl, rfl, Lib.hid fun j hj => absurd hj (by omega)⟩
  case round =>
    obtain ⟨k, hk, rfl, rfl, rfl, HH⟩ := hrel
    by_cases hlt : k < 32
    · have hk32 : (k : Int) < 32 := by omega
      have hk0 : (0 : Int) ≤ (k : Int) := by omega
      have hcv : IntKind.u64.wrap (k : Int) = (k : Int) := by rw [IntKind.wrap_u64]; omega
      obtain ⟨s, hs⟩ : ∃ s, s = bit + k := ⟨_, rfl⟩
      have hw1 : IntKind.i64.wrap ((bit : Int) + (k : Int)) = (s : Int) := by rw [IntKind.wrap_i64]; omega
      have hsl : s ≤ 10000000100 := by omega
      have HSE := Lib.hid hs
      clear hs
      have hand : bits .and .u32 ((pat : Int) / 2 ^ k) 1 = ((pat / 2 ^ k % 2 : Nat) : Int) := by
        rw [show ((pat : Int) / 2 ^ k) = ((pat / 2 ^ k : Nat) : Int) by rw [Int.natCast_ediv, Int.natCast_pow]; rfl, show (1 : Int) = ((1 : Nat) : Int) from rfl, u32_and_nat _ 1 (Nat.lt_of_le_of_lt (Nat.div_le_self _ _) hp) (by decide), Nat.and_one_is_mod]
      have HIT := Lib.hid (show hit pat bit f t k ↔ pat / 2 ^ k % 2 = 1 ∧ f ≤ s / 8 ∧ s / 8 < t by unfold hit; rw [HSE.out])
      have HNX := Lib.hid (fun (hno : ¬ hit pat bit f t k) => Lib.hid (show ∀ j, j < k + 1 → ¬ hit pat bit f t j from fun j hj => by
        by_cases e : j = k
        · subst e; exact hno
        · exact HH.out j (by omega)))
      by_cases h1 : pat / 2 ^ k % 2 = 1
      · rw [h1] at hand
        replace hand : bits .and .u32 ((pat : Int) / 2 ^ k) 1 = 1 := hand
        by_cases h2 : f ≤ s / 8
        · have h2' : (f : Int) ≤ (s : Int) / 8 := by omega
          by_cases h3 : s / 8 < t
          · have h3' : (s : Int) / 8 < (t : Int) := by omega
            have hst : decide (still pat bit f n) = false := decide_eq_false fun h => HS.out.1 h k hlt (HIT.out.2 ⟨h1, h2, h3⟩)
            clear h1 h2 h3
            go_wp2
            go_ret
            exact ⟨by rw [hst]; rfl, rfl⟩
          · have h3' : ¬ (s : Int) / 8 < (t : Int) := by omega
            have HN := HNX.out fun h => h3 (HIT.out.1 h).2.2
            clear h1 h2 h3
            go_wp2
            go_roundg (32 - (k + 1))
            case measure => omega
            case rel => exact ⟨k + 1, by omega, rfl, by go_num, rfl, HN⟩
        · have h2' : ¬ (f : Int) ≤ (s : Int) / 8 := by omega
          have HN := HNX.out fun h => h2 (HIT.out.1 h).2.1
          clear h1 h2
          go_wp2
          go_roundg (32 - (k + 1))
          case measure => omega
          case rel => exact ⟨k + 1, by omega, rfl, by go_num, rfl, HN⟩
      · have h0 : pat / 2 ^ k % 2 = 0 := by omega
        rw [h0] at hand
        replace hand : bits .and .u32 ((pat : Int) / 2 ^ k) 1 = 0 := hand
        have HN := HNX.out fun h => h1 (HIT.out.1 h).1
        clear h1 h0
        go_wp2
        go_roundg (32 - (k + 1))
        case measure => omega
        case rel => exact ⟨k + 1, by omega, rfl, by go_num, rfl, HN⟩
    · have hk32 : k = 32 := by omega
      subst hk32
      have hst : decide (still pat bit f n) = true := decide_eq_true (HS.out.2 HH.out)
      go_wp2
      go_ret
      exact ⟨by rw [hst]; rfl, rfl⟩
end Go.Proofs.Ytbioanbokbhmgaa
