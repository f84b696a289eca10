/- The document's Mul: its walk; the products of the three fields. Conditions: numbers below the field's size. -/
import Derived.Test.YtpocjpodeahanaaGf
import Derived.Test.YtpocjpodeahanaaBase
namespace Go.Proofs.Ytpocjpodeahanaa
open Go.RowKit

theorem degree_any (s : Nat) (w : World) :
    Calls Try.prog 108 #[.int .i64 s] w fun e w' => e = .returned (.tuple #[.int .i64 (degD s), .int .i64 (degM s)]) ∧ w = w' := by
  by_cases h1 : s = 256
  · subst h1
    go_enter Try.func108, Try.ntmps108
    go_wp2
    go_ret2
    exact ⟨rfl, rfl⟩
  · by_cases h2 : s = 4
    · subst h2
      go_enter Try.func108, Try.ntmps108
      go_wp2
      go_ret2
      exact ⟨rfl, rfl⟩
    · have e1 : ((s : Int) == 256) = false := by rw [beq_eq_false_iff_ne]; omega
      have e2 : ((s : Int) == 4) = false := by rw [beq_eq_false_iff_ne]; omega
      have d1 : degD s = 1 := by unfold degD; rw [if_neg h1, if_neg h2]
      have d2 : degM s = 2 := by unfold degM; rw [if_neg h1, if_neg h2]
      rw [d1, d2]
      clear h1 h2 d1 d2
      go_enter Try.func108, Try.ntmps108
      go_wp2
      go_ret2
      exact ⟨rfl, rfl⟩

theorem pR_lt {a b : Nat} (h : a < 256) : ∀ k, k ≤ 8 → pR a b k < 2 ^ 16
  | 0, _ => by unfold pR; decide
  | k + 1, hk => by
    unfold pR
    have h2 : 2 ^ k ≤ 2 ^ 7 := Nat.pow_le_pow_right (by decide) (by omega)
    have h3 : a * 2 ^ k ≤ 255 * 2 ^ 7 := Nat.mul_le_mul (by omega) h2
    split
    · exact Nat.xor_lt_two_pow (pR_lt h k (by omega)) (by omega)
    · exact pR_lt h k (by omega)
theorem and_bit64 (b k : Nat) (h : b < 2 ^ 62) : bits .and .i64 ((b : Int) / 2 ^ k) 1 = ((b / 2 ^ k % 2 : Nat) : Int) := by
  have e : ((b : Int) / 2 ^ k) = ((b / 2 ^ k : Nat) : Int) := by norm_cast
  have hl : b / 2 ^ k < 2 ^ 62 := Nat.lt_of_le_of_lt (Nat.div_le_self _ _) h
  rw [e, show (1 : Int) = ((1 : Nat) : Int) from rfl, (bits_nat .i64 62 (by decide) i64_small _ 1 hl (by decide)).1, nat_mask1]
theorem bit64_true {b k : Nat} (h : b < 2 ^ 62) (ht : (bits .and .i64 ((b : Int) / 2 ^ k) 1 == 1) = true) : b / 2 ^ k % 2 = 1 := by
  rw [and_bit64 b k h] at ht
  generalize b / 2 ^ k = z at *
  have := eq_of_beq ht
  omega
theorem bit64_false {b k : Nat} (h : b < 2 ^ 62) (ht : (bits .and .i64 ((b : Int) / 2 ^ k) 1 == 1) = false) : ¬ b / 2 ^ k % 2 = 1 := by
  rw [and_bit64 b k h] at ht
  generalize b / 2 ^ k = z at *
  intro e
  rw [e] at ht
  exact absurd ht (by decide)

theorem sh_nat (x k : Nat) (h : x * 2 ^ k < 2 ^ 62) : wrap64 ((x : Int) * 2 ^ k) = ((x * 2 ^ k : Nat) : Int) := by
  have e : ((x : Int) * 2 ^ k) = ((x * 2 ^ k : Nat) : Int) := by norm_cast
  rw [e]
  generalize x * 2 ^ k = z at *
  unfold wrap64
  omega
theorem deg_facts (s : Nat) : 1 ≤ degD s ∧ degD s ≤ 8 ∧ degM s * 2 ^ (15 - degD s) < 2 ^ 16 := by
  unfold degD degM
  by_cases h1 : s = 256
  · simp [h1]
  · by_cases h2 : s = 4
    · simp [h2]
    · simp [h1, h2]
theorem rR_lt {d m p : Nat} (hp : p < 2 ^ 16) (hm : m * 2 ^ (15 - d) < 2 ^ 16) : ∀ t, t ≤ 16 - d → rR d m p t < 2 ^ 16
  | 0, _ => hp
  | t + 1, ht => by
    unfold rR rstep
    have h2 : 2 ^ (15 - t - d) ≤ 2 ^ (15 - d) := Nat.pow_le_pow_right (by decide) (by omega)
    have h3 : m * 2 ^ (15 - t - d) ≤ m * 2 ^ (15 - d) := Nat.mul_le_mul (Nat.le_refl _) h2
    split
    · exact Nat.xor_lt_two_pow (rR_lt hp hm t (by omega)) (by omega)
    · exact rR_lt hp hm t (by omega)

set_option maxHeartbeats 800000 in
theorem mul_any (s a b : Nat) (w : World) (ha : a < 256) (hb : b < 256) :
    Calls Try.prog 86 #[.int .i64 s, .int .i64 a, .int .i64 b] w fun e w' => e = .returned (.int .i64 (mulR s a b)) ∧ w = w' := by
  go_enter Try.func86, Try.ntmps86
  go_wp2
  go_loopg [7, 8] 8 (fun g p i wr => wr = w ∧ ∃ k : Nat, k ≤ 8 ∧ g = 8 - k ∧ i = .int .i64 k ∧ p = .int .i64 (pR a b k))
  case atStart => exact ⟨rfl, 0, by omega, rfl, rfl, rfl⟩
  case round =>
    obtain ⟨rfl, k, hk, rfl, rfl, rfl⟩ := hrel
    have hp0 := pR_lt (b := b) ha k hk
    have hpe : pR a b (k + 1) = if b / 2 ^ k % 2 = 1 then pR a b k ^^^ (a * 2 ^ k) else pR a b k := rfl
    have HPE := Lib.hid hpe; clear hpe
    generalize hpg : pR a b k = p0 at *
    have HG1 := Lib.hid hpg; clear hpg
    by_cases hlt : k < 8
    · by_cases hbt : (bits .and .i64 ((b : Int) / 2 ^ k) 1 == 1) = true
      · have HB := Lib.hid (bit64_true (by omega) hbt)
        have hsh := Lib.hid (sh_nat a k (by have h2 : 2 ^ k ≤ 2 ^ 7 := Nat.pow_le_pow_right (by decide) (by omega); have h3 : a * 2 ^ k ≤ 255 * 2 ^ 7 := Nat.mul_le_mul (by omega) h2; omega))
        have hxor := Lib.hid (i64_xor_nat p0 (a * 2 ^ k) (by omega) (by have h2 : 2 ^ k ≤ 2 ^ 7 := Nat.pow_le_pow_right (by decide) (by omega); have h3 : a * 2 ^ k ≤ 255 * 2 ^ 7 := Nat.mul_le_mul (by omega) h2; omega))
        go_wp2
        go_roundg (8 - (k + 1))
        case measure => omega
        case rel => exact ⟨rfl, k + 1, by omega, rfl, by go_num, by rw [HPE.out, if_pos HB.out, ← hxor.out, hsh.out]⟩
      · have hbf : (bits .and .i64 ((b : Int) / 2 ^ k) 1 == 1) = false := by simpa using hbt
        have HB := Lib.hid (bit64_false (by omega) hbf)
        clear hbt
        go_wp2
        go_roundg (8 - (k + 1))
        case measure => omega
        case rel => exact ⟨rfl, k + 1, by omega, rfl, by go_num, by rw [HPE.out, if_neg HB.out]⟩
    · have : k = 8 := by omega
      subst this
      have HD := Lib.hid (deg_facts s)
      have HE : Hid (mulR s a b = rR (degD s) (degM s) p0 (16 - degD s)) := by rw [← HG1.out]; rfl
      clear hlt HPE
      go_wp2_with fail
      refine (degree_any s _).mono ?_
      rintro e w1 ⟨rfl, rfl⟩
      obtain ⟨hd1, hd2, hm1⟩ := HD.out
      generalize degD s = d at *
      generalize degM s = m at *
      go_wp2
      go_loopg [7, 11] (16 - d) (fun g p i w' => w' = wr ∧ ∃ t : Nat, t ≤ 16 - d ∧ g = 16 - d - t ∧ i = .int .i64 ((15 - t : Nat) : Int) ∧ p = .int .i64 (rR d m p0 t))
      case atStart => exact ⟨rfl, 0, by omega, rfl, rfl, rfl⟩
      case round =>
        obtain ⟨rfl, t, ht, rfl, rfl, rfl⟩ := hrel
        have hp1 := rR_lt hp0 hm1 t ht
        have hre : rR d m p0 (t + 1) = if rR d m p0 t / 2 ^ (15 - t) % 2 = 1 then rR d m p0 t ^^^ (m * 2 ^ (15 - t - d)) else rR d m p0 t := rfl
        have HRE := Lib.hid hre; clear hre
        have HRE0 := Lib.hid (rfl : rR d m p0 t = rR d m p0 t)
        generalize hpg : rR d m p0 t = p1 at *
        have HG2 := Lib.hid hpg; clear hpg
        by_cases hlt : t < 16 - d
        · have hpow : m * 2 ^ (15 - t - d) < 2 ^ 16 := by
            have h2 : 2 ^ (15 - t - d) ≤ 2 ^ (15 - d) := Nat.pow_le_pow_right (by decide) (by omega)
            have h3 : m * 2 ^ (15 - t - d) ≤ m * 2 ^ (15 - d) := Nat.mul_le_mul (Nat.le_refl _) h2
            omega
          have HPW := Lib.hid hpow; clear hpow
          by_cases hbt : (bits .and .i64 ((p1 : Int) / 2 ^ (15 - t)) 1 == 1) = true
          · have HB := Lib.hid (bit64_true (by omega) hbt)
            have hsh := Lib.hid (sh_nat m (15 - t - d) (Nat.lt_of_lt_of_le HPW.out (by decide)))
            have hxor := Lib.hid (i64_xor_nat p1 (m * 2 ^ (15 - t - d)) (by omega) (Nat.lt_of_lt_of_le HPW.out (by decide)))
            go_wp2
            go_roundg (16 - d - (t + 1))
            case measure => omega
            case rel => exact ⟨rfl, t + 1, by omega, rfl, by go_num, by rw [HRE.out, if_pos HB.out, ← hxor.out, hsh.out]⟩
          · have hbf : (bits .and .i64 ((p1 : Int) / 2 ^ (15 - t)) 1 == 1) = false := by simpa using hbt
            have HB := Lib.hid (bit64_false (by omega) hbf)
            clear hbt
            go_wp2
            go_roundg (16 - d - (t + 1))
            case measure => omega
            case rel => exact ⟨rfl, t + 1, by omega, rfl, by go_num, by rw [HRE.out, if_neg HB.out]⟩
        · have : t = 16 - d := by omega
          subst this
          go_wp2
          go_ret
          exact ⟨by rw [HE.out, HG2.out]; rfl, rfl⟩

theorem mulR_lt256 {a b : Nat} (ha : a < 256) : mulR 256 a b < 256 := by rw [mul256 ha]; exact timesE_lt ha
def ok2 (a b : Nat) : Bool := decide (mulR 2 a b < 2) && (((mulR 2 a b : Int) == 1) == (((a : Int) == 1) && ((b : Int) == 1)))
theorem all2 : ((List.range 2).all fun a => (List.range 2).all fun b => ok2 a b) = true := by decide +kernel
theorem mul2 {a b : Nat} (ha : a < 2) (hb : b < 2) : ok2 a b = true := List.all_eq_true.1 (List.all_eq_true.1 all2 a (List.mem_range.2 ha)) b (List.mem_range.2 hb)
end Go.Proofs.Ytpocjpodeahanaa
