/- Times and Over of the document's layer 1: the walks. Conditions: bytes. -/
import Derived.Test.YtjaaldandgfkgaaGf
import Derived.Test.YtjaaldandgfkgaaElm
namespace Go.Proofs.Ytjaaldandgfkgaa
open Go.RowKit

theorem pR_lt {a b : Nat} (h : a < 256) : ∀ k, k ≤ 8 → pR a b k < 2 ^ 16
  | 0, _ => by unfold pR; decide
  | k + 1, hk => by
    unfold pR
    have h2 : 2 ^ k ≤ 2 ^ 7 := Nat.pow_le_pow_right (by decide) (by omega)
    have h3 : a * 2 ^ k ≤ 255 * 2 ^ 7 := Nat.mul_le_mul (by omega) h2
    split
    · exact Nat.xor_lt_two_pow (pR_lt h k (by omega)) (by omega)
    · exact pR_lt h k (by omega)
theorem and_bit64 (b k : Nat) (h : b < 2 ^ 62) : bits .and .i64 ((b : Int) / 2 ^ k) 1 = ((b / 2 ^ k % 2 : Nat) : Int) := by
  have e : ((b : Int) / 2 ^ k) = ((b / 2 ^ k : Nat) : Int) := by norm_cast
  have hl : b / 2 ^ k < 2 ^ 62 := Nat.lt_of_le_of_lt (Nat.div_le_self _ _) h
  rw [e, show (1 : Int) = ((1 : Nat) : Int) from rfl, (bits_nat .i64 62 (by decide) i64_small _ 1 hl (by decide)).1, nat_mask1]
theorem bit64_true {b k : Nat} (h : b < 2 ^ 62) (ht : (bits .and .i64 ((b : Int) / 2 ^ k) 1 == 1) = true) : b / 2 ^ k % 2 = 1 := by
  rw [and_bit64 b k h] at ht
  generalize b / 2 ^ k = z at *
  have := eq_of_beq ht
  omega
theorem bit64_false {b k : Nat} (h : b < 2 ^ 62) (ht : (bits .and .i64 ((b : Int) / 2 ^ k) 1 == 1) = false) : ¬ b / 2 ^ k % 2 = 1 := by
  rw [and_bit64 b k h] at ht
  generalize b / 2 ^ k = z at *
  intro e
  rw [e] at ht
  exact absurd ht (by decide)

theorem sh_nat (x k : Nat) (h : x * 2 ^ k < 2 ^ 62) : wrap64 ((x : Int) * 2 ^ k) = ((x * 2 ^ k : Nat) : Int) := by
  have e : ((x : Int) * 2 ^ k) = ((x * 2 ^ k : Nat) : Int) := by norm_cast
  rw [e]
  generalize x * 2 ^ k = z at *
  unfold wrap64
  omega
theorem rR_lt {d m p : Nat} (hp : p < 2 ^ 16) (hm : m * 2 ^ (15 - d) < 2 ^ 16) : ∀ t, t ≤ 16 - d → rR d m p t < 2 ^ 16
  | 0, _ => hp
  | t + 1, ht => by
    unfold rR rstep
    have h2 : 2 ^ (15 - t - d) ≤ 2 ^ (15 - d) := Nat.pow_le_pow_right (by decide) (by omega)
    have h3 : m * 2 ^ (15 - t - d) ≤ m * 2 ^ (15 - d) := Nat.mul_le_mul (Nat.le_refl _) h2
    split
    · exact Nat.xor_lt_two_pow (rR_lt hp hm t (by omega)) (by omega)
    · exact rR_lt hp hm t (by omega)


theorem pR_lt15 {a b : Nat} (h : a < 256) : ∀ k, k ≤ 8 → pR a b k < 2 ^ 15
  | 0, _ => by unfold pR; decide
  | k + 1, hk => by
    unfold pR
    have h2 : 2 ^ k ≤ 2 ^ 7 := Nat.pow_le_pow_right (by decide) (by omega)
    have h3 : a * 2 ^ k ≤ 255 * 2 ^ 7 := Nat.mul_le_mul (by omega) h2
    split
    · exact Nat.xor_lt_two_pow (pR_lt15 h k (by omega)) (by omega)
    · exact pR_lt15 h k (by omega)
set_option maxHeartbeats 800000 in
theorem rtimes_any (x y : Fin 256) (w : World) :
    Calls Try.prog 81 #[.int .i64 (x.val : Nat), .int .i64 (y.val : Nat)] w fun e w' => e = .returned (.int .i64 ((gE.m x y).val : Nat)) ∧ w = w' := by
  have ha := x.isLt
  have hb := y.isLt
  have HM : Hid ((gE.m x y).val = rR 8 285 (pR x.val y.val 8) 8) := rfl
  generalize (gE.m x y).val = M at *
  generalize x.val = a at *
  generalize y.val = b at *
  go_enter Try.func81, Try.ntmps81
  go_wp2
  go_loopg [5, 6] 8 (fun g p i wr => wr = w ∧ ∃ k : Nat, k ≤ 8 ∧ g = 8 - k ∧ i = .int .i64 k ∧ p = .int .i64 (pR a b k))
  case atStart => exact ⟨rfl, 0, by omega, rfl, rfl, rfl⟩
  case round =>
    obtain ⟨rfl, k, hk, rfl, rfl, rfl⟩ := hrel
    have hp0 := pR_lt (b := b) ha k hk
    have HP15 := Lib.hid (pR_lt15 (b := b) ha k hk)
    have hpe : pR a b (k + 1) = if b / 2 ^ k % 2 = 1 then pR a b k ^^^ (a * 2 ^ k) else pR a b k := rfl
    have HPE := Lib.hid hpe; clear hpe
    generalize hpg : pR a b k = p0 at *
    have HG1 := Lib.hid hpg; clear hpg
    by_cases hlt : k < 8
    · by_cases hbt : (bits .and .i64 ((b : Int) / 2 ^ k) 1 == 1) = true
      · have HB := Lib.hid (bit64_true (by omega) hbt)
        have hsh := Lib.hid (sh_nat a k (by have h2 : 2 ^ k ≤ 2 ^ 7 := Nat.pow_le_pow_right (by decide) (by omega); have h3 : a * 2 ^ k ≤ 255 * 2 ^ 7 := Nat.mul_le_mul (by omega) h2; omega))
        have hxor := Lib.hid (i64_xor_nat p0 (a * 2 ^ k) (by omega) (by have h2 : 2 ^ k ≤ 2 ^ 7 := Nat.pow_le_pow_right (by decide) (by omega); have h3 : a * 2 ^ k ≤ 255 * 2 ^ 7 := Nat.mul_le_mul (by omega) h2; omega))
        go_wp2
        go_roundg (8 - (k + 1))
        case measure => omega
        case rel => exact ⟨rfl, k + 1, by omega, rfl, by go_num, by rw [HPE.out, if_pos HB.out, ← hxor.out, hsh.out]⟩
      · have hbf : (bits .and .i64 ((b : Int) / 2 ^ k) 1 == 1) = false := by simpa using hbt
        have HB := Lib.hid (bit64_false (by omega) hbf)
        clear hbt
        go_wp2
        go_roundg (8 - (k + 1))
        case measure => omega
        case rel => exact ⟨rfl, k + 1, by omega, rfl, by go_num, by rw [HPE.out, if_neg HB.out]⟩
    · have : k = 8 := by omega
      subst this
      have HE : Hid (M = rR 8 285 p0 8) := by rw [← HG1.out]; exact HM.out
      have H1 : Hid (rR 8 285 p0 1 = p0) := by
        show rstep _ 15 p0 = p0
        unfold rstep
        rw [if_neg]
        have := HP15.out
        rw [Nat.div_eq_of_lt this]
        decide
      clear hlt HPE HM
      go_wp2
      go_loopg [5, 7] 7 (fun g p i w' => w' = wr ∧ ∃ t : Nat, t ≤ 7 ∧ g = 7 - t ∧ i = .int .i64 ((14 : Int) - t) ∧ p = .int .i64 (rR 8 285 p0 (t + 1)))
      case atStart => exact ⟨rfl, 0, by omega, rfl, rfl, by rw [H1.out]⟩
      case round =>
        obtain ⟨rfl, t, ht, rfl, rfl, rfl⟩ := hrel
        have hp1 := rR_lt (d := 8) (m := 285) hp0 (by decide) (t + 1) (by omega)
        have hre : rR 8 285 p0 (t + 1 + 1) = if rR 8 285 p0 (t + 1) / 2 ^ (15 - (t + 1)) % 2 = 1 then rR 8 285 p0 (t + 1) ^^^ (285 * 2 ^ (15 - (t + 1) - 8)) else rR 8 285 p0 (t + 1) := rfl
        rw [show 15 - (t + 1) = 14 - t by omega] at hre
        have HRE := Lib.hid hre; clear hre
        generalize hpg : rR 8 285 p0 (t + 1) = p1 at *
        have HG2 := Lib.hid hpg; clear hpg
        by_cases hlt : t < 7
        · have hpow : 285 * 2 ^ (14 - t - 8) < 2 ^ 16 := by
            have h2 : 2 ^ (14 - t - 8) ≤ 2 ^ 7 := Nat.pow_le_pow_right (by decide) (by omega)
            omega
          have HPW := Lib.hid hpow; clear hpow
          have e14 : (14 : Int) - (t : Int) = ((14 - t : Nat) : Int) := by omega
          rw [e14]
          by_cases hbt : (bits .and .i64 ((p1 : Int) / 2 ^ (14 - t)) 1 == 1) = true
          · have HB := Lib.hid (bit64_true (by omega) hbt)
            have hsh := Lib.hid (sh_nat 285 (14 - t - 8) (Nat.lt_of_lt_of_le HPW.out (by decide)))
            have hxor := Lib.hid (i64_xor_nat p1 (285 * 2 ^ (14 - t - 8)) (by omega) (Nat.lt_of_lt_of_le HPW.out (by decide)))
            go_wp2
            go_roundg (7 - (t + 1))
            case measure => omega
            case rel => exact ⟨rfl, t + 1, by omega, rfl, by go_num, by rw [HRE.out, if_pos HB.out, ← hxor.out, ← hsh.out]; rfl⟩
          · have hbf : (bits .and .i64 ((p1 : Int) / 2 ^ (14 - t)) 1 == 1) = false := by simpa using hbt
            have HB := Lib.hid (bit64_false (by omega) hbf)
            clear hbt
            go_wp2
            go_roundg (7 - (t + 1))
            case measure => omega
            case rel => exact ⟨rfl, t + 1, by omega, rfl, by go_num, by rw [HRE.out, if_neg HB.out]⟩
        · have : t = 7 := by omega
          subst this
          go_wp2
          go_ret
          exact ⟨by rw [HE.out, ← HG2.out]; rfl, rfl⟩
set_option maxRecDepth 20000 in
set_option maxHeartbeats 1000000 in
theorem rover_any (x y : Fin 256) (w : World) :
    Calls Try.prog 102 #[.int .i64 (x.val : Nat), .int .i64 (y.val : Nat)] w fun e w' => ∃ er : Int, e = .returned (.tuple #[.int .i64 ((gE.m x (gE.v y)).val : Nat), .int .i64 er]) ∧ w = w' := by
  by_cases h0 : y = gE.z
  · subst h0
    have HZ : Hid ((gE.m x (gE.v gE.z)).val = 0) := by rw [gE.v_z, gE.m_z]; rfl
    have t1 : (((gE.z.val : Nat) : Int) == 0) = true := rfl
    rw [HZ.out]
    generalize gE.z.val = Z at *
    go_enter Try.func102, Try.ntmps102
    go_wp2
    go_ret2
    exact ⟨10, rfl, rfl⟩
  · have t1 : ((y.val : Int) == 0) = false := by
      rw [beq_eq_false_iff_ne]; intro e; exact h0 (Fin.ext (by show y.val = 0; omega))
    have HU : Hid (∀ c : Fin 256, gE.m c y = x ↔ c = gE.m x (gE.v y)) := fun c => by
      constructor
      · intro e; rw [← e, gE.m_assoc, gE.m_v y h0, gE.m_u]
      · intro e; rw [e, gE.m_assoc, gE.m_comm (gE.v y), gE.m_v y h0, gE.m_u]
    have CT := Lib.hid (fun (c : Fin 256) w => rtimes_any c y w)
    generalize hq : gE.m x (gE.v y) = q at *
    have hql := q.isLt
    clear h0 hq
    go_enter Try.func102, Try.ntmps102
    go_wp2
    go_loopg [6] (q.val) (fun g i wr => wr = w ∧ ∃ k : Nat, k ≤ q.val ∧ g = q.val - k ∧ i = .int .i64 k)
    case atStart => exact ⟨rfl, 0, by omega, rfl, rfl⟩
    case round =>
      obtain ⟨rfl, k, hk, rfl, rfl⟩ := hrel
      have CK := Lib.hid (CT.out ⟨k, by omega⟩ wr)
      by_cases hlt : k = q.val
      · have e : gE.m ⟨k, by omega⟩ y = x := (HU.out _).2 (Fin.ext hlt)
        rw [e] at CK
        have HK := Lib.hid hlt
        have CK2 : Hid (Calls Try.prog 81 #[.int .i64 (k : Nat), .int .i64 (y.val : Nat)] wr fun e w' => e = .returned (.int .i64 (x.val : Nat)) ∧ wr = w') := CK.out
        clear e hlt CK CT
        go_wp2_with fail
        refine CK2.out.mono ?_
        rintro e w1 ⟨rfl, rfl⟩
        go_wp2
        go_ret2
        exact ⟨0, by rw [HK.out]; rfl, rfl⟩
      · have e : gE.m ⟨k, by omega⟩ y ≠ x := fun e => hlt (congrArg Fin.val ((HU.out _).1 e))
        have CK2 : Hid (Calls Try.prog 81 #[.int .i64 (k : Nat), .int .i64 (y.val : Nat)] wr fun e w' => e = .returned (.int .i64 ((gE.m ⟨k, by omega⟩ y).val : Nat)) ∧ wr = w') := CK.out
        have hne : (((gE.m ⟨k, by omega⟩ y).val : Int) == (x.val : Int)) = false := by
          rw [beq_eq_false_iff_ne]; intro e2; exact e (Fin.ext (by omega))
        generalize (gE.m ⟨k, by omega⟩ y).val = z at *
        clear e CK
        go_wp2_with fail
        refine CK2.out.mono ?_
        rintro e w1 ⟨rfl, rfl⟩
        go_wp2
        go_roundg (q.val - (k + 1))
        case measure => omega
        case rel => exact ⟨rfl, k + 1, by omega, rfl, by go_num⟩
end Go.Proofs.Ytjaaldandgfkgaa
