/- The calls of an element of the field of 256, over the plain field. Conditions: none. -/
import Derived.Test.YtjaaldandgfkgaaGf
import Derived.Test.YtjaaldandgfkgaaFactG
namespace Go.Proofs.Ytjaaldandgfkgaa
open Go.RowKit

/-- An element as a value. -/
def vE (x : Fin 256) : Value := .int .u8 (x.val : Int)
theorem mixed : Try.prog.follows .mixedOrders = true := by kernel_rfl
theorem mE_times (n : Nat) (x : Int) (w : World) : (method (n + 1) 127 (.int .u8 x) "Times").run Try.prog w = .ok (104, .int .u8 x) w := by kernel_rfl
theorem mE_plus (n : Nat) (x : Int) (w : World) : (method (n + 1) 127 (.int .u8 x) "Plus").run Try.prog w = .ok (143, .int .u8 x) w := by kernel_rfl
theorem mE_zero (n : Nat) (x : Int) (w : World) : (method (n + 1) 127 (.int .u8 x) "IsZero").run Try.prog w = .ok (142, .int .u8 x) w := by kernel_rfl
theorem mE_inv (n : Nat) (x : Int) (w : World) : (method (n + 1) 127 (.int .u8 x) "Inverse").run Try.prog w = .ok (121, .int .u8 x) w := by kernel_rfl

theorem tG_any (x y : Fin 256) (w : World) : Calls Try.prog 104 #[.int .u8 (x.val : Int), .int .u8 (y.val : Int)] w fun e w' => e = .returned (.int .u8 ((gE.m x y).val : Int)) ∧ w = w' := by
  have h := timesE_any x.val y.val w x.isLt y.isLt
  have e : (gE.m x y).val = timesE x.val y.val := mul256 x.isLt
  rw [e]; exact h
theorem pG_any (x y : Fin 256) (w : World) : Calls Try.prog 143 #[.int .u8 (x.val : Int), .int .u8 (y.val : Int)] w fun e w' => e = .returned (.int .u8 ((gE.a x y).val : Int)) ∧ w = w' := by
  have h : Hid (bits .xor .u8 (x.val : Int) (y.val : Int) = (((gE.a x y).val : Nat) : Int)) := u8_xor_nat x.val y.val x.isLt y.isLt
  go_enter Try.func143, Try.ntmps143
  go_wp2
  go_ret
  exact ⟨by rw [← h.out]; rfl, rfl⟩
theorem zG_any (x : Fin 256) (w : World) : Calls Try.prog 142 #[.int .u8 (x.val : Int)] w fun e w' => e = .returned (.bool ((x.val : Int) == 0)) ∧ w = w' := by
  go_enter Try.func142, Try.ntmps142
  go_wp2
  go_ret
  exact ⟨rfl, rfl⟩
theorem zG_true {x : Fin 256} (h : x = gE.z) : ((x.val : Int) == 0) = true := by subst h; rfl
theorem zG_false {x : Fin 256} (h : x ≠ gE.z) : ((x.val : Int) == 0) = false := by
  rw [beq_eq_false_iff_ne]
  intro e
  exact h (Fin.ext (by show x.val = 0; omega))
set_option maxHeartbeats 800000 in
theorem pow254_any (x : Nat) (w : World) (hx : x < 256) (h0 : x ≠ 0) :
    Calls Try.prog 125 #[.int .u8 x, .int .i64 254] w fun e w' => e = .returned (.int .u8 (pwP x 8)) ∧ w = w' := by
  have t0 : ((x : Int) == 0) = false := by rw [beq_eq_false_iff_ne]; omega
  clear h0
  go_enter Try.func125, Try.ntmps125
  go_wp2
  clear t0
  go_loopg [0, 1, 5] 8 (fun g a n p wr => wr = w ∧ ∃ t : Nat, t ≤ 8 ∧ g = 8 - t ∧ n = .int .i64 (254 / 2 ^ t : Nat) ∧ p = .int .u8 (pwP x t) ∧ a = .int .u8 (pwA x t))
  case atStart => exact ⟨rfl, 0, by omega, rfl, rfl, rfl, rfl⟩
  case round =>
    obtain ⟨rfl, t, ht, rfl, rfl, rfl, rfl⟩ := hrel
    have ha := pwA_lt hx t
    have hp : pwP x t < 256 := pwP_lt t
    have HA : Hid (pwA x (t + 1) = timesE (pwA x t) (pwA x t)) := rfl
    have HP : Hid (pwP x (t + 1) = if 254 / 2 ^ t % 2 = 1 then timesE (pwP x t) (pwA x t) else pwP x t) := rfl
    have hN : 254 / 2 ^ (t + 1) = 254 / 2 ^ t / 2 := by rw [Nat.pow_succ, Nat.div_div_eq_div_mul]
    have hN2 : 254 / 2 ^ t ≤ 254 := Nat.div_le_self _ _
    have hN3 : t < 8 → 0 < 254 / 2 ^ t := fun h => Nat.div_pos (Nat.le_trans (Nat.pow_le_pow_right (by decide) (show t ≤ 7 by omega)) (by decide)) (Nat.two_pow_pos t)
    have HE : Hid (pwP x 8 = pwP x 8) := rfl
    by_cases hlt : t < 8
    · have hN4 := hN3 hlt
      clear hN3
      have HN := Lib.hid hN; clear hN
      generalize pwA x t = a0 at *
      generalize pwP x t = p0 at *
      generalize 254 / 2 ^ t = N at *
      by_cases hodd : N % 2 = 1
      · have t1 : ((N : Int) % 2 == 1) = true := by rw [beq_iff_eq]; omega
        have HO := Lib.hid hodd; clear hodd
        go_wp2_with fail
        refine (timesE_any p0 a0 _ hp ha).mono ?_
        rintro e w1 ⟨rfl, rfl⟩
        go_wp2_with fail
        refine (timesE_any a0 a0 _ ha ha).mono ?_
        rintro e w1 ⟨rfl, rfl⟩
        go_wp2
        go_roundg (8 - (t + 1))
        case measure => omega
        case rel => exact ⟨rfl, t + 1, by omega, rfl, by rw [HN.out]; go_num, by rw [HP.out, if_pos HO.out], by rw [HA.out]⟩
      · have t1 : ((N : Int) % 2 == 1) = false := by rw [beq_eq_false_iff_ne]; omega
        have HO := Lib.hid hodd; clear hodd
        go_wp2_with fail
        refine (timesE_any a0 a0 _ ha ha).mono ?_
        rintro e w1 ⟨rfl, rfl⟩
        go_wp2
        go_roundg (8 - (t + 1))
        case measure => omega
        case rel => exact ⟨rfl, t + 1, by omega, rfl, by rw [HN.out]; go_num, by rw [HP.out, if_neg HO.out], by rw [HA.out]⟩
    · have : t = 8 := by omega
      subst this
      clear hN hN2 hN3 HA HP
      go_wp2
      go_ret
      exact ⟨rfl, rfl⟩
theorem iG_any (x : Fin 256) (w : World) : Calls Try.prog 121 #[.int .u8 (x.val : Int)] w fun e w' => e = .returned (.tuple #[.int .u8 ((gE.v x).val : Int), .bool (!((x.val : Int) == 0))]) ∧ w = w' := by
  by_cases h : x = gE.z
  · have h0 := zG_true h
    subst h
    go_enter Try.func121, Try.ntmps121
    go_wp2
    go_ret2
    exact ⟨rfl, rfl⟩
  · have h0 := zG_false h
    have hx : x.val ≠ 0 := fun e => h (Fin.ext e)
    have HV : Hid ((gE.v x).val = pwP x.val 8) := by show invE x.val = _; unfold invE; rw [if_neg hx]
    have HC := Lib.hid (fun w => pow254_any x.val w x.isLt hx)
    clear h hx
    go_enter Try.func121, Try.ntmps121
    go_wp2_with fail
    refine (HC.out _).mono ?_
    rintro e w1 ⟨rfl, rfl⟩
    go_wp2
    go_ret2
    exact ⟨by rw [HV.out]; simp [h0], rfl⟩
end Go.Proofs.Ytjaaldandgfkgaa
