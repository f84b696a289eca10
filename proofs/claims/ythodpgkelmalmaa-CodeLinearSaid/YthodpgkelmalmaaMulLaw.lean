/- The document's product and the field's are one. Conditions: none. -/
import Derived.Test.YthodpgkelmalmaaMulE
namespace Go.Proofs.Ythodpgkelmalmaa

/-- The document's product before it is brought down. -/
def pR (a b : Nat) : Nat → Nat
  | 0 => 0
  | k + 1 => if b / 2 ^ k % 2 = 1 then pR a b k ^^^ (a * 2 ^ k) else pR a b k
def rstep (c j p : Nat) : Nat := if p / 2 ^ j % 2 = 1 then p ^^^ c else p
/-- Brought down by m, of degree d. -/
def rR (d m p : Nat) : Nat → Nat
  | 0 => p
  | t + 1 => rstep (m * 2 ^ (15 - t - d)) (15 - t) (rR d m p t)
def degD (s : Nat) : Nat := if s = 256 then 8 else if s = 4 then 2 else 1
def degM (s : Nat) : Nat := if s = 256 then 285 else if s = 4 then 7 else 2
def mulR (s a b : Nat) : Nat := rR (degD s) (degM s) (pR a b 8) (16 - degD s)

theorem bit_xor (p q j : Nat) : (p ^^^ q) / 2 ^ j % 2 = (p / 2 ^ j % 2 + q / 2 ^ j % 2) % 2 := by
  have h := Nat.testBit_xor p q j
  rw [Nat.testBit_eq_decide_div_mod_eq, Nat.testBit_eq_decide_div_mod_eq, Nat.testBit_eq_decide_div_mod_eq] at h
  generalize (p ^^^ q) / 2 ^ j = x at *
  generalize p / 2 ^ j = y at *
  generalize q / 2 ^ j = z at *
  rcases Nat.mod_two_eq_zero_or_one x with hx | hx <;> rcases Nat.mod_two_eq_zero_or_one y with hy | hy <;> rcases Nat.mod_two_eq_zero_or_one z with hz | hz <;> simp [hx, hy, hz] at h ⊢
theorem rstep_xor (c j p q : Nat) : rstep c j (p ^^^ q) = rstep c j p ^^^ rstep c j q := by
  unfold rstep
  have h := bit_xor p q j
  rcases Nat.mod_two_eq_zero_or_one (p / 2 ^ j) with hy | hy <;> rcases Nat.mod_two_eq_zero_or_one (q / 2 ^ j) with hz | hz <;> rw [h, hy, hz] <;> simp
  · rw [Nat.xor_assoc]
  · rw [Nat.xor_assoc, Nat.xor_assoc, Nat.xor_comm q c]
  · rw [Nat.xor_assoc p c, Nat.xor_comm q c, ← Nat.xor_assoc c c q, Nat.xor_self, Nat.zero_xor]
theorem rR_xor (d m p q : Nat) : ∀ t, rR d m (p ^^^ q) t = rR d m p t ^^^ rR d m q t
  | 0 => rfl
  | t + 1 => by unfold rR; rw [rR_xor d m p q t, rstep_xor]
theorem rR_zero (d m : Nat) : ∀ t, rR d m 0 t = 0
  | 0 => rfl
  | t + 1 => by unfold rR; rw [rR_zero d m t]; unfold rstep; simp
def rowOk (a : Nat) : Bool := (List.range 8).all fun i => rR 8 285 (a * 2 ^ i) 8 == xE a i
set_option maxRecDepth 100000 in
theorem rows_ok1 : (List.range 256).all rowOk = true := by decide +kernel
theorem mul256 {a b : Nat} (ha : a < 256) : mulR 256 a b = timesE a b := by
  have hx : ∀ i, i < 8 → rR 8 285 (a * 2 ^ i) 8 = xE a i := fun i hi => eq_of_beq (List.all_eq_true.1 (List.all_eq_true.1 rows_ok1 a (List.mem_range.2 ha)) i (List.mem_range.2 hi))
  have key : ∀ k, k ≤ 8 → rR 8 285 (pR a b k) 8 = pE a b k := by
    intro k
    induction k with
    | zero => intro _; exact rR_zero _ _ _
    | succ k ih =>
      intro hk
      unfold pR pE
      by_cases h : b / 2 ^ k % 2 = 1
      · rw [if_pos h, if_pos h, rR_xor, ih (by omega), hx k (by omega)]
      · rw [if_neg h, if_neg h, ih (by omega)]
  exact key 8 (Nat.le_refl _)
end Go.Proofs.Ythodpgkelmalmaa
