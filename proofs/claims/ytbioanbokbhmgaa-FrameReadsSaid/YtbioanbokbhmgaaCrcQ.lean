/- CRC-32C in plain: the register is never the same behind unlike bytes within 32 bits. Conditions: none. -/
import Derived.Test.YtbioanbokbhmgaaFrmP
namespace Go.Proofs.Ytbioanbokbhmgaa

theorem xor_nil {a b : Nat} (h : a ^^^ b = 0) : a = b := by
  have h1 : a ^^^ b ^^^ b = 0 ^^^ b := by rw [h]
  rwa [Nat.xor_assoc, Nat.xor_self, Nat.xor_zero, Nat.zero_xor] at h1
theorem cst_zero_of {r : Nat} (h : r < 4294967296) (e : cst r = 0) : r = 0 := by
  by_cases h1 : r % 2 = 1
  · rw [cst_one h1] at e
    have := xor_nil e
    unfold cM at this
    omega
  · rw [cst_nil h1] at e
    omega
theorem csN_lt : ∀ {n r : Nat}, r < 4294967296 → csN n r < 4294967296
  | 0, _, h => h
  | n + 1, _, h => csN_lt (n := n) (cst_lt h)
theorem csN_xor : ∀ (n a b : Nat), csN n (a ^^^ b) = csN n a ^^^ csN n b
  | 0, _, _ => rfl
  | n + 1, a, b => by show csN n (cst (a ^^^ b)) = _; rw [cst_xor, csN_xor n]; rfl
theorem csN_zero : ∀ n, csN n 0 = 0
  | 0 => rfl
  | n + 1 => by show csN n (cst 0) = 0; rw [cst_zero, csN_zero n]
theorem csN_zero_of : ∀ {n r : Nat}, r < 4294967296 → csN n r = 0 → r = 0
  | 0, _, _, e => e
  | n + 1, _, h, e => cst_zero_of h (csN_zero_of (n := n) (cst_lt h) e)
theorem csN_add : ∀ (n m r : Nat), csN (n + m) r = csN m (csN n r)
  | 0, m, r => by rw [Nat.zero_add]; rfl
  | n + 1, m, r => by rw [show n + 1 + m = (n + m) + 1 by omega]; exact csN_add n m (cst r)
theorem csN_even : ∀ (n a : Nat), csN n (2 ^ n * a) = a
  | 0, a => by simp [csN]
  | n + 1, a => by
    show csN n (cst (2 ^ (n + 1) * a)) = a
    rw [Nat.pow_succ, Nat.mul_comm (2 ^ n) 2, Nat.mul_assoc, cst_even, csN_even n a]
theorem crg_le : ∀ (n r v : Nat), v < 256 ^ n → crg r (le n v) = csN (8 * n) (r ^^^ v)
  | 0, r, v, h => by simp at h; subst h; rw [Nat.xor_zero]; rfl
  | n + 1, r, v, h => by
    rw [Nat.pow_succ] at h
    show crg (cs8 (r ^^^ v % 256)) (le n (v / 256)) = _
    rw [crg_le n _ (v / 256) (by omega), show 8 * (n + 1) = 8 + 8 * n by omega, csN_add, cs8_csN]
    congr 1
    have h1 : v / 256 = csN 8 (2 ^ 8 * (v / 256)) := (csN_even 8 _).symm
    conv => lhs; rw [h1]
    rw [← csN_xor, Nat.xor_assoc]
    congr 2
    have h2 : v % 256 ^^^ 2 ^ 8 * (v / 256) = v := by
      have h3 := Nat.two_pow_add_eq_or_of_lt (i := 8) (b := v % 256) (Nat.mod_lt v (by decide)) (v / 256)
      apply Nat.eq_of_testBit_eq
      intro i
      rw [Nat.testBit_xor]
      have h4 := Nat.testBit_two_pow_mul (i := 8) (a := v / 256) (j := i)
      rw [h4]
      by_cases hi : i < 8
      · rw [show (v % 256).testBit i = v.testBit i by rw [show (256 : Nat) = 2 ^ 8 from rfl, Nat.testBit_mod_two_pow]; simp [hi]]
        simp [show ¬ 8 ≤ i by omega]
      · rw [show (v % 256).testBit i = false by rw [show (256 : Nat) = 2 ^ 8 from rfl, Nat.testBit_mod_two_pow]; simp [hi]]
        rw [show v / 256 = v >>> 8 by rw [Nat.shiftRight_eq_div_pow], Nat.testBit_shiftRight, show 8 + (i - 8) = i by omega]
        simp [show 8 ≤ i by omega]
    exact h2
/-- The register is told by what it was. -/
theorem crg_inj {l : List Nat} {r s : Nat} (hl : ∀ x ∈ l, x < 256) (hr : r < 4294967296) (hs : s < 4294967296) (e : crg r l = crg s l) : r = s := by
  have h := crg_le l.length r (leV l) (leV_lt l hl)
  have h' := crg_le l.length s (leV l) (leV_lt l hl)
  rw [le_leV l hl] at h h'
  rw [h, h'] at e
  have e2 : csN (8 * l.length) ((r ^^^ leV l) ^^^ (s ^^^ leV l)) = 0 := by rw [csN_xor, e, Nat.xor_self]
  rw [xor_swap, Nat.xor_self, Nat.xor_zero] at e2
  exact xor_nil (csN_zero_of (Nat.xor_lt_two_pow (n := 32) hr hs) e2)
/-- Four bytes are told. -/
theorem crg_four {a b : List Nat} {r : Nat} (ha : ∀ x ∈ a, x < 256) (hb : ∀ x ∈ b, x < 256) (la : a.length = 4) (lb : b.length = 4) (e : crg r a = crg r b) : a = b := by
  have h := crg_le a.length r (leV a) (leV_lt a ha)
  have h' := crg_le b.length r (leV b) (leV_lt b hb)
  rw [le_leV a ha, la] at h
  rw [le_leV b hb, lb] at h'
  have la' := leV_lt a ha
  have lb' := leV_lt b hb
  rw [la] at la'
  rw [lb] at lb'
  rw [h, h'] at e
  have e2 : csN (8 * 4) ((r ^^^ leV a) ^^^ (r ^^^ leV b)) = 0 := by rw [csN_xor, e, Nat.xor_self]
  rw [xor_swap, Nat.xor_self, Nat.zero_xor] at e2
  have e3 := xor_nil (csN_zero_of (Nat.xor_lt_two_pow (n := 32) (by simpa using la') (by simpa using lb')) e2)
  have k1 := le_leV a ha
  have k2 := le_leV b hb
  rw [← k1, ← k2, la, lb, e3]
/-- The sums of bytes that are unlike in four places that follow one another. -/
theorem crm_four {s : Nat} {p a b q : List Nat} (hs : s < 4294967296) (hp : ∀ x ∈ p, x < 256) (ha : ∀ x ∈ a, x < 256) (hb : ∀ x ∈ b, x < 256) (hq : ∀ x ∈ q, x < 256) (la : a.length = 4) (lb : b.length = 4) (e : crm s (p ++ a ++ q) = crm s (p ++ b ++ q)) : a = b := by
  unfold crm at e
  have e1 := congrArg (· ^^^ c32) e
  simp only [c32_two] at e1
  rw [crg_app, crg_app, crg_app, crg_app] at e1
  have h0 := crg_lt (c32_lt hs) hp
  exact crg_four ha hb la lb (crg_inj hq (crg_lt h0 ha) (crg_lt h0 hb) e1)
end Go.Proofs.Ytbioanbokbhmgaa
