/- CRC-32C in plain: the step, its linearity, the table of half bytes, the register over a list of bytes. Conditions: none. -/
import Derived.Test.YtbioanbokbhmgaaMem2
namespace Go.Proofs.Ytbioanbokbhmgaa

/-- Castagnoli's polynomial, the highest power lowest. -/
def cM : Nat := 2197175160
/-- One step. -/
def cst (r : Nat) : Nat := r / 2 ^^^ (if r % 2 = 1 then cM else 0)
def cs4 (r : Nat) : Nat := cst (cst (cst (cst r)))
def cs8 (r : Nat) : Nat := cs4 (cs4 r)
theorem cst_one {r : Nat} (h : r % 2 = 1) : cst r = r / 2 ^^^ cM := by unfold cst; rw [if_pos h]
theorem cst_nil {r : Nat} (h : r % 2 ≠ 1) : cst r = r / 2 := by unfold cst; rw [if_neg h, Nat.xor_zero]
theorem cst_lt {r : Nat} (h : r < 4294967296) : cst r < 4294967296 :=
  Nat.xor_lt_two_pow (n := 32) (by omega) (by split <;> decide)
theorem cs4_lt {r : Nat} (h : r < 4294967296) : cs4 r < 4294967296 := cst_lt (cst_lt (cst_lt (cst_lt h)))
theorem cs8_lt {r : Nat} (h : r < 4294967296) : cs8 r < 4294967296 := cs4_lt (cs4_lt h)
theorem xor_half (a b : Nat) : (a ^^^ b) / 2 = a / 2 ^^^ b / 2 := by
  have h := Nat.shiftRight_xor_distrib (a := a) (b := b) (i := 1)
  simpa [Nat.shiftRight_eq_div_pow] using h
theorem xor_odd (a b : Nat) : (a ^^^ b) % 2 = (a % 2 + b % 2) % 2 := by
  have h := Nat.xor_mod_two_pow (a := a) (b := b) (n := 1)
  have h2 : (a ^^^ b) % 2 = a % 2 ^^^ b % 2 := by simpa using h
  rw [h2]
  rcases Nat.mod_two_eq_zero_or_one a with ha | ha <;> rcases Nat.mod_two_eq_zero_or_one b with hb | hb <;> rw [ha, hb] <;> rfl
theorem xor_swap (a b c d : Nat) : (a ^^^ b) ^^^ (c ^^^ d) = (a ^^^ c) ^^^ (b ^^^ d) := by
  rw [Nat.xor_assoc, Nat.xor_assoc, ← Nat.xor_assoc b, Nat.xor_comm b c, Nat.xor_assoc c]
theorem cst_xor (a b : Nat) : cst (a ^^^ b) = cst a ^^^ cst b := by
  unfold cst
  rw [xor_half, xor_odd, xor_swap]
  congr 1
  rcases Nat.mod_two_eq_zero_or_one a with ha | ha <;> rcases Nat.mod_two_eq_zero_or_one b with hb | hb <;> rw [ha, hb] <;> simp
theorem cs4_xor (a b : Nat) : cs4 (a ^^^ b) = cs4 a ^^^ cs4 b := by unfold cs4; rw [cst_xor, cst_xor, cst_xor, cst_xor]
theorem cs8_xor (a b : Nat) : cs8 (a ^^^ b) = cs8 a ^^^ cs8 b := by unfold cs8; rw [cs4_xor, cs4_xor]
theorem cst_zero : cst 0 = 0 := by decide
theorem cst_even (a : Nat) : cst (2 * a) = a := by rw [cst_nil (by omega)]; omega
theorem cs4_even (a : Nat) : cs4 (16 * a) = a := by
  unfold cs4
  rw [show 16 * a = 2 * (2 * (2 * (2 * a))) by omega, cst_even, cst_even, cst_even, cst_even]
theorem split16 (r : Nat) : r = 16 * (r / 16) ^^^ r % 16 := by
  have h := Nat.two_pow_add_eq_or_of_lt (i := 4) (b := r % 16) (Nat.mod_lt r (by decide)) (r / 16)
  have h2 : 16 * (r / 16) ||| r % 16 = 16 * (r / 16) ^^^ r % 16 := by
    apply Nat.eq_of_testBit_eq
    intro i
    rw [Nat.testBit_xor, Nat.testBit_or]
    by_cases hi : i < 4
    · have : (16 * (r / 16)).testBit i = false := by
        have := Nat.testBit_two_pow_mul (i := 4) (a := r / 16) (j := i)
        rw [show (2 : Nat) ^ 4 = 16 from rfl] at this
        rw [this]; simp; omega
      rw [this]; simp
    · have : (r % 16).testBit i = false := Nat.testBit_lt_two_pow (Nat.lt_of_lt_of_le (Nat.mod_lt r (by decide)) (Nat.pow_le_pow_right (n := 2) (by decide) (show 4 ≤ i by omega)))
      rw [this]; simp
  rw [← h2]
  have h3 : 16 * (r / 16) + r % 16 = 16 * (r / 16) ||| r % 16 := h
  rw [← h3]; omega
/-- Four steps by the table. -/
theorem cs4_tab (r : Nat) : cs4 r = r / 16 ^^^ cs4 (r % 16) := by
  conv => lhs; rw [split16 r]
  rw [cs4_xor, cs4_even]
/-- The register when it has gone over bytes. -/
def crg (r : Nat) (l : List Nat) : Nat := l.foldl (fun r x => cs8 (r ^^^ x)) r
theorem crg_nil (r : Nat) : crg r [] = r := rfl
theorem crg_cons (r x : Nat) (l : List Nat) : crg r (x :: l) = crg (cs8 (r ^^^ x)) l := rfl
theorem crg_app (r : Nat) (a b : List Nat) : crg r (a ++ b) = crg (crg r a) b := by unfold crg; rw [List.foldl_append]
theorem crg_lt {l : List Nat} : ∀ {r : Nat}, r < 4294967296 → (∀ x ∈ l, x < 256) → crg r l < 4294967296 := by
  induction l with
  | nil => intro r h _; exact h
  | cons x l ih =>
    intro r h hl
    rw [crg_cons]
    exact ih (cs8_lt (Nat.xor_lt_two_pow (n := 32) h (Nat.lt_of_lt_of_le (hl x (by simp)) (by decide)))) fun y hy => hl y (by simp [hy])
def c32 : Nat := 4294967295
theorem c32_lt {r : Nat} (h : r < 4294967296) : r ^^^ c32 < 4294967296 := Nat.xor_lt_two_pow (n := 32) h (by decide)
theorem c32_two (r : Nat) : r ^^^ c32 ^^^ c32 = r := by rw [Nat.xor_assoc, Nat.xor_self, Nat.xor_zero]
/-- On behind bytes whose sum is known; the sum of bytes. -/
def crm (s : Nat) (l : List Nat) : Nat := crg (s ^^^ c32) l ^^^ c32
def crc (l : List Nat) : Nat := crm 0 l
theorem crm_lt {s : Nat} {l : List Nat} (h : s < 4294967296) (hl : ∀ x ∈ l, x < 256) : crm s l < 4294967296 := c32_lt (crg_lt (c32_lt h) hl)
theorem crc_lt {l : List Nat} (hl : ∀ x ∈ l, x < 256) : crc l < 4294967296 := crm_lt (by decide) hl
theorem crm_app (s : Nat) (a b : List Nat) : crm (crm s a) b = crm s (a ++ b) := by unfold crm; rw [c32_two, crg_app]
theorem crc_app (a b : List Nat) : crm (crc a) b = crc (a ++ b) := crm_app 0 a b
/-- The register's differences go on by themselves. -/
def crx (a b : List Nat) : List Nat := List.zipWith (· ^^^ ·) a b
theorem crg_xor : ∀ (a b : List Nat) (r s : Nat), a.length = b.length → crg r a ^^^ crg s b = crg (r ^^^ s) (crx a b)
  | [], [], _, _, _ => rfl
  | x :: a, y :: b, r, s, h => by
    rw [crg_cons, crg_cons, crg_xor a b _ _ (by simpa using h), ← cs8_xor, xor_swap]; rfl
/-- n steps. -/
def csN : Nat → Nat → Nat
  | 0, r => r
  | n + 1, r => csN n (cst r)
theorem csN_snoc : ∀ (n r : Nat), csN (n + 1) r = cst (csN n r)
  | 0, _ => rfl
  | n + 1, r => csN_snoc n (cst r)
theorem cs8_csN (r : Nat) : cs8 r = csN 8 r := rfl
theorem csN_small : ∀ {n r : Nat}, r < 4294967296 → csN n r < 4294967296
  | 0, _, h => h
  | n + 1, _, h => csN_small (n := n) (cst_lt h)
theorem c32_sub {a : Nat} (h : a < 4294967296) : a ^^^ c32 = 4294967295 - a := by
  unfold c32
  apply Nat.eq_of_testBit_eq
  intro i
  rw [Nat.testBit_xor]
  have h1 := Nat.testBit_two_pow_sub_succ (n := 32) (x := a) (by simpa using h) i
  have h2 := Nat.testBit_two_pow_sub_one 32 i
  rw [show (4294967295 : Nat) - a = 2 ^ 32 - (a + 1) by omega, h1, show (4294967295 : Nat) = 2 ^ 32 - 1 from rfl, h2]
  by_cases hi : i < 32
  · simp [hi]
  · have := Nat.testBit_lt_two_pow (Nat.lt_of_lt_of_le h (show 2 ^ 32 ≤ 2 ^ i from Nat.pow_le_pow_right (by decide) (by omega)))
    simp [hi, this]
theorem crm_def (s : Nat) (l : List Nat) : crm s l = crg (s ^^^ c32) l ^^^ c32 := rfl
/-- One byte of the program's. -/
def cby (r x : Nat) : Nat := (let q := r ^^^ x; let p := q / 16 ^^^ cs4 (q % 16); p / 16 ^^^ cs4 (p % 16))
theorem cby_eq (r x : Nat) : cby r x = cs8 (r ^^^ x) := by
  unfold cby cs8
  rw [cs4_tab (cs4 (r ^^^ x)), cs4_tab (r ^^^ x)]
end Go.Proofs.Ytbioanbokbhmgaa
