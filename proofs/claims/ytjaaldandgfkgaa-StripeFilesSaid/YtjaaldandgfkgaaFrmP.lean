/- CRC-32C in plain: the step, its linearity, the table of half bytes, the register over a list of bytes. Conditions: none. -/
import Derived.Test.YtjaaldandgfkgaaMem2
import Derived.Test.YtjaaldandgfkgaaOwl
import Derived.Test.YtjaaldandgfkgaaStrN
import Derived.Test.YtjaaldandgfkgaaFCkp
namespace Go.Proofs.Ytjaaldandgfkgaa

/-- Castagnoli's polynomial, the highest power lowest. -/
def cM : Nat := 2197175160
/-- One step. -/
def cst (r : Nat) : Nat := r / 2 ^^^ (if r % 2 = 1 then cM else 0)
def cs4 (r : Nat) : Nat := cst (cst (cst (cst r)))
def cs8 (r : Nat) : Nat := cs4 (cs4 r)
theorem cst_one {r : Nat} (h : r % 2 = 1) : cst r = r / 2 ^^^ cM := by unfold cst; rw [if_pos h]
theorem cst_nil {r : Nat} (h : r % 2 ≠ 1) : cst r = r / 2 := by unfold cst; rw [if_neg h, Nat.xor_zero]
theorem cst_lt {r : Nat} (h : r < 4294967296) : cst r < 4294967296 :=
  Nat.xor_lt_two_pow (n := 32) (by omega) (by split <;> decide)
theorem cs4_lt {r : Nat} (h : r < 4294967296) : cs4 r < 4294967296 := cst_lt (cst_lt (cst_lt (cst_lt h)))
theorem cs8_lt {r : Nat} (h : r < 4294967296) : cs8 r < 4294967296 := cs4_lt (cs4_lt h)
theorem xor_half (a b : Nat) : (a ^^^ b) / 2 = a / 2 ^^^ b / 2 := by
  have h := Nat.shiftRight_xor_distrib (a := a) (b := b) (i := 1)
  simpa [Nat.shiftRight_eq_div_pow] using h
theorem xor_odd (a b : Nat) : (a ^^^ b) % 2 = (a % 2 + b % 2) % 2 := by
  have h := Nat.xor_mod_two_pow (a := a) (b := b) (n := 1)
  have h2 : (a ^^^ b) % 2 = a % 2 ^^^ b % 2 := by simpa using h
  rw [h2]
  rcases Nat.mod_two_eq_zero_or_one a with ha | ha <;> rcases Nat.mod_two_eq_zero_or_one b with hb | hb <;> rw [ha, hb] <;> rfl
theorem xor_swap (a b c d : Nat) : (a ^^^ b) ^^^ (c ^^^ d) = (a ^^^ c) ^^^ (b ^^^ d) := by
  rw [Nat.xor_assoc, Nat.xor_assoc, ← Nat.xor_assoc b, Nat.xor_comm b c, Nat.xor_assoc c]
theorem cst_xor (a b : Nat) : cst (a ^^^ b) = cst a ^^^ cst b := by
  unfold cst
  rw [xor_half, xor_odd, xor_swap]
  congr 1
  rcases Nat.mod_two_eq_zero_or_one a with ha | ha <;> rcases Nat.mod_two_eq_zero_or_one b with hb | hb <;> rw [ha, hb] <;> simp
theorem cs4_xor (a b : Nat) : cs4 (a ^^^ b) = cs4 a ^^^ cs4 b := by unfold cs4; rw [cst_xor, cst_xor, cst_xor, cst_xor]
theorem cs8_xor (a b : Nat) : cs8 (a ^^^ b) = cs8 a ^^^ cs8 b := by unfold cs8; rw [cs4_xor, cs4_xor]
theorem cst_zero : cst 0 = 0 := by decide
theorem cst_even (a : Nat) : cst (2 * a) = a := by rw [cst_nil (by omega)]; omega
theorem cs4_even (a : Nat) : cs4 (16 * a) = a := by
  unfold cs4
  rw [show 16 * a = 2 * (2 * (2 * (2 * a))) by omega, cst_even, cst_even, cst_even, cst_even]
theorem split16 (r : Nat) : r = 16 * (r / 16) ^^^ r % 16 := by
  have h := Nat.two_pow_add_eq_or_of_lt (i := 4) (b := r % 16) (Nat.mod_lt r (by decide)) (r / 16)
  have h2 : 16 * (r / 16) ||| r % 16 = 16 * (r / 16) ^^^ r % 16 := by
    apply Nat.eq_of_testBit_eq
    intro i
    rw [Nat.testBit_xor, Nat.testBit_or]
    by_cases hi : i < 4
    · have : (16 * (r / 16)).testBit i = false := by
        have := Nat.testBit_two_pow_mul (i := 4) (a := r / 16) (j := i)
        rw [show (2 : Nat) ^ 4 = 16 from rfl] at this
        rw [this]; simp; omega
      rw [this]; simp
    · have : (r % 16).testBit i = false := Nat.testBit_lt_two_pow (Nat.lt_of_lt_of_le (Nat.mod_lt r (by decide)) (Nat.pow_le_pow_right (n := 2) (by decide) (show 4 ≤ i by omega)))
      rw [this]; simp
  rw [← h2]
  have h3 : 16 * (r / 16) + r % 16 = 16 * (r / 16) ||| r % 16 := h
  rw [← h3]; omega
/-- Four steps by the table. -/
theorem cs4_tab (r : Nat) : cs4 r = r / 16 ^^^ cs4 (r % 16) := by
  conv => lhs; rw [split16 r]
  rw [cs4_xor, cs4_even]
/-- The register when it has gone over bytes. -/
def crg (r : Nat) (l : List Nat) : Nat := l.foldl (fun r x => cs8 (r ^^^ x)) r
theorem crg_nil (r : Nat) : crg r [] = r := rfl
theorem crg_cons (r x : Nat) (l : List Nat) : crg r (x :: l) = crg (cs8 (r ^^^ x)) l := rfl
theorem crg_app (r : Nat) (a b : List Nat) : crg r (a ++ b) = crg (crg r a) b := by unfold crg; rw [List.foldl_append]
theorem crg_lt {l : List Nat} : ∀ {r : Nat}, r < 4294967296 → (∀ x ∈ l, x < 256) → crg r l < 4294967296 := by
  induction l with
  | nil => intro r h _; exact h
  | cons x l ih =>
    intro r h hl
    rw [crg_cons]
    exact ih (cs8_lt (Nat.xor_lt_two_pow (n := 32) h (Nat.lt_of_lt_of_le (hl x (by simp)) (by decide)))) fun y hy => hl y (by simp [hy])
def c32 : Nat := 4294967295
theorem c32_lt {r : Nat} (h : r < 4294967296) : r ^^^ c32 < 4294967296 := Nat.xor_lt_two_pow (n := 32) h (by decide)
theorem c32_two (r : Nat) : r ^^^ c32 ^^^ c32 = r := by rw [Nat.xor_assoc, Nat.xor_self, Nat.xor_zero]
/-- On behind bytes whose sum is known; the sum of bytes. -/
def crm (s : Nat) (l : List Nat) : Nat := crg (s ^^^ c32) l ^^^ c32
def crc (l : List Nat) : Nat := crm 0 l
theorem crm_lt {s : Nat} {l : List Nat} (h : s < 4294967296) (hl : ∀ x ∈ l, x < 256) : crm s l < 4294967296 := c32_lt (crg_lt (c32_lt h) hl)
theorem crc_lt {l : List Nat} (hl : ∀ x ∈ l, x < 256) : crc l < 4294967296 := crm_lt (by decide) hl
theorem crm_app (s : Nat) (a b : List Nat) : crm (crm s a) b = crm s (a ++ b) := by unfold crm; rw [c32_two, crg_app]
theorem crc_app (a b : List Nat) : crm (crc a) b = crc (a ++ b) := crm_app 0 a b
/-- The register's differences go on by themselves. -/
def crx (a b : List Nat) : List Nat := List.zipWith (· ^^^ ·) a b
theorem crg_xor : ∀ (a b : List Nat) (r s : Nat), a.length = b.length → crg r a ^^^ crg s b = crg (r ^^^ s) (crx a b)
  | [], [], _, _, _ => rfl
  | x :: a, y :: b, r, s, h => by
    rw [crg_cons, crg_cons, crg_xor a b _ _ (by simpa using h), ← cs8_xor, xor_swap]; rfl
/-- n steps. -/
def csN : Nat → Nat → Nat
  | 0, r => r
  | n + 1, r => csN n (cst r)
theorem csN_snoc : ∀ (n r : Nat), csN (n + 1) r = cst (csN n r)
  | 0, _ => rfl
  | n + 1, r => csN_snoc n (cst r)
theorem cs8_csN (r : Nat) : cs8 r = csN 8 r := rfl
theorem csN_small : ∀ {n r : Nat}, r < 4294967296 → csN n r < 4294967296
  | 0, _, h => h
  | n + 1, _, h => csN_small (n := n) (cst_lt h)
theorem c32_sub {a : Nat} (h : a < 4294967296) : a ^^^ c32 = 4294967295 - a := by
  unfold c32
  apply Nat.eq_of_testBit_eq
  intro i
  rw [Nat.testBit_xor]
  have h1 := Nat.testBit_two_pow_sub_succ (n := 32) (x := a) (by simpa using h) i
  have h2 := Nat.testBit_two_pow_sub_one 32 i
  rw [show (4294967295 : Nat) - a = 2 ^ 32 - (a + 1) by omega, h1, show (4294967295 : Nat) = 2 ^ 32 - 1 from rfl, h2]
  by_cases hi : i < 32
  · simp [hi]
  · have := Nat.testBit_lt_two_pow (Nat.lt_of_lt_of_le h (show 2 ^ 32 ≤ 2 ^ i from Nat.pow_le_pow_right (by decide) (by omega)))
    simp [hi, this]
theorem crm_def (s : Nat) (l : List Nat) : crm s l = crg (s ^^^ c32) l ^^^ c32 := rfl
/-- One byte of the program's. -/
def cby (r x : Nat) : Nat := (let q := r ^^^ x; let p := q / 16 ^^^ cs4 (q % 16); p / 16 ^^^ cs4 (p % 16))
theorem cby_eq (r x : Nat) : cby r x = cs8 (r ^^^ x) := by
  unfold cby cs8
  rw [cs4_tab (cs4 (r ^^^ x)), cs4_tab (r ^^^ x)]
end Go.Proofs.Ytjaaldandgfkgaa

/- A shard's bytes in plain: numbers as bytes, the head, the frames; what of some bytes is read. Conditions: none. -/
namespace Go.Proofs.Ytjaaldandgfkgaa

/-- The n lowest bytes of a number, the lowest first. -/
def le : Nat → Nat → List Nat
  | 0, _ => []
  | n + 1, v => v % 256 :: le n (v / 256)
/-- The number of bytes, the lowest first. -/
def leV : List Nat → Nat
  | [] => 0
  | x :: l => x + 256 * leV l
theorem le_length : ∀ (n v : Nat), (le n v).length = n
  | 0, _ => rfl
  | n + 1, v => by simp [le, le_length n]
theorem le_lt : ∀ {n v x : Nat}, x ∈ le n v → x < 256
  | n + 1, v, x, h => by
    rcases List.mem_cons.1 h with h | h
    · omega
    · exact le_lt h
theorem leV_le : ∀ (n v : Nat), v < 256 ^ n → leV (le n v) = v
  | 0, v, h => by simp at h; subst h; rfl
  | n + 1, v, h => by
    rw [Nat.pow_succ] at h
    show v % 256 + 256 * leV (le n (v / 256)) = v
    rw [leV_le n (v / 256) (by omega)]
    omega
theorem le_leV : ∀ (l : List Nat), (∀ x ∈ l, x < 256) → le l.length (leV l) = l
  | [], _ => rfl
  | x :: l, h => by
    have hx : x < 256 := h x (by simp)
    show (x + 256 * leV l) % 256 :: le l.length ((x + 256 * leV l) / 256) = x :: l
    rw [show (x + 256 * leV l) % 256 = x by omega, show (x + 256 * leV l) / 256 = leV l by omega, le_leV l fun y hy => h y (by simp [hy])]
theorem leV_lt : ∀ (l : List Nat), (∀ x ∈ l, x < 256) → leV l < 256 ^ l.length
  | [], _ => by simp [leV]
  | x :: l, h => by
    have hx : x < 256 := h x (by simp)
    have := leV_lt l fun y hy => h y (by simp [hy])
    simp only [leV, List.length_cons, Nat.pow_succ]
    omega
theorem le_get : ∀ (n v i : Nat), i < n → (le n v).getD i 0 = v / 256 ^ i % 256
  | n + 1, v, 0, _ => by simp [le]
  | n + 1, v, i + 1, h => by
    have := le_get n (v / 256) i (by omega)
    show (le n (v / 256)).getD i 0 = _
    rw [this, Nat.pow_succ, Nat.div_div_eq_div_mul, Nat.mul_comm 256]
theorem le_snoc : ∀ (n v : Nat), le (n + 1) v = le n v ++ [v / 256 ^ n % 256]
  | 0, v => by simp [le]
  | n + 1, v => by
    show v % 256 :: le (n + 1) (v / 256) = v % 256 :: le n (v / 256) ++ [v / 256 ^ (n + 1) % 256]
    rw [le_snoc n (v / 256), Nat.pow_succ, Nat.div_div_eq_div_mul, Nat.mul_comm 256]
    rfl
/-- n bytes from a place on. -/
def sl (b : List Nat) (at_ n : Nat) : List Nat := (b.drop at_).take n
def num (b : List Nat) (at_ n : Nat) : Nat := leV (sl b at_ n)
theorem sl_length {b : List Nat} {p n : Nat} (h : p + n ≤ b.length) : (sl b p n).length = n := by
  unfold sl; rw [List.length_take, List.length_drop]; omega
theorem sl_mem {b : List Nat} {p n x : Nat} (h : x ∈ sl b p n) : x ∈ b := List.mem_of_mem_drop (List.mem_of_mem_take h)
theorem sl_get {b : List Nat} {p n i : Nat} (h : i < n) : (sl b p n).getD i 0 = b.getD (p + i) 0 := by
  unfold sl
  rw [List.getD_eq_getElem?_getD, List.getD_eq_getElem?_getD, List.getElem?_take, if_pos h, List.getElem?_drop]
theorem sl_app_left {a b : List Nat} {p n : Nat} (h : p + n ≤ a.length) : sl (a ++ b) p n = sl a p n := by
  unfold sl
  rw [List.drop_append_of_le_length (by omega), List.take_append_of_le_length (by rw [List.length_drop]; omega)]
theorem sl_app_right {a b : List Nat} {p n : Nat} (h : a.length ≤ p) : sl (a ++ b) p n = sl b (p - a.length) n := by
  unfold sl
  rw [List.drop_append, List.drop_eq_nil_of_le h, List.nil_append]
theorem sl_all {a : List Nat} {n : Nat} (h : n = a.length) : sl a 0 n = a := by subst h; unfold sl; simp
theorem sl_next {b : List Nat} {p n : Nat} (h : p + n < b.length) : sl b p (n + 1) = sl b p n ++ [b.getD (p + n) 0] := by
  have hl : n < (b.drop p).length := by rw [List.length_drop]; omega
  unfold sl
  rw [take_next hl, List.getD_eq_getElem?_getD, List.getElem?_drop, ← List.getD_eq_getElem?_getD]
theorem sl_split {b : List Nat} (p n m : Nat) : sl b p (n + m) = sl b p n ++ sl b (p + n) m := by
  unfold sl
  rw [List.take_add, List.drop_drop]
theorem take_sl (b : List Nat) (n : Nat) : b.take n = sl b 0 n := rfl

/-! ### heads -/
/-- The first 32 bytes of a head. -/
def fixL (h : Hd) : List Nat := [67, 82, 78, 2] ++ [h.s0.toNat, h.s1.toNat, h.s2.toNat, h.s3.toNat, h.s4.toNat, h.s5.toNat, h.s6.toNat, h.s7.toNat] ++ le 1 h.K.toNat ++ le 1 h.M.toNat ++ le 4 h.B.toNat ++ le 4 h.size.toNat ++ le 1 h.idx.toNat ++ le 4 h.ep.toNat ++ le 4 h.ct.toNat ++ le 1 h.key.size
def sum1 (h : Hd) : Nat := crc (fixL h)
def sum2 (h : Hd) : Nat := crc (fixL h ++ bl h.key)
def headL (h : Hd) : List Nat := fixL h ++ le 4 (sum1 h) ++ bl h.key ++ le 4 (sum2 h)
/-- The sum of a block of that number. -/
def sumB (s j : Nat) (blk : List Nat) : Nat := crc (le 4 s ++ le 4 j ++ blk)
def frameL (s j : Nat) (blk : List Nat) : List Nat := blk ++ le 4 (sumB s j blk)
def framesL (s : Nat) : Nat → List (List Nat) → List Nat
  | _, [] => []
  | j, b :: bs => frameL s j b ++ framesL s (j + 1) bs
def formL (h : Hd) (bs : List (List Nat)) : List Nat := headL h ++ framesL (sum2 h) 0 bs
theorem framesL_app (s : Nat) : ∀ (a b : List (List Nat)) (j : Nat), framesL s j (a ++ b) = framesL s j a ++ framesL s (j + a.length) b
  | [], b, j => rfl
  | x :: a, b, j => by
    show frameL s j x ++ framesL s (j + 1) (a ++ b) = frameL s j x ++ framesL s (j + 1) a ++ framesL s (j + (a.length + 1)) b
    rw [framesL_app s a b (j + 1), List.append_assoc, show j + 1 + a.length = j + (a.length + 1) by omega]
theorem fixL_length (h : Hd) : (fixL h).length = 32 := by simp [fixL, le_length]
theorem headL_length (h : Hd) : (headL h).length = 40 + h.key.size := by simp [headL, le_length, fixL_length, bl_length]; omega
theorem frameL_length (s j : Nat) (blk : List Nat) : (frameL s j blk).length = blk.length + 4 := by simp [frameL, le_length]
/-- A head's bytes of its store. -/
def HdB (h : Hd) : Prop := (0 ≤ h.s0 ∧ h.s0 < 256) ∧ (0 ≤ h.s1 ∧ h.s1 < 256) ∧ (0 ≤ h.s2 ∧ h.s2 < 256) ∧ (0 ≤ h.s3 ∧ h.s3 < 256) ∧ (0 ≤ h.s4 ∧ h.s4 < 256) ∧ (0 ≤ h.s5 ∧ h.s5 < 256) ∧ (0 ≤ h.s6 ∧ h.s6 < 256) ∧ (0 ≤ h.s7 ∧ h.s7 < 256)
theorem fixL_lt {h : Hd} (hb : HdB h) : ∀ x ∈ fixL h, x < 256 := by
  obtain ⟨b0, b1, b2, b3, b4, b5, b6, b7⟩ := hb
  intro x hx
  unfold fixL at hx
  simp only [List.mem_append] at hx
  rcases hx with ((((((((hx | hx) | hx) | hx) | hx) | hx) | hx) | hx) | hx) | hx
  · simp at hx; omega
  · simp at hx; omega
  all_goals exact le_lt hx
/-- What of some bytes is read as a head. -/
def hdOf (b : List Nat) : Hd where
  s0 := b.getD 4 0
  s1 := b.getD 5 0
  s2 := b.getD 6 0
  s3 := b.getD 7 0
  s4 := b.getD 8 0
  s5 := b.getD 9 0
  s6 := b.getD 10 0
  s7 := b.getD 11 0
  K := b.getD 12 0
  M := b.getD 13 0
  B := num b 14 4
  key := strN (b.getD 31 0) fun i => b.getD (36 + i) 0
  size := num b 18 4
  idx := b.getD 22 0
  ep := num b 23 4
  ct := num b 27 4
def keyL (b : List Nat) : List Nat := sl b 36 (b.getD 31 0)
/-- How reading a head ends. -/
def headE (b : List Nat) : Int :=
  if b.length < 36 then 70 else if ¬ b.take 4 = [67, 82, 78, 2] then 80 else if ¬ num b 32 4 = crc (b.take 32) then 82 else if b.length < 40 + b.getD 31 0 then 70 else
    if ¬ num b (36 + b.getD 31 0) 4 = crc (b.take 32 ++ keyL b) then 82 else if ¬ checkE (hdOf b) = 0 then 81 else 0
end Go.Proofs.Ytjaaldandgfkgaa
