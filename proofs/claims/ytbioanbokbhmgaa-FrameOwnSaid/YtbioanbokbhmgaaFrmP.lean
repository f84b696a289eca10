/- A shard's bytes in plain: numbers as bytes, the head, the frames; what of some bytes is read. Conditions: none. -/
import Derived.Test.YtbioanbokbhmgaaCrcP
import Derived.Test.YtbioanbokbhmgaaByt
import Derived.Test.YtbioanbokbhmgaaStrN
import Derived.Test.YtbioanbokbhmgaaFCkp
namespace Go.Proofs.Ytbioanbokbhmgaa

/-- The n lowest bytes of a number, the lowest first. -/
def le : Nat → Nat → List Nat
  | 0, _ => []
  | n + 1, v => v % 256 :: le n (v / 256)
/-- The number of bytes, the lowest first. -/
def leV : List Nat → Nat
  | [] => 0
  | x :: l => x + 256 * leV l
theorem le_length : ∀ (n v : Nat), (le n v).length = n
  | 0, _ => rfl
  | n + 1, v => by simp [le, le_length n]
theorem le_lt : ∀ {n v x : Nat}, x ∈ le n v → x < 256
  | n + 1, v, x, h => by
    rcases List.mem_cons.1 h with h | h
    · omega
    · exact le_lt h
theorem leV_le : ∀ (n v : Nat), v < 256 ^ n → leV (le n v) = v
  | 0, v, h => by simp at h; subst h; rfl
  | n + 1, v, h => by
    rw [Nat.pow_succ] at h
    show v % 256 + 256 * leV (le n (v / 256)) = v
    rw [leV_le n (v / 256) (by omega)]
    omega
theorem le_leV : ∀ (l : List Nat), (∀ x ∈ l, x < 256) → le l.length (leV l) = l
  | [], _ => rfl
  | x :: l, h => by
    have hx : x < 256 := h x (by simp)
    show (x + 256 * leV l) % 256 :: le l.length ((x + 256 * leV l) / 256) = x :: l
    rw [show (x + 256 * leV l) % 256 = x by omega, show (x + 256 * leV l) / 256 = leV l by omega, le_leV l fun y hy => h y (by simp [hy])]
theorem leV_lt : ∀ (l : List Nat), (∀ x ∈ l, x < 256) → leV l < 256 ^ l.length
  | [], _ => by simp [leV]
  | x :: l, h => by
    have hx : x < 256 := h x (by simp)
    have := leV_lt l fun y hy => h y (by simp [hy])
    simp only [leV, List.length_cons, Nat.pow_succ]
    omega
theorem le_get : ∀ (n v i : Nat), i < n → (le n v).getD i 0 = v / 256 ^ i % 256
  | n + 1, v, 0, _ => by simp [le]
  | n + 1, v, i + 1, h => by
    have := le_get n (v / 256) i (by omega)
    show (le n (v / 256)).getD i 0 = _
    rw [this, Nat.pow_succ, Nat.div_div_eq_div_mul, Nat.mul_comm 256]
theorem le_snoc : ∀ (n v : Nat), le (n + 1) v = le n v ++ [v / 256 ^ n % 256]
  | 0, v => by simp [le]
  | n + 1, v => by
    show v % 256 :: le (n + 1) (v / 256) = v % 256 :: le n (v / 256) ++ [v / 256 ^ (n + 1) % 256]
    rw [le_snoc n (v / 256), Nat.pow_succ, Nat.div_div_eq_div_mul, Nat.mul_comm 256]
    rfl
/-- n bytes from a place on. -/
def sl (b : List Nat) (at_ n : Nat) : List Nat := (b.drop at_).take n
def num (b : List Nat) (at_ n : Nat) : Nat := leV (sl b at_ n)
theorem sl_length {b : List Nat} {p n : Nat} (h : p + n ≤ b.length) : (sl b p n).length = n := by
  unfold sl; rw [List.length_take, List.length_drop]; omega
theorem sl_mem {b : List Nat} {p n x : Nat} (h : x ∈ sl b p n) : x ∈ b := List.mem_of_mem_drop (List.mem_of_mem_take h)
theorem sl_get {b : List Nat} {p n i : Nat} (h : i < n) : (sl b p n).getD i 0 = b.getD (p + i) 0 := by
  unfold sl
  rw [List.getD_eq_getElem?_getD, List.getD_eq_getElem?_getD, List.getElem?_take, if_pos h, List.getElem?_drop]
theorem sl_app_left {a b : List Nat} {p n : Nat} (h : p + n ≤ a.length) : sl (a ++ b) p n = sl a p n := by
  unfold sl
  rw [List.drop_append_of_le_length (by omega), List.take_append_of_le_length (by rw [List.length_drop]; omega)]
theorem sl_app_right {a b : List Nat} {p n : Nat} (h : a.length ≤ p) : sl (a ++ b) p n = sl b (p - a.length) n := by
  unfold sl
  rw [List.drop_append, List.drop_eq_nil_of_le h, List.nil_append]
theorem sl_all {a : List Nat} {n : Nat} (h : n = a.length) : sl a 0 n = a := by subst h; unfold sl; simp
theorem sl_next {b : List Nat} {p n : Nat} (h : p + n < b.length) : sl b p (n + 1) = sl b p n ++ [b.getD (p + n) 0] := by
  have hl : n < (b.drop p).length := by rw [List.length_drop]; omega
  unfold sl
  rw [take_next hl, List.getD_eq_getElem?_getD, List.getElem?_drop, ← List.getD_eq_getElem?_getD]
theorem sl_split {b : List Nat} (p n m : Nat) : sl b p (n + m) = sl b p n ++ sl b (p + n) m := by
  unfold sl
  rw [List.take_add, List.drop_drop]
theorem take_sl (b : List Nat) (n : Nat) : b.take n = sl b 0 n := rfl

/-! ### heads -/
/-- The first 32 bytes of a head. -/
def fixL (h : Hd) : List Nat := [67, 82, 78, 2] ++ [h.s0.toNat, h.s1.toNat, h.s2.toNat, h.s3.toNat, h.s4.toNat, h.s5.toNat, h.s6.toNat, h.s7.toNat] ++ le 1 h.K.toNat ++ le 1 h.M.toNat ++ le 4 h.B.toNat ++ le 4 h.size.toNat ++ le 1 h.idx.toNat ++ le 4 h.ep.toNat ++ le 4 h.ct.toNat ++ le 1 h.key.size
def sum1 (h : Hd) : Nat := crc (fixL h)
def sum2 (h : Hd) : Nat := crc (fixL h ++ bl h.key)
def headL (h : Hd) : List Nat := fixL h ++ le 4 (sum1 h) ++ bl h.key ++ le 4 (sum2 h)
/-- The sum of a block of that number. -/
def sumB (s j : Nat) (blk : List Nat) : Nat := crc (le 4 s ++ le 4 j ++ blk)
def frameL (s j : Nat) (blk : List Nat) : List Nat := blk ++ le 4 (sumB s j blk)
def framesL (s : Nat) : Nat → List (List Nat) → List Nat
  | _, [] => []
  | j, b :: bs => frameL s j b ++ framesL s (j + 1) bs
def formL (h : Hd) (bs : List (List Nat)) : List Nat := headL h ++ framesL (sum2 h) 0 bs
theorem framesL_app (s : Nat) : ∀ (a b : List (List Nat)) (j : Nat), framesL s j (a ++ b) = framesL s j a ++ framesL s (j + a.length) b
  | [], b, j => rfl
  | x :: a, b, j => by
    show frameL s j x ++ framesL s (j + 1) (a ++ b) = frameL s j x ++ framesL s (j + 1) a ++ framesL s (j + (a.length + 1)) b
    rw [framesL_app s a b (j + 1), List.append_assoc, show j + 1 + a.length = j + (a.length + 1) by omega]
theorem fixL_length (h : Hd) : (fixL h).length = 32 := by simp [fixL, le_length]
theorem headL_length (h : Hd) : (headL h).length = 40 + h.key.size := by simp [headL, le_length, fixL_length, bl_length]; omega
theorem frameL_length (s j : Nat) (blk : List Nat) : (frameL s j blk).length = blk.length + 4 := by simp [frameL, le_length]
/-- A head's bytes of its store. -/
def HdB (h : Hd) : Prop := (0 ≤ h.s0 ∧ h.s0 < 256) ∧ (0 ≤ h.s1 ∧ h.s1 < 256) ∧ (0 ≤ h.s2 ∧ h.s2 < 256) ∧ (0 ≤ h.s3 ∧ h.s3 < 256) ∧ (0 ≤ h.s4 ∧ h.s4 < 256) ∧ (0 ≤ h.s5 ∧ h.s5 < 256) ∧ (0 ≤ h.s6 ∧ h.s6 < 256) ∧ (0 ≤ h.s7 ∧ h.s7 < 256)
theorem fixL_lt {h : Hd} (hb : HdB h) : ∀ x ∈ fixL h, x < 256 := by
  obtain ⟨b0, b1, b2, b3, b4, b5, b6, b7⟩ := hb
  intro x hx
  unfold fixL at hx
  simp only [List.mem_append] at hx
  rcases hx with ((((((((hx | hx) | hx) | hx) | hx) | hx) | hx) | hx) | hx) | hx
  · simp at hx; omega
  · simp at hx; omega
  all_goals exact le_lt hx
/-- What of some bytes is read as a head. -/
def hdOf (b : List Nat) : Hd where
  s0 := b.getD 4 0
  s1 := b.getD 5 0
  s2 := b.getD 6 0
  s3 := b.getD 7 0
  s4 := b.getD 8 0
  s5 := b.getD 9 0
  s6 := b.getD 10 0
  s7 := b.getD 11 0
  K := b.getD 12 0
  M := b.getD 13 0
  B := num b 14 4
  key := strN (b.getD 31 0) fun i => b.getD (36 + i) 0
  size := num b 18 4
  idx := b.getD 22 0
  ep := num b 23 4
  ct := num b 27 4
def keyL (b : List Nat) : List Nat := sl b 36 (b.getD 31 0)
/-- How reading a head ends. -/
def headE (b : List Nat) : Int :=
  if b.length < 36 then 70 else if ¬ b.take 4 = [67, 82, 78, 2] then 80 else if ¬ num b 32 4 = crc (b.take 32) then 82 else if b.length < 40 + b.getD 31 0 then 70 else
    if ¬ num b (36 + b.getD 31 0) 4 = crc (b.take 32 ++ keyL b) then 82 else if ¬ checkE (hdOf b) = 0 then 81 else 0
end Go.Proofs.Ytbioanbokbhmgaa
