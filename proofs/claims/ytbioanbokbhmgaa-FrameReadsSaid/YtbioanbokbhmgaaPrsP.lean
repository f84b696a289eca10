/- What is read of some bytes, in plain: heads that were read make just their bytes; which frames are spoilt. Conditions: bytes. -/
import Derived.Test.YtbioanbokbhmgaaFrmQ
namespace Go.Proofs.Ytbioanbokbhmgaa

theorem sl_one {b : List Nat} {i : Nat} (h : i < b.length) : sl b i 1 = [b.getD i 0] := by
  have := sl_next (b := b) (p := i) (n := 0) (by omega)
  simpa [sl] using this
theorem le_num {b : List Nat} {p n : Nat} (hb : ∀ x ∈ b, x < 256) (h : p + n ≤ b.length) : le n (num b p n) = sl b p n := by
  have := le_leV (sl b p n) fun x hx => hb x (sl_mem hx)
  rw [sl_length h] at this
  exact this
theorem num_lt {b : List Nat} {p n : Nat} (hb : ∀ x ∈ b, x < 256) (h : p + n ≤ b.length) : num b p n < 256 ^ n := by
  have := leV_lt (sl b p n) fun x hx => hb x (sl_mem hx)
  rw [sl_length h] at this
  exact this
theorem num_four {b : List Nat} {p : Nat} (hb : ∀ x ∈ b, x < 256) (h : p + 4 ≤ b.length) : num b p 4 < 4294967296 := num_lt hb h
theorem getD_256 {b : List Nat} (hb : ∀ x ∈ b, x < 256) (i : Nat) : b.getD i 0 < 256 := by
  by_cases h : i < b.length
  · exact getD_lt hb h
  · rw [List.getD_eq_getElem?_getD, List.getElem?_eq_none (by omega)]; decide
theorem le_one {x : Nat} (h : x < 256) : le 1 x = [x] := by simp [le]; omega
theorem sl_eight {b : List Nat} {p : Nat} (h : p + 8 ≤ b.length) : sl b p 8 = [b.getD p 0, b.getD (p + 1) 0, b.getD (p + 2) 0, b.getD (p + 3) 0, b.getD (p + 4) 0, b.getD (p + 5) 0, b.getD (p + 6) 0, b.getD (p + 7) 0] := by
  rw [show (8 : Nat) = 1 + (1 + (1 + (1 + (1 + (1 + (1 + 1)))))) from rfl]
  rw [sl_split, sl_split, sl_split, sl_split, sl_split, sl_split, sl_split]
  rw [sl_one (by omega), sl_one (by omega), sl_one (by omega), sl_one (by omega), sl_one (by omega), sl_one (by omega), sl_one (by omega), sl_one (by omega)]
  rfl
theorem strN_size (n : Nat) (g : Nat → Nat) : (strN n g).size = n := by
  show ((List.range n).map fun i => UInt8.ofNat (g i)).toArray.size = n
  simp
theorem bl_strN {n : Nat} {g : Nat → Nat} (h : ∀ i, i < n → g i < 256) : bl (strN n g) = (List.range n).map g := by
  unfold bl strN
  simp only [List.map_map]
  refine List.map_congr_left fun i hi => ?_
  have := h i (List.mem_range.1 hi)
  show (UInt8.ofNat (g i)).toNat = g i
  simp; omega
theorem key_hdOf {b : List Nat} (hb : ∀ x ∈ b, x < 256) (h : 36 + b.getD 31 0 ≤ b.length) : bl (hdOf b).key = keyL b := by
  show bl (strN (b.getD 31 0) fun i => b.getD (36 + i) 0) = sl b 36 (b.getD 31 0)
  rw [bl_strN fun i _ => getD_256 hb _]
  apply List.ext_getElem?
  intro i
  by_cases hi : i < b.getD 31 0
  · have h1 : i < (sl b 36 (b.getD 31 0)).length := by rw [sl_length h]; exact hi
    have h2 := sl_get (b := b) (p := 36) hi
    rw [List.getElem?_eq_getElem h1, List.getElem?_map, List.getElem?_eq_getElem (by simpa using hi)]
    simp only [List.getElem_range, Option.map_some, Option.some.injEq]
    rw [← h2, getD_in h1]
  · rw [List.getElem?_eq_none (by simpa using hi), List.getElem?_eq_none (by rw [sl_length h]; omega)]
/-- What is read of a head's first bytes makes just them. -/
theorem fix_hdOf {b : List Nat} (hb : ∀ x ∈ b, x < 256) (h36 : 36 ≤ b.length) (hm : b.take 4 = [67, 82, 78, 2]) : fixL (hdOf b) = b.take 32 := by
  have e : b.take 32 = sl b 0 4 ++ sl b 4 8 ++ sl b 12 1 ++ sl b 13 1 ++ sl b 14 4 ++ sl b 18 4 ++ sl b 22 1 ++ sl b 23 4 ++ sl b 27 4 ++ sl b 31 1 := by
    have s1 : sl b 0 12 = sl b 0 4 ++ sl b 4 8 := sl_split 0 4 8
    have s2 : sl b 0 13 = sl b 0 12 ++ sl b 12 1 := sl_split 0 12 1
    have s3 : sl b 0 14 = sl b 0 13 ++ sl b 13 1 := sl_split 0 13 1
    have s4 : sl b 0 18 = sl b 0 14 ++ sl b 14 4 := sl_split 0 14 4
    have s5 : sl b 0 22 = sl b 0 18 ++ sl b 18 4 := sl_split 0 18 4
    have s6 : sl b 0 23 = sl b 0 22 ++ sl b 22 1 := sl_split 0 22 1
    have s7 : sl b 0 27 = sl b 0 23 ++ sl b 23 4 := sl_split 0 23 4
    have s8 : sl b 0 31 = sl b 0 27 ++ sl b 27 4 := sl_split 0 27 4
    have s9 : sl b 0 32 = sl b 0 31 ++ sl b 31 1 := sl_split 0 31 1
    rw [take_sl, s9, s8, s7, s6, s5, s4, s3, s2, s1]
  rw [e, ← take_sl, hm, sl_eight (b := b) (p := 4) (by omega), sl_one (b := b) (i := 12) (by omega), sl_one (b := b) (i := 13) (by omega), sl_one (b := b) (i := 22) (by omega), sl_one (b := b) (i := 31) (by omega)]
  unfold fixL hdOf
  simp only [Int.toNat_natCast, strN_size]
  rw [le_one (getD_256 hb _), le_one (getD_256 hb _), le_one (getD_256 hb _), le_one (getD_256 hb _), le_num hb (by omega), le_num hb (by omega), le_num hb (by omega), le_num hb (by omega)]
theorem hdOf_bytes {b : List Nat} (hb : ∀ x ∈ b, x < 256) : HdB (hdOf b) := by
  have k : ∀ i, (0 : Int) ≤ ((b.getD i 0 : Nat) : Int) ∧ ((b.getD i 0 : Nat) : Int) < 256 := fun i => by
    have := getD_256 hb i
    exact ⟨by omega, by omega⟩
  exact ⟨k 4, k 5, k 6, k 7, k 8, k 9, k 10, k 11⟩
/-- How far the frames lie. -/
def offF (h : Hd) (j : Nat) : Nat := 40 + h.key.size + sumN (fun i => blen h.K.toNat h.B.toNat h.size.toNat i + 4) j
def lenF (h : Hd) (j : Nat) : Nat := blen h.K.toNat h.B.toNat h.size.toNat j
theorem offF_next (h : Hd) (j : Nat) : offF h (j + 1) = offF h j + lenF h j + 4 := by unfold offF lenF; simp only [sumN]; omega
/-- Is the frame spoilt, or not there? -/
def badF (b : List Nat) (j : Nat) : Bool := decide (b.length < offF (hdOf b) j + lenF (hdOf b) j + 4) || decide (¬ num b (offF (hdOf b) j + lenF (hdOf b) j) 4 = sumB (sum2 (hdOf b)) j (sl b (offF (hdOf b) j) (lenF (hdOf b) j)))
/-- Which of the first n are. -/
def badL (b : List Nat) : Nat → List Nat
  | 0 => []
  | n + 1 => if badF b n = true then badL b n ++ [n] else badL b n
theorem badL_lt (b : List Nat) : ∀ (n : Nat), ∀ x ∈ badL b n, x < n
  | n + 1, x, hx => by
    unfold badL at hx
    split at hx
    · rcases List.mem_append.1 hx with hx | hx
      · have := badL_lt b n x hx; omega
      · simp at hx; omega
    · have := badL_lt b n x hx; omega
theorem badL_length (b : List Nat) : ∀ n, (badL b n).length ≤ n
  | 0 => Nat.le_refl _
  | n + 1 => by
    have := badL_length b n
    unfold badL
    split
    · rw [List.length_append]; simp; omega
    · omega
theorem badL_nil (b : List Nat) : ∀ (n : Nat), badL b n = [] ↔ ∀ j, j < n → badF b j = false
  | 0 => by simp [badL]
  | n + 1 => by
    have ih := badL_nil b n
    unfold badL
    constructor
    · intro h j hj
      by_cases hb : badF b n = true
      · rw [if_pos hb] at h; simp at h
      · rw [if_neg hb] at h
        by_cases e : j = n
        · subst e; simpa using hb
        · exact ih.1 h j (by omega)
    · intro h
      rw [if_neg (by rw [h n (by omega)]; decide)]
      exact ih.2 fun j hj => h j (by omega)
/-- The blocks that are read. -/
def blksL (b : List Nat) : Nat → List (List Nat)
  | 0 => []
  | n + 1 => blksL b n ++ [sl b (offF (hdOf b) n) (lenF (hdOf b) n)]
theorem blksL_length (b : List Nat) : ∀ n, (blksL b n).length = n
  | 0 => rfl
  | n + 1 => by simp [blksL, blksL_length b n]
/-- How reading a shard ends, of bytes whose head may be. -/
def prsE (b : List Nat) : Int :=
  if ¬ headE b = 0 then headE b else if b.length < (lenE (hdOf b)).toNat then 70 else if (lenE (hdOf b)).toNat < b.length then 72 else
    if ¬ badL b (sizeN (hdOf b).K (hdOf b).M (hdOf b).B (hdOf b).size) = [] then 82 else 0
theorem headE_facts {b : List Nat} (h : headE b = 0) : 36 ≤ b.length ∧ b.take 4 = [67, 82, 78, 2] ∧ num b 32 4 = crc (b.take 32) ∧ 40 + b.getD 31 0 ≤ b.length ∧ num b (36 + b.getD 31 0) 4 = crc (b.take 32 ++ keyL b) ∧ checkE (hdOf b) = 0 := by
  unfold headE at h
  by_cases h1 : b.length < 36
  · rw [if_pos h1] at h; omega
  rw [if_neg h1] at h
  by_cases h2' : ¬ b.take 4 = [67, 82, 78, 2]
  · rw [if_pos h2'] at h; omega
  rw [if_neg h2'] at h
  have h2 := Decidable.not_not.1 h2'
  by_cases h3' : ¬ num b 32 4 = crc (b.take 32)
  · rw [if_pos h3'] at h; omega
  rw [if_neg h3'] at h
  have h3 := Decidable.not_not.1 h3'
  by_cases h4 : b.length < 40 + b.getD 31 0
  · rw [if_pos h4] at h; omega
  rw [if_neg h4] at h
  by_cases h5' : ¬ num b (36 + b.getD 31 0) 4 = crc (b.take 32 ++ keyL b)
  · rw [if_pos h5'] at h; omega
  rw [if_neg h5'] at h
  have h5 := Decidable.not_not.1 h5'
  by_cases h6 : checkE (hdOf b) = 0
  · exact ⟨by omega, h2, h3, by omega, h5, h6⟩
  · rw [if_pos h6] at h; omega
/-- The head's bytes are those that were read. -/
theorem head_hdOf {b : List Nat} (hb : ∀ x ∈ b, x < 256) (h : headE b = 0) : headL (hdOf b) = sl b 0 (offF (hdOf b) 0) ∧ sum2 (hdOf b) = crc (b.take 32 ++ keyL b) := by
  obtain ⟨h36, hm, hs1, h40, hs2, _⟩ := headE_facts h
  have hk := key_hdOf hb (by omega)
  have hf := fix_hdOf hb h36 hm
  have hks : (hdOf b).key.size = b.getD 31 0 := strN_size _ _
  have e2 : sum2 (hdOf b) = crc (b.take 32 ++ keyL b) := by unfold sum2; rw [hf, hk]
  refine ⟨?_, e2⟩
  unfold headL
  rw [e2, ← hs2, le_num hb (by omega), show sum1 (hdOf b) = num b 32 4 by unfold sum1; rw [hf, hs1], le_num hb (by omega), hf, hk, take_sl]
  show _ = sl b 0 (40 + (hdOf b).key.size + 0)
  rw [hks]
  unfold keyL
  have s1 : sl b 0 36 = sl b 0 32 ++ sl b 32 4 := sl_split 0 32 4
  have s2 : sl b 0 (36 + b.getD 31 0) = sl b 0 36 ++ sl b 36 (b.getD 31 0) := by have := sl_split (b := b) 0 36 (b.getD 31 0); rwa [Nat.zero_add] at this
  have s3 : sl b 0 (36 + b.getD 31 0 + 4) = sl b 0 (36 + b.getD 31 0) ++ sl b (36 + b.getD 31 0) 4 := by have := sl_split (b := b) 0 (36 + b.getD 31 0) 4; rwa [Nat.zero_add] at this
  rw [← s1, ← s2, ← s3]
  congr 1
  omega
end Go.Proofs.Ytbioanbokbhmgaa
