/- Forms of shards in plain: lengths, rows of a form, what Encode answers. Conditions: none. -/
import Derived.Test.YtbioanbokbhmgaaFrmP
namespace Go.Proofs.Ytbioanbokbhmgaa

theorem getD_mem' {α : Type} {l : List α} {i : Nat} {d : α} (h : i < l.length) : l.getD i d ∈ l := by
  rw [List.getD_eq_getElem?_getD, List.getElem?_eq_getElem h]
  exact List.getElem_mem h
theorem take_nextL {BL : List (List Nat)} {k : Nat} (h : k < BL.length) : BL.take (k + 1) = BL.take k ++ [BL.getD k []] := by
  rw [List.getD_eq_getElem?_getD, List.getElem?_eq_getElem h]
  exact (List.take_append_getElem h).symm
theorem framesL_next (s : Nat) {BL : List (List Nat)} {k : Nat} (h : k < BL.length) : framesL s 0 (BL.take (k + 1)) = framesL s 0 (BL.take k) ++ frameL s k (BL.getD k []) := by
  rw [take_nextL h, framesL_app]
  have : (BL.take k).length = k := by rw [List.length_take]; omega
  rw [this, Nat.zero_add]
  simp [framesL]
/-- The rows that the document joins. -/
def rowsF (h : Hd) (BL : List (List Nat)) : Nat → List (List Nat)
  | 0 => [headL h]
  | k + 1 => rowsF h BL k ++ [frameL (sum2 h) k (BL.getD k [])]
theorem rowsF_length (h : Hd) (BL : List (List Nat)) : ∀ k, (rowsF h BL k).length = k + 1
  | 0 => rfl
  | k + 1 => by simp [rowsF, rowsF_length h BL k]
theorem rowsF_flat (h : Hd) (BL : List (List Nat)) : ∀ k, k ≤ BL.length → (rowsF h BL k).flatten = headL h ++ framesL (sum2 h) 0 (BL.take k)
  | 0, _ => by simp [rowsF, framesL]
  | k + 1, hk => by
    show (rowsF h BL k ++ [_]).flatten = _
    rw [List.flatten_append, rowsF_flat h BL k (by omega), framesL_next _ (show k < BL.length by omega), ← List.append_assoc]
    simp
theorem rowsF_all (h : Hd) (BL : List (List Nat)) : (rowsF h BL BL.length).flatten = formL h BL := by
  rw [rowsF_flat h BL _ (Nat.le_refl _), List.take_length]; rfl
theorem framesL_le (s b : Nat) : ∀ (BL : List (List Nat)) (j : Nat), (∀ l ∈ BL, l.length ≤ b) → (framesL s j BL).length ≤ BL.length * (b + 4)
  | [], _, _ => by simp [framesL]
  | x :: l, j, h => by
    have h1 := framesL_le s b l (j + 1) fun y hy => h y (by simp [hy])
    have h2 := h x (by simp)
    show (frameL s j x ++ framesL s (j + 1) l).length ≤ (l.length + 1) * (b + 4)
    rw [List.length_append, frameL_length, Nat.add_mul]
    omega
/-- Blocks of the lengths that the head wants. -/
def fitsB (h : Hd) (BL : List (List Nat)) : Prop := BL.length = sizeN h.K h.M h.B h.size ∧ ∀ j, j < BL.length → (BL.getD j []).length = blen h.K.toNat h.B.toNat h.size.toNat j
theorem fits_len {h : Hd} {BL : List (List Nat)} (HE : checkE h = 0) (hf : fitsB h BL) : BL.length ≤ 4096 ∧ ∀ l ∈ BL, l.length ≤ 65536 := by
  obtain ⟨⟨m1, m2, m3, m4, m5, m6⟩, _⟩ := check_facts HE
  have hn := sizeN_le h.K h.M h.B h.size
  refine ⟨by rw [hf.1]; exact hn, fun l hl => ?_⟩
  obtain ⟨j, hj, rfl⟩ := List.mem_iff_getElem.1 hl
  have h1 := hf.2 j hj
  have h2 : BL.getD j [] = BL[j] := by simp [List.getD, hj]
  rw [h2] at h1
  have := blen_le (K := h.K.toNat) (B := h.B.toNat) (s := h.size.toNat) (j := j) (by omega)
  omega
theorem form_le {h : Hd} {BL : List (List Nat)} (HE : checkE h = 0) (hf : fitsB h BL) : (formL h BL).length ≤ 300000000 := by
  obtain ⟨h1, h2⟩ := fits_len HE hf
  obtain ⟨_, _, k1, _⟩ := check_facts HE
  have h3 := framesL_le (sum2 h) 65536 BL 0 h2
  have h4 : BL.length * (65536 + 4) ≤ 4096 * 65540 := Nat.mul_le_mul_right _ h1
  unfold formL
  rw [List.length_append, headL_length]
  omega
/-- What Encode answers. -/
def EncP (h : Hd) (BL : List (List Nat)) (er : Int) (l : List Nat) : Prop :=
  (¬ checkE h = 0 ∧ er = checkE h ∧ l = []) ∨ (checkE h = 0 ∧ ¬ fitsB h BL ∧ er = 81 ∧ l = []) ∨ (checkE h = 0 ∧ fitsB h BL ∧ er = 0 ∧ l = formL h BL)
theorem EncP.uniq {h : Hd} {BL : List (List Nat)} {er er' : Int} {l l' : List Nat} (a : EncP h BL er l) (b : EncP h BL er' l') : er = er' ∧ l = l' := by
  rcases a with ⟨a1, rfl, rfl⟩ | ⟨a1, a2, rfl, rfl⟩ | ⟨a1, a2, rfl, rfl⟩ <;> rcases b with ⟨b1, rfl, rfl⟩ | ⟨b1, b2, rfl, rfl⟩ | ⟨b1, b2, rfl, rfl⟩ <;> first | exact ⟨rfl, rfl⟩ | exact absurd b1 a1 | exact absurd a1 b1 | exact absurd b2 a2 | exact absurd a2 b2
theorem le_app_lt {a b : List Nat} (ha : ∀ x ∈ a, x < 256) (hb : ∀ x ∈ b, x < 256) : ∀ x ∈ a ++ b, x < 256 := fun x hx => (List.mem_append.1 hx).elim (ha x) (hb x)
theorem headL_lt {h : Hd} (hB : HdB h) : ∀ x ∈ headL h, x < 256 := le_app_lt (le_app_lt (le_app_lt (fixL_lt hB) fun _ => le_lt) (bl_lt _)) fun _ => le_lt
theorem frameL_lt {s j : Nat} {l : List Nat} (hl : ∀ x ∈ l, x < 256) : ∀ x ∈ frameL s j l, x < 256 := le_app_lt hl fun _ => le_lt
theorem framesL_lt (s : Nat) : ∀ (BL : List (List Nat)) (j : Nat), (∀ l ∈ BL, ∀ x ∈ l, x < 256) → ∀ x ∈ framesL s j BL, x < 256
  | [], _, _, x, hx => by simp [framesL] at hx
  | y :: l, j, h, x, hx => le_app_lt (frameL_lt (h y (by simp))) (framesL_lt s l (j + 1) fun z hz => h z (by simp [hz])) x hx
theorem formL_lt {h : Hd} {BL : List (List Nat)} (hB : HdB h) (hl : ∀ l ∈ BL, ∀ x ∈ l, x < 256) : ∀ x ∈ formL h BL, x < 256 := le_app_lt (headL_lt hB) (framesL_lt _ _ _ hl)
theorem EncP.lt {h : Hd} {BL : List (List Nat)} {er : Int} {l : List Nat} (a : EncP h BL er l) (hB : HdB h) (hl : ∀ l ∈ BL, ∀ x ∈ l, x < 256) : ∀ x ∈ l, x < 256 := by
  rcases a with ⟨_, _, rfl⟩ | ⟨_, _, _, rfl⟩ | ⟨_, _, _, rfl⟩
  · simp
  · simp
  · exact formL_lt hB hl
theorem EncP.len {h : Hd} {BL : List (List Nat)} {er : Int} {l : List Nat} (a : EncP h BL er l) : l.length ≤ 300000000 := by
  rcases a with ⟨_, _, rfl⟩ | ⟨_, _, _, rfl⟩ | ⟨a1, a2, _, rfl⟩
  · simp
  · simp
  · exact form_le a1 a2
end Go.Proofs.Ytbioanbokbhmgaa

/- What is read of some bytes, in plain: heads that were read make just their bytes; which frames are spoilt. Conditions: bytes. -/
namespace Go.Proofs.Ytbioanbokbhmgaa

theorem sl_one {b : List Nat} {i : Nat} (h : i < b.length) : sl b i 1 = [b.getD i 0] := by
  have := sl_next (b := b) (p := i) (n := 0) (by omega)
  simpa [sl] using this
theorem le_num {b : List Nat} {p n : Nat} (hb : ∀ x ∈ b, x < 256) (h : p + n ≤ b.length) : le n (num b p n) = sl b p n := by
  have := le_leV (sl b p n) fun x hx => hb x (sl_mem hx)
  rw [sl_length h] at this
  exact this
theorem num_lt {b : List Nat} {p n : Nat} (hb : ∀ x ∈ b, x < 256) (h : p + n ≤ b.length) : num b p n < 256 ^ n := by
  have := leV_lt (sl b p n) fun x hx => hb x (sl_mem hx)
  rw [sl_length h] at this
  exact this
theorem num_four {b : List Nat} {p : Nat} (hb : ∀ x ∈ b, x < 256) (h : p + 4 ≤ b.length) : num b p 4 < 4294967296 := num_lt hb h
theorem getD_256 {b : List Nat} (hb : ∀ x ∈ b, x < 256) (i : Nat) : b.getD i 0 < 256 := by
  by_cases h : i < b.length
  · exact getD_lt hb h
  · rw [List.getD_eq_getElem?_getD, List.getElem?_eq_none (by omega)]; decide
theorem le_one {x : Nat} (h : x < 256) : le 1 x = [x] := by simp [le]; omega
theorem sl_eight {b : List Nat} {p : Nat} (h : p + 8 ≤ b.length) : sl b p 8 = [b.getD p 0, b.getD (p + 1) 0, b.getD (p + 2) 0, b.getD (p + 3) 0, b.getD (p + 4) 0, b.getD (p + 5) 0, b.getD (p + 6) 0, b.getD (p + 7) 0] := by
  rw [show (8 : Nat) = 1 + (1 + (1 + (1 + (1 + (1 + (1 + 1)))))) from rfl]
  rw [sl_split, sl_split, sl_split, sl_split, sl_split, sl_split, sl_split]
  rw [sl_one (by omega), sl_one (by omega), sl_one (by omega), sl_one (by omega), sl_one (by omega), sl_one (by omega), sl_one (by omega), sl_one (by omega)]
  rfl
theorem strN_size (n : Nat) (g : Nat → Nat) : (strN n g).size = n := by
  show ((List.range n).map fun i => UInt8.ofNat (g i)).toArray.size = n
  simp
theorem bl_strN {n : Nat} {g : Nat → Nat} (h : ∀ i, i < n → g i < 256) : bl (strN n g) = (List.range n).map g := by
  unfold bl strN
  simp only [List.map_map]
  refine List.map_congr_left fun i hi => ?_
  have := h i (List.mem_range.1 hi)
  show (UInt8.ofNat (g i)).toNat = g i
  simp; omega
theorem key_hdOf {b : List Nat} (hb : ∀ x ∈ b, x < 256) (h : 36 + b.getD 31 0 ≤ b.length) : bl (hdOf b).key = keyL b := by
  show bl (strN (b.getD 31 0) fun i => b.getD (36 + i) 0) = sl b 36 (b.getD 31 0)
  rw [bl_strN fun i _ => getD_256 hb _]
  apply List.ext_getElem?
  intro i
  by_cases hi : i < b.getD 31 0
  · have h1 : i < (sl b 36 (b.getD 31 0)).length := by rw [sl_length h]; exact hi
    have h2 := sl_get (b := b) (p := 36) hi
    rw [List.getElem?_eq_getElem h1, List.getElem?_map, List.getElem?_eq_getElem (by simpa using hi)]
    simp only [List.getElem_range, Option.map_some, Option.some.injEq]
    rw [← h2, getD_in h1]
  · rw [List.getElem?_eq_none (by simpa using hi), List.getElem?_eq_none (by rw [sl_length h]; omega)]
/-- What is read of a head's first bytes makes just them. -/
theorem fix_hdOf {b : List Nat} (hb : ∀ x ∈ b, x < 256) (h36 : 36 ≤ b.length) (hm : b.take 4 = [67, 82, 78, 2]) : fixL (hdOf b) = b.take 32 := by
  have e : b.take 32 = sl b 0 4 ++ sl b 4 8 ++ sl b 12 1 ++ sl b 13 1 ++ sl b 14 4 ++ sl b 18 4 ++ sl b 22 1 ++ sl b 23 4 ++ sl b 27 4 ++ sl b 31 1 := by
    have s1 : sl b 0 12 = sl b 0 4 ++ sl b 4 8 := sl_split 0 4 8
    have s2 : sl b 0 13 = sl b 0 12 ++ sl b 12 1 := sl_split 0 12 1
    have s3 : sl b 0 14 = sl b 0 13 ++ sl b 13 1 := sl_split 0 13 1
    have s4 : sl b 0 18 = sl b 0 14 ++ sl b 14 4 := sl_split 0 14 4
    have s5 : sl b 0 22 = sl b 0 18 ++ sl b 18 4 := sl_split 0 18 4
    have s6 : sl b 0 23 = sl b 0 22 ++ sl b 22 1 := sl_split 0 22 1
    have s7 : sl b 0 27 = sl b 0 23 ++ sl b 23 4 := sl_split 0 23 4
    have s8 : sl b 0 31 = sl b 0 27 ++ sl b 27 4 := sl_split 0 27 4
    have s9 : sl b 0 32 = sl b 0 31 ++ sl b 31 1 := sl_split 0 31 1
    rw [take_sl, s9, s8, s7, s6, s5, s4, s3, s2, s1]
  rw [e, ← take_sl, hm, sl_eight (b := b) (p := 4) (by omega), sl_one (b := b) (i := 12) (by omega), sl_one (b := b) (i := 13) (by omega), sl_one (b := b) (i := 22) (by omega), sl_one (b := b) (i := 31) (by omega)]
  unfold fixL hdOf
  simp only [Int.toNat_natCast, strN_size]
  rw [le_one (getD_256 hb _), le_one (getD_256 hb _), le_one (getD_256 hb _), le_one (getD_256 hb _), le_num hb (by omega), le_num hb (by omega), le_num hb (by omega), le_num hb (by omega)]
theorem hdOf_bytes {b : List Nat} (hb : ∀ x ∈ b, x < 256) : HdB (hdOf b) := by
  have k : ∀ i, (0 : Int) ≤ ((b.getD i 0 : Nat) : Int) ∧ ((b.getD i 0 : Nat) : Int) < 256 := fun i => by
    have := getD_256 hb i
    exact ⟨by omega, by omega⟩
  exact ⟨k 4, k 5, k 6, k 7, k 8, k 9, k 10, k 11⟩
/-- How far the frames lie. -/
def offF (h : Hd) (j : Nat) : Nat := 40 + h.key.size + sumN (fun i => blen h.K.toNat h.B.toNat h.size.toNat i + 4) j
def lenF (h : Hd) (j : Nat) : Nat := blen h.K.toNat h.B.toNat h.size.toNat j
theorem offF_next (h : Hd) (j : Nat) : offF h (j + 1) = offF h j + lenF h j + 4 := by unfold offF lenF; simp only [sumN]; omega
/-- Is the frame spoilt, or not there? -/
def badF (b : List Nat) (j : Nat) : Bool := decide (b.length < offF (hdOf b) j + lenF (hdOf b) j + 4) || decide (¬ num b (offF (hdOf b) j + lenF (hdOf b) j) 4 = sumB (sum2 (hdOf b)) j (sl b (offF (hdOf b) j) (lenF (hdOf b) j)))
/-- Which of the first n are. -/
def badL (b : List Nat) : Nat → List Nat
  | 0 => []
  | n + 1 => if badF b n = true then badL b n ++ [n] else badL b n
theorem badL_lt (b : List Nat) : ∀ (n : Nat), ∀ x ∈ badL b n, x < n
  | n + 1, x, hx => by
    unfold badL at hx
    split at hx
    · rcases List.mem_append.1 hx with hx | hx
      · have := badL_lt b n x hx; omega
      · simp at hx; omega
    · have := badL_lt b n x hx; omega
theorem badL_length (b : List Nat) : ∀ n, (badL b n).length ≤ n
  | 0 => Nat.le_refl _
  | n + 1 => by
    have := badL_length b n
    unfold badL
    split
    · rw [List.length_append]; simp; omega
    · omega
theorem badL_nil (b : List Nat) : ∀ (n : Nat), badL b n = [] ↔ ∀ j, j < n → badF b j = false
  | 0 => by simp [badL]
  | n + 1 => by
    have ih := badL_nil b n
    unfold badL
    constructor
    · intro h j hj
      by_cases hb : badF b n = true
      · rw [if_pos hb] at h; simp at h
      · rw [if_neg hb] at h
        by_cases e : j = n
        · subst e; simpa using hb
        · exact ih.1 h j (by omega)
    · intro h
      rw [if_neg (by rw [h n (by omega)]; decide)]
      exact ih.2 fun j hj => h j (by omega)
/-- The blocks that are read. -/
def blksL (b : List Nat) : Nat → List (List Nat)
  | 0 => []
  | n + 1 => blksL b n ++ [sl b (offF (hdOf b) n) (lenF (hdOf b) n)]
theorem blksL_length (b : List Nat) : ∀ n, (blksL b n).length = n
  | 0 => rfl
  | n + 1 => by simp [blksL, blksL_length b n]
/-- How reading a shard ends, of bytes whose head may be. -/
def prsE (b : List Nat) : Int :=
  if ¬ headE b = 0 then headE b else if b.length < (lenE (hdOf b)).toNat then 70 else if (lenE (hdOf b)).toNat < b.length then 72 else
    if ¬ badL b (sizeN (hdOf b).K (hdOf b).M (hdOf b).B (hdOf b).size) = [] then 82 else 0
theorem headE_facts {b : List Nat} (h : headE b = 0) : 36 ≤ b.length ∧ b.take 4 = [67, 82, 78, 2] ∧ num b 32 4 = crc (b.take 32) ∧ 40 + b.getD 31 0 ≤ b.length ∧ num b (36 + b.getD 31 0) 4 = crc (b.take 32 ++ keyL b) ∧ checkE (hdOf b) = 0 := by
  unfold headE at h
  by_cases h1 : b.length < 36
  · rw [if_pos h1] at h; omega
  rw [if_neg h1] at h
  by_cases h2' : ¬ b.take 4 = [67, 82, 78, 2]
  · rw [if_pos h2'] at h; omega
  rw [if_neg h2'] at h
  have h2 := Decidable.not_not.1 h2'
  by_cases h3' : ¬ num b 32 4 = crc (b.take 32)
  · rw [if_pos h3'] at h; omega
  rw [if_neg h3'] at h
  have h3 := Decidable.not_not.1 h3'
  by_cases h4 : b.length < 40 + b.getD 31 0
  · rw [if_pos h4] at h; omega
  rw [if_neg h4] at h
  by_cases h5' : ¬ num b (36 + b.getD 31 0) 4 = crc (b.take 32 ++ keyL b)
  · rw [if_pos h5'] at h; omega
  rw [if_neg h5'] at h
  have h5 := Decidable.not_not.1 h5'
  by_cases h6 : checkE (hdOf b) = 0
  · exact ⟨by omega, h2, h3, by omega, h5, h6⟩
  · rw [if_pos h6] at h; omega
/-- The head's bytes are those that were read. -/
theorem head_hdOf {b : List Nat} (hb : ∀ x ∈ b, x < 256) (h : headE b = 0) : headL (hdOf b) = sl b 0 (offF (hdOf b) 0) ∧ sum2 (hdOf b) = crc (b.take 32 ++ keyL b) := by
  obtain ⟨h36, hm, hs1, h40, hs2, _⟩ := headE_facts h
  have hk := key_hdOf hb (by omega)
  have hf := fix_hdOf hb h36 hm
  have hks : (hdOf b).key.size = b.getD 31 0 := strN_size _ _
  have e2 : sum2 (hdOf b) = crc (b.take 32 ++ keyL b) := by unfold sum2; rw [hf, hk]
  refine ⟨?_, e2⟩
  unfold headL
  rw [e2, ← hs2, le_num hb (by omega), show sum1 (hdOf b) = num b 32 4 by unfold sum1; rw [hf, hs1], le_num hb (by omega), hf, hk, take_sl]
  show _ = sl b 0 (40 + (hdOf b).key.size + 0)
  rw [hks]
  unfold keyL
  have s1 : sl b 0 36 = sl b 0 32 ++ sl b 32 4 := sl_split 0 32 4
  have s2 : sl b 0 (36 + b.getD 31 0) = sl b 0 36 ++ sl b 36 (b.getD 31 0) := by have := sl_split (b := b) 0 36 (b.getD 31 0); rwa [Nat.zero_add] at this
  have s3 : sl b 0 (36 + b.getD 31 0 + 4) = sl b 0 (36 + b.getD 31 0) ++ sl b (36 + b.getD 31 0) 4 := by have := sl_split (b := b) 0 (36 + b.getD 31 0) 4; rwa [Nat.zero_add] at this
  rw [← s1, ← s2, ← s3]
  congr 1
  omega
end Go.Proofs.Ytbioanbokbhmgaa

/- Forms are read as what they are forms of; what is read is the form of what was read. Conditions: bytes, a head that may be. -/
namespace Go.Proofs.Ytbioanbokbhmgaa

theorem getD_app_l' {α : Type} {l : List α} {x d : α} {i : Nat} (h : i < l.length) : (l ++ [x]).getD i d = l.getD i d := by simp [List.getD, List.getElem?_append_left h]
theorem getD_app_r' {α : Type} {l : List α} {x d : α} : (l ++ [x]).getD l.length d = x := by simp [List.getD]
theorem sum_lt {h : Hd} (hB : HdB h) : sum1 h < 4294967296 ∧ sum2 h < 4294967296 := ⟨crc_lt (fixL_lt hB), crc_lt fun x hx => (List.mem_append.1 hx).elim (fixL_lt hB x) (bl_lt _ x)⟩
theorem sumB_small {s j : Nat} {l : List Nat} (hl : ∀ x ∈ l, x < 256) : sumB s j l < 4294967296 := crc_lt (le_app_lt (le_app_lt (fun _ => le_lt) fun _ => le_lt) hl)
theorem sl_mid (a m c : List Nat) : sl (a ++ m ++ c) a.length m.length = m := by
  unfold sl
  rw [List.append_assoc, List.drop_left, List.take_left]
theorem sl_mid' {a m c : List Nat} {p n : Nat} (hp : p = a.length) (hn : n = m.length) : sl (a ++ m ++ c) p n = m := by subst hp hn; exact sl_mid a m c
theorem strN_bl (s : ByteArray) : strN s.size (fun i => (bl s).getD i 0) = s := by
  obtain ⟨⟨l⟩⟩ := s
  unfold strN
  congr 1
  apply Array.ext'
  show (List.range l.length).map (fun i => UInt8.ofNat ((l.map (·.toNat)).getD i 0)) = l
  apply List.ext_getElem?
  intro i
  by_cases hi : i < l.length
  · simp [hi, List.getD]
  · simp [hi]
theorem fix_get (h : Hd) : (fixL h).getD 4 0 = h.s0.toNat ∧ (fixL h).getD 5 0 = h.s1.toNat ∧ (fixL h).getD 6 0 = h.s2.toNat ∧ (fixL h).getD 7 0 = h.s3.toNat ∧ (fixL h).getD 8 0 = h.s4.toNat ∧ (fixL h).getD 9 0 = h.s5.toNat ∧ (fixL h).getD 10 0 = h.s6.toNat ∧ (fixL h).getD 11 0 = h.s7.toNat ∧
    (fixL h).getD 12 0 = h.K.toNat % 256 ∧ (fixL h).getD 13 0 = h.M.toNat % 256 ∧ (fixL h).getD 22 0 = h.idx.toNat % 256 ∧ (fixL h).getD 31 0 = h.key.size % 256 := ⟨rfl, rfl, rfl, rfl, rfl, rfl, rfl, rfl, rfl, rfl, rfl, rfl⟩
theorem fix_sl (h : Hd) : sl (fixL h) 14 4 = le 4 h.B.toNat ∧ sl (fixL h) 18 4 = le 4 h.size.toNat ∧ sl (fixL h) 23 4 = le 4 h.ep.toNat ∧ sl (fixL h) 27 4 = le 4 h.ct.toNat ∧ (fixL h).take 4 = [67, 82, 78, 2] := ⟨rfl, rfl, rfl, rfl, rfl⟩
/-- Bytes that begin with a head. -/
theorem hdOf_head {h : Hd} {b t : List Nat} (hB : HdB h) (HE : checkE h = 0) (e : b = headL h ++ t) : hdOf b = h := by
  obtain ⟨⟨m1, m2, m3, m4, m5, m6⟩, k0, k1, hE, i0, i1, e0, e1, t0, t1⟩ := check_facts HE
  obtain ⟨z0, z1, _⟩ := size_facts hE
  obtain ⟨⟨a0, b0⟩, ⟨a1, b1⟩, ⟨a2, b2⟩, ⟨a3, b3⟩, ⟨a4, b4⟩, ⟨a5, b5⟩, ⟨a6, b6⟩, ⟨a7, b7⟩⟩ := hB
  have hb : b = fixL h ++ (le 4 (sum1 h) ++ bl h.key ++ le 4 (sum2 h) ++ t) := by rw [e]; unfold headL; simp only [List.append_assoc]
  have hg : ∀ i, i < 32 → b.getD i 0 = (fixL h).getD i 0 := fun i hi => by
    rw [hb, List.getD_eq_getElem?_getD, List.getElem?_append_left (by rw [fixL_length]; exact hi), ← List.getD_eq_getElem?_getD]
  have hs : ∀ p n, p + n ≤ 32 → sl b p n = sl (fixL h) p n := fun p n hp => by rw [hb]; exact sl_app_left (by rw [fixL_length]; exact hp)
  obtain ⟨g4, g5, g6, g7, g8, g9, g10, g11, g12, g13, g22, g31⟩ := fix_get h
  obtain ⟨s14, s18, s23, s27, _⟩ := fix_sl h
  have hkey : ∀ i, i < h.key.size → b.getD (36 + i) 0 = (bl h.key).getD i 0 := fun i hi => by
    have hl : (fixL h ++ le 4 (sum1 h)).length = 36 := by simp [fixL_length, le_length]
    have h2 : b = (fixL h ++ le 4 (sum1 h)) ++ (bl h.key ++ (le 4 (sum2 h) ++ t)) := by rw [hb]; simp only [List.append_assoc]
    rw [h2, ← hl, List.getD_eq_getElem?_getD, List.getElem?_append_right (by omega), Nat.add_sub_cancel_left, List.getElem?_append_left (by rw [bl_length]; exact hi), ← List.getD_eq_getElem?_getD]
  have h31 : b.getD 31 0 = h.key.size := by rw [hg 31 (by omega), g31]; omega
  have nK : b.getD 12 0 = h.K.toNat := by rw [hg 12 (by omega), g12]; omega
  have nM : b.getD 13 0 = h.M.toNat := by rw [hg 13 (by omega), g13]; omega
  have nI : b.getD 22 0 = h.idx.toNat := by rw [hg 22 (by omega), g22]; omega
  have nB : num b 14 4 = h.B.toNat := by unfold num; rw [hs 14 4 (by omega), s14, leV_le _ _ (by omega)]
  have nS : num b 18 4 = h.size.toNat := by unfold num; rw [hs 18 4 (by omega), s18, leV_le _ _ (by omega)]
  have nE : num b 23 4 = h.ep.toNat := by unfold num; rw [hs 23 4 (by omega), s23, leV_le _ _ (by omega)]
  have nC : num b 27 4 = h.ct.toNat := by unfold num; rw [hs 27 4 (by omega), s27, leV_le _ _ (by omega)]
  have kk : strN (b.getD 31 0) (fun i => b.getD (36 + i) 0) = h.key := by
    rw [h31, strN_congr hkey]; exact strN_bl h.key
  unfold hdOf
  rw [kk, nK, nM, nI, nB, nS, nE, nC, hg 4 (by omega), hg 5 (by omega), hg 6 (by omega), hg 7 (by omega), hg 8 (by omega), hg 9 (by omega), hg 10 (by omega), hg 11 (by omega), g4, g5, g6, g7, g8, g9, g10, g11]
  rw [Int.toNat_of_nonneg a0, Int.toNat_of_nonneg a1, Int.toNat_of_nonneg a2, Int.toNat_of_nonneg a3, Int.toNat_of_nonneg a4, Int.toNat_of_nonneg a5, Int.toNat_of_nonneg a6, Int.toNat_of_nonneg a7,
    Int.toNat_of_nonneg (show 0 ≤ h.K by omega), Int.toNat_of_nonneg (show 0 ≤ h.M by omega), Int.toNat_of_nonneg (show 0 ≤ h.B by omega), Int.toNat_of_nonneg z0, Int.toNat_of_nonneg i0, Int.toNat_of_nonneg (show 0 ≤ h.ep by omega), Int.toNat_of_nonneg (show 0 ≤ h.ct by omega)]
theorem headE_head {h : Hd} {b t : List Nat} (hB : HdB h) (HE : checkE h = 0) (e : b = headL h ++ t) : headE b = 0 := by
  have hd := hdOf_head hB HE e
  obtain ⟨_, k0, k1, _⟩ := check_facts HE
  obtain ⟨hs1, hs2⟩ := sum_lt hB
  have hlen : b.length = 40 + h.key.size + t.length := by rw [e, List.length_append, headL_length]
  have hb : b = fixL h ++ (le 4 (sum1 h) ++ bl h.key ++ le 4 (sum2 h) ++ t) := by rw [e]; unfold headL; simp only [List.append_assoc]
  have h31 : b.getD 31 0 = h.key.size := by
    have : (hdOf b).key.size = b.getD 31 0 := strN_size _ _
    rw [← this, hd]
  have ht32 : b.take 32 = fixL h := by rw [hb, List.take_left' (fixL_length h)]
  have ht4 : b.take 4 = [67, 82, 78, 2] := by
    have := (fix_sl h).2.2.2.2
    rw [← this, hb, List.take_append_of_le_length (by rw [fixL_length]; omega)]
  have hn1 : num b 32 4 = sum1 h := by
    unfold num
    have h2 : b = fixL h ++ le 4 (sum1 h) ++ (bl h.key ++ (le 4 (sum2 h) ++ t)) := by rw [hb]; simp only [List.append_assoc]
    rw [h2, sl_mid' (fixL_length h).symm (le_length 4 _).symm, leV_le _ _ (by omega)]
  have hkl : keyL b = bl h.key := by
    unfold keyL
    have h2 : b = (fixL h ++ le 4 (sum1 h)) ++ bl h.key ++ (le 4 (sum2 h) ++ t) := by rw [hb]; simp only [List.append_assoc]
    rw [h31, h2, sl_mid' (by simp [fixL_length, le_length]) (bl_length _).symm]
  have hn2 : num b (36 + b.getD 31 0) 4 = sum2 h := by
    unfold num
    have h2 : b = (fixL h ++ le 4 (sum1 h) ++ bl h.key) ++ le 4 (sum2 h) ++ t := by rw [hb]; simp only [List.append_assoc]
    rw [h31]
    conv => lhs; rw [h2]
    rw [sl_mid' (by simp [fixL_length, le_length, bl_length]; omega) (le_length 4 _).symm, leV_le _ _ (by omega)]
  unfold headE
  rw [if_neg (by omega), if_neg (by simpa using ht4), if_neg (by rw [hn1, ht32]; simp [sum1]), if_neg (by omega), if_neg (by rw [hn2, ht32, hkl]; simp [sum2]), hd, if_neg (by simpa using HE)]
/-- Where the frames lie. -/
theorem off_len {h : Hd} {BL : List (List Nat)} (hf : fitsB h BL) : ∀ j, j ≤ BL.length → (headL h ++ framesL (sum2 h) 0 (BL.take j)).length = offF h j
  | 0, _ => by simp [framesL, headL_length, offF, sumN]
  | j + 1, hj => by
    have ih := off_len hf j (by omega)
    rw [framesL_next _ (show j < BL.length by omega), ← List.append_assoc, List.length_append, ih, frameL_length, hf.2 j (by omega), offF_next]
    unfold lenF
    omega
theorem form_split {h : Hd} {BL : List (List Nat)} {j : Nat} (hj : j < BL.length) (t : List Nat) : formL h BL ++ t = (headL h ++ framesL (sum2 h) 0 (BL.take j)) ++ frameL (sum2 h) j (BL.getD j []) ++ (framesL (sum2 h) (j + 1) (BL.drop (j + 1)) ++ t) := by
  unfold formL
  have h1 : BL = BL.take (j + 1) ++ BL.drop (j + 1) := (List.take_append_drop _ _).symm
  have h2 : framesL (sum2 h) 0 BL = framesL (sum2 h) 0 (BL.take (j + 1)) ++ framesL (sum2 h) (j + 1) (BL.drop (j + 1)) := by
    conv => lhs; rw [h1]
    rw [framesL_app, List.length_take, Nat.zero_add, Nat.min_eq_left (by omega)]
  rw [h2, framesL_next _ hj]
  simp only [List.append_assoc]
/-- A frame that lies where it should. -/
theorem badF_frame {h : Hd} {b p t blk : List Nat} {j : Nat} (hd : hdOf b = h) (_hB : HdB h) (hx : ∀ x ∈ blk, x < 256) (e : b = p ++ frameL (sum2 h) j blk ++ t) (hp : p.length = offF h j) (hl : blk.length = lenF h j) : badF b j = false := by
  have h1 : sl b (offF h j) (lenF h j) = blk := by
    have h2 : b = p ++ blk ++ (le 4 (sumB (sum2 h) j blk) ++ t) := by rw [e]; unfold frameL; simp only [List.append_assoc]
    rw [h2]; exact sl_mid' hp.symm hl.symm
  have h3 : num b (offF h j + lenF h j) 4 = sumB (sum2 h) j blk := by
    have h2 : b = (p ++ blk) ++ le 4 (sumB (sum2 h) j blk) ++ t := by rw [e]; unfold frameL; simp only [List.append_assoc]
    unfold num
    rw [h2, sl_mid' (by rw [List.length_append, hp, hl]) (le_length 4 _).symm, leV_le _ _ (sumB_small hx)]
  have h4 : b.length = offF h j + lenF h j + 4 + t.length := by rw [e, List.length_append, List.length_append, frameL_length, hp, hl]; omega
  unfold badF
  rw [hd, h1, h3]
  simp
  omega
theorem form_good {h : Hd} {BL : List (List Nat)} {t : List Nat} (hB : HdB h) (HE : checkE h = 0) (hf : fitsB h BL) (hx : ∀ l ∈ BL, ∀ x ∈ l, x < 256) {j : Nat} (hj : j < BL.length) : badF (formL h BL ++ t) j = false :=
  badF_frame (hdOf_head hB HE (t := framesL (sum2 h) 0 BL ++ t) (by unfold formL; rw [List.append_assoc])) hB (hx _ (getD_mem' hj)) (form_split hj t) (off_len hf j (by omega)) (hf.2 j hj)
theorem lenE_off {h : Hd} (HE : checkE h = 0) : (lenE h).toNat = offF h (sizeN h.K h.M h.B h.size) := by
  unfold lenE offF
  rw [if_pos HE]
  rfl
theorem form_len {h : Hd} {BL : List (List Nat)} (HE : checkE h = 0) (hf : fitsB h BL) : (formL h BL).length = (lenE h).toNat := by
  rw [lenE_off HE, ← hf.1, ← off_len hf _ (Nat.le_refl _), List.take_length]; rfl
/-- A shard's form is read. -/
theorem prs_form {h : Hd} {BL : List (List Nat)} (hB : HdB h) (HE : checkE h = 0) (hf : fitsB h BL) (hx : ∀ l ∈ BL, ∀ x ∈ l, x < 256) : prsE (formL h BL) = 0 ∧ hdOf (formL h BL) = h := by
  have hd := hdOf_head (b := formL h BL) hB HE rfl
  have he := headE_head (b := formL h BL) hB HE rfl
  have hl := form_len HE hf
  have hb : badL (formL h BL) (sizeN h.K h.M h.B h.size) = [] := (badL_nil _ _).2 fun j hj => by
    have := form_good (t := []) hB HE hf hx (j := j) (by rw [hf.1]; exact hj)
    rwa [List.append_nil] at this
  refine ⟨?_, hd⟩
  unfold prsE
  rw [if_neg (by simpa using he), hd, if_neg (by omega), if_neg (by omega), if_neg (by simpa using hb)]
theorem blks_form {h : Hd} {BL : List (List Nat)} (hB : HdB h) (HE : checkE h = 0) (hf : fitsB h BL) : ∀ n, n ≤ BL.length → blksL (formL h BL) n = BL.take n
  | 0, _ => by simp [blksL]
  | n + 1, hn => by
    have hd := hdOf_head (b := formL h BL) hB HE rfl
    have hs := form_split (h := h) (j := n) (show n < BL.length by omega) []
    rw [List.append_nil, List.append_nil] at hs
    show blksL (formL h BL) n ++ [sl (formL h BL) (offF (hdOf (formL h BL)) n) (lenF (hdOf (formL h BL)) n)] = _
    rw [blks_form hB HE hf n (by omega), take_nextL (by omega), hd]
    congr 2
    have h2 : formL h BL = (headL h ++ framesL (sum2 h) 0 (BL.take n)) ++ BL.getD n [] ++ (le 4 (sumB (sum2 h) n (BL.getD n [])) ++ framesL (sum2 h) (n + 1) (BL.drop (n + 1))) := by
      rw [hs]; unfold frameL; simp only [List.append_assoc]
    conv => lhs; rw [h2]
    exact sl_mid' (off_len hf n (by omega)).symm (hf.2 n (by omega)).symm
/-- What is read is the form of what was read. -/
theorem prs_back {b : List Nat} (hb : ∀ x ∈ b, x < 256) (h : prsE b = 0) : headE b = 0 ∧ fitsB (hdOf b) (blksL b (sizeN (hdOf b).K (hdOf b).M (hdOf b).B (hdOf b).size)) ∧ formL (hdOf b) (blksL b (sizeN (hdOf b).K (hdOf b).M (hdOf b).B (hdOf b).size)) = b := by
  obtain ⟨n, hn⟩ : ∃ n, n = sizeN (hdOf b).K (hdOf b).M (hdOf b).B (hdOf b).size := ⟨_, rfl⟩
  unfold prsE at h
  rw [← hn] at h ⊢
  by_cases h1 : ¬ headE b = 0
  · rw [if_pos h1] at h; exact absurd h h1
  rw [if_neg h1] at h
  have he := Decidable.not_not.1 h1
  have HE := (headE_facts he).2.2.2.2.2
  have hL := lenE_off HE
  rw [← hn] at hL
  by_cases h2 : b.length < (lenE (hdOf b)).toNat
  · rw [if_pos h2] at h; omega
  rw [if_neg h2] at h
  by_cases h3 : (lenE (hdOf b)).toNat < b.length
  · rw [if_pos h3] at h; omega
  rw [if_neg h3] at h
  by_cases h4 : ¬ badL b n = []
  · rw [if_pos h4] at h; omega
  have hbad := (badL_nil b n).1 (Decidable.not_not.1 h4)
  have hlen : b.length = offF (hdOf b) n := by omega
  obtain ⟨hh, hs2⟩ := head_hdOf hb he
  have hmono : ∀ j, j ≤ n → offF (hdOf b) j ≤ offF (hdOf b) n := fun j hj => by
    obtain ⟨d, rfl⟩ : ∃ d, n = j + d := ⟨n - j, by omega⟩
    clear hj hbad hlen hL h4 h hn
    induction d with
    | zero => exact Nat.le_refl _
    | succ d ih => have := offF_next (hdOf b) (j + d); rw [show j + (d + 1) = j + d + 1 by omega]; omega
  have key : ∀ j, j ≤ n → headL (hdOf b) ++ framesL (sum2 (hdOf b)) 0 (blksL b j) = sl b 0 (offF (hdOf b) j) := by
    intro j
    induction j with
    | zero => intro _; rw [hh]; simp [blksL, framesL]
    | succ j ih =>
      intro hj
      have hbj := hbad j (by omega)
      have ho := offF_next (hdOf b) j
      have hm := hmono (j + 1) hj
      unfold badF at hbj
      simp only [Bool.or_eq_false_iff, decide_eq_false_iff_not, Decidable.not_not] at hbj
      obtain ⟨hb1, hb2⟩ := hbj
      show headL (hdOf b) ++ framesL (sum2 (hdOf b)) 0 (blksL b j ++ [_]) = _
      rw [framesL_app, ← List.append_assoc, ih (by omega), blksL_length, Nat.zero_add]
      show sl b 0 (offF (hdOf b) j) ++ (frameL (sum2 (hdOf b)) j (sl b (offF (hdOf b) j) (lenF (hdOf b) j)) ++ []) = _
      unfold frameL
      rw [List.append_nil, ← hb2, le_num hb (by omega), ← List.append_assoc]
      have s1 := sl_split (b := b) 0 (offF (hdOf b) j) (lenF (hdOf b) j)
      have s2 := sl_split (b := b) 0 (offF (hdOf b) j + lenF (hdOf b) j) 4
      rw [Nat.zero_add] at s1 s2
      rw [← s1, ← s2, ho]
  have hfit : ∀ m j, j < m → m ≤ n → ((blksL b m).getD j []).length = lenF (hdOf b) j := by
    intro m
    induction m with
    | zero => intro j hj _; omega
    | succ m ih =>
      intro j hj hm
      show ((blksL b m ++ [_]).getD j []).length = _
      by_cases e : j = m
      · subst e
        have := getD_app_r' (l := blksL b j) (x := sl b (offF (hdOf b) j) (lenF (hdOf b) j)) (d := [])
        rw [blksL_length] at this
        rw [this]
        have h5 := hmono (j + 1) hm
        have h6 := offF_next (hdOf b) j
        exact sl_length (by omega)
      · rw [getD_app_l' (by rw [blksL_length]; omega)]
        exact ih j (by omega) (by omega)
  refine ⟨he, ⟨by rw [blksL_length]; exact hn, fun j hj => ?_⟩, ?_⟩
  · rw [blksL_length] at hj
    exact hfit n j hj (Nat.le_refl _)
  · show headL (hdOf b) ++ framesL (sum2 (hdOf b)) 0 (blksL b n) = b
    rw [key n (Nat.le_refl _)]
    exact sl_all hlen.symm
end Go.Proofs.Ytbioanbokbhmgaa

/- CRC-32C in plain: the register is never the same behind unlike bytes within 32 bits. Conditions: none. -/
namespace Go.Proofs.Ytbioanbokbhmgaa

theorem xor_nil {a b : Nat} (h : a ^^^ b = 0) : a = b := by
  have h1 : a ^^^ b ^^^ b = 0 ^^^ b := by rw [h]
  rwa [Nat.xor_assoc, Nat.xor_self, Nat.xor_zero, Nat.zero_xor] at h1
theorem cst_zero_of {r : Nat} (h : r < 4294967296) (e : cst r = 0) : r = 0 := by
  by_cases h1 : r % 2 = 1
  · rw [cst_one h1] at e
    have := xor_nil e
    unfold cM at this
    omega
  · rw [cst_nil h1] at e
    omega
theorem csN_lt : ∀ {n r : Nat}, r < 4294967296 → csN n r < 4294967296
  | 0, _, h => h
  | n + 1, _, h => csN_lt (n := n) (cst_lt h)
theorem csN_xor : ∀ (n a b : Nat), csN n (a ^^^ b) = csN n a ^^^ csN n b
  | 0, _, _ => rfl
  | n + 1, a, b => by show csN n (cst (a ^^^ b)) = _; rw [cst_xor, csN_xor n]; rfl
theorem csN_zero : ∀ n, csN n 0 = 0
  | 0 => rfl
  | n + 1 => by show csN n (cst 0) = 0; rw [cst_zero, csN_zero n]
theorem csN_zero_of : ∀ {n r : Nat}, r < 4294967296 → csN n r = 0 → r = 0
  | 0, _, _, e => e
  | n + 1, _, h, e => cst_zero_of h (csN_zero_of (n := n) (cst_lt h) e)
theorem csN_add : ∀ (n m r : Nat), csN (n + m) r = csN m (csN n r)
  | 0, m, r => by rw [Nat.zero_add]; rfl
  | n + 1, m, r => by rw [show n + 1 + m = (n + m) + 1 by omega]; exact csN_add n m (cst r)
theorem csN_even : ∀ (n a : Nat), csN n (2 ^ n * a) = a
  | 0, a => by simp [csN]
  | n + 1, a => by
    show csN n (cst (2 ^ (n + 1) * a)) = a
    rw [Nat.pow_succ, Nat.mul_comm (2 ^ n) 2, Nat.mul_assoc, cst_even, csN_even n a]
theorem crg_le : ∀ (n r v : Nat), v < 256 ^ n → crg r (le n v) = csN (8 * n) (r ^^^ v)
  | 0, r, v, h => by simp at h; subst h; rw [Nat.xor_zero]; rfl
  | n + 1, r, v, h => by
    rw [Nat.pow_succ] at h
    show crg (cs8 (r ^^^ v % 256)) (le n (v / 256)) = _
    rw [crg_le n _ (v / 256) (by omega), show 8 * (n + 1) = 8 + 8 * n by omega, csN_add, cs8_csN]
    congr 1
    have h1 : v / 256 = csN 8 (2 ^ 8 * (v / 256)) := (csN_even 8 _).symm
    conv => lhs; rw [h1]
    rw [← csN_xor, Nat.xor_assoc]
    congr 2
    have h2 : v % 256 ^^^ 2 ^ 8 * (v / 256) = v := by
      have h3 := Nat.two_pow_add_eq_or_of_lt (i := 8) (b := v % 256) (Nat.mod_lt v (by decide)) (v / 256)
      apply Nat.eq_of_testBit_eq
      intro i
      rw [Nat.testBit_xor]
      have h4 := Nat.testBit_two_pow_mul (i := 8) (a := v / 256) (j := i)
      rw [h4]
      by_cases hi : i < 8
      · rw [show (v % 256).testBit i = v.testBit i by rw [show (256 : Nat) = 2 ^ 8 from rfl, Nat.testBit_mod_two_pow]; simp [hi]]
        simp [show ¬ 8 ≤ i by omega]
      · rw [show (v % 256).testBit i = false by rw [show (256 : Nat) = 2 ^ 8 from rfl, Nat.testBit_mod_two_pow]; simp [hi]]
        rw [show v / 256 = v >>> 8 by rw [Nat.shiftRight_eq_div_pow], Nat.testBit_shiftRight, show 8 + (i - 8) = i by omega]
        simp [show 8 ≤ i by omega]
    exact h2
/-- The register is told by what it was. -/
theorem crg_inj {l : List Nat} {r s : Nat} (hl : ∀ x ∈ l, x < 256) (hr : r < 4294967296) (hs : s < 4294967296) (e : crg r l = crg s l) : r = s := by
  have h := crg_le l.length r (leV l) (leV_lt l hl)
  have h' := crg_le l.length s (leV l) (leV_lt l hl)
  rw [le_leV l hl] at h h'
  rw [h, h'] at e
  have e2 : csN (8 * l.length) ((r ^^^ leV l) ^^^ (s ^^^ leV l)) = 0 := by rw [csN_xor, e, Nat.xor_self]
  rw [xor_swap, Nat.xor_self, Nat.xor_zero] at e2
  exact xor_nil (csN_zero_of (Nat.xor_lt_two_pow (n := 32) hr hs) e2)
/-- Four bytes are told. -/
theorem crg_four {a b : List Nat} {r : Nat} (ha : ∀ x ∈ a, x < 256) (hb : ∀ x ∈ b, x < 256) (la : a.length = 4) (lb : b.length = 4) (e : crg r a = crg r b) : a = b := by
  have h := crg_le a.length r (leV a) (leV_lt a ha)
  have h' := crg_le b.length r (leV b) (leV_lt b hb)
  rw [le_leV a ha, la] at h
  rw [le_leV b hb, lb] at h'
  have la' := leV_lt a ha
  have lb' := leV_lt b hb
  rw [la] at la'
  rw [lb] at lb'
  rw [h, h'] at e
  have e2 : csN (8 * 4) ((r ^^^ leV a) ^^^ (r ^^^ leV b)) = 0 := by rw [csN_xor, e, Nat.xor_self]
  rw [xor_swap, Nat.xor_self, Nat.zero_xor] at e2
  have e3 := xor_nil (csN_zero_of (Nat.xor_lt_two_pow (n := 32) (by simpa using la') (by simpa using lb')) e2)
  have k1 := le_leV a ha
  have k2 := le_leV b hb
  rw [← k1, ← k2, la, lb, e3]
/-- The sums of bytes that are unlike in four places that follow one another. -/
theorem crm_four {s : Nat} {p a b q : List Nat} (hs : s < 4294967296) (hp : ∀ x ∈ p, x < 256) (ha : ∀ x ∈ a, x < 256) (hb : ∀ x ∈ b, x < 256) (hq : ∀ x ∈ q, x < 256) (la : a.length = 4) (lb : b.length = 4) (e : crm s (p ++ a ++ q) = crm s (p ++ b ++ q)) : a = b := by
  unfold crm at e
  have e1 := congrArg (· ^^^ c32) e
  simp only [c32_two] at e1
  rw [crg_app, crg_app, crg_app, crg_app] at e1
  have h0 := crg_lt (c32_lt hs) hp
  exact crg_four ha hb la lb (crg_inj hq (crg_lt h0 ha) (crg_lt h0 hb) e1)
end Go.Proofs.Ytbioanbokbhmgaa

/- Forms cut short, forms with more behind them, frames in other places: what is read of them. Conditions: bytes, a head that may be. -/
namespace Go.Proofs.Ytbioanbokbhmgaa

theorem form_pos {h : Hd} {BL : List (List Nat)} (_HE : checkE h = 0) (_hf : fitsB h BL) : 40 + h.key.size ≤ (formL h BL).length := by
  unfold formL; rw [List.length_append, headL_length]; omega
/-- No beginning is read. -/
theorem prs_cut {h : Hd} {BL : List (List Nat)} {c : Nat} (hB : HdB h) (HE : checkE h = 0) (hf : fitsB h BL) (hc : c < (formL h BL).length) : prsE ((formL h BL).take c) = 70 := by
  obtain ⟨_, k0, k1, _⟩ := check_facts HE
  have hlen : ((formL h BL).take c).length = c := by rw [List.length_take]; omega
  have hpos := form_pos HE hf
  by_cases h1 : c < 36
  · have : headE ((formL h BL).take c) = 70 := by unfold headE; rw [if_pos (by omega)]
    unfold prsE; rw [this]; rfl
  by_cases h2 : c < 40 + h.key.size
  · have hb : formL h BL = fixL h ++ (le 4 (sum1 h) ++ bl h.key ++ le 4 (sum2 h) ++ framesL (sum2 h) 0 BL) := by unfold formL headL; simp only [List.append_assoc]
    have ht : ∀ n, n ≤ c → ((formL h BL).take c).take n = (formL h BL).take n := fun n hn => by rw [List.take_take, Nat.min_eq_left hn]
    have hg : ∀ i, i < c → ((formL h BL).take c).getD i 0 = (formL h BL).getD i 0 := fun i hi => by
      rw [List.getD_eq_getElem?_getD, List.getElem?_take, if_pos hi, ← List.getD_eq_getElem?_getD]
    have he := headE_head (b := formL h BL) hB HE rfl
    have hd := hdOf_head (b := formL h BL) hB HE rfl
    obtain ⟨_, f2, f3, _⟩ := headE_facts he
    have h31 : (formL h BL).getD 31 0 = h.key.size := by
      have : (hdOf (formL h BL)).key.size = (formL h BL).getD 31 0 := strN_size _ _
      rw [← this, hd]
    have hn : num ((formL h BL).take c) 32 4 = num (formL h BL) 32 4 := by
      unfold num
      have : formL h BL = (formL h BL).take c ++ (formL h BL).drop c := (List.take_append_drop _ _).symm
      conv => rhs; rw [this]
      rw [sl_app_left (by omega)]
    have : headE ((formL h BL).take c) = 70 := by
      unfold headE
      rw [if_neg (by omega), ht 4 (by omega), if_neg (by simpa using f2), hn, ht 32 (by omega), if_neg (by simpa using f3), hg 31 (by omega), h31, if_pos (by omega)]
    unfold prsE; rw [this]; rfl
  · have hb : (formL h BL).take c = headL h ++ (framesL (sum2 h) 0 BL).take (c - (headL h).length) := by
      unfold formL
      rw [List.take_append, List.take_of_length_le (by rw [headL_length]; omega)]
    have hd := hdOf_head hB HE hb
    have he := headE_head hB HE hb
    have hl := form_len HE hf
    unfold prsE
    rw [if_neg (by simpa using he), hd, if_pos (by omega)]
/-- With more behind it. -/
theorem more_form {h : Hd} {BL : List (List Nat)} {t : List Nat} (hB : HdB h) (HE : checkE h = 0) (hf : fitsB h BL) (hx : ∀ l ∈ BL, ∀ x ∈ l, x < 256) : headE (formL h BL ++ t) = 0 ∧ hdOf (formL h BL ++ t) = h ∧ badL (formL h BL ++ t) (sizeN h.K h.M h.B h.size) = [] ∧ (0 < t.length → prsE (formL h BL ++ t) = 72) := by
  have e : formL h BL ++ t = headL h ++ (framesL (sum2 h) 0 BL ++ t) := by unfold formL; rw [List.append_assoc]
  have hd := hdOf_head hB HE e
  have he := headE_head hB HE e
  have hl := form_len HE hf
  refine ⟨he, hd, (badL_nil _ _).2 fun j hj => form_good hB HE hf hx (by rw [hf.1]; exact hj), fun ht => ?_⟩
  unfold prsE
  rw [if_neg (by simpa using he), hd, List.length_append, if_neg (by omega), if_pos (by omega)]
/-- Just these frames are spoilt. -/
theorem prs_bad {h : Hd} {b : List Nat} (hd : hdOf b = h) (he : headE b = 0) (hl : b.length = (lenE h).toNat) (hb : badL b (sizeN h.K h.M h.B h.size) ≠ []) : prsE b = 82 := by
  unfold prsE
  rw [if_neg (by simpa using he), hd, if_neg (by omega), if_neg (by omega), if_pos hb]
/-- A frame's verdict hangs on its own bytes. -/
theorem badF_at {h : Hd} {b blk : List Nat} {j s : Nat} (hd : hdOf b = h) (hs : s < 4294967296) (hl : blk.length = lenF h j) (hlen : offF h j + lenF h j + 4 ≤ b.length) (e : sl b (offF h j) (lenF h j + 4) = blk ++ le 4 s) : badF b j = decide (¬ s = sumB (sum2 h) j blk) := by
  have s1 := sl_split (b := b) (offF h j) (lenF h j) 4
  rw [e] at s1
  have h1 : sl b (offF h j) (lenF h j) = blk := by
    have h2 := congrArg (List.take (lenF h j)) s1
    rw [List.take_left' hl, List.take_left' (sl_length (by omega))] at h2
    exact h2.symm
  have h2 : sl b (offF h j + lenF h j) 4 = le 4 s := by
    have h3 := congrArg (List.drop (lenF h j)) s1
    rw [List.drop_left' hl, List.drop_left' (sl_length (by omega))] at h3
    exact h3.symm
  unfold badF num
  rw [hd, h1, h2, leV_le _ _ (by omega)]
  have : ¬ b.length < offF h j + lenF h j + 4 := by omega
  simp [this]
/-- Sums under unlike numbers, and under unlike heads, are unlike. -/
theorem sumB_num {s j k : Nat} {blk : List Nat} (hx : ∀ x ∈ blk, x < 256) (hj : j < 4294967296) (hk : k < 4294967296) (e : sumB s j blk = sumB s k blk) : j = k := by
  unfold sumB at e
  have h := crm_four (s := 0) (p := le 4 s) (a := le 4 j) (b := le 4 k) (q := blk) (by decide) (fun _ => le_lt) (fun _ => le_lt) (fun _ => le_lt) hx (le_length 4 _) (le_length 4 _) e
  have h2 := congrArg leV h
  rwa [leV_le _ _ (by omega), leV_le _ _ (by omega)] at h2
theorem sumB_head {s t j : Nat} {blk : List Nat} (hx : ∀ x ∈ blk, x < 256) (hs : s < 4294967296) (ht : t < 4294967296) (e : sumB s j blk = sumB t j blk) : s = t := by
  unfold sumB at e
  have e' : crm 0 ([] ++ le 4 s ++ (le 4 j ++ blk)) = crm 0 ([] ++ le 4 t ++ (le 4 j ++ blk)) := by
    simp only [List.nil_append, ← List.append_assoc]
    exact e
  have h := crm_four (s := 0) (p := []) (a := le 4 s) (b := le 4 t) (q := le 4 j ++ blk) (by decide) (by simp) (fun _ => le_lt) (fun _ => le_lt) (le_app_lt (fun _ => le_lt) hx) (le_length 4 _) (le_length 4 _) e'
  have h2 := congrArg leV h
  rwa [leV_le _ _ (by omega), leV_le _ _ (by omega)] at h2
end Go.Proofs.Ytbioanbokbhmgaa
