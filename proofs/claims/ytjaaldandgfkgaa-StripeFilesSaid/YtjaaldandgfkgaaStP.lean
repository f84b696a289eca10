/- Plain: what the stripes of an object hold: their rows, their blocks, the object put together again. Conditions: as the theorems have them. -/
import Derived.Test.YtjaaldandgfkgaaREnp
import Derived.Test.YtjaaldandgfkgaaFCkp
import Derived.Test.YtjaaldandgfkgaaOpenSd
namespace Go.Proofs.Ytjaaldandgfkgaa
open Go.RowKit

/-- Lists, one behind the other. -/
def catL (f : Nat → List Nat) : Nat → List Nat
  | 0 => []
  | t + 1 => catL f t ++ f t
theorem catL_length (f : Nat → List Nat) : ∀ t, (catL f t).length = sumN (fun j => (f j).length) t
  | 0 => rfl
  | t + 1 => by unfold catL sumN; rw [List.length_append, catL_length f t]
theorem catL_congr {f g : Nat → List Nat} : ∀ {t : Nat}, (∀ j, j < t → f j = g j) → catL f t = catL g t
  | 0, _ => rfl
  | t + 1, h => by unfold catL; rw [catL_congr fun j hj => h j (by omega), h t (by omega)]
theorem sumN_congr {f g : Nat → Nat} : ∀ {t : Nat}, (∀ j, j < t → f j = g j) → sumN f t = sumN g t
  | 0, _ => rfl
  | t + 1, h => by unfold sumN; rw [sumN_congr fun j hj => h j (by omega), h t (by omega)]
theorem sumN_mono (f : Nat → Nat) {a : Nat} : ∀ {b : Nat}, a ≤ b → sumN f a ≤ sumN f b
  | 0, h => by have : a = 0 := by omega
               rw [this]; exact Nat.le_refl _
  | b + 1, h => by
    by_cases e : a = b + 1
    · rw [e]; exact Nat.le_refl _
    · have := sumN_mono f (a := a) (b := b) (by omega)
      show sumN f a ≤ sumN f b + f b
      omega
theorem getD_left {a b : List Nat} {i : Nat} (h : i < a.length) : (a ++ b).getD i 0 = a.getD i 0 := by simp [List.getD, List.getElem?_append_left h]
theorem getD_right {a b : List Nat} {i : Nat} (h : a.length ≤ i) : (a ++ b).getD i 0 = b.getD (i - a.length) 0 := by simp [List.getD, List.getElem?_append_right h]
theorem getD_none {a : List Nat} {i : Nat} (h : a.length ≤ i) : a.getD i 0 = 0 := by simp [List.getD, List.getElem?_eq_none h]
theorem catL_get {f : Nat → List Nat} : ∀ {t j c : Nat}, j < t → c < (f j).length → (catL f t).getD (sumN (fun j => (f j).length) j + c) 0 = (f j).getD c 0
  | t + 1, j, c, hj, hc => by
    have hlen := catL_length f t
    unfold catL
    by_cases e : j = t
    · subst e
      rw [getD_right (by omega), hlen]
      congr 1; omega
    · have h1 : sumN (fun j => (f j).length) (j + 1) ≤ sumN (fun j => (f j).length) t := sumN_mono _ (by omega)
      have h2 : sumN (fun j => (f j).length) (j + 1) = sumN (fun j => (f j).length) j + (f j).length := rfl
      rw [getD_left (by omega)]
      exact catL_get (by omega) hc
theorem flatten_cat (LL : List (List Nat)) : ∀ t, t ≤ LL.length → (LL.take t).flatten = catL (fun j => LL.getD j []) t
  | 0, _ => by simp [catL]
  | t + 1, h => by
    have ht : LL.take (t + 1) = LL.take t ++ [LL.getD t []] := by
      rw [List.take_succ_eq_append_getElem (by omega)]
      simp [List.getD, List.getElem?_eq_getElem (show t < LL.length by omega)]
    rw [ht, List.flatten_append, flatten_cat LL t (by omega)]
    show _ = catL (fun j => LL.getD j []) t ++ LL.getD t []
    simp
theorem flatten_all (LL : List (List Nat)) : LL.flatten = catL (fun j => LL.getD j []) LL.length := by
  rw [← flatten_cat LL LL.length (Nat.le_refl _), List.take_length]
theorem mkL_ext {n : Nat} {f : Nat → Nat} {l : List Nat} (h : l.length = n) (e : ∀ i, i < n → l.getD i 0 = f i) : l = mkL n f := by
  apply List.ext_getElem
  · rw [h, mkL_length]
  · intro i h1 h2
    have h3 := e i (by omega)
    have h4 := mkL_get (n := n) (i := i) (f := f) (by omega)
    simp only [List.getD, List.getElem?_eq_getElem h1, Option.getD_some] at h3
    simp only [List.getD, List.getElem?_eq_getElem h2, Option.getD_some] at h4
    rw [h3, h4]
theorem mkL_congr {n : Nat} {f g : Nat → Nat} (h : ∀ i, i < n → f i = g i) : mkL n f = mkL n g := mkL_ext (mkL_length _ _) fun i hi => by rw [mkL_get hi]; exact h i hi
theorem mkL_self (l : List Nat) : mkL l.length (fun i => l.getD i 0) = l := (mkL_ext rfl fun _ _ => rfl).symm
theorem mkL_app (a b : Nat) (f : Nat → Nat) : mkL (a + b) f = mkL a f ++ mkL b (fun i => f (a + i)) := by
  symm
  refine mkL_ext (by rw [List.length_append, mkL_length, mkL_length]) fun i hi => ?_
  by_cases h : i < a
  · rw [getD_left (by rw [mkL_length]; exact h), mkL_get h]
  · rw [getD_right (by rw [mkL_length]; omega), mkL_length, mkL_get (by omega)]
    congr 1; omega
theorem mkL_take {a n : Nat} (h : a ≤ n) (f : Nat → Nat) : (mkL n f).take a = mkL a f := by
  obtain ⟨d, rfl⟩ : ∃ d, n = a + d := ⟨n - a, by omega⟩
  rw [mkL_app, List.take_left' (mkL_length _ _)]

/-! ## The stripes' places -/
theorem lt_nblk {S s j : Nat} (hS : 1 ≤ S) : j < nblk S s ↔ j * S < s := by
  unfold nblk
  rw [Nat.lt_iff_add_one_le, Nat.le_div_iff_mul_le (by omega), Nat.add_mul]
  omega
/-- How many bytes the stripe j has. -/
def lng (S s j : Nat) : Nat := min (s - j * S) S
theorem blen_lng {K B s j : Nat} (hK : 1 ≤ K) (hB : 1 ≤ B) (hj : j < nblk (K * B) s) : blen K B s j = (lng (K * B) s j + K - 1) / K := by
  have hS : 1 ≤ K * B := Nat.mul_pos (by omega) (by omega)
  have h := (lt_nblk hS).1 hj
  exact (rest_len rfl rfl hS hK hj (s - j * (K * B)) (by omega) (by omega)).symm
theorem blen_facts {K B s j : Nat} (hK : 1 ≤ K) (hB : 1 ≤ B) (hj : j < nblk (K * B) s) : 1 ≤ blen K B s j ∧ blen K B s j ≤ B ∧ 1 ≤ lng (K * B) s j ∧ lng (K * B) s j ≤ K * blen K B s j ∧ K * blen K B s j < lng (K * B) s j + K := by
  have hS : 1 ≤ K * B := Nat.mul_pos (by omega) (by omega)
  have h := (lt_nblk hS).1 hj
  have h1 : 1 ≤ lng (K * B) s j := by unfold lng; omega
  have h2 : lng (K * B) s j ≤ K * B := Nat.min_le_right _ _
  have e := blen_lng hK hB hj
  generalize hm : lng (K * B) s j = m at *
  have h3 := Nat.div_add_mod (m + K - 1) K
  have h4 := Nat.mod_lt (m + K - 1) (show K > 0 by omega)
  rw [← e] at h3
  have h5 : m ≤ K * blen K B s j := by omega
  have h6 : K * blen K B s j < m + K := by omega
  refine ⟨?_, blen_le hK, h1, h5, h6⟩
  rcases Nat.eq_zero_or_pos (blen K B s j) with h0 | h0
  · rw [h0] at h5; omega
  · exact h0
theorem blen_mid {K B s j : Nat} (hj : j + 1 < nblk (K * B) s) : blen K B s j = B := by unfold blen; rw [if_neg (by omega)]
theorem lng_mid {K B s j : Nat} (hS : 1 ≤ K * B) (hj : j + 1 < nblk (K * B) s) : lng (K * B) s j = K * B := by
  have h := (lt_nblk hS).1 hj
  rw [Nat.add_mul] at h
  unfold lng; omega
theorem sum_mid {K B s : Nat} : ∀ {t : Nat}, t < nblk (K * B) s → sumN (blen K B s) t = t * B
  | 0, _ => by simp [sumN]
  | t + 1, h => by unfold sumN; rw [sum_mid (by omega), blen_mid h, Nat.add_mul]; omega
/-- Where the row i of the stripe j begins in the object; its end at most. -/
def cutP (K B s j i : Nat) : Nat := min (j * (K * B) + i * blen K B s j) s
theorem cutP_zero {K B s : Nat} : cutP K B s 0 0 = 0 := by unfold cutP; simp
theorem cutP_le {K B s j i : Nat} : cutP K B s j i ≤ s := Nat.min_le_right _ _
theorem cutP_next {K B s j i : Nat} : cutP K B s j (i + 1) = cutP K B s j i + min (blen K B s j) (s - cutP K B s j i) := by
  unfold cutP; rw [Nat.add_mul]; omega
theorem cutP_row {K B s j : Nat} (hK : 1 ≤ K) (hB : 1 ≤ B) (hj : j < nblk (K * B) s) : cutP K B s j K = cutP K B s (j + 1) 0 := by
  have hS : 1 ≤ K * B := Nat.mul_pos (by omega) (by omega)
  unfold cutP
  by_cases h : j + 1 < nblk (K * B) s
  · rw [blen_mid h, Nat.add_mul]; omega
  · have h1 : ¬ (j + 1) * (K * B) < s := fun e => h ((lt_nblk hS).2 e)
    have h2 := (blen_facts hK hB hj).2.2.2.1
    have h3 := (lt_nblk hS).1 hj
    rw [Nat.add_mul] at h1 ⊢
    unfold lng at h2
    omega
theorem cutP_end {K B s : Nat} (hK : 1 ≤ K) (hB : 1 ≤ B) : cutP K B s (nblk (K * B) s) 0 = s := by
  have hS : 1 ≤ K * B := Nat.mul_pos (by omega) (by omega)
  have h : ¬ nblk (K * B) s * (K * B) < s := fun e => Nat.lt_irrefl _ ((lt_nblk hS).2 e)
  unfold cutP; omega
theorem cutP_in {K B s j i : Nat} (hi : cutP K B s j i < s) : cutP K B s j i = j * (K * B) + i * blen K B s j := by
  unfold cutP at hi ⊢; omega
/-- The byte c of the row i of the stripe j. -/
def sby (K B : Nat) (l : List Nat) (j i c : Nat) : Nat := l.getD (j * (K * B) + i * blen K B l.length j + c) 0
theorem sby_lt {K B : Nat} {l : List Nat} (hl : ∀ x ∈ l, x < 256) (j i c : Nat) : sby K B l j i c < 256 := by
  unfold sby
  by_cases h : j * (K * B) + i * blen K B l.length j + c < l.length
  · exact getD_lt hl h
  · rw [getD_none (by omega)]; omega
/-- What the program's copy makes: as many bytes as there are, zeros behind. -/
theorem sby_cut {K B : Nat} {l : List Nat} {j i c m : Nat} (hm : m = min (blen K B l.length j) (l.length - cutP K B l.length j i)) (hc : c < blen K B l.length j) :
    (if c < m then (l.drop (cutP K B l.length j i)).getD c 0 else 0) = sby K B l j i c := by
  unfold sby
  have hd : (l.drop (cutP K B l.length j i)).getD c 0 = l.getD (cutP K B l.length j i + c) 0 := by simp [List.getD, List.getElem?_drop]
  rw [hd]
  by_cases h : c < m
  · rw [if_pos h, cutP_in (by omega)]
  · rw [if_neg h, getD_none]
    unfold cutP at hm; omega
/-- The document's test: is the place within the stripe's bytes? -/
theorem sby_ref {K B : Nat} {l : List Nat} {j i c : Nat} (hK : 1 ≤ K) (hB : 1 ≤ B) (hj : j < nblk (K * B) l.length) (hi : i < K) (hc : c < blen K B l.length j) :
    (i * blen K B l.length j + c < lng (K * B) l.length j ↔ j * (K * B) + i * blen K B l.length j + c < l.length) := by
  have hS : 1 ≤ K * B := Nat.mul_pos (by omega) (by omega)
  have h1 : (i + 1) * blen K B l.length j ≤ K * blen K B l.length j := Nat.mul_le_mul_right _ hi
  rw [Nat.add_mul] at h1
  have h2 := (blen_facts hK hB hj).2.2.2.1
  have h4 : K * blen K B l.length j ≤ K * B := Nat.mul_le_mul_left _ (blen_facts hK hB hj).2.1
  unfold lng at *
  omega
/-- The row i of all stripes up to t, one behind the other. -/
def rowT (K B : Nat) (l : List Nat) (i t : Nat) : List Nat := catL (fun j => mkL (blen K B l.length j) (sby K B l j i)) t
theorem rowT_length (K B : Nat) (l : List Nat) (i t : Nat) : (rowT K B l i t).length = sumN (blen K B l.length) t := by
  unfold rowT; rw [catL_length]; exact sumN_congr fun j _ => mkL_length _ _
theorem rowT_next (K B : Nat) (l : List Nat) (i t : Nat) : rowT K B l i (t + 1) = rowT K B l i t ++ mkL (blen K B l.length t) (sby K B l t i) := rfl
theorem rowT_get {K B : Nat} {l : List Nat} {i n j c : Nat} (hj : j < n) (hc : c < blen K B l.length j) : (rowT K B l i n).getD (sumN (blen K B l.length) j + c) 0 = sby K B l j i c := by
  have h := catL_get (f := fun j => mkL (blen K B l.length j) (sby K B l j i)) hj (c := c) (by rw [mkL_length]; exact hc)
  rw [sumN_congr (g := blen K B l.length) fun j _ => mkL_length _ _, mkL_get hc] at h
  exact h
theorem mem_mkL {n : Nat} {f : Nat → Nat} {x : Nat} (h : x ∈ mkL n f) : ∃ i, i < n ∧ x = f i := by
  unfold mkL at h
  obtain ⟨i, hi, e⟩ := List.mem_map.1 h
  exact ⟨i, List.mem_range.1 hi, e.symm⟩
theorem catL_lt {f : Nat → List Nat} {b : Nat} : ∀ {t : Nat}, (∀ j, j < t → ∀ x ∈ f j, x < b) → ∀ x ∈ catL f t, x < b
  | 0, _, x, hx => by simp [catL] at hx
  | t + 1, h, x, hx => by
    rcases List.mem_append.1 hx with hx | hx
    · exact catL_lt (fun j hj => h j (by omega)) x hx
    · exact h t (by omega) x hx
theorem rowT_lt {K B : Nat} {l : List Nat} (hl : ∀ x ∈ l, x < 256) (i t : Nat) : ∀ x ∈ rowT K B l i t, x < 256 :=
  catL_lt fun j _ x hx => by obtain ⟨c, _, rfl⟩ := mem_mkL hx; exact sby_lt hl j i c
/-- The block j of the shard i. -/
def spB (K B : Nat) (l : List Nat) (i j : Nat) : List Nat := mkL (blen K B l.length j) (fun c => wrd K (sby K B l j) i c)
/-- The blocks of the shard i, t of them. -/
def spT (K B : Nat) (l : List Nat) (i t : Nat) : List (List Nat) := (List.range t).map (spB K B l i)
theorem spT_length (K B : Nat) (l : List Nat) (i t : Nat) : (spT K B l i t).length = t := by unfold spT; simp
theorem spT_next (K B : Nat) (l : List Nat) (i t : Nat) : spT K B l i (t + 1) = spT K B l i t ++ [spB K B l i t] := by unfold spT; rw [List.range_succ]; simp
theorem spT_get {K B : Nat} {l : List Nat} {i t j : Nat} (h : j < t) : (spT K B l i t).getD j [] = spB K B l i j := by
  unfold spT; simp [List.getD, List.getElem?_map, List.getElem?_range h]
theorem spB_length (K B : Nat) (l : List Nat) (i j : Nat) : (spB K B l i j).length = blen K B l.length j := mkL_length _ _
theorem spB_lt {K B : Nat} {l : List Nat} (i j : Nat) : ∀ x ∈ spB K B l i j, x < 256 := fun x hx => by obtain ⟨c, _, rfl⟩ := mem_mkL hx; exact wrd_lt
/-- All blocks of the shard i. -/
def spL (K B : Nat) (l : List Nat) (i : Nat) : List (List Nat) := spT K B l i (nblk (K * B) l.length)
theorem spB_col {K B : Nat} {l : List Nat} {i j n : Nat} (hj : j < n) {c : Nat} (hc : c < blen K B l.length j) :
    wrd K (fun t c => (rowT K B l t n).getD c 0) i (sumN (blen K B l.length) j + c) = wrd K (sby K B l j) i c := by
  unfold wrd
  congr 1
  exact gE.s_congr fun t _ => by
    show gE.m _ (el ((rowT K B l t n).getD (sumN (blen K B l.length) j + c) 0)) = _
    rw [rowT_get hj hc]
end Go.Proofs.Ytjaaldandgfkgaa
