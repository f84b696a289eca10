/- Rows of bytes whose bytes are each made one more, in their order: plain. Conditions: none of any program. -/
import Derived.Test.YtbioanbokbhmgaaCm8
namespace Go.Proofs.Ytbioanbokbhmgaa
open Go.RowKit

/-- The first k bytes are one more. -/
def incP (l : List Nat) (k : Nat) : List Nat := (List.range l.length).map fun q => if q < k then (l.getD q 0 + 1) % 256 else l.getD q 0
theorem incP_length (l : List Nat) (k : Nat) : (incP l k).length = l.length := by simp [incP]
theorem incP_get {l : List Nat} {k q : Nat} (h : q < l.length) : (incP l k).getD q 0 = if q < k then (l.getD q 0 + 1) % 256 else l.getD q 0 := by
  unfold incP
  rw [List.getD_eq_getElem?_getD, List.getElem?_map, List.getElem?_range h]; rfl
theorem incP_zero (l : List Nat) : incP l 0 = l := by
  apply list_getD_ext (incP_length _ _)
  intro i hi
  rw [incP_length] at hi
  rw [incP_get hi, if_neg (by omega)]
theorem incP_step {l : List Nat} {k : Nat} (h : k < l.length) : (incP l k).set k ((l.getD k 0 + 1) % 256) = incP l (k + 1) := by
  apply list_getD_ext (by rw [List.length_set, incP_length, incP_length])
  intro i hi
  rw [List.length_set, incP_length] at hi
  rw [set_getD (by rw [incP_length]; exact h), incP_get hi, incP_get hi]
  by_cases e : i = k
  · subst e; rw [if_pos rfl, if_pos (by omega)]
  · rw [if_neg e]
    by_cases e2 : i < k
    · rw [if_pos e2, if_pos (by omega)]
    · rw [if_neg e2, if_neg (by omega)]
theorem incP_lt {l : List Nat} {k : Nat} (hl : ∀ x ∈ l, x < 256) : ∀ x ∈ incP l k, x < 256 := by
  intro x hx
  unfold incP at hx
  obtain ⟨q, _, rfl⟩ := List.mem_map.1 hx
  split
  · exact Nat.mod_lt _ (by decide)
  · exact getD_256 hl q
/-- The rows below i are one more, of row i the first k bytes. -/
def incR (FL : List (List Nat)) (i k : Nat) : List (List Nat) := (List.range FL.length).map fun r => if r < i then incP (FL.getD r []) (FL.getD r []).length else if r = i then incP (FL.getD r []) k else FL.getD r []
theorem incR_length (FL : List (List Nat)) (i k : Nat) : (incR FL i k).length = FL.length := by simp [incR]
theorem incR_get {FL : List (List Nat)} {i k r : Nat} (h : r < FL.length) : (incR FL i k).getD r [] = if r < i then incP (FL.getD r []) (FL.getD r []).length else if r = i then incP (FL.getD r []) k else FL.getD r [] := by
  unfold incR
  rw [List.getD_eq_getElem?_getD, List.getElem?_map, List.getElem?_range h]; rfl
theorem incR_len {FL : List (List Nat)} {i k r : Nat} (h : r < FL.length) : ((incR FL i k).getD r []).length = (FL.getD r []).length := by
  rw [incR_get h]
  split
  · exact incP_length _ _
  · split
    · exact incP_length _ _
    · rfl
theorem rows_ext {a b : List (List Nat)} (hl : a.length = b.length) (h : ∀ i, i < a.length → a.getD i [] = b.getD i []) : a = b := list_ext hl h
theorem incR_zero (FL : List (List Nat)) : incR FL 0 0 = FL := by
  apply rows_ext (incR_length _ _ _)
  intro r hr
  rw [incR_length] at hr
  rw [incR_get hr, if_neg (by omega)]
  split
  · exact incP_zero _
  · rfl
theorem incR_next {FL : List (List Nat)} {i : Nat} : incR FL i (FL.getD i []).length = incR FL (i + 1) 0 := by
  apply rows_ext (by rw [incR_length, incR_length])
  intro r hr
  rw [incR_length] at hr
  rw [incR_get hr, incR_get hr]
  by_cases e1 : r < i
  · rw [if_pos e1, if_pos (by omega)]
  · rw [if_neg e1]
    by_cases e2 : r = i
    · subst e2; rw [if_pos rfl, if_pos (by omega)]
    · rw [if_neg e2, if_neg (by omega)]
      by_cases e3 : r = i + 1
      · rw [if_pos e3, incP_zero]
      · rw [if_neg e3]
theorem incR_step {FL : List (List Nat)} {i k : Nat} (hi : i < FL.length) (hk : k < (FL.getD i []).length) :
    (incR FL i k).set i (((incR FL i k).getD i []).set k (((FL.getD i []).getD k 0 + 1) % 256)) = incR FL i (k + 1) := by
  apply rows_ext (by rw [List.length_set, incR_length, incR_length])
  intro r hr
  rw [List.length_set, incR_length] at hr
  have hs : ((incR FL i k).set i (((incR FL i k).getD i []).set k (((FL.getD i []).getD k 0 + 1) % 256))).getD r [] = if r = i then ((incR FL i k).getD i []).set k (((FL.getD i []).getD k 0 + 1) % 256) else (incR FL i k).getD r [] := by
    rw [List.getD_eq_getElem?_getD, List.getElem?_set]
    by_cases e : i = r
    · subst e; rw [if_pos rfl, if_pos (by rw [incR_length]; exact hi), if_pos rfl]; rfl
    · rw [if_neg e, if_neg (fun e' => e e'.symm), ← List.getD_eq_getElem?_getD]
  by_cases e : r = i
  · subst e
    rw [hs, if_pos rfl, incR_get (i := r) (k := k + 1) hr, if_neg (by omega), if_pos rfl, incR_get (i := r) (k := k) hi, if_neg (by omega), if_pos rfl]
    exact incP_step hk
  · rw [hs, if_neg e, incR_get hr, incR_get hr, if_neg e, if_neg e]
theorem incR_cell {FL : List (List Nat)} {i k : Nat} (hi : i < FL.length) (hk : k < (FL.getD i []).length) : ((incR FL i k).getD i []).getD k 0 = (FL.getD i []).getD k 0 := by
  rw [incR_get hi, if_neg (by omega), if_pos rfl, incP_get hk, if_neg (by omega)]
theorem incR_lt {FL : List (List Nat)} {i k : Nat} (hx : ∀ l ∈ FL, ∀ x ∈ l, x < 256) : ∀ l ∈ incR FL i k, ∀ x ∈ l, x < 256 := by
  intro l hl
  unfold incR at hl
  obtain ⟨r, hr, rfl⟩ := List.mem_map.1 hl
  have h0 : ∀ x ∈ FL.getD r [], x < 256 := hx _ (getD_mem' (List.mem_range.1 hr))
  split
  · exact incP_lt h0
  · split
    · exact incP_lt h0
    · exact h0
theorem incR_fits {h : Hd} {FL : List (List Nat)} {i k : Nat} (hf : fitsB h FL) : fitsB h (incR FL i k) :=
  ⟨by rw [incR_length]; exact hf.1, fun j hj => by rw [incR_length] at hj; rw [incR_len hj]; exact hf.2 j hj⟩
theorem lenF_pos {h : Hd} (HE : checkE h = 0) (j : Nat) : 0 < lenF h j := by
  obtain ⟨⟨m1, m2, m3, m4, m5, m6⟩, _⟩ := check_facts HE
  unfold lenF blen
  split
  · rename_i hc
    have hK : 1 ≤ h.K.toNat := by omega
    refine Nat.div_pos ?_ (by omega)
    omega
  · omega
theorem incR_ne {h : Hd} {FL : List (List Nat)} (HE : checkE h = 0) (hf : fitsB h FL) (hx : ∀ l ∈ FL, ∀ x ∈ l, x < 256) (hn : 0 < FL.length) : ¬ incR FL FL.length 0 = FL := by
  intro e
  have h0 := congrArg (fun L => (List.getD L 0 []).getD 0 0) e
  have hp : 0 < (FL.getD 0 []).length := by rw [hf.2 0 hn]; exact lenF_pos HE 0
  simp only [incR_get hn, if_pos hn, incP_get hp, if_pos hp] at h0
  have h1 : (FL.getD 0 []).getD 0 0 < 256 := getD_256 (hx _ (getD_mem' hn)) 0
  omega
/-- Blocks from T on and below B are as they were. -/
structure Mid (B T : Nat) (w w' : World) : Prop where
  os : w'.os = w.os
  tape : w'.tape = w.tape
  output : w'.output = w.output
  size : w.heap.size ≤ w'.heap.size
  block : ∀ k, k < w.heap.size → (k < B ∨ T ≤ k) → w'.heap[k]? = w.heap[k]?
theorem Mid.refl (B T : Nat) (w : World) : Mid B T w w := ⟨rfl, rfl, rfl, Nat.le_refl _, fun _ _ _ => rfl⟩
theorem Mid.drew {B T : Nat} {w w' w'' : World} (h : Mid B T w w') (hd : Dr w' w'') : Mid B T w w'' := by
  have hb := hd.below w'.heap.size
  exact ⟨hb.os.trans h.os, hb.tape.trans h.tape, hb.output.trans h.output, Nat.le_trans h.size hb.size, fun k hk hc => (hb.block k (Nat.lt_of_lt_of_le hk h.size)).trans (h.block k hk hc)⟩
theorem Mid.set {B T : Nat} {w w' : World} (h : Mid B T w w') {g : Nat} (hB : B ≤ g) (hT : g < T) (i : Nat) (x : Value) : Mid B T w (w'.setCell ⟨g, i, none⟩ x) :=
  ⟨h.os, h.tape, h.output, by simpa using h.size, fun k hk hc => by rw [Below.heap_setCell _ _ _ _ (by show k ≠ g; omega)]; exact h.block k hk hc⟩
theorem Mid.below {B T : Nat} {w w' : World} (h : Mid B T w w') (hB : B ≤ w.heap.size) : Below B w w' := ⟨h.os, h.tape, h.output, h.size, fun k hk => h.block k (by omega) (.inl hk)⟩
theorem rl_mid {B T E : Nat} {w w' : World} {l : List Nat} (h : RL w (some ⟨E, 0, none⟩) l) (hm : Mid B T w w') (hT : T ≤ E) : RL w' (some ⟨E, 0, none⟩) l := fun i hi => by
  obtain ⟨b, o, e, hb, hc⟩ := h i hi
  injection e with e
  injection e with e1 e2
  subst e1 e2
  exact ⟨_, _, rfl, Nat.lt_of_lt_of_le hb hm.size, (World.cell?_of_block (hm.block _ hb (.inr hT))).trans hc⟩
theorem LA.head {w : World} {B n c : Nat} {A : Option Addr} {LL : List (List Nat)} {S : Nat → Option Addr} {C : Nat → Nat} (h : LA w B (.slice A n c) LL S C) {i : Nat} (hi : i < LL.length) : ∃ b o, A = some ⟨b, o, none⟩ ∧ w.cell? ⟨b, o + i, none⟩ = some (.slice (S i) (LL.getD i []).length (C i)) := by
  obtain ⟨A', c', e, _, _, hr, _⟩ := Own.rd h.top
  injection e with e _ _
  subst e
  obtain ⟨b, o, e, _, hc⟩ := hr i hi
  exact ⟨b, o, e, hc⟩
theorem LA.at_ {w : World} {B : Nat} {v : Value} {LL : List (List Nat)} {S : Nat → Option Addr} {C : Nat → Nat} (h : LA w B v LL S C) {i : Nat} (hi : i < LL.length) (hl : 0 < (LL.getD i []).length) : ∃ g, S i = some ⟨g, 0, none⟩ ∧ B ≤ g ∧ g < w.heap.size ∧ (rowV S C LL i).ownBlock = some g := by
  obtain ⟨g, c, _, h1, h2, _, e⟩ := own_at (h.row i hi) hl
  unfold rowV at e ⊢
  injection e with e1 e2 e3
  exact ⟨g, e1, h1, h2, by rw [e1]; rfl⟩
end Go.Proofs.Ytbioanbokbhmgaa
