/- One byte that is turned is a burst of bits; a form with one byte turned, or cut short, is refused. Conditions: as the theorems have them. -/
import Derived.Test.YtjaaldandgfkgaaBr3
import Derived.Test.YtjaaldandgfkgaaAnk0
import Derived.Test.YtjaaldandgfkgaaSpL
import Derived.Test.YtjaaldandgfkgaaPar4
import Derived.Test.YtjaaldandgfkgaaOpn8
namespace Go.Proofs.Ytjaaldandgfkgaa

theorem patB_one {x p : Nat} (hx : x < 256) (i : Nat) : patB x (8 * p) i = if i = p then x else 0 := by
  unfold patB
  rw [← pow256]
  by_cases e : i = p
  · subst e
    rw [if_pos rfl, Nat.mul_div_cancel _ (Nat.pow_pos (by decide)), Nat.mod_eq_of_lt hx]
  · rw [if_neg e]
    rcases Nat.lt_or_ge i p with h | h
    · obtain ⟨d, rfl⟩ : ∃ d, p = i + (d + 1) := ⟨p - i - 1, by omega⟩
      rw [Nat.pow_add, Nat.mul_comm (256 ^ i), ← Nat.mul_assoc, Nat.mul_div_cancel _ (Nat.pow_pos (by decide)), Nat.pow_succ, ← Nat.mul_assoc, Nat.mul_mod_left]
    · obtain ⟨d, rfl⟩ : ∃ d, i = p + (d + 1) := ⟨i - p - 1, by omega⟩
      have h1 : x * 256 ^ p < 256 ^ (p + (d + 1)) := by
        have h2 : 256 ^ (p + (d + 1)) = 256 ^ d * 256 * 256 ^ p := by rw [Nat.pow_add, Nat.pow_succ, Nat.mul_comm]
        have h3 : 0 < 256 ^ d := Nat.pow_pos (by decide)
        rw [h2]
        exact Nat.mul_lt_mul_of_pos_right (by omega) (Nat.pow_pos (by decide))
      rw [Nat.div_eq_of_lt h1]
theorem set_burst {b : List Nat} {p x : Nat} (hp : p < b.length) (hx : x < 256) : b.set p (b.getD p 0 ^^^ x) = burst b x (8 * p) := by
  apply list_getD_ext (by rw [List.length_set, burst_length])
  intro i hi
  rw [List.length_set] at hi
  rw [burst_get hi, patB_one hx]
  by_cases e : i = p
  · subst e
    rw [if_pos rfl, List.getD_eq_getElem?_getD, List.getElem?_set_self hp]; rfl
  · rw [if_neg e, Nat.xor_zero, List.getD_eq_getElem?_getD, List.getElem?_set_ne (fun h => e h.symm), List.getD_eq_getElem?_getD]
theorem not_still {x p n : Nat} (h0 : 0 < x) (hx : x < 256) (hp : p < n) : ¬ still x (8 * p) 0 n := by
  unfold still
  rw [← pow256, Nat.pow_zero, Nat.div_one]
  have h1 : x * 256 ^ p < 256 ^ n := by
    obtain ⟨d, rfl⟩ : ∃ d, n = p + (d + 1) := ⟨n - p - 1, by omega⟩
    have h2 : 256 ^ (p + (d + 1)) = 256 ^ d * 256 * 256 ^ p := by rw [Nat.pow_add, Nat.pow_succ, Nat.mul_comm]
    have h3 : 0 < 256 ^ d := Nat.pow_pos (by decide)
    rw [h2]
    exact Nat.mul_lt_mul_of_pos_right (by omega) (Nat.pow_pos (by decide))
  rw [Nat.mod_eq_of_lt h1]
  have : 0 < x * 256 ^ p := Nat.mul_pos h0 (Nat.pow_pos (by decide))
  omega
/-- One byte turned: refused. -/
theorem turned_refused {h : Hd} {BL : List (List Nat)} {p x : Nat} (hB : HdB h) (HE : checkE h = 0) (hf : fitsB h BL) (hl : ∀ l ∈ BL, ∀ x ∈ l, x < 256) (hp : p < (formL h BL).length) (h0 : 0 < x) (hx : x < 256) : prsE ((formL h BL).set p ((formL h BL).getD p 0 ^^^ x)) ≠ 0 := by
  rw [set_burst hp hx]
  have h1 := burst_prs hB HE hf hl (pat := x) (bit := 8 * p) (by omega) (not_still h0 hx hp)
  by_cases hs : still x (8 * p) 0 (offF h 0)
  · rw [(h1.2 hs).2.1]; decide
  · exact (h1.1 hs).2
end Go.Proofs.Ytjaaldandgfkgaa

/- A list of shards that is filled place by place, each with blocks of its own; the frames of an object's shards. Conditions: as the theorems have them. -/
namespace Go.Proofs.Ytjaaldandgfkgaa
open Go.RowKit

theorem OwnLL.keptR {w w' : World} {B g : Nat} {v : Value} {LL : List (List Nat)} (h : OwnLL w B v LL) (hgB : g < B) (hg : w.grownBy w' (some g)) : OwnLL w' B v LL := by
  obtain ⟨S, C, h1, h2⟩ := h
  refine ⟨S, C, h1.keptRow hg ?_, fun i hi => (h2 i hi).keptRow hg ?_⟩
  · exact .inr fun e => by have := (h1.lt g e).1; omega
  · exact .inr fun e => by have := ((h2 i hi).lt g e).1; omega
/-- The first k places are filled. -/
structure FilSd (w : World) (gr n k : Nat) (H : Nat → Hd) (V : Nat → Value) (BL : Nat → List (List Nat)) : Prop where
  top : Own w gr 69 17 (.slice (some ⟨gr, 0, none⟩) n n) n (fun t => if t < k then sdC (H t) (V t) else sdC hd0 (.slice none 0 0))
  rows : ∀ t, t < k → OwnLL w (gr + 1) (V t) (BL t)
theorem FilSd.kept {w w' : World} {gr n k : Nat} {H : Nat → Hd} {V : Nat → Value} {BL : Nat → List (List Nat)} (h : FilSd w gr n k H V BL) (hb : Below w.heap.size w w') : FilSd w' gr n k H V BL :=
  ⟨h.top.kept hb, fun t ht => (h.rows t ht).kept hb⟩
theorem fil_len {k : Nat} {H : Nat → Hd} {V : Nat → Value} (t : Nat) : (if t < k then sdC (H t) (V t) else sdC hd0 (.slice none 0 0)).length = 17 := by split <;> rfl
theorem FilSd.step {w w' : World} {gr n k : Nat} {H : Nat → Hd} {V : Nat → Value} {BL : Nat → List (List Nat)} {v : Value} {cur : Array Value} (h : FilSd w gr n k H V BL) (hk : k < n) (hO : OwnLL w (gr + 1) v (BL k)) (hg : w.heap[gr]? = some (.cells cur 69 (0, 0)))
    (hw : w'.heap[gr]? = some (.cells (cur.toList.take (k * 17) ++ sdC (H k) v ++ cur.toList.drop (k * 17 + 17)).toArray 69 (0, 0))) (hgr : w.grownBy w' (some gr)) : FilSd w' gr n (k + 1) H (fun t => if t = k then v else V t) BL := by
  refine ⟨(Own.part (i := k) (j := 0) (cs := sdC (H k) v) h.top (fun t _ => fil_len t) hg hk (by rw [sdC_len]; decide) (by rw [Nat.add_zero, sdC_len]; exact hw)).congr fun t ht => ?_, fun t ht => ?_⟩
  · by_cases e : t = k
    · subst e
      simp [sdC_len]
    · by_cases e2 : t < k
      · simp [e, e2, Nat.lt_succ_of_lt e2]
      · simp [e, e2, show ¬ t < k + 1 from by omega]
  · by_cases e : t = k
    · subst e
      rw [if_pos rfl]
      exact hO.keptR (Nat.lt_succ_self _) hgr
    · rw [if_neg e]
      exact (h.rows t (by omega)).keptR (Nat.lt_succ_self _) hgr
theorem FilSd.rsd {w : World} {gr n : Nat} {H : Nat → Hd} {V : Nat → Value} {BL : Nat → List (List Nat)} (h : FilSd w gr n n H V BL) : RSd w (some ⟨gr, 0, none⟩) n H BL := by
  have h1 : ∀ t, ∃ A c, t < n → V t = .slice A (BL t).length c ∧ (BL t).length ≤ c ∧ RLL w A (BL t) := fun t => by
    by_cases ht : t < n
    · obtain ⟨A, c, h1, h2, h3⟩ := (h.rows t ht).rd
      exact ⟨A, c, fun _ => ⟨h1, h2, h3⟩⟩
    · exact ⟨none, 0, fun e => absurd e ht⟩
  refine ⟨fun t => (h1 t).choose, fun t => (h1 t).choose_spec.choose, fun i hi => ?_, fun i hi => ?_⟩
  · have hl := (h.top.lt gr rfl).2
    refine ⟨gr, 0, rfl, hl, fun j u hj => ?_⟩
    have hj17 : j < 17 := (List.getElem?_eq_some_iff.1 hj).1
    rw [Nat.zero_add, h.top.cellN (fun t _ => fil_len t) hi hj17, if_pos hi, ((h1 i).choose_spec.choose_spec hi).1]
    exact hj
  · have h2 := (h1 i).choose_spec.choose_spec hi
    exact ⟨h2.2.2, h2.2.1⟩
theorem tdiv_bnd {a d : Int} (h : -9223372036854775808 ≤ a ∧ a ≤ 9223372036854775807) (hd : 0 < d) : -9223372036854775808 ≤ a.tdiv d ∧ a.tdiv d ≤ 9223372036854775807 := by
  have h1 : (a.tdiv d).natAbs ≤ a.natAbs := by
    rw [Int.natAbs_tdiv]
    exact Nat.div_le_self _ _
  rcases Int.le_total 0 a with h2 | h2
  · have h3 := Int.tdiv_nonneg h2 (Int.le_of_lt hd)
    omega
  · have h3 : a.tdiv d ≤ 0 := by
      have h4 := Int.tdiv_nonneg (a := -a) (b := d) (by omega) (Int.le_of_lt hd)
      rw [Int.neg_tdiv] at h4
      omega
    omega
theorem zero_hd0 : zeroHd = hd0 := rfl
theorem hdw_bytes {h : Hd} (H : HdW h) : HdB h := by
  obtain ⟨w0, w1, w2, w3, w4, w5, w6, w7, _⟩ := H
  have f : ∀ x : Int, (Lit.int .u8 x).wf = true → 0 ≤ x ∧ x < 256 := fun x hx => by
    simp [Lit.wf, IntKind.min, IntKind.max, IntKind.signed, IntKind.bits] at hx
    omega
  exact ⟨f _ w0, f _ w1, f _ w2, f _ w3, f _ w4, f _ w5, f _ w6, f _ w7⟩
theorem opn_all : OpnAll := fun A c b w hx hbl hbc hc hA => opn_any A c b w hx hbl hbc hc hA
theorem OwnB.setx {w : World} {B g c n : Nat} {l : List Nat} (h : OwnB w B (.slice (some ⟨g, 0, none⟩) n c) l) (hn : n = l.length) {i : Nat} (hi : i < n) (x : Nat) : OwnB (w.setCell ⟨g, i, none⟩ (.int .u8 (x : Int))) B (.slice (some ⟨g, 0, none⟩) n c) (l.set i x) := by
  subst hn
  refine OwnB.of ?_
  rw [List.length_set]
  refine (Own.set1 h.own hi (.int .u8 (x : Int))).congr fun j hj => ?_
  by_cases e : j = i
  · subst e
    rw [if_pos rfl, List.getD_eq_getElem?_getD, List.getElem?_set_self hi]; rfl
  · rw [if_neg e, List.getD_eq_getElem?_getD, List.getD_eq_getElem?_getD, List.getElem?_set_ne (fun h => e h.symm)]
/-- What Parse answers of a file that is whole. -/
theorem prs_whole {h : Hd} {BL : List (List Nat)} (hB : HdB h) (HE : checkE h = 0) (hf : fitsB h BL) (hx : ∀ l ∈ BL, ∀ x ∈ l, x < 256) : prsE (formL h BL) = 0 ∧ prsH (formL h BL) = h ∧ prsB (formL h BL) = BL := by
  obtain ⟨h1, h2⟩ := prs_form hB HE hf hx
  refine ⟨h1, by unfold prsH; rw [if_pos h1, h2], ?_⟩
  unfold prsB
  rw [if_pos h1, h2, ← hf.1, blks_form hB HE hf _ (Nat.le_refl _), List.take_length]
theorem prs_refused {b : List Nat} (h : ¬ prsE b = 0) : prsH b = hd0 ∧ prsB b = [] := ⟨by unfold prsH; rw [if_neg h, zero_hd0], if_neg h⟩
theorem spl_fits {h : Hd} {l : List Nat} (HE : checkE h = 0) (hs : h.size = (l.length : Int)) (i : Nat) : fitsB h (spL h.K.toNat h.B.toNat l i) := by
  obtain ⟨h1, h2⟩ := spL_fit h.K.toNat h.B.toNat l i
  obtain ⟨_, _, _, z, _⟩ := check_facts HE
  refine ⟨?_, ?_⟩
  · rw [h1]
    unfold sizeN
    rw [if_pos z, hs]
    rfl
  · rw [hs]
    exact h2
end Go.Proofs.Ytjaaldandgfkgaa
