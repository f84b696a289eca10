/- What the walks of layer 8's outright laws share. Conditions: as the theorems have them. -/
import Derived.Test.YtbioanbokbhmgaaFit8
import Derived.Test.YtbioanbokbhmgaaWk8
import Derived.Test.YtbioanbokbhmgaaBgn
namespace Go.Proofs.Ytbioanbokbhmgaa
open Go.RowKit

/-- A cell that is there. -/
def Cl (w : World) (p : Addr) (v : Value) : Prop := p.block < w.heap.size ∧ w.cell? p = some v
theorem Cl.below {w w' : World} {p : Addr} {v : Value} (h : Cl w p v) (hb : Below w.heap.size w w') : Cl w' p v := ⟨Nat.lt_of_lt_of_le h.1 hb.size, (hb.cell h.1).trans h.2⟩
theorem strL_eqb {a b : List Nat} (ha : ∀ x ∈ a, x < 256) (hb : ∀ x ∈ b, x < 256) : ((strL a).toList == (strL b).toList) = decide (a = b) := by
  have := strL_ne ha hb
  simpa using congrArg (!·) this
theorem enc_fit {h : Hd} {BL : List (List Nat)} {er : Int} {l : List Nat} (a : EncP h BL er l) (HE : checkE h = 0) (hf : fitsB h BL) : er = 0 ∧ l = formL h BL := by
  rcases a with ⟨h1, _⟩ | ⟨_, h1, _⟩ | ⟨_, _, h1, h2⟩
  · exact absurd HE h1
  · exact absurd hf h1
  · exact ⟨h1, h2⟩
/-- An owned slice of bytes that are there: where it lies. -/
theorem own_at {w : World} {B : Nat} {v : Value} {l : List Nat} (h : OwnB w B v l) (hl : 0 < l.length) : ∃ g c, l.length ≤ c ∧ B ≤ g ∧ g < w.heap.size ∧ c ≤ maxLen ∧ v = .slice (some ⟨g, 0, none⟩) l.length c := by
  obtain ⟨g, c, rfl, h1, h2, h3, _⟩ := Own.form h.own hl
  obtain ⟨A', c', e', _, hm, _⟩ := h.rd
  injection e' with _ _ e3
  exact ⟨g, c, h3, h1, h2, by omega, rfl⟩
theorem own_cell {w : World} {B g c n : Nat} {l : List Nat} (h : OwnB w B (.slice (some ⟨g, 0, none⟩) n c) l) (hn : n = l.length) {i : Nat} (hi : i < l.length) : w.cell? ⟨g, i, none⟩ = some (.int .u8 ((l.getD i 0 : Nat) : Int)) ∧ w.frozen? ⟨g, i, none⟩ = false := by
  subst hn
  refine ⟨Own.cell1 h.own hi, ?_⟩
  obtain ⟨g', c', e, _, _, _, h4⟩ := Own.form h.own (by omega)
  injection e with e
  injection e with e
  injection e with e
  subst e
  exact h4 i

/-- What Parse answers where it refuses. -/
theorem prs_none {b : List Nat} {n : Int} (h : prsE b = n) (hn : n ≠ 0) : prsH b = zeroHd ∧ prsB b = [] := prs_refuse (by rw [h]; exact hn)
theorem rd_two {w : World} (a b : Nat) : Rd (w.alloc (.cells #[.int .i64 (a : Int), .int .i64 (b : Int)] 3)) (some ⟨w.heap.size, 0, none⟩) 2 (fun i => .int .i64 ((([a, b] : List Nat).getD i 0 : Nat) : Int)) :=
  row_rd (World.rowIs_alloc w #[.int .i64 (a : Int), .int .i64 (b : Int)] 3 (fun i => .int .i64 ((([a, b] : List Nat).getD i 0 : Nat) : Int)) (by
    intro i hi
    have : i = 0 ∨ i = 1 := by have : i < 2 := hi; omega
    rcases this with rfl | rfl <;> rfl))
theorem rd_one {w : World} (a : Nat) : Rd (w.alloc (.cells #[.int .i64 (a : Int)] 3)) (some ⟨w.heap.size, 0, none⟩) 1 (fun i => .int .i64 ((([a] : List Nat).getD i 0 : Nat) : Int)) :=
  row_rd (World.rowIs_alloc w #[.int .i64 (a : Int)] 3 (fun i => .int .i64 ((([a] : List Nat).getD i 0 : Nat) : Int)) (by
    intro i hi
    have : i = 0 := by have : i < 1 := hi; omega
    subst this; rfl))
theorem set_getD {l : List Nat} {i j x : Nat} (h : i < l.length) : (l.set i x).getD j 0 = if j = i then x else l.getD j 0 := by
  rw [List.getD_eq_getElem?_getD, List.getElem?_set]
  by_cases e : j = i
  · subst e; simp [h]
  · rw [if_neg (fun e' => e e'.symm), if_neg e, ← List.getD_eq_getElem?_getD]
theorem swapL_zero (b : List Nat) (p q : Nat) : swapL b p q 0 = b := by
  apply list_getD_ext (swapL_length _ _ _ _)
  intro i hi
  rw [swapL_length] at hi
  rw [swapL_get hi, if_neg (by omega), if_neg (by omega)]
theorem swapL_step {b : List Nat} {p q i : Nat} (hpq : p + i < q) (hq : q + i < b.length) : ((swapL b p q i).set (p + i) (b.getD (q + i) 0)).set (q + i) (b.getD (p + i) 0) = swapL b p q (i + 1) := by
  have l1 := swapL_length b p q i
  apply list_getD_ext (by rw [List.length_set, List.length_set, l1, swapL_length])
  intro z hz
  rw [List.length_set, List.length_set, l1] at hz
  rw [set_getD (by rw [List.length_set, l1]; exact hq), set_getD (by rw [l1]; omega), swapL_get hz, swapL_get hz]
  by_cases e1 : z = q + i
  · subst e1
    rw [if_pos rfl, if_neg (by omega), if_pos (by omega)]
    congr 1; omega
  · rw [if_neg e1]
    by_cases e2 : z = p + i
    · subst e2
      rw [if_pos rfl, if_pos (by omega)]
      congr 1; omega
    · rw [if_neg e2]
      by_cases e3 : p ≤ z ∧ z < p + i
      · rw [if_pos e3, if_pos (by omega)]
      · rw [if_neg e3, if_neg (show ¬ (p ≤ z ∧ z < p + (i + 1)) by omega)]
        by_cases e4 : q ≤ z ∧ z < q + i
        · rw [if_pos e4, if_pos (by omega)]
        · rw [if_neg e4, if_neg (by omega)]
theorem putL_zero (b c : List Nat) (p : Nat) : putL b c p 0 = b := by
  apply list_getD_ext (putL_length _ _ _ _)
  intro i hi
  rw [putL_length] at hi
  rw [putL_get hi, if_neg (by omega)]
theorem putL_step {b c : List Nat} {p i : Nat} (hq : p + i < b.length) : (putL b c p i).set (p + i) (c.getD (p + i) 0) = putL b c p (i + 1) := by
  have l1 := putL_length b c p i
  apply list_getD_ext (by rw [List.length_set, l1, putL_length])
  intro z hz
  rw [List.length_set, l1] at hz
  rw [set_getD (by rw [l1]; exact hq), putL_get hz, putL_get hz]
  by_cases e1 : z = p + i
  · subst e1
    rw [if_pos rfl, if_pos (by omega)]
  · rw [if_neg e1]
    by_cases e3 : p ≤ z ∧ z < p + i
    · rw [if_pos e3, if_pos (by omega)]
    · rw [if_neg e3, if_neg (by omega)]
end Go.Proofs.Ytbioanbokbhmgaa
