/- The product of two matrices in numbers; sums and zero tests of the three fields. Conditions: none. -/
import Derived.Test.YtpocjpodeahanaaMulBF
import Derived.Test.YtpocjpodeahanaaMat2
import Derived.Test.YtpocjpodeahanaaPow3
namespace Go.Proofs.Ytpocjpodeahanaa
open Go.RowKit

/-- The first T terms of a row times a column. -/
def dot (s : Nat) (a b : Nat → Nat) : Nat → Nat
  | 0 => 0
  | T + 1 => dot s a b T ^^^ mulR s (a T) (b T)
theorem pR_zero (b : Nat) : ∀ k, pR 0 b k = 0
  | 0 => rfl
  | k + 1 => by unfold pR; rw [pR_zero b k]; split <;> simp
theorem mulR_zero (s b : Nat) : mulR s 0 b = 0 := by unfold mulR; rw [pR_zero, rR_zero]
theorem dot_skip {s : Nat} {a b : Nat → Nat} {T : Nat} (h : a T = 0) : dot s a b (T + 1) = dot s a b T := by
  show dot s a b T ^^^ mulR s (a T) (b T) = _
  rw [h, mulR_zero, Nat.xor_zero]
theorem dot_lt {s e : Nat} {a b : Nat → Nat} : ∀ T, (∀ t, t < T → mulR s (a t) (b t) < 2 ^ e) → dot s a b T < 2 ^ e
  | 0, _ => Nat.two_pow_pos e
  | T + 1, h => Nat.xor_lt_two_pow (dot_lt T fun t ht => h t (by omega)) (h T (by omega))
/-- What lies at place i', j' when k rows are whole, of row k the first t terms are in and, up to column j, the next. -/
def dcell (s : Nat) (a b : Nat → Nat → Nat) (m k t j i' j' : Nat) : Nat :=
  if i' < k then dot s (a i') (fun u => b u j') m else if i' = k then (if j' < j then dot s (a i') (fun u => b u j') (t + 1) else dot s (a i') (fun u => b u j') t) else 0
theorem dcell_next {s : Nat} {a b : Nat → Nat → Nat} {m k t j i' j' : Nat} : (if i' = k ∧ j' = j then dcell s a b m k t j k j ^^^ mulR s (a k t) (b t j) else dcell s a b m k t j i' j') = dcell s a b m k t (j + 1) i' j' := by
  unfold dcell
  by_cases h1 : i' = k
  · subst h1
    by_cases h2 : j' = j
    · subst h2
      rw [if_pos ⟨rfl, rfl⟩]
      simp [dot]
    · rw [if_neg (fun h => h2 h.2)]
      by_cases h3 : j' < j
      · simp [h3, show j' < j + 1 by omega]
      · simp [h3, show ¬ j' < j + 1 by omega]
  · rw [if_neg (fun h => h1 h.1)]; simp [h1]
theorem dcell_col {s : Nat} {a b : Nat → Nat → Nat} {m k t c i' j' : Nat} (h : j' < c) : dcell s a b m k t c i' j' = dcell s a b m k (t + 1) 0 i' j' := by
  unfold dcell; simp [h]
theorem dcell_skip {s : Nat} {a b : Nat → Nat → Nat} {m k t i' j' : Nat} (h : a k t = 0) : dcell s a b m k t 0 i' j' = dcell s a b m k (t + 1) 0 i' j' := by
  unfold dcell
  by_cases h1 : i' = k
  · subst h1; simp [dot_skip h]
  · simp [h1]
theorem dcell_row {s : Nat} {a b : Nat → Nat → Nat} {m k i' j' : Nat} : dcell s a b m k m 0 i' j' = dcell s a b m (k + 1) 0 0 i' j' := by
  unfold dcell
  by_cases h1 : i' = k
  · subst h1; simp
  · by_cases h2 : i' < k
    · simp [h2, show i' < k + 1 by omega]
    · by_cases h3 : i' = k + 1
      · subst h3; simp [dot]; omega
      · simp [h1, h2, h3, show ¬ i' < k + 1 by omega]
theorem dcell_lt {s e : Nat} {a b : Nat → Nat → Nat} {m k t j i' j' : Nat} (ht : t < m) (h : ∀ u, u < m → mulR s (a i' u) (b u j') < 2 ^ e) : dcell s a b m k t j i' j' < 2 ^ e := by
  unfold dcell
  split
  · exact dot_lt m h
  · split
    · split
      · exact dot_lt (t + 1) fun u hu => h u (by omega)
      · exact dot_lt t fun u hu => h u (by omega)
    · exact Nat.two_pow_pos e

theorem plusE_any (a b : Nat) (w : World) (ha : a < 256) (hb : b < 256) :
    Calls Try.prog 132 #[.int .u8 a, .int .u8 b] w fun e w' => e = .returned (.int .u8 ((a ^^^ b : Nat) : Int)) ∧ w = w' := by
  have h := Lib.hid (u8_xor_nat a b ha hb)
  go_enter Try.func132, Try.ntmps132
  go_wp2
  go_ret
  exact ⟨by rw [← h.out]; rfl, rfl⟩
theorem zeroE_any (a : Nat) (w : World) :
    Calls Try.prog 131 #[.int .u8 a] w fun e w' => e = .returned (.bool ((a : Int) == 0)) ∧ w = w' := by
  go_enter Try.func131, Try.ntmps131
  go_wp2
  go_ret
  exact ⟨rfl, rfl⟩
theorem plusB_any (a b : Bool) (w : World) :
    Calls Try.prog 137 #[.bool a, .bool b] w fun e w' => e = .returned (.bool (a != b)) ∧ w = w' := by
  cases a <;> cases b <;>
  · go_enter Try.func137, Try.ntmps137
    go_wp2
    go_ret
    exact ⟨rfl, rfl⟩
theorem zeroB_any (a : Bool) (w : World) :
    Calls Try.prog 136 #[.bool a] w fun e w' => e = .returned (.bool (!a)) ∧ w = w' := by
  cases a <;>
  · go_enter Try.func136, Try.ntmps136
    go_wp2
    go_ret
    exact ⟨rfl, rfl⟩
set_option maxHeartbeats 1000000 in
theorem plusF_any (a0 a1 b0 b1 : Bool) (w : World) :
    Calls Try.prog 141 #[.agg #[.bool a0, .bool a1], .agg #[.bool b0, .bool b1]] w fun e w' => e = .returned (.agg #[.bool (a0 != b0), .bool (a1 != b1)]) ∧ Below w.heap.size w w' := by
  cases a0 <;> cases a1 <;> cases b0 <;> cases b1 <;>
  · go_enter Try.func141, Try.ntmps141
    go_wp2
    refine bodyPost_ret (v := .agg #[.bool (_ != _), .bool (_ != _)]) (by simp [results, Try.results141, go_sem]) rfl ⟨rfl, ((((Below.refl _ _).alloc (Nat.le_refl _) _).alloc (by simp <;> omega) _).alloc (by simp <;> omega) _)⟩
theorem zeroF_any (a0 a1 : Bool) (w : World) :
    Calls Try.prog 140 #[.agg #[.bool a0, .bool a1]] w fun e w' => e = .returned (.bool (!a0 && !a1)) ∧ Below w.heap.size w w' := by
  cases a0 <;> cases a1 <;>
  · go_enter Try.func140, Try.ntmps140
    go_wp2
    go_ret
    exact ⟨rfl, (Below.refl _ _).alloc (Nat.le_refl _) _⟩
/-- Sums in the fields of two and of four. -/
theorem bB_xor {a b : Nat} (ha : a < 2) (hb : b < 2) : bB (a ^^^ b) = (bB a != bB b) := by
  have h : (List.range 2).all (fun a => (List.range 2).all fun b => bB (a ^^^ b) == (bB a != bB b)) = true := by decide +kernel
  exact eq_of_beq (List.all_eq_true.1 (List.all_eq_true.1 h a (List.mem_range.2 ha)) b (List.mem_range.2 hb))
theorem fF_xor {a b : Nat} (ha : a < 4) (hb : b < 4) : f0 (a ^^^ b) = (f0 a != f0 b) ∧ f1 (a ^^^ b) = (f1 a != f1 b) := by
  have h : (List.range 4).all (fun a => (List.range 4).all fun b => (f0 (a ^^^ b) == (f0 a != f0 b)) && (f1 (a ^^^ b) == (f1 a != f1 b))) = true := by decide +kernel
  have h2 := List.all_eq_true.1 (List.all_eq_true.1 h a (List.mem_range.2 ha)) b (List.mem_range.2 hb)
  simp only [Bool.and_eq_true] at h2
  exact ⟨eq_of_beq h2.1, eq_of_beq h2.2⟩
theorem fF_zero {a : Nat} (ha : a < 4) : (!f0 a && !f1 a) = (a == 0) := by
  have h : (List.range 4).all (fun a => (!f0 a && !f1 a) == (a == 0)) = true := by decide +kernel
  exact eq_of_beq (List.all_eq_true.1 h a (List.mem_range.2 ha))
theorem bB_zero {a : Nat} (ha : a < 2) : (!bB a) = (a == 0) := by
  have h : (List.range 2).all (fun a => (!bB a) == (a == 0)) = true := by decide +kernel
  exact eq_of_beq (List.all_eq_true.1 h a (List.mem_range.2 ha))
end Go.Proofs.Ytpocjpodeahanaa
