/- The products of the fields of two and of four: walks and encodings. Conditions: none. -/
import Derived.Test.YtpocjpodeahanaaMulR
import Derived.Test.YtpocjpodeahanaaLikeF
namespace Go.Proofs.Ytpocjpodeahanaa
open Go.RowKit

theorem timesB_any (a b : Bool) (w : World) :
    Calls Try.prog 138 #[.bool a, .bool b] w fun e w' => e = .returned (.bool (a && b)) ∧ w = w' := by
  cases a <;> cases b <;>
  · go_enter Try.func138, Try.ntmps138
    go_wp2
    go_ret
    exact ⟨rfl, rfl⟩
theorem mulR_lt2 {a b : Nat} (ha : a < 2) (hb : b < 2) : mulR 2 a b < 2 := by
  have := mul2 ha hb
  unfold ok2 at this
  simp only [Bool.and_eq_true, decide_eq_true_eq] at this
  exact this.1
theorem bB_mul {a b : Nat} (ha : a < 2) (hb : b < 2) : bB (mulR 2 a b) = (bB a && bB b) := by
  have := mul2 ha hb
  unfold ok2 at this
  simp only [Bool.and_eq_true] at this
  exact eq_of_beq this.2

/-- The product of the law's own field of four. -/
def t0 (a0 a1 b0 b1 : Bool) : Bool := (a0 && b0) != (a1 && b1)
def t1 (a0 a1 b0 b1 : Bool) : Bool := ((a0 && b1) != (a1 && b0)) != (a1 && b1)
def ok4 (a b : Nat) : Bool := decide (mulR 4 a b < 4) && (f0 (mulR 4 a b) == t0 (f0 a) (f1 a) (f0 b) (f1 b)) && (f1 (mulR 4 a b) == t1 (f0 a) (f1 a) (f0 b) (f1 b))
theorem all4 : ((List.range 4).all fun a => (List.range 4).all fun b => ok4 a b) = true := by decide +kernel
theorem mul4 {a b : Nat} (ha : a < 4) (hb : b < 4) : mulR 4 a b < 4 ∧ f0 (mulR 4 a b) = t0 (f0 a) (f1 a) (f0 b) (f1 b) ∧ f1 (mulR 4 a b) = t1 (f0 a) (f1 a) (f0 b) (f1 b) := by
  have h : ok4 a b = true := List.all_eq_true.1 (List.all_eq_true.1 all4 a (List.mem_range.2 ha)) b (List.mem_range.2 hb)
  unfold ok4 at h
  simp only [Bool.and_eq_true, decide_eq_true_eq] at h
  exact ⟨h.1.1, eq_of_beq h.1.2, eq_of_beq h.2⟩
set_option maxHeartbeats 2000000 in
theorem timesF_any (a0 a1 b0 b1 : Bool) (w : World) :
    Calls Try.prog 142 #[.agg #[.bool a0, .bool a1], .agg #[.bool b0, .bool b1]] w fun e w' => e = .returned (.agg #[.bool (t0 a0 a1 b0 b1), .bool (t1 a0 a1 b0 b1)]) ∧ Below w.heap.size w w' := by
  cases a0 <;> cases a1 <;> cases b0 <;> cases b1 <;>
  · go_enter Try.func142, Try.ntmps142
    go_wp2
    refine bodyPost_ret (v := .agg #[.bool (t0 _ _ _ _), .bool (t1 _ _ _ _)]) (by simp [results, Try.results142, go_sem, t0, t1]) rfl ⟨rfl, ((((Below.refl _ _).alloc (Nat.le_refl _) _).alloc (by simp <;> omega) _).alloc (by simp <;> omega) _)⟩
end Go.Proofs.Ytpocjpodeahanaa
