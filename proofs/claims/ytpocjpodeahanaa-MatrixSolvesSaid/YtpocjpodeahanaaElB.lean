/- The calls of an element of the field of two, over the plain field. Conditions: none. -/
import Derived.Test.YtpocjpodeahanaaClE
import Derived.Test.YtpocjpodeahanaaMulBF
namespace Go.Proofs.Ytpocjpodeahanaa
open Go.RowKit

/-- An element as a value. -/
def vB (x : Fin 2) : Value := .bool (bB x.val)
/-- Is it one? (Behind a name that the walk does not open.) -/
def nzB (x : Fin 2) : Bool := bB x.val
theorem mB_times (n : Nat) (x : Bool) (w : World) : (method (n + 1) 40 (.bool x) "Times").run Try.prog w = .ok (138, .bool x) w := by kernel_rfl
theorem mB_plus (n : Nat) (x : Bool) (w : World) : (method (n + 1) 40 (.bool x) "Plus").run Try.prog w = .ok (137, .bool x) w := by kernel_rfl
theorem fin2_cases (x : Fin 2) : x = ⟨0, by decide⟩ ∨ x = ⟨1, by decide⟩ := by
  obtain ⟨x, h⟩ := x
  rcases (by omega : x = 0 ∨ x = 1) with e | e <;> subst e
  · exact .inl rfl
  · exact .inr rfl
theorem tB_any (x y : Fin 2) (w : World) : Calls Try.prog 138 #[.bool (bB x.val), .bool (bB y.val)] w fun e w' => e = .returned (.bool (bB (gB.m x y).val)) ∧ w = w' := by
  have h := timesB_any (bB x.val) (bB y.val) w
  have e : bB (gB.m x y).val = (bB x.val && bB y.val) := bB_mul x.isLt y.isLt
  rw [e]; exact h
theorem pB_any (x y : Fin 2) (w : World) : Calls Try.prog 137 #[.bool (bB x.val), .bool (bB y.val)] w fun e w' => e = .returned (.bool (bB (gB.a x y).val)) ∧ w = w' := by
  rcases fin2_cases x with h | h <;> rcases fin2_cases y with h2 | h2 <;> subst h <;> subst h2 <;>
  · go_enter Try.func137, Try.ntmps137
    go_wp2
    go_ret
    exact ⟨rfl, rfl⟩
theorem zB_any (x : Fin 2) (w : World) : Calls Try.prog 136 #[.bool (bB x.val)] w fun e w' => e = .returned (.bool (!bB x.val)) ∧ w = w' := by
  go_enter Try.func136, Try.ntmps136
  go_wp2
  go_ret
  exact ⟨rfl, rfl⟩
theorem iB_any (x : Fin 2) (w : World) : Calls Try.prog 135 #[.bool (bB x.val)] w fun e w' => e = .returned (.tuple #[.bool (bB (gB.v x).val), .bool (nzB x)]) ∧ w = w' := by
  go_enter Try.func135, Try.ntmps135
  go_wp2
  go_ret2
  exact ⟨rfl, rfl⟩
theorem zB_true {x : Fin 2} (h : x = gB.z) : (!bB x.val) = true := by subst h; rfl
theorem zB_false {x : Fin 2} (h : x ≠ gB.z) : (!bB x.val) = false := by
  rcases fin2_cases x with e | e
  · exact absurd e h
  · subst e; rfl
theorem nB_false {x : Fin 2} (h : x = gB.z) : nzB x = false := by subst h; rfl
theorem nB_true {x : Fin 2} (h : x ≠ gB.z) : nzB x = true := by
  rcases fin2_cases x with e | e
  · exact absurd e h
  · subst e; rfl
end Go.Proofs.Ytpocjpodeahanaa
