/- The calls of an element of the field of four, over the plain field. Conditions: none. -/
import Derived.Test.YtpocjpodeahanaaClE
import Derived.Test.YtpocjpodeahanaaDot
import Derived.RegionTactic
namespace Go.Proofs.Ytpocjpodeahanaa
open Go.RowKit

/-- Is it not zero? (Behind a name that the walk does not open.) -/
def nzF (x : Fin 4) : Bool := f0 x.val || f1 x.val
theorem mF_times (n : Nat) (x : Array Value) (w : World) : (method (n + 1) 47 (.agg x) "Times").run Try.prog w = .ok (142, .agg x) w := by kernel_rfl
theorem tF_any (x y : Fin 4) (w : World) : Calls Try.prog 142 #[.agg #[.bool (f0 x.val), .bool (f1 x.val)], .agg #[.bool (f0 y.val), .bool (f1 y.val)]] w fun e w' => e = .returned (.agg #[.bool (f0 (gF.m x y).val), .bool (f1 (gF.m x y).val)]) ∧ Below w.heap.size w w' := by
  have h := timesF_any (f0 x.val) (f1 x.val) (f0 y.val) (f1 y.val) w
  have e := mul4 x.isLt y.isLt
  rw [← e.2.1, ← e.2.2] at h; exact h
theorem pF_any (x y : Fin 4) (w : World) : Calls Try.prog 141 #[.agg #[.bool (f0 x.val), .bool (f1 x.val)], .agg #[.bool (f0 y.val), .bool (f1 y.val)]] w fun e w' => e = .returned (.agg #[.bool (f0 (gF.a x y).val), .bool (f1 (gF.a x y).val)]) ∧ Below w.heap.size w w' := by
  have h := plusF_any (f0 x.val) (f1 x.val) (f0 y.val) (f1 y.val) w
  have e := fF_xor x.isLt y.isLt
  rw [← e.1, ← e.2] at h; exact h
theorem zF_any (x : Fin 4) (w : World) : Calls Try.prog 140 #[.agg #[.bool (f0 x.val), .bool (f1 x.val)]] w fun e w' => e = .returned (.bool (!f0 x.val && !f1 x.val)) ∧ Below w.heap.size w w' := zeroF_any _ _ w
theorem zF_true {x : Fin 4} (h : x = gF.z) : (!f0 x.val && !f1 x.val) = true := by subst h; rfl
theorem zF_false {x : Fin 4} (h : x ≠ gF.z) : (!f0 x.val && !f1 x.val) = false := by
  rw [fF_zero x.isLt, beq_eq_false_iff_ne]; exact fun e => h (Fin.ext e)
theorem nF_false {x : Fin 4} (h : x = gF.z) : nzF x = false := by subst h; rfl
theorem fin4_cases (x : Fin 4) : x = ⟨0, by decide⟩ ∨ x = ⟨1, by decide⟩ ∨ x = ⟨2, by decide⟩ ∨ x = ⟨3, by decide⟩ := by
  obtain ⟨x, h⟩ := x
  rcases (by omega : x = 0 ∨ x = 1 ∨ x = 2 ∨ x = 3) with e | e | e | e <;> subst e <;> simp
theorem nF_true {x : Fin 4} (h : x ≠ gF.z) : nzF x = true := by
  rcases fin4_cases x with e | e | e | e
  · exact absurd e h
  all_goals (subst e; rfl)
set_option maxRecDepth 20000 in
set_option maxHeartbeats 2000000 in
theorem iF_ff (w : World) : Calls Try.prog 139 #[.agg #[.bool false, .bool false]] w fun e w' => e = .returned (.tuple #[.agg #[.bool (false != false), .bool false], .bool (false || false)]) ∧ Below w.heap.size w w' := by
  go_enter Try.func139, Try.ntmps139
  go_wp2
  refine wp_region_held2 14 (fun k => Nat.beq k 1 || Nat.beq k 3 || Nat.beq k 6 || Nat.beq k 9 || Nat.beq k 12) (fun _ => false) mixed (by kernel_rfl) (fun w4 => w4.cell? ⟨w.heap.size, 0, none⟩ = some (.bool false) ∧ w4.cell? ⟨w.heap.size, 1, none⟩ = some (.bool false)) (by constructor <;> go_simp) ?_
  simp only [List.take_succ_cons, List.take_zero, List.drop_succ_cons, List.drop_zero, tag]
  repeat (first
    | (refine wpHeld_step ?_ (by rfl) (fun w4 hSw => ?_) ?_; rotate_left; (focus (obtain ⟨s1, s2⟩ := hSw; go_simp; try with_reducible rfl)); simp only [Act.put, List.setIfInBounds_toArray, List.set_cons_zero, List.set_cons_succ])
    | (refine wpHeld_pure ?_ (by rfl) (fun w4 => ?_) ?_; rotate_left; (focus (go_simp; try with_reducible rfl)); simp only [Act.put, List.setIfInBounds_toArray, List.set_cons_zero, List.set_cons_succ])
    | (refine wpHeld_skip (by rfl) ?_; simp only [Act.put, List.setIfInBounds_toArray, List.set_cons_zero, List.set_cons_succ]))
  refine wpHeld_nil ?_
  refine wpTailE_step (fun K hK => ?_)
  go_simp
  refine hK.out _ _ (fun _ hS => by constructor <;> go_simp) ?_
  clear hK K
  refine wpTailE_step (fun K hK => ?_)
  go_simp
  refine hK.out _ _ (fun _ hS => by constructor <;> go_simp) ?_
  clear hK K
  refine wpTailE_nil ?_
  go_wp2
  refine bodyPost_ret (v := .tuple #[.agg #[.bool (false != false), .bool false], .bool (false || false)]) (by simp [results, Try.results139, go_sem]) rfl ⟨rfl, ?_⟩
  exact (((Below.refl _ _).alloc (Nat.le_refl _) _).alloc (by simp) _).drew
set_option maxRecDepth 20000 in
set_option maxHeartbeats 2000000 in
theorem iF_ft (w : World) : Calls Try.prog 139 #[.agg #[.bool false, .bool true]] w fun e w' => e = .returned (.tuple #[.agg #[.bool (false != true), .bool true], .bool (false || true)]) ∧ Below w.heap.size w w' := by
  go_enter Try.func139, Try.ntmps139
  go_wp2
  refine wp_region_held2 14 (fun k => Nat.beq k 1 || Nat.beq k 3 || Nat.beq k 6 || Nat.beq k 9 || Nat.beq k 12) (fun _ => false) mixed (by kernel_rfl) (fun w4 => w4.cell? ⟨w.heap.size, 0, none⟩ = some (.bool false) ∧ w4.cell? ⟨w.heap.size, 1, none⟩ = some (.bool true)) (by constructor <;> go_simp) ?_
  simp only [List.take_succ_cons, List.take_zero, List.drop_succ_cons, List.drop_zero, tag]
  repeat (first
    | (refine wpHeld_step ?_ (by rfl) (fun w4 hSw => ?_) ?_; rotate_left; (focus (obtain ⟨s1, s2⟩ := hSw; go_simp; try with_reducible rfl)); simp only [Act.put, List.setIfInBounds_toArray, List.set_cons_zero, List.set_cons_succ])
    | (refine wpHeld_pure ?_ (by rfl) (fun w4 => ?_) ?_; rotate_left; (focus (go_simp; try with_reducible rfl)); simp only [Act.put, List.setIfInBounds_toArray, List.set_cons_zero, List.set_cons_succ])
    | (refine wpHeld_skip (by rfl) ?_; simp only [Act.put, List.setIfInBounds_toArray, List.set_cons_zero, List.set_cons_succ]))
  refine wpHeld_nil ?_
  refine wpTailE_step (fun K hK => ?_)
  go_simp
  refine hK.out _ _ (fun _ hS => by constructor <;> go_simp) ?_
  clear hK K
  refine wpTailE_step (fun K hK => ?_)
  go_simp
  refine hK.out _ _ (fun _ hS => by constructor <;> go_simp) ?_
  clear hK K
  refine wpTailE_nil ?_
  go_wp2
  refine bodyPost_ret (v := .tuple #[.agg #[.bool (false != true), .bool true], .bool (false || true)]) (by simp [results, Try.results139, go_sem]) rfl ⟨rfl, ?_⟩
  exact (((Below.refl _ _).alloc (Nat.le_refl _) _).alloc (by simp) _).drew
set_option maxRecDepth 20000 in
set_option maxHeartbeats 2000000 in
theorem iF_tf (w : World) : Calls Try.prog 139 #[.agg #[.bool true, .bool false]] w fun e w' => e = .returned (.tuple #[.agg #[.bool (true != false), .bool false], .bool (true || false)]) ∧ Below w.heap.size w w' := by
  go_enter Try.func139, Try.ntmps139
  go_wp2
  refine wp_region_held2 14 (fun k => Nat.beq k 1 || Nat.beq k 3 || Nat.beq k 6 || Nat.beq k 9 || Nat.beq k 12) (fun _ => false) mixed (by kernel_rfl) (fun w4 => w4.cell? ⟨w.heap.size, 0, none⟩ = some (.bool true) ∧ w4.cell? ⟨w.heap.size, 1, none⟩ = some (.bool false)) (by constructor <;> go_simp) ?_
  simp only [List.take_succ_cons, List.take_zero, List.drop_succ_cons, List.drop_zero, tag]
  repeat (first
    | (refine wpHeld_step ?_ (by rfl) (fun w4 hSw => ?_) ?_; rotate_left; (focus (obtain ⟨s1, s2⟩ := hSw; go_simp; try with_reducible rfl)); simp only [Act.put, List.setIfInBounds_toArray, List.set_cons_zero, List.set_cons_succ])
    | (refine wpHeld_pure ?_ (by rfl) (fun w4 => ?_) ?_; rotate_left; (focus (go_simp; try with_reducible rfl)); simp only [Act.put, List.setIfInBounds_toArray, List.set_cons_zero, List.set_cons_succ])
    | (refine wpHeld_skip (by rfl) ?_; simp only [Act.put, List.setIfInBounds_toArray, List.set_cons_zero, List.set_cons_succ]))
  refine wpHeld_nil ?_
  refine wpTailE_step (fun K hK => ?_)
  go_simp
  refine hK.out _ _ (fun _ hS => by constructor <;> go_simp) ?_
  clear hK K
  refine wpTailE_step (fun K hK => ?_)
  go_simp
  refine hK.out _ _ (fun _ hS => by constructor <;> go_simp) ?_
  clear hK K
  refine wpTailE_nil ?_
  go_wp2
  refine bodyPost_ret (v := .tuple #[.agg #[.bool (true != false), .bool false], .bool (true || false)]) (by simp [results, Try.results139, go_sem]) rfl ⟨rfl, ?_⟩
  exact (((Below.refl _ _).alloc (Nat.le_refl _) _).alloc (by simp) _).drew
set_option maxRecDepth 20000 in
set_option maxHeartbeats 2000000 in
theorem iF_tt (w : World) : Calls Try.prog 139 #[.agg #[.bool true, .bool true]] w fun e w' => e = .returned (.tuple #[.agg #[.bool (true != true), .bool true], .bool (true || true)]) ∧ Below w.heap.size w w' := by
  go_enter Try.func139, Try.ntmps139
  go_wp2
  refine wp_region_held2 14 (fun k => Nat.beq k 1 || Nat.beq k 3 || Nat.beq k 6 || Nat.beq k 9 || Nat.beq k 12) (fun _ => false) mixed (by kernel_rfl) (fun w4 => w4.cell? ⟨w.heap.size, 0, none⟩ = some (.bool true) ∧ w4.cell? ⟨w.heap.size, 1, none⟩ = some (.bool true)) (by constructor <;> go_simp) ?_
  simp only [List.take_succ_cons, List.take_zero, List.drop_succ_cons, List.drop_zero, tag]
  repeat (first
    | (refine wpHeld_step ?_ (by rfl) (fun w4 hSw => ?_) ?_; rotate_left; (focus (obtain ⟨s1, s2⟩ := hSw; go_simp; try with_reducible rfl)); simp only [Act.put, List.setIfInBounds_toArray, List.set_cons_zero, List.set_cons_succ])
    | (refine wpHeld_pure ?_ (by rfl) (fun w4 => ?_) ?_; rotate_left; (focus (go_simp; try with_reducible rfl)); simp only [Act.put, List.setIfInBounds_toArray, List.set_cons_zero, List.set_cons_succ])
    | (refine wpHeld_skip (by rfl) ?_; simp only [Act.put, List.setIfInBounds_toArray, List.set_cons_zero, List.set_cons_succ]))
  refine wpHeld_nil ?_
  refine wpTailE_step (fun K hK => ?_)
  go_simp
  refine hK.out _ _ (fun _ hS => by constructor <;> go_simp) ?_
  clear hK K
  refine wpTailE_step (fun K hK => ?_)
  go_simp
  refine hK.out _ _ (fun _ hS => by constructor <;> go_simp) ?_
  clear hK K
  refine wpTailE_nil ?_
  go_wp2
  refine bodyPost_ret (v := .tuple #[.agg #[.bool (true != true), .bool true], .bool (true || true)]) (by simp [results, Try.results139, go_sem]) rfl ⟨rfl, ?_⟩
  exact (((Below.refl _ _).alloc (Nat.le_refl _) _).alloc (by simp) _).drew
theorem iF_any (x : Fin 4) (w : World) : Calls Try.prog 139 #[.agg #[.bool (f0 x.val), .bool (f1 x.val)]] w fun e w' => e = .returned (.tuple #[.agg #[.bool (f0 (gF.v x).val), .bool (f1 (gF.v x).val)], .bool (nzF x)]) ∧ Below w.heap.size w w' := by
  rcases fin4_cases x with e | e | e | e <;> subst e
  · exact iF_ff w
  · exact iF_tf w
  · exact iF_ft w
  · exact iF_tt w
end Go.Proofs.Ytpocjpodeahanaa
