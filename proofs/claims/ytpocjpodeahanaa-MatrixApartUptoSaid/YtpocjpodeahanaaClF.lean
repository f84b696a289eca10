/- The calls of an element of the field of four, over the plain field. Conditions: none. -/
import Derived.Test.YtpocjpodeahanaaClE
import Derived.Test.YtpocjpodeahanaaDot
import Derived.RegionTactic
import Derived.Test.YtpocjpodeahanaaTim4
namespace Go.Proofs.Ytpocjpodeahanaa
open Go.RowKit

/-- Is it not zero? (Behind a name that the walk does not open.) -/
def nzF (x : Fin 4) : Bool := f0 x.val || f1 x.val
theorem mF_times (n : Nat) (x : Array Value) (w : World) : (method (n + 1) 47 (.agg x) "Times").run Try.prog w = .ok (142, .agg x) w := by kernel_rfl
theorem tF_any (x y : Fin 4) (w : World) : Calls Try.prog 142 #[.agg #[.bool (f0 x.val), .bool (f1 x.val)], .agg #[.bool (f0 y.val), .bool (f1 y.val)]] w fun e w' => e = .returned (.agg #[.bool (f0 (gF.m x y).val), .bool (f1 (gF.m x y).val)]) ∧ Below w.heap.size w w' := by
  have h := timesF_any (f0 x.val) (f1 x.val) (f0 y.val) (f1 y.val) w
  have e := mul4 x.isLt y.isLt
  rw [← e.2.1, ← e.2.2] at h; exact h
theorem pF_any (x y : Fin 4) (w : World) : Calls Try.prog 141 #[.agg #[.bool (f0 x.val), .bool (f1 x.val)], .agg #[.bool (f0 y.val), .bool (f1 y.val)]] w fun e w' => e = .returned (.agg #[.bool (f0 (gF.a x y).val), .bool (f1 (gF.a x y).val)]) ∧ Below w.heap.size w w' := by
  have h := plusF_any (f0 x.val) (f1 x.val) (f0 y.val) (f1 y.val) w
  have e := fF_xor x.isLt y.isLt
  rw [← e.1, ← e.2] at h; exact h
theorem zF_any (x : Fin 4) (w : World) : Calls Try.prog 140 #[.agg #[.bool (f0 x.val), .bool (f1 x.val)]] w fun e w' => e = .returned (.bool (!f0 x.val && !f1 x.val)) ∧ Below w.heap.size w w' := zeroF_any _ _ w
theorem zF_true {x : Fin 4} (h : x = gF.z) : (!f0 x.val && !f1 x.val) = true := by subst h; rfl
theorem zF_false {x : Fin 4} (h : x ≠ gF.z) : (!f0 x.val && !f1 x.val) = false := by
  rw [fF_zero x.isLt, beq_eq_false_iff_ne]; exact fun e => h (Fin.ext e)
theorem nF_false {x : Fin 4} (h : x = gF.z) : nzF x = false := by subst h; rfl
theorem fin4_cases (x : Fin 4) : x = ⟨0, by decide⟩ ∨ x = ⟨1, by decide⟩ ∨ x = ⟨2, by decide⟩ ∨ x = ⟨3, by decide⟩ := by
  obtain ⟨x, h⟩ := x
  rcases (by omega : x = 0 ∨ x = 1 ∨ x = 2 ∨ x = 3) with e | e | e | e <;> subst e <;> simp
theorem nF_true {x : Fin 4} (h : x ≠ gF.z) : nzF x = true := by
  rcases fin4_cases x with e | e | e | e
  · exact absurd e h
  all_goals (subst e; rfl)
set_option maxRecDepth 20000 in
set_option maxHeartbeats 2000000 in
theorem iF_ff (w : World) : Calls Try.prog 139 #[.agg #[.bool false, .bool false]] w fun e w' => e = .returned (.tuple #[.agg #[.bool (false != false), .bool false], .bool (false || false)]) ∧ Below w.heap.size w w' := by
  go_enter Try.func139, Try.ntmps139
  go_wp2
  refine wp_region_held2 14 (fun k => Nat.beq k 1 || Nat.beq k 3 || Nat.beq k 6 || Nat.beq k 9 || Nat.beq k 12) (fun _ => false) mixed (by kernel_rfl) (fun w4 => w4.cell? ⟨w.heap.size, 0, none⟩ = some (.bool false) ∧ w4.cell? ⟨w.heap.size, 1, none⟩ = some (.bool false)) (by constructor <;> go_simp) ?_
  simp only [List.take_succ_cons, List.take_zero, List.drop_succ_cons, List.drop_zero, tag]
  repeat (first
    | (refine wpHeld_step ?_ (by rfl) (fun w4 hSw => ?_) ?_; rotate_left; (focus (obtain ⟨s1, s2⟩ := hSw; go_simp; try with_reducible rfl)); simp only [Act.put, List.setIfInBounds_toArray, List.set_cons_zero, List.set_cons_succ])
    | (refine wpHeld_pure ?_ (by rfl) (fun w4 => ?_) ?_; rotate_left; (focus (go_simp; try with_reducible rfl)); simp only [Act.put, List.setIfInBounds_toArray, List.set_cons_zero, List.set_cons_succ])
    | (refine wpHeld_skip (by rfl) ?_; simp only [Act.put, List.setIfInBounds_toArray, List.set_cons_zero, List.set_cons_succ]))
  refine wpHeld_nil ?_
  refine wpTailE_step (fun K hK => ?_)
  go_simp
  refine hK.out _ _ (fun _ hS => by constructor <;> go_simp) ?_
  clear hK K
  refine wpTailE_step (fun K hK => ?_)
  go_simp
  refine hK.out _ _ (fun _ hS => by constructor <;> go_simp) ?_
  clear hK K
  refine wpTailE_nil ?_
  go_wp2
  refine bodyPost_ret (v := .tuple #[.agg #[.bool (false != false), .bool false], .bool (false || false)]) (by simp [results, Try.results139, go_sem]) rfl ⟨rfl, ?_⟩
  exact (((Below.refl _ _).alloc (Nat.le_refl _) _).alloc (by simp) _).drew
set_option maxRecDepth 20000 in
set_option maxHeartbeats 2000000 in
theorem iF_ft (w : World) : Calls Try.prog 139 #[.agg #[.bool false, .bool true]] w fun e w' => e = .returned (.tuple #[.agg #[.bool (false != true), .bool true], .bool (false || true)]) ∧ Below w.heap.size w w' := by
  go_enter Try.func139, Try.ntmps139
  go_wp2
  refine wp_region_held2 14 (fun k => Nat.beq k 1 || Nat.beq k 3 || Nat.beq k 6 || Nat.beq k 9 || Nat.beq k 12) (fun _ => false) mixed (by kernel_rfl) (fun w4 => w4.cell? ⟨w.heap.size, 0, none⟩ = some (.bool false) ∧ w4.cell? ⟨w.heap.size, 1, none⟩ = some (.bool true)) (by constructor <;> go_simp) ?_
  simp only [List.take_succ_cons, List.take_zero, List.drop_succ_cons, List.drop_zero, tag]
  repeat (first
    | (refine wpHeld_step ?_ (by rfl) (fun w4 hSw => ?_) ?_; rotate_left; (focus (obtain ⟨s1, s2⟩ := hSw; go_simp; try with_reducible rfl)); simp only [Act.put, List.setIfInBounds_toArray, List.set_cons_zero, List.set_cons_succ])
    | (refine wpHeld_pure ?_ (by rfl) (fun w4 => ?_) ?_; rotate_left; (focus (go_simp; try with_reducible rfl)); simp only [Act.put, List.setIfInBounds_toArray, List.set_cons_zero, List.set_cons_succ])
    | (refine wpHeld_skip (by rfl) ?_; simp only [Act.put, List.setIfInBounds_toArray, List.set_cons_zero, List.set_cons_succ]))
  refine wpHeld_nil ?_
  refine wpTailE_step (fun K hK => ?_)
  go_simp
  refine hK.out _ _ (fun _ hS => by constructor <;> go_simp) ?_
  clear hK K
  refine wpTailE_step (fun K hK => ?_)
  go_simp
  refine hK.out _ _ (fun _ hS => by constructor <;> go_simp) ?_
  clear hK K
  refine wpTailE_nil ?_
  go_wp2
  refine bodyPost_ret (v := .tuple #[.agg #[.bool (false != true), .bool true], .bool (false || true)]) (by simp [results, Try.results139, go_sem]) rfl ⟨rfl, ?_⟩
  exact (((Below.refl _ _).alloc (Nat.le_refl _) _).alloc (by simp) _).drew
set_option maxRecDepth 20000 in
set_option maxHeartbeats 2000000 in
theorem iF_tf (w : World) : Calls Try.prog 139 #[.agg #[.bool true, .bool false]] w fun e w' => e = .returned (.tuple #[.agg #[.bool (true != false), .bool false], .bool (true || false)]) ∧ Below w.heap.size w w' := by
  go_enter Try.func139, Try.ntmps139
  go_wp2
  refine wp_region_held2 14 (fun k => Nat.beq k 1 || Nat.beq k 3 || Nat.beq k 6 || Nat.beq k 9 || Nat.beq k 12) (fun _ => false) mixed (by kernel_rfl) (fun w4 => w4.cell? ⟨w.heap.size, 0, none⟩ = some (.bool true) ∧ w4.cell? ⟨w.heap.size, 1, none⟩ = some (.bool false)) (by constructor <;> go_simp) ?_
  simp only [List.take_succ_cons, List.take_zero, List.drop_succ_cons, List.drop_zero, tag]
  repeat (first
    | (refine wpHeld_step ?_ (by rfl) (fun w4 hSw => ?_) ?_; rotate_left; (focus (obtain ⟨s1, s2⟩ := hSw; go_simp; try with_reducible rfl)); simp only [Act.put, List.setIfInBounds_toArray, List.set_cons_zero, List.set_cons_succ])
    | (refine wpHeld_pure ?_ (by rfl) (fun w4 => ?_) ?_; rotate_left; (focus (go_simp; try with_reducible rfl)); simp only [Act.put, List.setIfInBounds_toArray, List.set_cons_zero, List.set_cons_succ])
    | (refine wpHeld_skip (by rfl) ?_; simp only [Act.put, List.setIfInBounds_toArray, List.set_cons_zero, List.set_cons_succ]))
  refine wpHeld_nil ?_
  refine wpTailE_step (fun K hK => ?_)
  go_simp
  refine hK.out _ _ (fun _ hS => by constructor <;> go_simp) ?_
  clear hK K
  refine wpTailE_step (fun K hK => ?_)
  go_simp
  refine hK.out _ _ (fun _ hS => by constructor <;> go_simp) ?_
  clear hK K
  refine wpTailE_nil ?_
  go_wp2
  refine bodyPost_ret (v := .tuple #[.agg #[.bool (true != false), .bool false], .bool (true || false)]) (by simp [results, Try.results139, go_sem]) rfl ⟨rfl, ?_⟩
  exact (((Below.refl _ _).alloc (Nat.le_refl _) _).alloc (by simp) _).drew
set_option maxRecDepth 20000 in
set_option maxHeartbeats 2000000 in
theorem iF_tt (w : World) : Calls Try.prog 139 #[.agg #[.bool true, .bool true]] w fun e w' => e = .returned (.tuple #[.agg #[.bool (true != true), .bool true], .bool (true || true)]) ∧ Below w.heap.size w w' := by
  go_enter Try.func139, Try.ntmps139
  go_wp2
  refine wp_region_held2 14 (fun k => Nat.beq k 1 || Nat.beq k 3 || Nat.beq k 6 || Nat.beq k 9 || Nat.beq k 12) (fun _ => false) mixed (by kernel_rfl) (fun w4 => w4.cell? ⟨w.heap.size, 0, none⟩ = some (.bool true) ∧ w4.cell? ⟨w.heap.size, 1, none⟩ = some (.bool true)) (by constructor <;> go_simp) ?_
  simp only [List.take_succ_cons, List.take_zero, List.drop_succ_cons, List.drop_zero, tag]
  repeat (first
    | (refine wpHeld_step ?_ (by rfl) (fun w4 hSw => ?_) ?_; rotate_left; (focus (obtain ⟨s1, s2⟩ := hSw; go_simp; try with_reducible rfl)); simp only [Act.put, List.setIfInBounds_toArray, List.set_cons_zero, List.set_cons_succ])
    | (refine wpHeld_pure ?_ (by rfl) (fun w4 => ?_) ?_; rotate_left; (focus (go_simp; try with_reducible rfl)); simp only [Act.put, List.setIfInBounds_toArray, List.set_cons_zero, List.set_cons_succ])
    | (refine wpHeld_skip (by rfl) ?_; simp only [Act.put, List.setIfInBounds_toArray, List.set_cons_zero, List.set_cons_succ]))
  refine wpHeld_nil ?_
  refine wpTailE_step (fun K hK => ?_)
  go_simp
  refine hK.out _ _ (fun _ hS => by constructor <;> go_simp) ?_
  clear hK K
  refine wpTailE_step (fun K hK => ?_)
  go_simp
  refine hK.out _ _ (fun _ hS => by constructor <;> go_simp) ?_
  clear hK K
  refine wpTailE_nil ?_
  go_wp2
  refine bodyPost_ret (v := .tuple #[.agg #[.bool (true != true), .bool true], .bool (true || true)]) (by simp [results, Try.results139, go_sem]) rfl ⟨rfl, ?_⟩
  exact (((Below.refl _ _).alloc (Nat.le_refl _) _).alloc (by simp) _).drew
theorem iF_any (x : Fin 4) (w : World) : Calls Try.prog 139 #[.agg #[.bool (f0 x.val), .bool (f1 x.val)]] w fun e w' => e = .returned (.tuple #[.agg #[.bool (f0 (gF.v x).val), .bool (f1 (gF.v x).val)], .bool (nzF x)]) ∧ Below w.heap.size w w' := by
  rcases fin4_cases x with e | e | e | e <;> subst e
  · exact iF_ff w
  · exact iF_tf w
  · exact iF_ft w
  · exact iF_tt w
end Go.Proofs.Ytpocjpodeahanaa

/- without, over the field of four: the walk. Conditions: two rows in memory of their own. -/
namespace Go.Proofs.Ytpocjpodeahanaa
open Go.RowKit

/-- A row of elements of two cells, as cells. -/
def cF (f : Nat → Fin 4) (j : Nat) : Value := pcell (f (j / 2)).val j
theorem cF0 (f : Nat → Fin 4) (j : Nat) : cF f (j * 2) = .bool (f0 (f j).val) := by unfold cF; rw [pcell0, Nat.mul_div_cancel _ (by decide)]
theorem cF1 (f : Nat → Fin 4) (j : Nat) : cF f (j * 2 + 1) = .bool (f1 (f j).val) := by unfold cF; rw [pcell1, show (j * 2 + 1) / 2 = j by omega]
/-- One element is written. -/
theorem cF_set {f f' : Nat → Fin 4} {j q : Nat} {v : Fin 4} (h : ∀ i, f' i = if i = j then v else f i) :
    (if q = j * 2 + 1 then Value.bool (f1 v.val) else if q = j * 2 then Value.bool (f0 v.val) else cF f q) = cF f' q := by
  unfold cF
  rw [h]
  by_cases h2 : q = j * 2 + 1
  · subst h2
    rw [if_pos rfl, if_pos (by omega)]
    simp [pcell]
  · rw [if_neg h2]
    by_cases h3 : q = j * 2
    · subst h3
      rw [if_pos rfl, if_pos (by omega)]
      simp [pcell]
    · rw [if_neg h3, if_neg (by omega)]
def upF (k : Nat) (f g : Nat → Fin 4) (j : Nat) : Fin 4 := if j < k then g j else f j
theorem upF_next {k : Nat} {f g : Nat → Fin 4} (j : Nat) : upF (k + 1) f g j = if j = k then g k else upF k f g j := by
  unfold upF
  by_cases h : j = k
  · subst h; simp
  · by_cases h2 : j < k
    · simp [h, h2, show j < k + 1 by omega]
    · simp [h, h2, show ¬ j < k + 1 by omega]
theorem grown_alloc (w : World) (o : Obj) (r : Option Nat) : w.grownBy (w.alloc o) r := ⟨rfl, rfl, rfl, by simp, fun k hk _ => Below.heap_alloc _ _ _ hk⟩
theorem grown_below {w w' : World} (h : Below w.heap.size w w') (r : Option Nat) : w.grownBy w' r := ⟨h.os, h.tape, h.output, h.size, fun k hk _ => h.block k hk⟩
theorem grown_row {w w' : World} {r : Option Nat} (h : w.grownBy w' r) {b t n : Nat} {f : Nat → Value} (hr : w.rowIs b t n f) (hb : some b ≠ r) : w'.rowIs b t n f := hr.of_block (h.block b hr.lt hb)

set_option maxRecDepth 20000 in
set_option maxHeartbeats 2000000 in
theorem woF_any (g h L c1 c2 : Nat) (f k : Nat → Fin 4) (x : Fin 4) (w : World) (hL : L ≤ 1000000000) (hgh : g ≠ h) (hf : w.rowIs g 47 (L * 2) (cF f)) (hk : w.rowIs h 47 (L * 2) (cF k)) :
    Calls Try.prog 113 #[.slice (some ⟨g, 0, none⟩) L c1, .slice (some ⟨h, 0, none⟩) L c2, .agg #[.bool (f0 x.val), .bool (f1 x.val)]] w fun e w' => e = .returned (.tuple #[]) ∧ w'.rowIs g 47 (L * 2) (cF fun j => gF.a (f j) (gF.m (k j) x)) ∧ w.grownBy w' (some g) := by
  have CZ := Lib.hid (fun w => zF_any x w)
  have hgA := grown_alloc w (.cells #[.bool (f0 x.val), .bool (f1 x.val)] 47) (some g)
  have hfA := hf.alloc (.cells #[.bool (f0 x.val), .bool (f1 x.val)] 47)
  have hkA := hk.alloc (.cells #[.bool (f0 x.val), .bool (f1 x.val)] 47)
  have hxA := pcell_row w x.val 47
  have hgl := hf.lt
  have hhl := hk.lt
  have HgA := Lib.hid hgA; have HfA := Lib.hid hfA; have HkA := Lib.hid hkA; have HxA := Lib.hid hxA
  clear hgA hfA hkA hxA hf hk
  by_cases hx : x = gF.z
  · have t1 := zF_true hx
    have HX := Lib.hid hx; clear hx
    go_enter Try.func113, Try.ntmps113
    go_wp2_with (go_at_call 140; (with_reducible refine (CZ.out _).mono ?_); rintro e w4 ⟨rfl, hb4⟩)
    exact bodyPost_ret (v := .tuple #[]) (by simp [results, Try.results113, go_sem]) rfl ⟨rfl, (below_row HfA.out hb4 HfA.out.lt).congr fun j _ => by rw [HX.out]; simp only [cF, gF.m_z, gF.a_z], HgA.out.trans (grown_below hb4 _)⟩
  · have t1 := zF_false hx
    clear hx
    go_enter Try.func113, Try.ntmps113
    go_wp2_with (go_at_call 140; (with_reducible refine (CZ.out _).mono ?_); rintro e w4 ⟨rfl, hb4⟩)
    have hf4 := below_row HfA.out hb4 HfA.out.lt
    have hk4 := below_row HkA.out hb4 HkA.out.lt
    have hx4 := below_row HxA.out hb4 HxA.out.lt
    have hg4 := HgA.out.trans (grown_below hb4 (some g))
    clear HfA HkA HxA HgA hb4 t1 CZ
    generalize w.heap.size = xb at *
    go_loopg [6, 12] L (fun gk _ i wr => ∃ j : Nat, j ≤ L ∧ gk = L - j ∧ i = .int .i64 j ∧ wr.rowIs g 47 (L * 2) (cF (upF j f fun j => gF.a (f j) (gF.m (k j) x))) ∧ wr.rowIs h 47 (L * 2) (cF k) ∧ wr.rowIs xb 47 2 (fun t => pcell x.val t) ∧ w.grownBy wr (some g))
    case atStart => exact ⟨0, Nat.zero_le _, rfl, rfl, hf4.congr fun j _ => by simp [upF, cF], hk4, hx4, hg4⟩
    case round =>
      clear hf4 hk4 hx4 hg4
      obtain ⟨j, hj, rfl, rfl, hr, hk, hx, hg⟩ := hrel
      by_cases hlt : j < L
      · have hd0 := hr.cell (show j * 2 < L * 2 by omega)
        have hd1 := hr.cell (show j * 2 + 1 < L * 2 by omega)
        have hk0 := hk.cell (show j * 2 < L * 2 by omega)
        have hk1 := hk.cell (show j * 2 + 1 < L * 2 by omega)
        have hx0 : wr.cell? ⟨xb, 0, none⟩ = some (.bool (f0 x.val)) := hx.cell (show 0 < 2 by omega)
        have hx1 : wr.cell? ⟨xb, 1, none⟩ = some (.bool (f1 x.val)) := hx.cell (show 1 < 2 by omega)
        rw [cF0, show upF j f (fun j => gF.a (f j) (gF.m (k j) x)) j = f j by simp [upF]] at hd0
        rw [cF1, show upF j f (fun j => gF.a (f j) (gF.m (k j) x)) j = f j by simp [upF]] at hd1
        rw [cF0] at hk0
        rw [cF1] at hk1
        have HN : Hid (∀ q, upF (j + 1) f (fun j => gF.a (f j) (gF.m (k j) x)) q = if q = j then gF.a (f j) (gF.m (k j) x) else upF j f (fun j => gF.a (f j) (gF.m (k j) x)) q) := fun q => upF_next q
        have HR := Lib.hid hr; have HK := Lib.hid hk; have HXr := Lib.hid hx; have HG := Lib.hid hg
        have hgW : g < wr.heap.size := hr.lt
        have hhW : h < wr.heap.size := hk.lt
        have hxW : xb < wr.heap.size := hx.lt
        clear hr hk hx hg
        go_wp2_with fail
        generalize f j = D at *
        generalize k j = y at *
        have KS : Hid (∀ w4, Below wr.heap.size wr w4 → w4.cell? ⟨g, j * 2, none⟩ = some (.bool (f0 D.val)) ∧ w4.cell? ⟨g, j * 2 + 1, none⟩ = some (.bool (f1 D.val)) ∧ w4.cell? ⟨h, j * 2, none⟩ = some (.bool (f0 y.val)) ∧ w4.cell? ⟨h, j * 2 + 1, none⟩ = some (.bool (f1 y.val)) ∧ w4.cell? ⟨xb, 0, none⟩ = some (.bool (f0 x.val)) ∧ w4.cell? ⟨xb, 1, none⟩ = some (.bool (f1 x.val))) := fun w4 hb4 =>
          ⟨(hb4.cell hgW).trans hd0, (hb4.cell hgW).trans hd1, (hb4.cell hhW).trans hk0, (hb4.cell hhW).trans hk1, (hb4.cell hxW).trans hx0, (hb4.cell hxW).trans hx1⟩
        as_aux_lemma =>
          refine wp_region_held2 13 (fun k => Nat.beq k 5 || Nat.beq k 10 || Nat.beq k 12) (fun k => Nat.beq k 16) mixed (by kernel_rfl) (fun w4 => w4.cell? ⟨g, j * 2, none⟩ = some (.bool (f0 D.val)) ∧ w4.cell? ⟨g, j * 2 + 1, none⟩ = some (.bool (f1 D.val)) ∧ w4.cell? ⟨h, j * 2, none⟩ = some (.bool (f0 y.val)) ∧ w4.cell? ⟨h, j * 2 + 1, none⟩ = some (.bool (f1 y.val)) ∧ w4.cell? ⟨xb, 0, none⟩ = some (.bool (f0 x.val)) ∧ w4.cell? ⟨xb, 1, none⟩ = some (.bool (f1 x.val))) (KS.out _ (Below.refl _ _).drew) ?_
          simp only [List.take_succ_cons, List.take_zero, List.drop_succ_cons, List.drop_zero, tag]
          clear hd0 hd1 hk0 hk1 hx0 hx1
          repeat (first
            | (refine wpHeld_step ?_ (by rfl) (fun w4 hSw => ?_) ?_; rotate_left; (focus (obtain ⟨s1, s2, s3, s4, s5, s6⟩ := hSw; go_simp; try with_reducible rfl)); simp only [Act.put, List.setIfInBounds_toArray, List.set_cons_zero, List.set_cons_succ])
            | (refine wpHeld_pure ?_ (by rfl) (fun w4 => ?_) ?_; rotate_left; (focus (go_simp; try with_reducible rfl)); simp only [Act.put, List.setIfInBounds_toArray, List.set_cons_zero, List.set_cons_succ]))
          refine wpHeld_nil ?_
          refine wpTailE_step (fun K hK => ?_)
          go_simp
          refine (tF_any y x _).mono ?_
          rintro e w4 ⟨rfl, hb4⟩
          have hB4 : Below wr.heap.size wr w4 := (Below.refl _ _).drew.trans hb4
          dsimp only
          refine hK.out _ _ (fun _ _ => KS.out _ hB4) ?_
          clear hK K
          try simp only [Act.put, List.setIfInBounds_toArray, List.set_cons_zero, List.set_cons_succ]
          refine wpTailE_step (fun K hK => ?_)
          go_simp
          refine (pF_any D (gF.m y x) _).mono ?_
          rintro e w5 ⟨rfl, hb5⟩
          have hB5 : Below wr.heap.size wr w5 := hB4.trans (hb5.mono hB4.size)
          dsimp only
          refine hK.out _ _ (fun _ _ => KS.out _ hB5) ?_
          clear hK K hb5 hB4 hb4
          try simp only [Act.put, List.setIfInBounds_toArray, List.set_cons_zero, List.set_cons_succ]
          refine wpTailE_step (fun K hK => ?_)
          go_simp
          refine hK.out _ _ (fun _ h => h) ?_
          clear hK K
          have r5 := below_row HR.out hB5 hgW
          have z0 := r5.frozen (j * 2)
          have z1 := r5.frozen (j * 2 + 1)
          have y0 := r5.cell (show j * 2 < L * 2 by omega)
          have y1 := r5.cell (show j * 2 + 1 < L * 2 by omega)
          refine wpTailE_step (fun K hK => ?_)
          go_simp
          refine hK.out _ _ (fun h => absurd h (by decide)) ?_
          clear hK K z0 z1 y0 y1
          refine wpTailE_nil ?_
          go_wp2
          go_roundg (L - (j + 1))
          case measure => omega
          case rel =>
            refine ⟨j + 1, by omega, rfl, by go_num, ((r5.set (j * 2) _).set (j * 2 + 1) _).congr fun q _ => cF_set HN.out, ?_, ?_, ?_⟩
            · exact ((below_row HK.out hB5 hhW).setOther (a := ⟨g, j * 2, none⟩) (fun e => hgh e.symm) _).setOther (a := ⟨g, j * 2 + 1, none⟩) (fun e => hgh e.symm) _
            · exact ((below_row HXr.out hB5 hxW).setOther (a := ⟨g, j * 2, none⟩) (by show xb ≠ g; omega) _).setOther (a := ⟨g, j * 2 + 1, none⟩) (by show xb ≠ g; omega) _
            · exact ((HG.out.trans (grown_below hB5 _)).trans (grown_set rfl _)).trans (grown_set rfl _)
      · have : j = L := by omega
        subst this
        go_wp2
        go_end0
        exact ⟨rfl, hr.congr fun q hq => by unfold cF upF; rw [if_pos (by omega)], hg⟩
end Go.Proofs.Ytpocjpodeahanaa

/- cleared, over the field of four: the walk. Conditions: a matrix in memory of its own. -/
namespace Go.Proofs.Ytpocjpodeahanaa
open Go.RowKit

def partF (x : Fin 4) (t j : Nat) (R : Nat → Nat → Fin 4) (i' j' : Nat) : Fin 4 := if i' = t ∧ j' < j then gF.m (R t j') x else R i' j'
theorem partF_next {x : Fin 4} {t j : Nat} {R : Nat → Nat → Fin 4} (i' j' : Nat) : partF x t (j + 1) R i' j' = if i' = t ∧ j' = j then gF.m (R t j) x else partF x t j R i' j' := by
  unfold partF
  by_cases h1 : i' = t
  · subst h1
    by_cases h2 : j' = j
    · subst h2; simp
    · by_cases h3 : j' < j
      · simp [h2, h3, show j' < j + 1 by omega]
      · simp [h2, h3, show ¬ j' < j + 1 by omega]
  · simp [h1]
/-- One element is written. -/
theorem Mx.set2 {w : World} {B b tR e n L L2 : Nat} {S : Nat → Nat} {G G' : Nat → Nat → Fin 4} (h : Mx w B b tR e n S L L2 (fun i => cF (G i))) {i : Nat} (hi : i < n) (j : Nat) (v : Fin 4) (hG : ∀ i' j', G' i' j' = if i' = i ∧ j' = j then v else G i' j') :
    Mx ((w.setCell ⟨S i, j * 2, none⟩ (.bool (f0 v.val))).setCell ⟨S i, j * 2 + 1, none⟩ (.bool (f1 v.val))) B b tR e n S L L2 (fun i => cF (G' i)) :=
  ((h.set hi (j * 2) _).set hi (j * 2 + 1) _).congr fun i' j' _ _ => by
    by_cases e : i' = i
    · subst e
      have := cF_set (f := G i') (f' := G' i') (j := j) (q := j') (v := v) (fun q => by rw [hG]; simp)
      rw [← this]; simp
    · have e2 : G' i' = G i' := funext fun q => by rw [hG, if_neg fun h => e h.1]
      simp [e, e2]

set_option maxRecDepth 40000 in
set_option maxHeartbeats 4000000 in
theorem clF_any (b n cap L cols B : Nat) (S : Nat → Nat) (G : Nat → Nat → Fin 4) (w : World) (hn : n ≤ 1000000000) (hL : L ≤ 1000000000) (hcol : cols ≤ L) (hM : Mx w B b 68 47 n S L (L * 2) (fun i => cF (G i))) :
    Calls Try.prog 96 #[.slice (some ⟨b, 0, none⟩) n cap, .int .i64 cols] w fun e w' => ∃ S' G' st p, e = .returned (.int .i64 (st : Nat)) ∧ Mx w' B b 68 47 n S' L (L * 2) (fun i => cF (G' i)) ∧ gF.RR n L cols G G' st p ∧ Below B w w' := by
  go_enter Try.func96, Try.ntmps96
  go_wp2
  go_step3
  go_wp2
  go_step3
  go_wp2
  go_loopg [5, 13] cols (fun gk sv i wr => ∃ (c st : Nat) (S' : Nat → Nat) (G' : Nat → Nat → Fin 4) (p : Nat → Nat), c ≤ cols ∧ gk = cols - c ∧ sv = .int .i64 st ∧ i = .int .i64 c ∧
    Mx wr B b 68 47 n S' L (L * 2) (fun i => cF (G' i)) ∧ gF.RR n L c G G' st p ∧ Below B w wr)
  case atStart => exact ⟨0, 0, S, G, fun _ => 0, Nat.zero_le _, rfl, rfl, rfl, hM, Fd.RR.start _ _ _ _, Below.refl _ _⟩
  case round =>
    clear hM
    obtain ⟨c, st, S', G', p, hc, rfl, rfl, rfl, hM, hRR, hbel⟩ := hrel
    have hst := hRR.le
    by_cases hlt : c < cols
    · have hR := Lib.hid hRR; clear hRR
      go_wp2
      go_loopg [5, 7] (n - st) (fun gk sv rv w2 => sv = .int .i64 (st : Nat) ∧ Mx w2 B b 68 47 n S' L (L * 2) (fun i => cF (G' i)) ∧ Below B w w2 ∧ ∃ r : Nat, st ≤ r ∧ r ≤ n ∧ gk = n - r ∧ rv = .int .i64 r ∧ ∀ i, st ≤ i → i < r → G' i c = gF.z)
      case atStart => exact ⟨rfl, hM, hbel, st, Nat.le_refl _, hst, rfl, rfl, fun i h1 h2 => absurd h2 (by omega)⟩
      case round =>
        clear hM hbel
        obtain ⟨rfl, hM, hbel, r, hr1, hr2, rfl, rfl, hz⟩ := hrel
        have HZ := Lib.hid hz; clear hz
        have hBle : B ≤ wr.heap.size := Nat.le_trans hM.lob (Nat.le_of_lt hM.top.lt)
        by_cases hrn : r < n
        · have HK : Hid (∀ w4, Below wr.heap.size wr w4 → w4.cell? ⟨b, r, none⟩ = some (.slice (some ⟨S' r, 0, none⟩) L L) ∧ w4.cell? ⟨S' r, c * 2, none⟩ = some (.bool (f0 (G' r c).val)) ∧ w4.cell? ⟨S' r, c * 2 + 1, none⟩ = some (.bool (f1 (G' r c).val))) := fun w4 hb4 =>
            ⟨((hM.keep hb4).top.cell hrn), ((hM.keep hb4).row r hrn).cell (show c * 2 < L * 2 by omega) |>.trans (by rw [cF0]), ((hM.keep hb4).row r hrn).cell (show c * 2 + 1 < L * 2 by omega) |>.trans (by rw [cF1])⟩
          obtain ⟨htop, hc0, hc1⟩ := HK.out wr (Below.refl _ _)
          have HM := Lib.hid hM; have HB := Lib.hid hbel; clear hM hbel
          go_wp2_with fail
          refine (iF_any (G' r c) _).mono ?_
          rintro e w4 ⟨rfl, hb4⟩
          have hbA := hb4.alloc hb4.size (.cells #[.bool (f0 (gF.v (G' r c)).val), .bool (f1 (gF.v (G' r c)).val)] 47)
          have hO := Lib.hid (pcell_row w4 (gF.v (G' r c)).val 47)
          have hsz4 := hb4.size
          clear htop hc0 hc1
          obtain ⟨htop, hc0, hc1⟩ := HK.out _ hbA
          have HBA := Lib.hid hbA
          clear hb4 hbA
          by_cases hx : G' r c = gF.z
          · have t1 := zF_true hx; have t2 := nF_false hx
            have HX := Lib.hid hx; clear hx
            go_wp2_with (go_at_call 140; (with_reducible refine (zF_any _ _).mono ?_); rintro e w5 ⟨rfl, hb5⟩)
            have hb6 := HBA.out.trans (hb5.mono HBA.out.size)
            go_roundg (n - (r + 1))
            case measure => omega
            case rel => exact ⟨rfl, HM.out.keep hb6, HB.out.trans (hb6.mono hBle), r + 1, by omega, by omega, rfl, by go_num, fun i h1 h2 => by
              by_cases e : i = r
              · rw [e]; exact HX.out
              · exact HZ.out i h1 (by omega)⟩
          · have t1 := zF_false hx; have t2 := nF_true hx
            have HX := Lib.hid hx; clear hx HZ
            have hstn : st < n := by omega
            go_wp2_with (go_at_call 140; (with_reducible refine (zF_any _ _).mono ?_); rintro e w5 ⟨rfl, hb5⟩)
            have hb6 := HBA.out.trans (hb5.mono HBA.out.size)
            have hM5 := HM.out.keep hb6
            have hB5 := HB.out.trans (hb6.mono hBle)
            have hO5 := below_row hO.out hb5 hO.out.lt
            have hob : wr.heap.size ≤ w4.heap.size := hsz4
            have hor : ∀ i, i < n → S' i < wr.heap.size := fun i hi => (HM.out.row i hi).lt
            have hbw : b < wr.heap.size := HM.out.top.lt
            clear htop hc0 hc1 t1 t2 HK HM HB HBA hO hb5 hb6
            generalize w4.heap.size = ob at *
            clear hsz4
            have hob2 : ob ≠ b := by omega
            have hob3 : ∀ i, i < n → ob ≠ S' i := fun i hi => by have := hor i hi; omega
            have HOB := Lib.hid hob3
            clear hor hbw hob hob3 hBle
            have htop : w5.cell? ⟨b, r, none⟩ = some (.slice (some ⟨S' r, 0, none⟩) L L) := hM5.top.cell hrn
            have htop2 : w5.cell? ⟨b, st, none⟩ = some (.slice (some ⟨S' st, 0, none⟩) L L) := hM5.top.cell hstn
            have hf1 := hM5.top.frozen r
            have hf2 := hM5.top.frozen st
            have hsw := Lib.hid (Mx.swap hM5 hrn hstn)
            have htop3 := hsw.out.top.cell hstn
            rw [show Fd.swp r st st = r from if_pos rfl] at htop3
            have hbs := Lib.hid ((hB5.setCell (p := ⟨b, st, none⟩) hM5.lob (.slice (some ⟨S' r, 0, none⟩) L L)).setCell (p := ⟨b, r, none⟩) hM5.lob (.slice (some ⟨S' st, 0, none⟩) L L))
            have hos := Lib.hid ((hO5.setOther (a := ⟨b, st, none⟩) hob2 (.slice (some ⟨S' r, 0, none⟩) L L)).setOther (a := ⟨b, r, none⟩) hob2 (.slice (some ⟨S' st, 0, none⟩) L L))
            clear hM5 hB5 hO5
            obtain ⟨v', hv'⟩ := cell?_setCell_some (w := w5) (p := ⟨b, st, none⟩) (x := .slice (some ⟨S' r, 0, none⟩) L L) (q := ⟨b, r, none⟩) (v := .slice (some ⟨S' r, 0, none⟩) L L) htop
            refine wp_region_held2 13 (fun k => Nat.beq k 7 || Nat.beq k 11) (fun _ => true) mixed (by kernel_rfl) (· = w5.drew) rfl ?_
            simp only [List.take_succ_cons, List.take_zero, List.drop_succ_cons, List.drop_zero, tag]
            repeat (first
              | (refine wpHeld_step ?_ (by rfl) (fun w4 hSw => ?_) ?_; rotate_left; (focus (subst hSw; go_simp; try with_reducible rfl)); simp only [Act.put, List.setIfInBounds_toArray, List.set_cons_zero, List.set_cons_succ])
              | (refine wpHeld_pure ?_ (by rfl) (fun w4 => ?_) ?_; rotate_left; (focus (go_simp; try with_reducible rfl)); simp only [Act.put, List.setIfInBounds_toArray, List.set_cons_zero, List.set_cons_succ]))
            refine wpHeld_nil ?_
            refine wpTailE_step (fun K hK => ?_)
            go_simp
            refine hK.out _ _ (fun h => absurd h (by decide)) ?_
            clear hK K
            refine wpTailE_step (fun K hK => ?_)
            go_simp
            refine hK.out _ _ (fun h => absurd h (by decide)) ?_
            clear hK K
            refine wpTailE_step (fun K hK => ?_)
            go_simp
            refine hK.out _ _ (fun h => absurd h (by decide)) ?_
            clear hK K
            refine wpTailE_nil ?_
            go_wp2
            clear htop htop2 hf1 hf2 hv' htop3
            have hM1 := hsw.out.drew
            have hb1 := hbs.out.drew
            have ho1 := hos.out.drew
            clear hsw hbs hos
            generalize ((w5.setCell ⟨b, st, none⟩ (.slice (some ⟨S' r, 0, none⟩) L L)).setCell ⟨b, r, none⟩ (.slice (some ⟨S' st, 0, none⟩) L L)).drew = W1 at *
            have hR2 := Lib.hid (hR.out.pivot hr1 hrn HX.out)
            have HOS : Hid (∀ i, i < n → ob ≠ (fun i => S' (Fd.swp r st i)) i) := fun i hi => HOB.out _ (Fd.swp_lt hrn hstn hi)
            clear hR HX HOB
            generalize hov : gF.v (G' r c) = ov at *
            clear hov
            generalize hRw : (fun i => G' (Fd.swp r st i)) = R at *
            have hM1 : Mx W1 B b 68 47 n (fun i => S' (Fd.swp r st i)) L (L * 2) (fun i => cF (R i)) := by rw [← hRw]; exact hM1
            clear hRw
            generalize (fun i => S' (Fd.swp r st i)) = S1 at *
            go_loopg [67] L (fun gk i w3 => ∃ j : Nat, j ≤ L ∧ gk = L - j ∧ i = .int .i64 j ∧ Below B w w3 ∧ w3.rowIs ob 47 2 (fun t => pcell ov.val t) ∧ Mx w3 B b 68 47 n S1 L (L * 2) (fun i' => cF (partF ov st j R i')))
            case atStart => exact ⟨0, Nat.zero_le _, rfl, rfl, hb1, ho1, hM1.congr fun i j _ _ => by simp [partF, cF]⟩
            case round =>
              clear hM1 hb1 ho1
              obtain ⟨j, hj, rfl, rfl, hb1, ho1, hM1⟩ := hrel
              by_cases hlj : j < L
              · have htop := hM1.top.cell hstn
                have hd0 := (hM1.row st hstn).cell (show j * 2 < L * 2 by omega)
                have hd1 := (hM1.row st hstn).cell (show j * 2 + 1 < L * 2 by omega)
                have ho0 : wr.cell? ⟨ob, 0, none⟩ = some (.bool (f0 ov.val)) := ho1.cell (show 0 < 2 by omega)
                have ho2 : wr.cell? ⟨ob, 1, none⟩ = some (.bool (f1 ov.val)) := ho1.cell (show 1 < 2 by omega)
                rw [cF0, show partF ov st j R st j = R st j by simp [partF]] at hd0
                rw [cF1, show partF ov st j R st j = R st j by simp [partF]] at hd1
                have HN : Hid (∀ i' j', partF ov st (j + 1) R i' j' = if i' = st ∧ j' = j then gF.m (R st j) ov else partF ov st j R i' j') := fun i' j' => partF_next i' j'
                have HM := Lib.hid hM1; have HB := Lib.hid hb1; have HO := Lib.hid ho1
                have hbW : b < wr.heap.size := hM1.top.lt
                have hsW : S1 st < wr.heap.size := (hM1.row st hstn).lt
                have hoW : ob < wr.heap.size := ho1.lt
                clear hM1 hb1 ho1
                go_wp2_with fail
                generalize R st j = x at *
                have KS : Hid (∀ w4, Below wr.heap.size wr w4 → w4.cell? ⟨b, st, none⟩ = some (.slice (some ⟨S1 st, 0, none⟩) L L) ∧ w4.cell? ⟨S1 st, j * 2, none⟩ = some (.bool (f0 x.val)) ∧ w4.cell? ⟨S1 st, j * 2 + 1, none⟩ = some (.bool (f1 x.val)) ∧ w4.cell? ⟨ob, 0, none⟩ = some (.bool (f0 ov.val)) ∧ w4.cell? ⟨ob, 1, none⟩ = some (.bool (f1 ov.val))) := fun w4 hb4 =>
                  ⟨(hb4.cell hbW).trans htop, (hb4.cell hsW).trans hd0, (hb4.cell hsW).trans hd1, (hb4.cell hoW).trans ho0, (hb4.cell hoW).trans ho2⟩
                as_aux_lemma =>
                  refine wp_region_held2 14 (fun k => Nat.beq k 3 || Nat.beq k 8 || Nat.beq k 11 || Nat.beq k 13) (fun k => Nat.beq k 16) mixed (by kernel_rfl) (fun w4 => w4.cell? ⟨b, st, none⟩ = some (.slice (some ⟨S1 st, 0, none⟩) L L) ∧ w4.cell? ⟨S1 st, j * 2, none⟩ = some (.bool (f0 x.val)) ∧ w4.cell? ⟨S1 st, j * 2 + 1, none⟩ = some (.bool (f1 x.val)) ∧ w4.cell? ⟨ob, 0, none⟩ = some (.bool (f0 ov.val)) ∧ w4.cell? ⟨ob, 1, none⟩ = some (.bool (f1 ov.val))) (KS.out _ (Below.refl _ _).drew) ?_
                  simp only [List.take_succ_cons, List.take_zero, List.drop_succ_cons, List.drop_zero, tag]
                  clear htop hd0 hd1 ho0 ho2
                  repeat (first
                    | (refine wpHeld_step ?_ (by rfl) (fun w4 hSw => ?_) ?_; rotate_left; (focus (obtain ⟨s1, s2, s3, s4, s5⟩ := hSw; go_simp; try with_reducible rfl)); simp only [Act.put, List.setIfInBounds_toArray, List.set_cons_zero, List.set_cons_succ])
                    | (refine wpHeld_pure ?_ (by rfl) (fun w4 => ?_) ?_; rotate_left; (focus (go_simp; try with_reducible rfl)); simp only [Act.put, List.setIfInBounds_toArray, List.set_cons_zero, List.set_cons_succ]))
                  refine wpHeld_nil ?_
                  refine wpTailE_step (fun K hK => ?_)
                  go_simp
                  refine (tF_any x ov _).mono ?_
                  rintro e w4 ⟨rfl, hb4⟩
                  have hB4 : Below wr.heap.size wr w4 := (Below.refl _ _).drew.trans hb4
                  dsimp only
                  refine hK.out _ _ (fun _ _ => KS.out _ hB4) ?_
                  clear hK K hb4
                  try simp only [Act.put, List.setIfInBounds_toArray, List.set_cons_zero, List.set_cons_succ]
                  refine wpTailE_step (fun K hK => ?_)
                  go_simp
                  refine hK.out _ _ (fun _ h => h) ?_
                  clear hK K
                  have hM5 := HM.out.keep hB4
                  have r5 := hM5.row st hstn
                  have z0 := r5.frozen (j * 2)
                  have z1 := r5.frozen (j * 2 + 1)
                  have y0 := r5.cell (show j * 2 < L * 2 by omega)
                  have y1 := r5.cell (show j * 2 + 1 < L * 2 by omega)
                  refine wpTailE_step (fun K hK => ?_)
                  go_simp
                  refine hK.out _ _ (fun h => absurd h (by decide)) ?_
                  clear hK K z0 z1 y0 y1 r5
                  refine wpTailE_nil ?_
                  go_wp2
                  go_roundg (L - (j + 1))
                  case measure => omega
                  case rel =>
                    have hBw : B ≤ wr.heap.size := Nat.le_trans HM.out.lob (Nat.le_of_lt hbW)
                    refine ⟨j + 1, by omega, rfl, by go_num, ((HB.out.trans (hB4.mono hBw)).setCell (hM5.los st hstn) _).setCell (hM5.los st hstn) _, ?_, hM5.set2 hstn j _ HN.out⟩
                    exact ((below_row HO.out hB4 hoW).setOther (a := ⟨S1 st, j * 2, none⟩) (HOS.out st hstn) _).setOther (a := ⟨S1 st, j * 2 + 1, none⟩) (HOS.out st hstn) _
              · have : j = L := by omega
                subst this
                have hM1 := hM1.congr (g := fun i' => cF (gF.scl ov st R i')) fun i' j' _ hj' => by
                  have e : partF ov st j R i' (j' / 2) = gF.scl ov st R i' (j' / 2) := by unfold partF Fd.scl; by_cases e : i' = st <;> simp [e, show j' / 2 < j by omega]
                  simp only [cF, e]
                generalize gF.scl ov st R = N at *
                clear ho1 HOS
                go_wp2
                go_loopg [89] n (fun gk i w3 => ∃ t : Nat, t ≤ n ∧ gk = n - t ∧ i = .int .i64 t ∧ Below B w w3 ∧ Mx w3 B b 68 47 n S1 j (j * 2) (fun i' => cF (gF.elm c st t N i')))
                case atStart => exact ⟨0, Nat.zero_le _, rfl, rfl, hb1, hM1.congr fun i j _ _ => by simp [Fd.elm, cF]⟩
                case round =>
                  clear hM1 hb1
                  obtain ⟨t, ht, rfl, rfl, hb1, hM1⟩ := hrel
                  by_cases hlt3 : t < n
                  · by_cases hts : t = st
                    · have t1 : ((t : Int) != (st : Int)) = false := by simp [hts]
                      have HT := Lib.hid hts; clear hts
                      go_wp2
                      go_roundg (n - (t + 1))
                      case measure => omega
                      case rel => exact ⟨t + 1, by omega, rfl, by go_num, hb1, hM1.congr fun i' j' _ _ => by simp only [cF, HT.out, ← elm_skip]⟩
                    · have t1 : ((t : Int) != (st : Int)) = true := by rw [bne_iff_ne]; omega
                      have htop1 := hM1.top.cell hlt3
                      have htop2 := hM1.top.cell hstn
                      have hcl : c < j := by omega
                      have hc0 := (hM1.row t hlt3).cell (show c * 2 < j * 2 by omega)
                      have hc1 := (hM1.row t hlt3).cell (show c * 2 + 1 < j * 2 by omega)
                      rw [cF0, show gF.elm c st t N t c = N t c by simp [Fd.elm]] at hc0
                      rw [cF1, show gF.elm c st t N t c = N t c by simp [Fd.elm]] at hc1
                      have HC := Lib.hid (woF_any (S1 t) (S1 st) j j j (fun q => N t q) (fun q => N st q) (N t c) wr.drew hL (fun e => hts (hM1.inj _ _ hlt3 hstn e)) ((hM1.row t hlt3).drew.congr fun q _ => by simp [Fd.elm, cF]) ((hM1.row st hstn).drew.congr fun q _ => by simp [Fd.elm, cF]))
                      have HM := Lib.hid hM1.drew
                      have HB := Lib.hid hb1.drew
                      have HTS := Lib.hid hts
                      clear hts hM1 hb1
                      go_wp2_with fail
                      as_aux_lemma =>
                        refine wp_region_still_tail 15 mixed (by kernel_rfl) ?_
                        simp only [List.take_succ_cons, List.take_zero, List.drop_succ_cons, List.drop_zero]
                        repeat still_step
                        refine wpStill_nil ?_
                        change wpList _ _ _ _ _ wr.drew
                        go_wp2_with fail
                        refine HC.out.mono ?_
                        rintro e w5 ⟨rfl, hr5, hg5⟩
                        have hM5 := (HM.out.rowSet hlt3 hr5 hg5).congr (g := fun i' => cF (gF.elm c st (t + 1) N i')) fun i' j' _ _ => by
                          simp only [cF, ← elm_next HTS.out]; split <;> rfl
                        have hb5 := HB.out.grown hg5 (Nat.le_trans HM.out.lob (Nat.le_of_lt HM.out.top.lt)) (fun k hk => by injection hk with hk; rw [← hk]; exact HM.out.los t hlt3)
                        clear HC HM HB hr5 hg5 htop1 htop2 hc0 hc1
                        go_wp2
                        go_roundg (n - (t + 1))
                        case measure => omega
                        case rel => exact ⟨t + 1, by omega, rfl, by go_num, hb5, hM5⟩
                  · have : t = n := by omega
                    subst this
                    go_wp2
                    go_roundg (cols - (c + 1))
                    case measure => omega
                    case rel => exact ⟨c + 1, st + 1, S1, _, _, by omega, rfl, by go_num, by go_num, hM1, hR2.out, hb1⟩
        · have : r = n := by omega
          subst this
          go_wp2
          go_roundg (cols - (c + 1))
          case measure => omega
          case rel => exact ⟨c + 1, st, S', G', p, by omega, rfl, rfl, by go_num, hM, hR.out.skip HZ.out, hbel⟩
    · have : c = cols := by omega
      subst this
      go_wp2
      rw [Exit.noGoto_ret]
      go_ret
      exact ⟨S', G', st, p, rfl, hM, hRR, hbel⟩
end Go.Proofs.Ytpocjpodeahanaa
