/- without, over the field of four: the walk. Conditions: two rows in memory of their own. -/
import Derived.Test.YtpocjpodeahanaaElF
import Derived.Test.YtpocjpodeahanaaTim4
namespace Go.Proofs.Ytpocjpodeahanaa
open Go.RowKit

/-- A row of elements of two cells, as cells. -/
def cF (f : Nat → Fin 4) (j : Nat) : Value := pcell (f (j / 2)).val j
theorem cF0 (f : Nat → Fin 4) (j : Nat) : cF f (j * 2) = .bool (f0 (f j).val) := by unfold cF; rw [pcell0, Nat.mul_div_cancel _ (by decide)]
theorem cF1 (f : Nat → Fin 4) (j : Nat) : cF f (j * 2 + 1) = .bool (f1 (f j).val) := by unfold cF; rw [pcell1, show (j * 2 + 1) / 2 = j by omega]
/-- One element is written. -/
theorem cF_set {f f' : Nat → Fin 4} {j q : Nat} {v : Fin 4} (h : ∀ i, f' i = if i = j then v else f i) :
    (if q = j * 2 + 1 then Value.bool (f1 v.val) else if q = j * 2 then Value.bool (f0 v.val) else cF f q) = cF f' q := by
  unfold cF
  rw [h]
  by_cases h2 : q = j * 2 + 1
  · subst h2
    rw [if_pos rfl, if_pos (by omega)]
    simp [pcell]
  · rw [if_neg h2]
    by_cases h3 : q = j * 2
    · subst h3
      rw [if_pos rfl, if_pos (by omega)]
      simp [pcell]
    · rw [if_neg h3, if_neg (by omega)]
def upF (k : Nat) (f g : Nat → Fin 4) (j : Nat) : Fin 4 := if j < k then g j else f j
theorem upF_next {k : Nat} {f g : Nat → Fin 4} (j : Nat) : upF (k + 1) f g j = if j = k then g k else upF k f g j := by
  unfold upF
  by_cases h : j = k
  · subst h; simp
  · by_cases h2 : j < k
    · simp [h, h2, show j < k + 1 by omega]
    · simp [h, h2, show ¬ j < k + 1 by omega]
theorem grown_alloc (w : World) (o : Obj) (r : Option Nat) : w.grownBy (w.alloc o) r := ⟨rfl, rfl, rfl, by simp, fun k hk _ => Below.heap_alloc _ _ _ hk⟩
theorem grown_below {w w' : World} (h : Below w.heap.size w w') (r : Option Nat) : w.grownBy w' r := ⟨h.os, h.tape, h.output, h.size, fun k hk _ => h.block k hk⟩
theorem grown_row {w w' : World} {r : Option Nat} (h : w.grownBy w' r) {b t n : Nat} {f : Nat → Value} (hr : w.rowIs b t n f) (hb : some b ≠ r) : w'.rowIs b t n f := hr.of_block (h.block b hr.lt hb)

set_option maxRecDepth 20000 in
set_option maxHeartbeats 2000000 in
theorem woF_any (g h L c1 c2 : Nat) (f k : Nat → Fin 4) (x : Fin 4) (w : World) (hL : L ≤ 1000000000) (hgh : g ≠ h) (hf : w.rowIs g 47 (L * 2) (cF f)) (hk : w.rowIs h 47 (L * 2) (cF k)) :
    Calls Try.prog 113 #[.slice (some ⟨g, 0, none⟩) L c1, .slice (some ⟨h, 0, none⟩) L c2, .agg #[.bool (f0 x.val), .bool (f1 x.val)]] w fun e w' => e = .returned (.tuple #[]) ∧ w'.rowIs g 47 (L * 2) (cF fun j => gF.a (f j) (gF.m (k j) x)) ∧ w.grownBy w' (some g) := by
  have CZ := Lib.hid (fun w => zF_any x w)
  have hgA := grown_alloc w (.cells #[.bool (f0 x.val), .bool (f1 x.val)] 47) (some g)
  have hfA := hf.alloc (.cells #[.bool (f0 x.val), .bool (f1 x.val)] 47)
  have hkA := hk.alloc (.cells #[.bool (f0 x.val), .bool (f1 x.val)] 47)
  have hxA := pcell_row w x.val 47
  have hgl := hf.lt
  have hhl := hk.lt
  have HgA := Lib.hid hgA; have HfA := Lib.hid hfA; have HkA := Lib.hid hkA; have HxA := Lib.hid hxA
  clear hgA hfA hkA hxA hf hk
  by_cases hx : x = gF.z
  · have t1 := zF_true hx
    have HX := Lib.hid hx; clear hx
    go_enter Try.func113, Try.ntmps113
    go_wp2_with (go_at_call 140; (with_reducible refine (CZ.out _).mono ?_); rintro e w4 ⟨rfl, hb4⟩)
    exact bodyPost_ret (v := .tuple #[]) (by simp [results, Try.results113, go_sem]) rfl ⟨rfl, (below_row HfA.out hb4 HfA.out.lt).congr fun j _ => by rw [HX.out]; simp only [cF, gF.m_z, gF.a_z], HgA.out.trans (grown_below hb4 _)⟩
  · have t1 := zF_false hx
    clear hx
    go_enter Try.func113, Try.ntmps113
    go_wp2_with (go_at_call 140; (with_reducible refine (CZ.out _).mono ?_); rintro e w4 ⟨rfl, hb4⟩)
    have hf4 := below_row HfA.out hb4 HfA.out.lt
    have hk4 := below_row HkA.out hb4 HkA.out.lt
    have hx4 := below_row HxA.out hb4 HxA.out.lt
    have hg4 := HgA.out.trans (grown_below hb4 (some g))
    clear HfA HkA HxA HgA hb4 t1 CZ
    generalize w.heap.size = xb at *
    go_loopg [6, 12] L (fun gk _ i wr => ∃ j : Nat, j ≤ L ∧ gk = L - j ∧ i = .int .i64 j ∧ wr.rowIs g 47 (L * 2) (cF (upF j f fun j => gF.a (f j) (gF.m (k j) x))) ∧ wr.rowIs h 47 (L * 2) (cF k) ∧ wr.rowIs xb 47 2 (fun t => pcell x.val t) ∧ w.grownBy wr (some g))
    case atStart => exact ⟨0, Nat.zero_le _, rfl, rfl, hf4.congr fun j _ => by simp [upF, cF], hk4, hx4, hg4⟩
    case round =>
      clear hf4 hk4 hx4 hg4
      obtain ⟨j, hj, rfl, rfl, hr, hk, hx, hg⟩ := hrel
      by_cases hlt : j < L
      · have hd0 := hr.cell (show j * 2 < L * 2 by omega)
        have hd1 := hr.cell (show j * 2 + 1 < L * 2 by omega)
        have hk0 := hk.cell (show j * 2 < L * 2 by omega)
        have hk1 := hk.cell (show j * 2 + 1 < L * 2 by omega)
        have hx0 : wr.cell? ⟨xb, 0, none⟩ = some (.bool (f0 x.val)) := hx.cell (show 0 < 2 by omega)
        have hx1 : wr.cell? ⟨xb, 1, none⟩ = some (.bool (f1 x.val)) := hx.cell (show 1 < 2 by omega)
        rw [cF0, show upF j f (fun j => gF.a (f j) (gF.m (k j) x)) j = f j by simp [upF]] at hd0
        rw [cF1, show upF j f (fun j => gF.a (f j) (gF.m (k j) x)) j = f j by simp [upF]] at hd1
        rw [cF0] at hk0
        rw [cF1] at hk1
        have HN : Hid (∀ q, upF (j + 1) f (fun j => gF.a (f j) (gF.m (k j) x)) q = if q = j then gF.a (f j) (gF.m (k j) x) else upF j f (fun j => gF.a (f j) (gF.m (k j) x)) q) := fun q => upF_next q
        have HR := Lib.hid hr; have HK := Lib.hid hk; have HXr := Lib.hid hx; have HG := Lib.hid hg
        have hgW : g < wr.heap.size := hr.lt
        have hhW : h < wr.heap.size := hk.lt
        have hxW : xb < wr.heap.size := hx.lt
        clear hr hk hx hg
        go_wp2_with fail
        generalize f j = D at *
        generalize k j = y at *
        have KS : Hid (∀ w4, Below wr.heap.size wr w4 → w4.cell? ⟨g, j * 2, none⟩ = some (.bool (f0 D.val)) ∧ w4.cell? ⟨g, j * 2 + 1, none⟩ = some (.bool (f1 D.val)) ∧ w4.cell? ⟨h, j * 2, none⟩ = some (.bool (f0 y.val)) ∧ w4.cell? ⟨h, j * 2 + 1, none⟩ = some (.bool (f1 y.val)) ∧ w4.cell? ⟨xb, 0, none⟩ = some (.bool (f0 x.val)) ∧ w4.cell? ⟨xb, 1, none⟩ = some (.bool (f1 x.val))) := fun w4 hb4 =>
          ⟨(hb4.cell hgW).trans hd0, (hb4.cell hgW).trans hd1, (hb4.cell hhW).trans hk0, (hb4.cell hhW).trans hk1, (hb4.cell hxW).trans hx0, (hb4.cell hxW).trans hx1⟩
        as_aux_lemma =>
          refine wp_region_held2 13 (fun k => Nat.beq k 5 || Nat.beq k 10 || Nat.beq k 12) (fun k => Nat.beq k 16) mixed (by kernel_rfl) (fun w4 => w4.cell? ⟨g, j * 2, none⟩ = some (.bool (f0 D.val)) ∧ w4.cell? ⟨g, j * 2 + 1, none⟩ = some (.bool (f1 D.val)) ∧ w4.cell? ⟨h, j * 2, none⟩ = some (.bool (f0 y.val)) ∧ w4.cell? ⟨h, j * 2 + 1, none⟩ = some (.bool (f1 y.val)) ∧ w4.cell? ⟨xb, 0, none⟩ = some (.bool (f0 x.val)) ∧ w4.cell? ⟨xb, 1, none⟩ = some (.bool (f1 x.val))) (KS.out _ (Below.refl _ _).drew) ?_
          simp only [List.take_succ_cons, List.take_zero, List.drop_succ_cons, List.drop_zero, tag]
          clear hd0 hd1 hk0 hk1 hx0 hx1
          repeat (first
            | (refine wpHeld_step ?_ (by rfl) (fun w4 hSw => ?_) ?_; rotate_left; (focus (obtain ⟨s1, s2, s3, s4, s5, s6⟩ := hSw; go_simp; try with_reducible rfl)); simp only [Act.put, List.setIfInBounds_toArray, List.set_cons_zero, List.set_cons_succ])
            | (refine wpHeld_pure ?_ (by rfl) (fun w4 => ?_) ?_; rotate_left; (focus (go_simp; try with_reducible rfl)); simp only [Act.put, List.setIfInBounds_toArray, List.set_cons_zero, List.set_cons_succ]))
          refine wpHeld_nil ?_
          refine wpTailE_step (fun K hK => ?_)
          go_simp
          refine (tF_any y x _).mono ?_
          rintro e w4 ⟨rfl, hb4⟩
          have hB4 : Below wr.heap.size wr w4 := (Below.refl _ _).drew.trans hb4
          dsimp only
          refine hK.out _ _ (fun _ _ => KS.out _ hB4) ?_
          clear hK K
          try simp only [Act.put, List.setIfInBounds_toArray, List.set_cons_zero, List.set_cons_succ]
          refine wpTailE_step (fun K hK => ?_)
          go_simp
          refine (pF_any D (gF.m y x) _).mono ?_
          rintro e w5 ⟨rfl, hb5⟩
          have hB5 : Below wr.heap.size wr w5 := hB4.trans (hb5.mono hB4.size)
          dsimp only
          refine hK.out _ _ (fun _ _ => KS.out _ hB5) ?_
          clear hK K hb5 hB4 hb4
          try simp only [Act.put, List.setIfInBounds_toArray, List.set_cons_zero, List.set_cons_succ]
          refine wpTailE_step (fun K hK => ?_)
          go_simp
          refine hK.out _ _ (fun _ h => h) ?_
          clear hK K
          have r5 := below_row HR.out hB5 hgW
          have z0 := r5.frozen (j * 2)
          have z1 := r5.frozen (j * 2 + 1)
          have y0 := r5.cell (show j * 2 < L * 2 by omega)
          have y1 := r5.cell (show j * 2 + 1 < L * 2 by omega)
          refine wpTailE_step (fun K hK => ?_)
          go_simp
          refine hK.out _ _ (fun h => absurd h (by decide)) ?_
          clear hK K z0 z1 y0 y1
          refine wpTailE_nil ?_
          go_wp2
          go_roundg (L - (j + 1))
          case measure => omega
          case rel =>
            refine ⟨j + 1, by omega, rfl, by go_num, ((r5.set (j * 2) _).set (j * 2 + 1) _).congr fun q _ => cF_set HN.out, ?_, ?_, ?_⟩
            · exact ((below_row HK.out hB5 hhW).setOther (a := ⟨g, j * 2, none⟩) (fun e => hgh e.symm) _).setOther (a := ⟨g, j * 2 + 1, none⟩) (fun e => hgh e.symm) _
            · exact ((below_row HXr.out hB5 hxW).setOther (a := ⟨g, j * 2, none⟩) (by show xb ≠ g; omega) _).setOther (a := ⟨g, j * 2 + 1, none⟩) (by show xb ≠ g; omega) _
            · exact ((HG.out.trans (grown_below hB5 _)).trans (grown_set rfl _)).trans (grown_set rfl _)
      · have : j = L := by omega
        subst this
        go_wp2
        go_end0
        exact ⟨rfl, hr.congr fun q hq => by unfold cF upF; rw [if_pos (by omega)], hg⟩
end Go.Proofs.Ytpocjpodeahanaa
