/- without, over the field of two: the walk. Conditions: two rows in memory of their own. -/
import Derived.Test.YtpocjpodeahanaaElB
namespace Go.Proofs.Ytpocjpodeahanaa
open Go.RowKit

set_option maxRecDepth 20000 in
set_option maxHeartbeats 800000 in
theorem woB_any (g h L c1 c2 : Nat) (f k : Nat → Fin 2) (x : Fin 2) (w : World) (hL : L ≤ 1000000000) (hgh : g ≠ h) (hf : w.rowIs g 40 L (fun j => vB (f j))) (hk : w.rowIs h 40 L (fun j => vB (k j))) :
    Calls Try.prog 112 #[.slice (some ⟨g, 0, none⟩) L c1, .slice (some ⟨h, 0, none⟩) L c2, .bool (bB x.val)] w fun e w' => e = .returned (.tuple #[]) ∧ w'.rowIs g 40 L (fun j => vB (gB.a (f j) (gB.m (k j) x))) ∧ w.grownBy w' (some g) := by
  have CZ := Lib.hid (fun w => zB_any x w)
  by_cases hx : x = gB.z
  · have t1 := zB_true hx; have t2 := nB_false hx
    have HF : Hid (w.rowIs g 40 L (fun j => vB (gB.a (f j) (gB.m (k j) x)))) := hf.congr fun j _ => by rw [hx, gB.m_z, gB.a_z]
    clear hx hf hk
    go_enter Try.func112, Try.ntmps112
    go_wp2_with (go_at_call 136; (with_reducible refine (CZ.out _).mono ?_); rintro e w4 ⟨rfl, rfl⟩)
    exact bodyPost_ret (v := .tuple #[]) (by simp [results, Try.results112, go_sem]) rfl ⟨rfl, HF.out, World.grownBy.refl _ _⟩
  · have t1 := zB_false hx; have t2 := nB_true hx
    clear hx
    go_enter Try.func112, Try.ntmps112
    go_wp2_with (go_at_call 136; (with_reducible refine (CZ.out _).mono ?_); rintro e w4 ⟨rfl, rfl⟩)
    clear t1 CZ
    go_loopg [6, 12] L (fun gk _ i wr => ∃ j : Nat, j ≤ L ∧ gk = L - j ∧ i = .int .i64 j ∧ wr.rowIs g 40 L (upto j (fun j => vB (f j)) (fun j => vB (gB.a (f j) (gB.m (k j) x)))) ∧ w.grownBy wr (some g))
    case atStart => exact ⟨0, Nat.zero_le _, rfl, rfl, hf.congr fun j _ => by simp [upto], World.grownBy.refl _ _⟩
    case round =>
      obtain ⟨j, hj, rfl, rfl, hr, hg⟩ := hrel
      by_cases hlt : j < L
      · have hl := hf.lt
        have hc1 : wr.cell? ⟨g, j, none⟩ = some (.bool (bB (f j).val)) := by rw [hr.cell hlt]; simp [upto, vB]
        have hc2 : wr.cell? ⟨h, j, none⟩ = some (.bool (bB (k j).val)) := (grown_cell (p := ⟨h, j, none⟩) hg hk.lt (by simp; exact fun e => hgh e.symm)).trans (hk.cell hlt)
        have hfz := hr.frozen j
        have HS := Lib.hid (fun v => hr.drew.set j v)
        have HG := Lib.hid (fun v => (hg.trans (grown_drew wr (some g))).trans (grown_set (w := wr.drew) (a := ⟨g, j, none⟩) rfl v))
        have HN : Hid (∀ q, (if q = j then vB (gB.a (f j) (gB.m (k j) x)) else upto j (fun j => vB (f j)) (fun j => vB (gB.a (f j) (gB.m (k j) x))) q) = upto (j + 1) (fun j => vB (f j)) (fun j => vB (gB.a (f j) (gB.m (k j) x))) q) := fun q => upto_next
        clear hr hg
        go_wp2_with fail
        generalize f j = F at *
        generalize k j = y at *
        as_aux_lemma =>
          refine wp_region_still_tail 16 mixed (by kernel_rfl) ?_
          simp only [List.take_succ_cons, List.take_zero, List.drop_succ_cons, List.drop_zero]
          repeat still_step
          have hm1 := mB_times
          refine wpStill_step (fun K hK => ?_)
          go_simp
          refine ⟨_, (tB_any y x _).mono (fun _ _ h => ⟨h.1, h.2.symm⟩), hK _ ?_⟩
          clear hK K hm1
          have hm2 := mB_plus
          refine wpStill_step (fun K hK => ?_)
          go_simp
          refine ⟨_, (pB_any F (gB.m y x) _).mono (fun _ _ h => ⟨h.1, h.2.symm⟩), hK _ ?_⟩
          clear hK K hm2
          repeat still_step
          refine wpStill_nil ?_
          change wpList _ _ _ _ _ wr.drew
          go_wp2
          go_roundg (L - (j + 1))
          case measure => omega
          case rel => exact ⟨j + 1, by omega, rfl, by go_num, (HS.out _).congr fun q _ => HN.out q, HG.out _⟩
      · have : j = L := by omega
        subst this
        go_wp2
        go_end0
        exact ⟨rfl, hr.congr fun q hq => by simp [upto, hq], hg⟩
end Go.Proofs.Ytpocjpodeahanaa
