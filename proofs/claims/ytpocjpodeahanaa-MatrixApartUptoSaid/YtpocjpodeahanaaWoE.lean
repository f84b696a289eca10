/- without, over the field of 256: the walk. Conditions: two rows in memory of their own. -/
import Derived.Test.YtpocjpodeahanaaElm
namespace Go.Proofs.Ytpocjpodeahanaa
open Go.RowKit

/-- A row that is written up to place k. -/
def upto (k : Nat) (f g : Nat → Value) (j : Nat) : Value := if j < k then g j else f j
theorem upto_next {k : Nat} {f g : Nat → Value} {j : Nat} : (if j = k then g k else upto k f g j) = upto (k + 1) f g j := by
  unfold upto
  by_cases h : j = k
  · subst h; simp
  · by_cases h2 : j < k
    · simp [h, h2, show j < k + 1 by omega]
    · simp [h, h2, show ¬ j < k + 1 by omega]
theorem grown_set {w : World} {a : Addr} {g : Nat} (h : a.block = g) (v : Value) : w.grownBy (w.setCell a v) (some g) :=
  ⟨rfl, rfl, rfl, by simp, fun k _ hk => Below.heap_setCell _ _ _ _ (fun e => hk (by rw [e, h]))⟩
theorem grown_drew (w : World) (r : Option Nat) : w.grownBy w.drew r := ⟨rfl, rfl, rfl, Nat.le_refl _, fun _ _ _ => rfl⟩
theorem grown_cell {w w' : World} {r : Option Nat} (h : w.grownBy w' r) {p : Addr} (hp : p.block < w.heap.size) (hr : some p.block ≠ r) : w'.cell? p = w.cell? p := World.cell?_of_block (h.block p.block hp hr)

set_option maxRecDepth 20000 in
set_option maxHeartbeats 800000 in
theorem woE_any (g h L c1 c2 : Nat) (f k : Nat → Fin 256) (x : Fin 256) (w : World) (hL : L ≤ 1000000000) (hgh : g ≠ h) (hf : w.rowIs g 34 L (fun j => vE (f j))) (hk : w.rowIs h 34 L (fun j => vE (k j))) :
    Calls Try.prog 111 #[.slice (some ⟨g, 0, none⟩) L c1, .slice (some ⟨h, 0, none⟩) L c2, .int .u8 (x.val : Int)] w fun e w' => e = .returned (.tuple #[]) ∧ w'.rowIs g 34 L (fun j => vE (gE.a (f j) (gE.m (k j) x))) ∧ w.grownBy w' (some g) := by
  have CZ := Lib.hid (fun w => zG_any x w)
  by_cases hx : x = gE.z
  · have t1 := zG_true hx
    have HF : Hid (w.rowIs g 34 L (fun j => vE (gE.a (f j) (gE.m (k j) x)))) := hf.congr fun j _ => by rw [hx, gE.m_z, gE.a_z]
    clear hx hf hk
    go_enter Try.func111, Try.ntmps111
    go_wp2_with (go_at_call 131; (with_reducible refine (CZ.out _).mono ?_); rintro e w4 ⟨rfl, rfl⟩)
    exact bodyPost_ret (v := .tuple #[]) (by simp [results, Try.results111, go_sem]) rfl ⟨rfl, HF.out, World.grownBy.refl _ _⟩
  · have t1 := zG_false hx
    clear hx
    go_enter Try.func111, Try.ntmps111
    go_wp2_with (go_at_call 131; (with_reducible refine (CZ.out _).mono ?_); rintro e w4 ⟨rfl, rfl⟩)
    clear t1 CZ
    go_loopg [6, 12] L (fun gk _ i wr => ∃ j : Nat, j ≤ L ∧ gk = L - j ∧ i = .int .i64 j ∧ wr.rowIs g 34 L (upto j (fun j => vE (f j)) (fun j => vE (gE.a (f j) (gE.m (k j) x)))) ∧ w.grownBy wr (some g))
    case atStart => exact ⟨0, Nat.zero_le _, rfl, rfl, hf.congr fun j _ => by simp [upto], World.grownBy.refl _ _⟩
    case round =>
      obtain ⟨j, hj, rfl, rfl, hr, hg⟩ := hrel
      by_cases hlt : j < L
      · have hl := hf.lt
        have hc1 : wr.cell? ⟨g, j, none⟩ = some (.int .u8 ((f j).val : Int)) := by rw [hr.cell hlt]; simp [upto, vE]
        have hc2 : wr.cell? ⟨h, j, none⟩ = some (.int .u8 ((k j).val : Int)) := (grown_cell (p := ⟨h, j, none⟩) hg hk.lt (by simp; exact fun e => hgh e.symm)).trans (hk.cell hlt)
        have hfz := hr.frozen j
        have HS := Lib.hid (fun v => hr.drew.set j v)
        have HG := Lib.hid (fun v => (hg.trans (grown_drew wr (some g))).trans (grown_set (w := wr.drew) (a := ⟨g, j, none⟩) rfl v))
        have HN : Hid (∀ q, (if q = j then vE (gE.a (f j) (gE.m (k j) x)) else upto j (fun j => vE (f j)) (fun j => vE (gE.a (f j) (gE.m (k j) x))) q) = upto (j + 1) (fun j => vE (f j)) (fun j => vE (gE.a (f j) (gE.m (k j) x))) q) := fun q => upto_next
        clear hr hg
        go_wp2_with fail
        generalize f j = F at *
        generalize k j = y at *
        as_aux_lemma =>
          refine wp_region_still_tail 16 mixed (by kernel_rfl) ?_
          simp only [List.take_succ_cons, List.take_zero, List.drop_succ_cons, List.drop_zero]
          repeat still_step
          have hm1 := mE_times
          refine wpStill_step (fun K hK => ?_)
          go_simp
          refine ⟨_, (tG_any y x _).mono (fun _ _ h => ⟨h.1, h.2.symm⟩), hK _ ?_⟩
          clear hK K hm1
          have hm2 := mE_plus
          refine wpStill_step (fun K hK => ?_)
          go_simp
          refine ⟨_, (pG_any F (gE.m y x) _).mono (fun _ _ h => ⟨h.1, h.2.symm⟩), hK _ ?_⟩
          clear hK K hm2
          repeat still_step
          refine wpStill_nil ?_
          change wpList _ _ _ _ _ wr.drew
          go_wp2
          go_roundg (L - (j + 1))
          case measure => omega
          case rel => exact ⟨j + 1, by omega, rfl, by go_num, (HS.out _).congr fun q _ => HN.out q, HG.out _⟩
      · have : j = L := by omega
        subst this
        go_wp2
        go_end0
        exact ⟨rfl, hr.congr fun q hq => by simp [upto, hq], hg⟩
end Go.Proofs.Ytpocjpodeahanaa
