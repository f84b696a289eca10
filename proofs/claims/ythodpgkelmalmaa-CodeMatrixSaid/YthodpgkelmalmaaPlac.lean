/- places of the law's page: the walk; how many places. Conditions: small numbers. -/
import Derived.Test.YthodpgkelmalmaaFit
namespace Go.Proofs.Ythodpgkelmalmaa
open Go.RowKit

theorem boolInfo : (Try.prog.info? 4).map (fun i => (i.zero, i.size, i.bytes)) = some (some (.bool false), 1, 1) := by kernel_rfl
theorem cntB_zero : ∀ n, cntB (fun _ => false) n = 0
  | 0 => rfl
  | n + 1 => by unfold cntB; rw [cntB_zero n]; rfl
theorem cntB_put (P : Nat → Bool) (q : Nat) : ∀ n, cntB (fun j => if j = q then true else P j) n ≤ cntB P n + 1 ∧ (n ≤ q → cntB (fun j => if j = q then true else P j) n = cntB P n)
  | 0 => ⟨by show 0 ≤ 0 + 1; omega, fun _ => rfl⟩
  | n + 1 => by
    obtain ⟨h1, h2⟩ := cntB_put P q n
    unfold cntB
    by_cases e : n = q
    · have := h2 (by omega)
      refine ⟨?_, fun h => by omega⟩
      rw [this]; simp only [e, if_true]; split <;> omega
    · refine ⟨?_, fun h => ?_⟩
      · simp only [e, if_false]; split <;> omega
      · rw [h2 (by omega)]; simp only [e, if_false]
set_option maxRecDepth 20000 in
set_option maxHeartbeats 1000000 in
theorem places_any (A : Option Addr) (np cp n most : Nat) (pi : Nat → Int) (w : World) (hn : 0 < n) (hn2 : n ≤ 1000) (hm : most ≤ 1000) (_hnp : np * 8 ≤ 140737488351232) (hA : Rd w A np fun i => .int .i64 (pi i)) :
    Calls Try.prog 39 #[.slice A np cp, .int .i64 n, .int .i64 most] w fun e w' => ∃ (b : Nat) (P : Nat → Bool), e = .returned (.slice (some ⟨b, 0, none⟩) n n) ∧ w'.rowIs b 4 n (fun i => .bool (P i)) ∧ cntB P n ≤ most ∧ w.heap.size ≤ b ∧ Below w.heap.size w w' := by
  have hmk := run_make_row' (P := Try.prog) 61 4 (.bool false) 1 Try.underlying61 boolInfo rfl .i64 .i64 n (by omega) (by omega)
  have HA := Lib.hid hA; clear hA
  have hz0 := Lib.hid (World.rowIs_made w (.bool false) n 4)
  have hb0 := Lib.hid ((Below.refl w.heap.size w).alloc (Nat.le_refl _) (.cells (madeCells #[.bool false] n) 4))
  obtain ⟨rb, hrb⟩ : ∃ rb, rb = w.heap.size := ⟨_, rfl⟩
  go_enter Try.func39, Try.ntmps39
  go_wp2
  clear hmk
  rw [← hrb] at hz0 hb0
  have HRB := Lib.hid hrb
  rw [← hrb]
  clear hrb
  go_loopg [8] np (fun gk i wr => ∃ (q : Nat) (P : Nat → Bool), q ≤ np ∧ q ≤ most ∧ gk = np - q ∧ i = .int .i64 q ∧ wr.rowIs rb 4 n (fun i => .bool (P i)) ∧ cntB P n ≤ q ∧ Below rb w wr)
  case atStart => exact ⟨0, fun _ => false, Nat.zero_le _, Nat.zero_le _, rfl, rfl, hz0.out, by rw [cntB_zero]; exact Nat.le_refl _, hb0.out⟩
  case round =>
    clear hz0 hb0
    obtain ⟨q, P, hq, hqm, rfl, rfl, hR, hcnt, hB⟩ := hrel
    have HR := Lib.hid hR; have HB := Lib.hid hB; have HC := Lib.hid hcnt
    clear hR hB hcnt
    by_cases hlt : q < np ∧ q < most
    · obtain ⟨hlt, hlm⟩ := hlt
      obtain ⟨b, o, rfl, hb, hc⟩ := HA.out q hlt
      have hc' : wr.cell? ⟨b, o + q, none⟩ = some (.int .i64 (pi q)) := by
        have h := HB.out
        rw [HRB.out] at h
        exact (h.cell hb).trans hc
      have hpl := pickN_lt (k := pi q) hn
      clear hc
      go_wp2_with fail
      refine (pick_any (pi q) n wr hn (by omega)).mono ?_
      rintro e w1 ⟨rfl, rfl⟩
      generalize pickN (pi q) n = j at *
      have hfz := HR.out.frozen j
      have HS := Lib.hid ((HR.out.set j (.bool true)).congr (g := fun i => .bool (if i = j then true else P i)) fun i _ => by by_cases e : i = j <;> simp [e])
      have HC2 : Hid (cntB (fun i => if i = j then true else P i) n ≤ q + 1) := by have := (cntB_put P j n).1; have := HC.out; show _ ≤ _; omega
      have HB2 : Hid (Below rb w (wr.setCell ⟨rb, j, none⟩ (.bool true))) := HB.out.setCell (Nat.le_refl _) _
      have hst := HR.out.cell hpl
      clear HR HB HC
      go_wp2
      go_roundg (np - (q + 1))
      case measure => omega
      case rel => exact ⟨q + 1, _, by omega, by omega, rfl, by go_num, HS.out, HC2.out, HB2.out⟩
    · have hcases : ¬ q < np ∨ (q < np ∧ ¬ q < most) := by omega
      have HF : Hid (cntB P n ≤ most) := Nat.le_trans HC.out hqm
      have HBF : Hid (Below w.heap.size w wr) := by have h := HB.out; rw [HRB.out] at h; exact h
      have HLE : Hid (w.heap.size ≤ rb) := by rw [HRB.out]; exact Nat.le_refl _
      clear hlt
      rcases hcases with hc | ⟨hc1, hc2⟩
      all_goals
        go_wp2
        go_ret
        exact ⟨rb, P, rfl, HR.out, HF.out, HLE.out, HBF.out⟩
end Go.Proofs.Ythodpgkelmalmaa
