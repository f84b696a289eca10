/- one: the walks. Conditions: matrices that memory bears. -/
import Derived.Test.YtpocjpodeahanaaTwin
namespace Go.Proofs.Ytpocjpodeahanaa
open Go.RowKit

/-- What 'one' says: a one, if there is a number that is not zero; else nothing. -/
def OneIs {α : Type} (F : Fd α) (n C : Nat) (G : Nat → Nat → α) (y : α) (b : Bool) : Prop :=
  (b = true ∧ y = F.u ∧ ∃ i j, i < n ∧ j < C ∧ G i j ≠ F.z) ∨ (b = false ∧ y = F.z ∧ ∀ i j, i < n → j < C → G i j = F.z)
set_option maxRecDepth 20000 in
set_option maxHeartbeats 1000000 in
theorem oneE_any (A : Option Addr) (n c C : Nat) (G : Nat → Nat → Fin 256) (w : World) (hn : n ≤ 1000000) (hC : C ≤ 1000000) (hA : ME w A n (fun _ => C) (fun i j => (G i j).val)) :
    Calls Try.prog 101 #[.slice A n c] w fun e w' => ∃ y b, e = .returned (.tuple #[.int .u8 ((y).val : Int), .bool b]) ∧ OneIs gE n C G y b ∧ Below w.heap.size w w' := by
  obtain ⟨SA, KA, hA1, hA2⟩ := hA
  have HU : Hid (∀ x : Fin 256, x ≠ gE.z → gE.m x (gE.v x) = gE.u) := fun x hx => gE.m_v x hx
  go_enter Try.func101, Try.ntmps101
  go_wp2
  go_loopg [13] n (fun gk i wr => wr = w ∧ ∃ k : Nat, k ≤ n ∧ gk = n - k ∧ i = .int .i64 k ∧ ∀ i j, i < k → j < C → G i j = gE.z)
  case atStart => exact ⟨rfl, 0, Nat.zero_le _, rfl, rfl, fun i j hi => absurd hi (by omega)⟩
  case round =>
    obtain ⟨rfl, k, hk, rfl, rfl, hz⟩ := hrel
    have HZ := Lib.hid hz; clear hz
    obtain ⟨wo, rfl⟩ : ∃ wo : World, wo = wr := ⟨_, rfl⟩
    by_cases hlt : k < n
    · obtain ⟨b1, o1, rfl, hb1, hx1⟩ := hA1 k hlt
      have hy1 : wo.cell? ⟨b1, o1 + k, none⟩ = some (.slice (SA k) C (KA k)) := hx1
      have hr := hA2 k hlt
      have HA1 := Lib.hid hA1; have HA2 := Lib.hid hA2
      clear hx1 hA1 hA2
      generalize SA k = Ak at *
      go_wp2
      go_loopg [19] C (fun gk i w2 => w2 = wo ∧ ∃ j : Nat, j ≤ C ∧ gk = C - j ∧ i = .int .i64 j ∧ ∀ j', j' < j → G k j' = gE.z)
      case atStart => exact ⟨rfl, 0, Nat.zero_le _, rfl, rfl, fun j hj => absurd hj (by omega)⟩
      case round =>
        obtain ⟨rfl, j, hj, rfl, rfl, hz⟩ := hrel
        have HZ2 := Lib.hid hz; clear hz
        by_cases hlj : j < C
        · obtain ⟨b3, o3, rfl, hb3, hx3⟩ := hr j hlj
          have hy3 : wr.cell? ⟨b3, o3 + j, none⟩ = some (.int .u8 ((G k j).val : Int)) := hx3
          clear hx3 hy1
          by_cases hx : G k j = gE.z
          · have t1 := zG_true hx
            have HX := Lib.hid hx; clear hx
            go_wp2_with (first
              | (go_at_call 130; (with_reducible refine (iG_any _ _).mono ?_); rintro e w4 ⟨rfl, rfl⟩)
              | (go_at_call 131; (with_reducible refine (zG_any _ _).mono ?_); rintro e w4 ⟨rfl, rfl⟩))
            go_roundg (C - (j + 1))
            case measure => omega
            case rel => exact ⟨rfl, j + 1, by omega, rfl, by go_num, fun j' h => by
              by_cases e : j' = j
              · rw [e]; exact HX.out
              · exact HZ2.out j' (by omega)⟩
          · have t1 := zG_false hx
            have HX := Lib.hid hx; clear hx
            go_wp2_with (first
              | (go_at_call 130; (with_reducible refine (iG_any _ _).mono ?_); rintro e w4 ⟨rfl, rfl⟩)
              | (go_at_call 131; (with_reducible refine (zG_any _ _).mono ?_); rintro e w4 ⟨rfl, rfl⟩)
              | (go_at_call 133; (with_reducible refine (tG_any _ _ _).mono ?_); rintro e w4 ⟨rfl, rfl⟩))
            go_ret2
            exact ⟨gE.m (G k j) (gE.v (G k j)), true, rfl, .inl ⟨rfl, HU.out _ HX.out, k, j, hlt, hlj, HX.out⟩, Below.refl _ _⟩
        · have : j = C := by omega
          subst this
          go_wp2
          go_roundg (n - (k + 1))
          case measure => omega
          case rel => exact ⟨rfl, k + 1, by omega, rfl, by go_num, fun i j' hi hj' => by
            by_cases e : i = k
            · rw [e]; exact HZ2.out j' hj'
            · exact HZ.out i j' (by omega) hj'⟩
    · have : k = n := by omega
      subst this
      go_wp2
      go_ret2
      exact ⟨gE.z, false, rfl, .inr ⟨rfl, rfl, HZ.out⟩, Below.refl _ _⟩
set_option maxRecDepth 20000 in
set_option maxHeartbeats 1000000 in
theorem oneB_any (A : Option Addr) (n c C : Nat) (G : Nat → Nat → Fin 2) (w : World) (hn : n ≤ 1000000) (hC : C ≤ 1000000) (hA : MB w A n (fun _ => C) (fun i j => (G i j).val)) :
    Calls Try.prog 102 #[.slice A n c] w fun e w' => ∃ y b, e = .returned (.tuple #[.bool (bB (y).val), .bool b]) ∧ OneIs gB n C G y b ∧ Below w.heap.size w w' := by
  obtain ⟨SA, KA, hA1, hA2⟩ := hA
  have HU : Hid (∀ x : Fin 2, x ≠ gB.z → gB.m x (gB.v x) = gB.u) := fun x hx => gB.m_v x hx
  go_enter Try.func102, Try.ntmps102
  go_wp2
  go_loopg [13] n (fun gk i wr => wr = w ∧ ∃ k : Nat, k ≤ n ∧ gk = n - k ∧ i = .int .i64 k ∧ ∀ i j, i < k → j < C → G i j = gB.z)
  case atStart => exact ⟨rfl, 0, Nat.zero_le _, rfl, rfl, fun i j hi => absurd hi (by omega)⟩
  case round =>
    obtain ⟨rfl, k, hk, rfl, rfl, hz⟩ := hrel
    have HZ := Lib.hid hz; clear hz
    obtain ⟨wo, rfl⟩ : ∃ wo : World, wo = wr := ⟨_, rfl⟩
    by_cases hlt : k < n
    · obtain ⟨b1, o1, rfl, hb1, hx1⟩ := hA1 k hlt
      have hy1 : wo.cell? ⟨b1, o1 + k, none⟩ = some (.slice (SA k) C (KA k)) := hx1
      have hr := hA2 k hlt
      have HA1 := Lib.hid hA1; have HA2 := Lib.hid hA2
      clear hx1 hA1 hA2
      generalize SA k = Ak at *
      go_wp2
      go_loopg [19] C (fun gk i w2 => w2 = wo ∧ ∃ j : Nat, j ≤ C ∧ gk = C - j ∧ i = .int .i64 j ∧ ∀ j', j' < j → G k j' = gB.z)
      case atStart => exact ⟨rfl, 0, Nat.zero_le _, rfl, rfl, fun j hj => absurd hj (by omega)⟩
      case round =>
        obtain ⟨rfl, j, hj, rfl, rfl, hz⟩ := hrel
        have HZ2 := Lib.hid hz; clear hz
        by_cases hlj : j < C
        · obtain ⟨b3, o3, rfl, hb3, hx3⟩ := hr j hlj
          have hy3 : wr.cell? ⟨b3, o3 + j, none⟩ = some (.bool (bB (G k j).val)) := hx3
          clear hx3 hy1
          by_cases hx : G k j = gB.z
          · have t1 := zB_true hx; have t2 := nB_false hx
            have HX := Lib.hid hx; clear hx
            go_wp2_with (first
              | (go_at_call 135; (with_reducible refine (iB_any _ _).mono ?_); rintro e w4 ⟨rfl, rfl⟩)
              | (go_at_call 136; (with_reducible refine (zB_any _ _).mono ?_); rintro e w4 ⟨rfl, rfl⟩))
            go_roundg (C - (j + 1))
            case measure => omega
            case rel => exact ⟨rfl, j + 1, by omega, rfl, by go_num, fun j' h => by
              by_cases e : j' = j
              · rw [e]; exact HX.out
              · exact HZ2.out j' (by omega)⟩
          · have t1 := zB_false hx; have t2 := nB_true hx
            have HX := Lib.hid hx; clear hx
            go_wp2_with (first
              | (go_at_call 135; (with_reducible refine (iB_any _ _).mono ?_); rintro e w4 ⟨rfl, rfl⟩)
              | (go_at_call 136; (with_reducible refine (zB_any _ _).mono ?_); rintro e w4 ⟨rfl, rfl⟩)
              | (go_at_call 138; (with_reducible refine (tB_any _ _ _).mono ?_); rintro e w4 ⟨rfl, rfl⟩))
            go_ret2
            exact ⟨gB.m (G k j) (gB.v (G k j)), true, rfl, .inl ⟨rfl, HU.out _ HX.out, k, j, hlt, hlj, HX.out⟩, Below.refl _ _⟩
        · have : j = C := by omega
          subst this
          go_wp2
          go_roundg (n - (k + 1))
          case measure => omega
          case rel => exact ⟨rfl, k + 1, by omega, rfl, by go_num, fun i j' hi hj' => by
            by_cases e : i = k
            · rw [e]; exact HZ2.out j' hj'
            · exact HZ.out i j' (by omega) hj'⟩
    · have : k = n := by omega
      subst this
      go_wp2
      go_ret2
      exact ⟨gB.z, false, rfl, .inr ⟨rfl, rfl, HZ.out⟩, Below.refl _ _⟩
set_option maxRecDepth 20000 in
set_option maxHeartbeats 2000000 in
theorem oneF_any (A : Option Addr) (n c C : Nat) (G : Nat → Nat → Fin 4) (w : World) (hn : n ≤ 1000000) (hC : C ≤ 1000000) (hA : MF w A n (fun _ => C) (fun i j => (G i j).val)) :
    Calls Try.prog 103 #[.slice A n c] w fun e w' => ∃ y b, e = .returned (.tuple #[.agg #[.bool (f0 (y : Fin 4).val), .bool (f1 y.val)], .bool b]) ∧ OneIs gF n C G y b ∧ Below w.heap.size w w' := by
  obtain ⟨SA, KA, hA1, hA2⟩ := hA
  have HU : Hid (∀ x : Fin 4, x ≠ gF.z → gF.m x (gF.v x) = gF.u) := fun x hx => gF.m_v x hx
  have HA1 := Lib.hid hA1; have HA2 := Lib.hid hA2
  clear hA1 hA2
  have HB0 := Lib.hid ((Below.refl w.heap.size w).alloc (Nat.le_refl _) (.cells #[.bool false, .bool false] 47))
  have HQ0 : Hid ((w.alloc (.cells #[.bool false, .bool false] 47)).rowIs w.heap.size 47 2 (fun _ => .bool false)) := World.rowIs_alloc w #[.bool false, .bool false] 47 _ (by intro i hi; match i, hi with | 0, _ => rfl | 1, _ => rfl)
  go_enter Try.func103, Try.ntmps103
  go_wp2
  go_loopg [13] n (fun gk i wr => ∃ k : Nat, k ≤ n ∧ gk = n - k ∧ i = .int .i64 k ∧ Below w.heap.size w wr ∧ wr.rowIs w.heap.size 47 2 (fun _ => .bool false) ∧ ∀ i j, i < k → j < C → G i j = gF.z)
  case atStart => exact ⟨0, Nat.zero_le _, rfl, rfl, HB0.out, HQ0.out, fun i j hi => absurd hi (by omega)⟩
  case round =>
    obtain ⟨k, hk, rfl, rfl, hbel, hq, hz⟩ := hrel
    have HZ := Lib.hid hz; clear hz
    by_cases hlt : k < n
    · obtain ⟨b1, o1, rfl, hb1, hx1⟩ := HA1.out k hlt
      have hy1 : wr.cell? ⟨b1, o1 + k, none⟩ = some (.slice (SA k) C (KA k)) := (hbel.cell hb1).trans hx1
      clear hx1
      have HR := Lib.hid (HA2.out k hlt)
      go_wp2
      generalize SA k = Ak at *
      go_loopg [19] C (fun gk i w2 => ∃ j : Nat, j ≤ C ∧ gk = C - j ∧ i = .int .i64 j ∧ Below w.heap.size w w2 ∧ w2.rowIs w.heap.size 47 2 (fun _ => .bool false) ∧ ∀ j', j' < j → G k j' = gF.z)
      case atStart => exact ⟨0, Nat.zero_le _, rfl, rfl, hbel, hq, fun j hj => absurd hj (by omega)⟩
      case round =>
        clear hbel hq hy1
        obtain ⟨j, hj, rfl, rfl, hbel, hq, hz⟩ := hrel
        have HZ2 := Lib.hid hz; clear hz
        have hsz := hbel.size
        by_cases hlj : j < C
        · obtain ⟨b3, o3, rfl, hb3, hx3, hx4⟩ := HR.out j hlj
          have hy3 : wr.cell? ⟨b3, o3 + j * 2, none⟩ = some (.bool (f0 (G k j).val)) := (hbel.cell hb3).trans hx3
          have hy4 : wr.cell? ⟨b3, o3 + j * 2 + 1, none⟩ = some (.bool (f1 (G k j).val)) := (hbel.cell hb3).trans hx4
          have HBA := Lib.hid (hbel.alloc hsz (.cells #[.bool (f0 (G k j).val), .bool (f1 (G k j).val)] 47))
          have HXA := Lib.hid (pcell_row wr (G k j).val 47)
          have HQA := Lib.hid (below_row hq ((Below.refl wr.heap.size wr).alloc (Nat.le_refl _) (.cells #[.bool (f0 (G k j).val), .bool (f1 (G k j).val)] 47)) hq.lt)
          clear hx3 hx4 hbel hq
          go_wp2_with fail
          clear hy3 hy4
          generalize wr.alloc (.cells #[.bool (f0 (G k j).val), .bool (f1 (G k j).val)] 47) = W1 at *
          have hx0 : W1.cell? ⟨wr.heap.size, 0, none⟩ = some (.bool (f0 (G k j).val)) := HXA.out.cell (show 0 < 2 by omega)
          have hx1 : W1.cell? ⟨wr.heap.size, 1, none⟩ = some (.bool (f1 (G k j).val)) := HXA.out.cell (show 1 < 2 by omega)
          try go_wp2_with fail
          refine (iF_any (G k j) _).mono ?_
          rintro e w4 ⟨rfl, hb4⟩
          have HB5 := Lib.hid ((HBA.out.trans (hb4.mono HBA.out.size)).alloc (HBA.out.trans (hb4.mono HBA.out.size)).size (.cells #[.bool (f0 (gF.v (G k j)).val), .bool (f1 (gF.v (G k j)).val)] 47))
          have hbx := hb4.alloc hb4.size (.cells #[.bool (f0 (gF.v (G k j)).val), .bool (f1 (gF.v (G k j)).val)] 47)
          have HX5 := Lib.hid (below_row HXA.out hbx HXA.out.lt)
          have HQ5 := Lib.hid (below_row HQA.out hbx HQA.out.lt)
          have HO5 := Lib.hid (pcell_row w4 (gF.v (G k j)).val 47)
          clear hx0 hx1 hbx hb4 HBA HXA HQA
          have hx0 : (w4.alloc (.cells #[.bool (f0 (gF.v (G k j)).val), .bool (f1 (gF.v (G k j)).val)] 47)).cell? ⟨wr.heap.size, 0, none⟩ = some (.bool (f0 (G k j).val)) := HX5.out.cell (show 0 < 2 by omega)
          have hx1 : (w4.alloc (.cells #[.bool (f0 (gF.v (G k j)).val), .bool (f1 (gF.v (G k j)).val)] 47)).cell? ⟨wr.heap.size, 1, none⟩ = some (.bool (f1 (G k j).val)) := HX5.out.cell (show 1 < 2 by omega)
          by_cases hx : G k j = gF.z
          · have t1 := zF_true hx; have t2 := nF_false hx
            have HX := Lib.hid hx; clear hx
            go_wp2_with (go_at_call 140; (with_reducible refine (zF_any _ _).mono ?_); rintro e w5 ⟨rfl, hb5⟩)
            go_roundg (C - (j + 1))
            case measure => omega
            case rel => exact ⟨j + 1, by omega, rfl, by go_num, HB5.out, HQ5.out, fun j' h => by
              by_cases e : j' = j
              · rw [e]; exact HX.out
              · exact HZ2.out j' (by omega)⟩
          · have t1 := zF_false hx; have t2 := nF_true hx
            have HX := Lib.hid hx; clear hx
            go_wp2_with (go_at_call 140; (with_reducible refine (zF_any _ _).mono ?_); rintro e w5 ⟨rfl, hb5⟩; have r5 := below_row HX5.out hb5 HX5.out.lt; have q5 := below_row HO5.out hb5 HO5.out.lt; have y0 : w5.cell? ⟨wr.heap.size, 0, none⟩ = some (.bool (f0 (G k j).val)) := r5.cell (show 0 < 2 by omega); have y1 : w5.cell? ⟨wr.heap.size, 1, none⟩ = some (.bool (f1 (G k j).val)) := r5.cell (show 1 < 2 by omega); have z0 : w5.cell? ⟨w4.heap.size, 0, none⟩ = some (.bool (f0 (gF.v (G k j)).val)) := q5.cell (show 0 < 2 by omega); have z1 : w5.cell? ⟨w4.heap.size, 1, none⟩ = some (.bool (f1 (gF.v (G k j)).val)) := q5.cell (show 1 < 2 by omega))
            refine (tF_any (G k j) (gF.v (G k j)) _).mono ?_
            rintro e w6 ⟨rfl, hb6⟩
            have hq6 := below_row (below_row HQ5.out hb5 HQ5.out.lt) hb6 (below_row HQ5.out hb5 HQ5.out.lt).lt
            have u0 := hq6.cell (show 0 < 2 by omega)
            have u1 := hq6.cell (show 1 < 2 by omega)
            have v0 := hq6.frozen 0
            have v1 := hq6.frozen 1
            have hB6 : Below w.heap.size w w6 := (HB5.out.trans (hb5.mono HB5.out.size)).trans (hb6.mono (Nat.le_trans HB5.out.size hb5.size))
            clear y0 y1 z0 z1 r5 q5 hb6 hq6
            go_wp2
            refine bodyPost_ret (v := .tuple #[.agg #[.bool (f0 (gF.m (G k j) (gF.v (G k j))).val), .bool (f1 (gF.m (G k j) (gF.v (G k j))).val)], .bool true]) (by simp [results, Try.results103, go_sem, u0, u1]) rfl ⟨_, true, rfl, .inl ⟨rfl, HU.out _ HX.out, k, j, hlt, hlj, HX.out⟩, (hB6.setCell (Nat.le_refl _) _).setCell (Nat.le_refl _) _⟩
        · have : j = C := by omega
          subst this
          go_wp2
          go_roundg (n - (k + 1))
          case measure => omega
          case rel => exact ⟨k + 1, by omega, rfl, by go_num, hbel, hq, fun i j' hi hj' => by
            by_cases e : i = k
            · rw [e]; exact HZ2.out j' hj'
            · exact HZ.out i j' (by omega) hj'⟩
    · have : k = n := by omega
      subst this
      have u0 := hq.cell (show 0 < 2 by omega)
      have u1 := hq.cell (show 1 < 2 by omega)
      have v0 := hq.frozen 0
      have v1 := hq.frozen 1
      have hlq := hq.lt
      have HBE := Lib.hid hbel
      have hW : ∀ i, (((wr.setCell ⟨w.heap.size, 0, none⟩ (.bool false)).setCell ⟨w.heap.size, 1, none⟩ (.bool false)).alloc (.cells #[.bool false, .bool false] 47)).cell? ⟨w.heap.size, i, none⟩ = ((wr.setCell ⟨w.heap.size, 0, none⟩ (.bool false)).setCell ⟨w.heap.size, 1, none⟩ (.bool false)).cell? ⟨w.heap.size, i, none⟩ := fun i => ((Below.refl _ _).alloc (Nat.le_refl _) _).cell (by show w.heap.size < _; simpa using hlq)
      have h0 : (((wr.setCell ⟨w.heap.size, 0, none⟩ (.bool false)).setCell ⟨w.heap.size, 1, none⟩ (.bool false)).alloc (.cells #[.bool false, .bool false] 47)).cell? ⟨w.heap.size, 0, none⟩ = some (.bool false) := by rw [hW]; go_simp
      have h1 : (((wr.setCell ⟨w.heap.size, 0, none⟩ (.bool false)).setCell ⟨w.heap.size, 1, none⟩ (.bool false)).alloc (.cells #[.bool false, .bool false] 47)).cell? ⟨w.heap.size, 1, none⟩ = some (.bool false) := by rw [hW]; go_simp
      have H0 := Lib.hid h0; have H1 := Lib.hid h1
      clear hbel hq hW h0 h1
      go_wp2
      have h0 := H0.out
      have h1 := H1.out
      refine bodyPost_ret (v := .tuple #[.agg #[.bool (f0 (gF.z).val), .bool (f1 (gF.z).val)], .bool false]) (by simp [results, Try.results103, go_sem, h0, h1, show f0 (gF.z).val = false from rfl, show f1 (gF.z).val = false from rfl]) rfl ⟨gF.z, false, rfl, .inr ⟨rfl, rfl, HZ.out⟩, ?_⟩
      exact (((HBE.out.setCell (p := ⟨w.heap.size, 0, none⟩) (Nat.le_refl _) _).setCell (p := ⟨w.heap.size, 1, none⟩) (Nat.le_refl _) _)).alloc (by simpa using HBE.out.size) _
end Go.Proofs.Ytpocjpodeahanaa
