/- Over, weights, New of the program's code: the walks. Conditions: numbers that make a code. -/
import Derived.Test.YtjaaldandgfkgaaREnp
import Derived.Test.YtjaaldandgfkgaaBasE
namespace Go.Proofs.Ytjaaldandgfkgaa
open Go.RowKit

theorem over_any (x y : Fin 256) (w : World) :
    Calls Try.prog 105 #[.int .u8 (x.val : Int), .int .u8 (y.val : Int)] w fun e w' => ∃ er : Int, e = .returned (.tuple #[.int .u8 ((gE.m x (gE.v y)).val : Int), .int .i64 er]) ∧ w = w' := by
  have CI := Lib.hid (fun w => iG_any y w)
  have CT := Lib.hid (fun w => tG_any x (gE.v y) w)
  by_cases h0 : y = gE.z
  · have t1 : ((y.val : Int) == 0) = true := by rw [h0]; rfl
    have HZ : Hid ((gE.m x (gE.v y)).val = 0) := by rw [h0, gE.v_z, gE.m_z]; rfl
    rw [HZ.out]
    clear h0
    go_enter Try.func105, Try.ntmps105
    go_wp2_with fail
    refine (CI.out _).mono ?_
    rintro e w1 ⟨rfl, rfl⟩
    go_wp2
    go_ret2
    exact ⟨10, rfl, rfl⟩
  · have t1 : ((y.val : Int) == 0) = false := by
      rw [beq_eq_false_iff_ne]; intro e; exact h0 (Fin.ext (by show y.val = 0; omega))
    clear h0
    go_enter Try.func105, Try.ntmps105
    go_wp2_with fail
    refine (CI.out _).mono ?_
    rintro e w1 ⟨rfl, rfl⟩
    go_wp2_with fail
    refine (CT.out _).mono ?_
    rintro e w1 ⟨rfl, rfl⟩
    go_wp2
    go_ret2
    exact ⟨0, rfl, rfl⟩
theorem xor_nat_el {a b : Nat} (ha : a < 256) (hb : b < 256) : bits .xor .i64 (a : Int) (b : Int) = (((gE.a (el a) (el b)).val : Nat) : Int) := by
  have h := xor_el (el a) (el b)
  rw [el_val ha, el_val hb] at h
  exact h
set_option maxRecDepth 20000 in
set_option maxHeartbeats 2000000 in
theorem wts_any (k x : Nat) (w : World) (hk : k ≤ 256) (hx : x < 256) :
    Calls Try.prog 84 #[.int .i64 k, .int .i64 x] w fun e w' => e = .returned (.slice (some ⟨w.heap.size, 0, none⟩) k k) ∧ w'.rowIs w.heap.size 127 k (fun j => .int .u8 ((gE.wP el k (el x) j).val : Int)) ∧ Below w.heap.size w w' := by
  have hmk := run_make_row' (P := Try.prog) 128 127 (.int .u8 0) 1 Try.underlying128 elemInfo rfl .i64 .i64 k (by omega) (by omega)
  have HMK := Lib.hid hmk; clear hmk
  have HZ := Lib.hid ((World.rowIs_made w (.int .u8 0) k 127).congr (g := fun j => .int .u8 ((if j < 0 then gE.wP el k (el x) j else gE.z).val : Int)) fun j _ => by rw [if_neg (by omega)]; rfl)
  have HBZ := Lib.hid ((Below.refl w.heap.size w).alloc (Nat.le_refl _) (.cells (madeCells #[.int .u8 0] k) 127))
  have CT := Lib.hid (fun (a b : Fin 256) w => tG_any a b w)
  go_enter Try.func84, Try.ntmps84
  go_wp2
  go_loopg [5, 6, 12] k (fun gk a _ i wr => wr = w ∧ ∃ t : Nat, t ≤ k ∧ gk = k - t ∧ i = .int .i64 t ∧ a = .int .u8 ((gE.pd t (fun i => gE.a (el x) (el i))).val : Int))
  case atStart => exact ⟨rfl, 0, Nat.zero_le _, rfl, rfl, rfl⟩
  case round =>
    obtain ⟨rfl, t, ht, rfl, rfl, rfl⟩ := hrel
    by_cases hlt : t < k
    · have hX := xor_nat_el hx (show t < 256 by omega)
      have hU := u8_el (gE.a (el x) (el t))
      go_wp2_with fail
      refine (CT.out _ (gE.a (el x) (el t)) _).mono ?_
      rintro e w1 ⟨rfl, rfl⟩
      go_wp2
      go_roundg (k - (t + 1))
      case measure => omega
      case rel => exact ⟨rfl, t + 1, by omega, rfl, by go_num, rfl⟩
    · have htk : t = k := by omega
      subst t
      have hmk := HMK.out
      go_wp2
      clear hmk
      obtain ⟨wo, rfl⟩ : ∃ wo : World, wo = wr := ⟨_, rfl⟩
      go_loopg [8, 25] k (fun gk _ i wr => ∃ j : Nat, j ≤ k ∧ gk = k - j ∧ i = .int .i64 j ∧ wr.rowIs wo.heap.size 127 k (fun i => .int .u8 ((if i < j then gE.wP el k (el x) i else gE.z).val : Int)) ∧ Below wo.heap.size wo wr)
      case atStart => exact ⟨0, Nat.zero_le _, rfl, rfl, HZ.out, HBZ.out⟩
      case round =>
        clear HZ HBZ
        obtain ⟨j, hj, rfl, rfl, hQ, hb⟩ := hrel
        have HQ := Lib.hid hQ; have HB := Lib.hid hb
        clear hQ hb
        by_cases hlj : j < k
        · have hX := xor_nat_el hx (show j < 256 by omega)
          have hU := u8_el (gE.a (el x) (el j))
          go_wp2
          clear hX hU
          obtain ⟨wj, rfl⟩ : ∃ wj : World, wj = wr := ⟨_, rfl⟩
          go_loopg [9, 10, 33] k (fun gk u _ i w2 => w2 = wj ∧ ∃ t : Nat, t ≤ k ∧ gk = k - t ∧ i = .int .i64 t ∧ u = .int .u8 ((gE.skp (gE.a (el x) (el j)) j t (fun i => gE.a (el i) (el j))).val : Int))
          case atStart => exact ⟨rfl, 0, Nat.zero_le _, rfl, rfl, rfl⟩
          case round =>
            obtain ⟨rfl, t, ht, rfl, rfl, rfl⟩ := hrel
            by_cases hlt2 : t < k
            · by_cases htj : t = j
              · subst htj
                have HU : Hid (∀ f : Nat → Fin 256, gE.skp (gE.a (el x) (el t)) t (t + 1) f = gE.skp (gE.a (el x) (el t)) t t f) := fun f => by show (if t = t then _ else _) = _; rw [if_pos rfl]
                go_wp2
                go_roundg (k - (t + 1))
                case measure => omega
                case rel => exact ⟨rfl, t + 1, by omega, rfl, by go_num, by rw [HU.out]⟩
              · have htj' : ((t : Int) != (j : Int)) = true := by rw [bne_iff_ne]; omega
                have HU : Hid (∀ f : Nat → Fin 256, gE.skp (gE.a (el x) (el j)) j (t + 1) f = gE.m (gE.skp (gE.a (el x) (el j)) j t f) (f t)) := fun f => by show (if t = j then _ else _) = _; rw [if_neg htj]
                have hX := xor_nat_el (show t < 256 by omega) (show j < 256 by omega)
                have hU := u8_el (gE.a (el t) (el j))
                clear htj
                go_wp2_with fail
                refine (CT.out _ (gE.a (el t) (el j)) _).mono ?_
                rintro e w1 ⟨rfl, rfl⟩
                go_wp2
                go_roundg (k - (t + 1))
                case measure => omega
                case rel => exact ⟨rfl, t + 1, by omega, rfl, by go_num, by rw [HU.out]⟩
            · have htk : t = k := by omega
              subst t
              have hQ := HQ.out
              have hcl := hQ.cell hlj
              have hfz := hQ.frozen j
              have e0 : (if j < j then gE.wP el k (el x) j else gE.z) = gE.z := if_neg (by omega)
              rw [e0] at hcl
              have HW : Hid (gE.m (gE.pd k (fun i => gE.a (el x) (el i))) (gE.v (gE.skp (gE.a (el x) (el j)) j k (fun i => gE.a (el i) (el j)))) = gE.wP el k (el x) j) := rfl
              have HQ3 := Lib.hid ((hQ.set j (.int .u8 ((gE.wP el k (el x) j).val : Int))).congr (g := fun i => .int .u8 ((if i < j + 1 then gE.wP el k (el x) i else gE.z).val : Int)) fun i _ => by
                by_cases e : i = j
                · subst e; rw [if_pos rfl, if_pos (by omega)]
                · rw [if_neg e]
                  by_cases e2 : i < j
                  · rw [if_pos e2, if_pos (by omega)]
                  · rw [if_neg e2, if_neg (by omega)])
              have HB3 := Lib.hid (HB.out.setCell (p := ⟨wo.heap.size, j, none⟩) (Nat.le_refl _) (.int .u8 ((gE.wP el k (el x) j).val : Int)))
              clear hQ e0
              go_wp2_with fail
              refine (over_any _ _ _).mono ?_
              rintro e w5 ⟨er, rfl, rfl⟩
              rw [HW.out]
              go_wp2
              go_roundg (k - (j + 1))
              case measure => omega
              case rel => exact ⟨j + 1, by omega, rfl, by go_num, HQ3.out, HB3.out⟩
        · have hjk : j = k := by omega
          subst j
          have HQ2 := Lib.hid (HQ.out.congr (g := fun i => .int .u8 ((gE.wP el k (el x) i).val : Int)) fun i hi => by rw [if_pos hi])
          clear HQ
          go_wp2
          go_ret
          exact ⟨rfl, HQ2.out, HB.out⟩

/-- A code in memory. -/
structure CodeAt (w : World) (p k n : Nat) : Prop where
  lt : p < w.heap.size
  ck : w.cell? ⟨p, 0, none⟩ = some (.int .i64 k)
  cn : w.cell? ⟨p, 1, none⟩ = some (.int .i64 n)
  cr : ∃ A c, w.cell? ⟨p, 2, none⟩ = some (.slice A n c) ∧ ME w A n (fun _ => k) (fun i j => (gE.cM el k i j).val)
theorem CodeAt.below {w w' : World} {p k n : Nat} (h : CodeAt w p k n) (hb : Below w.heap.size w w') : CodeAt w' p k n := by
  obtain ⟨h1, h2, h3, A, c, h4, h5⟩ := h
  exact ⟨Nat.lt_of_lt_of_le h1 hb.size, (hb.cell h1).trans h2, (hb.cell h1).trans h3, A, c, (hb.cell h1).trans h4, ME.below h5 hb⟩
theorem rowsEInfo : (Try.prog.info? 128).map (fun i => (i.zero, i.size, i.bytes)) = some (some (.slice none 0 0), 1, 24) := by kernel_rfl
set_option maxRecDepth 20000 in
set_option maxHeartbeats 2000000 in
theorem new_ok (k m : Nat) (w : World) (h1 : 1 ≤ m) (h2 : m ≤ k) (h3 : k ≤ 254) (h4 : k + m ≤ 255) :
    Calls Try.prog 54 #[.int .i64 k, .int .i64 m] w fun e w' => ∃ p, e = .returned (.tuple #[.pointer (some ⟨p, 0, none⟩), .int .i64 0]) ∧ CodeAt w' p k (k + m) ∧ w.heap.size ≤ p ∧ Below w.heap.size w w' := by
  have hs : IntKind.i64.wrap (255 - (k : Int)) = 255 - (k : Int) := i64_small _ (by omega) (by omega)
  have hs2 : IntKind.i64.wrap ((k : Int) + (m : Int)) = (k : Int) + (m : Int) := i64_small _ (by omega) (by omega)
  go_enter Try.func54, Try.ntmps54
  go_wp2_with fail
  refine (identE k 1 w (by omega)).mono ?_
  rintro e w1 ⟨b, S, rfl, hM, hb1⟩
  have hO0 : OwnM w1 w.heap.size 128 127 (.slice (some ⟨b, 0, none⟩) k k) k (fun i => some ⟨S i, 0, none⟩) (fun _ => k) (fun _ => k) (fun i j => .int .u8 ((gE.cM el k i j).val : Int)) :=
    ⟨own_of_row hM.top hM.lob (by unfold maxLen; omega), fun i hi => own_of_row ((hM.row i hi).congr (g := fun j => .int .u8 ((gE.cM el k i j).val : Int)) fun j hj => by
      show (if i = j then Value.int .u8 1 else .int .u8 0) = Value.int .u8 ((gE.cM el k i j).val : Int)
      unfold Fd.cM Fd.idm
      rw [if_pos hi]
      by_cases e : i = j
      · rw [if_pos e, if_pos e]; rfl
      · rw [if_neg e, if_neg e]; rfl) (hM.los i hi) (by unfold maxLen; exact Nat.le_trans (show k ≤ 1000 by omega) (by decide))⟩
  clear hM
  go_wp2
  go_loopg [6, 8] m (fun gk v i wr => ∃ (t : Nat) (S : Nat → Option Addr) (C : Nat → Nat), t ≤ m ∧ gk = m - t ∧ i = .int .i64 ((k + t : Nat) : Int) ∧ OwnM wr w.heap.size 128 127 v (k + t) S C (fun _ => k) (fun i j => .int .u8 ((gE.cM el k i j).val : Int)) ∧ Below w.heap.size w wr)
  case atStart => exact ⟨0, _, _, Nat.zero_le _, rfl, rfl, hO0, hb1⟩
  case round =>
    clear hO0 hb1
    obtain ⟨t, S, C, ht, rfl, rfl, hO, hb⟩ := hrel
    have hsz := hb.size
    by_cases hlt : t < m
    · go_wp2_with fail
      refine (wts_any k (k + t) _ (by omega) (by omega)).mono ?_
      rintro e w2 ⟨rfl, hrow, hb2⟩
      have hO1 := (hO.kept hb2).next (some ⟨wr.heap.size, 0, none⟩) k
      have hr : Own w2 w.heap.size 127 1 (.slice (upd S (k + t) (some ⟨wr.heap.size, 0, none⟩) (k + t)) k (upd C (k + t) k (k + t))) k (fun j => [.int .u8 ((gE.cM el k (k + t) j).val : Int)]) := by
        rw [upd_at, upd_at]
        exact own_of_row (hrow.congr fun j _ => by unfold Fd.cM; rw [if_neg (by omega)]) hsz (by unfold maxLen; omega)
      have hu : Hid ((#[Value.slice (some ⟨wr.heap.size, 0, none⟩) k k] : Array Value).toList = [.slice (upd S (k + t) (some ⟨wr.heap.size, 0, none⟩) (k + t)) k (upd C (k + t) k (k + t))]) := by rw [upd_at, upd_at]; rfl
      have hbb := hb.trans (hb2.mono hsz)
      have hsz1 := hbb.size
      have HR := Lib.hid hr
      clear hO hrow hb hb2 hr
      go_wp2_with (at_builtin; refine wpList_push _ rfl (.tmp 39) (.tmp 43) 124 rfl w.heap.size 128 1 24 (.slice none 0 0) #[.slice (some ⟨wr.heap.size, 0, none⟩) k k] Try.underlying124 rowsEInfo rfl (by decide) _ (k + t) _ rfl hO1.1 hsz1 _ rfl rfl hu.out rfl rfl (by omega) (by omega) ?_)
      intro v' w3 hown3 hbel3 hg3 _
      have hO2 := hO1.push (by decide) HR.out hown3 hg3
      have hbF := hbb.trans hbel3
      clear hO1 HR hown3 hg3 hbel3 hbb hu
      go_wp2
      go_roundg (m - (t + 1))
      case measure => omega
      case rel => exact ⟨t + 1, _, _, by omega, rfl, by go_num, hO2, hbF⟩
    · have htm : t = m := by omega
      subst t
      obtain ⟨A, c, hv, _, hR⟩ := hO.rdm
      subst hv
      have HR := Lib.hid hR; have HB := Lib.hid hb
      clear hO hR hb
      go_wp2
      go_ret2
      have hal : ∀ o, Below wr.heap.size wr (wr.alloc o) := fun o => (Below.refl _ _).alloc (Nat.le_refl _) _
      refine ⟨wr.heap.size, rfl, ⟨by simp, by simp, by simp, A, c, by simp, ME.below HR.out (hal _)⟩, hsz, HB.out.trans ((hal _).mono hsz)⟩
set_option maxHeartbeats 400000 in
theorem new_bad (K M : Int) (w : World) (h : ¬ may K M) :
    Calls Try.prog 54 #[.int .i64 K, .int .i64 M] w fun e w' => e = .returned (.tuple #[.pointer none, .int .i64 4]) ∧ w = w' := by
  unfold may at h
  by_cases h1 : M < 1
  · clear h
    go_enter Try.func54, Try.ntmps54
    go_wp2
    go_ret2
    exact ⟨rfl, rfl⟩
  · by_cases h2 : K < M
    · clear h
      go_enter Try.func54, Try.ntmps54
      go_wp2
      go_ret2
      exact ⟨rfl, rfl⟩
    · by_cases h3 : K > 254
      · clear h
        go_enter Try.func54, Try.ntmps54
        go_wp2
        go_ret2
        exact ⟨rfl, rfl⟩
      · have h4 : M > 255 - K := by
          rcases Int.lt_or_le (255 - K) M with h4 | h4
          · exact h4
          · exact absurd ⟨by omega, by omega, by omega, h4⟩ h
        have hs : IntKind.i64.wrap (255 - K) = 255 - K := i64_small _ (by omega) (by omega)
        clear h
        go_enter Try.func54, Try.ntmps54
        go_wp2
        go_ret2
        exact ⟨rfl, rfl⟩
end Go.Proofs.Ytjaaldandgfkgaa
