/- long, rowsOf of the document: the walks. Conditions: a stripe that is there. -/
import Derived.Test.YtjaaldandgfkgaaStP
namespace Go.Proofs.Ytjaaldandgfkgaa
open Go.RowKit

set_option maxHeartbeats 1000000 in
theorem long_any (K Bk s j : Nat) (M : Int) (w : World) (hK : 1 ≤ K) (hB : 1 ≤ Bk) (hK2 : K ≤ 255) (hB2 : Bk ≤ 65536) (hs : s ≤ 1048576) (hj : j < nblk (K * Bk) s) :
    Calls Try.prog 61 #[.agg #[.int .i64 K, .int .i64 M, .int .i64 Bk], .int .i64 s, .int .i64 j] w fun e w' => e = .returned (.int .i64 (lng (K * Bk) s j : Nat)) ∧ Below w.heap.size w w' := by
  have hS : 1 ≤ K * Bk := Nat.mul_pos (by omega) (by omega)
  have hS2 : K * Bk ≤ 255 * 65536 := Nat.mul_le_mul (by omega) (by omega)
  have hjs := (lt_nblk hS).1 hj
  obtain ⟨q, hq⟩ : ∃ q, q = j * K := ⟨_, rfl⟩
  obtain ⟨S, hSd⟩ : ∃ S, S = K * Bk := ⟨_, rfl⟩
  obtain ⟨r, hr⟩ : ∃ r, r = j * S := ⟨_, rfl⟩
  have hqr : q * Bk = r := by rw [hq, hr, hSd, Nat.mul_assoc]
  have hqle : q ≤ r := by rw [← hqr]; exact Nat.le_mul_of_pos_right _ (by omega)
  rw [← hSd] at hS hS2 hjs ⊢
  rw [← hr] at hjs
  have e1 : (j : Int) * (K : Int) = (q : Int) := by rw [hq, Int.natCast_mul]
  have e2 : (q : Int) * (Bk : Int) = (r : Int) := by rw [← hqr, Int.natCast_mul]
  have e3 : (K : Int) * (Bk : Int) = (S : Int) := by rw [hSd, Int.natCast_mul]
  have HL : Hid (lng S s j = min (s - r) S) := by unfold lng; rw [hr]; exact Lib.hid rfl
  clear hj hq hSd hr hqr
  by_cases hc : S < s - r
  · have hc' : (S : Int) < (s : Int) - (r : Int) := by omega
    have HR : Hid (lng S s j = S) := Lib.hid (by rw [HL.out]; omega)
    go_enter Try.func61, Try.ntmps61
    go_wp2
    go_ret
    exact ⟨ret_int (by rw [HR.out]), (Below.refl _ _).alloc (Nat.le_refl _) _⟩
  · have hc' : ¬ (S : Int) < (s : Int) - (r : Int) := by omega
    have HR : Hid (((lng S s j : Nat) : Int) = (s : Int) - (r : Int)) := Lib.hid (by rw [HL.out]; omega)
    go_enter Try.func61, Try.ntmps61
    go_wp2
    go_ret
    exact ⟨ret_int HR.out.symm, (Below.refl _ _).alloc (Nat.le_refl _) _⟩
set_option maxRecDepth 40000 in
set_option maxHeartbeats 4000000 in
theorem rowsOf_any (K Bk j c : Nat) (M : Int) (A : Option Addr) (l : List Nat) (w : World) (hK : 1 ≤ K) (hB : 1 ≤ Bk) (hK2 : K ≤ 255) (hB2 : Bk ≤ 65536) (hs : l.length ≤ 1048576) (hj : j < nblk (K * Bk) l.length) (hA : RL w A l) :
    Calls Try.prog 52 #[.agg #[.int .i64 K, .int .i64 M, .int .i64 Bk], .slice A l.length c, .int .i64 j, .int .i64 (blen K Bk l.length j : Nat)] w fun e w' => ∃ A' c', e = .returned (.slice A' K c') ∧ RdM w' A' K (fun _ => blen K Bk l.length j) (fun i c => .int .u8 (sby K Bk l j i c : Nat)) ∧ Below w.heap.size w w' := by
  have hS : 1 ≤ K * Bk := Nat.mul_pos (by omega) (by omega)
  have hjs := (lt_nblk hS).1 hj
  obtain ⟨q, hq⟩ : ∃ q, q = j * K := ⟨_, rfl⟩
  obtain ⟨r, hr⟩ : ∃ r, r = j * (K * Bk) := ⟨_, rfl⟩
  have hqr : q * Bk = r := by rw [hq, hr, Nat.mul_assoc]
  have hqle : q ≤ r := by rw [← hqr]; exact Nat.le_mul_of_pos_right _ (by omega)
  obtain ⟨b1, b2, b3, b4, b5⟩ := blen_facts hK hB hj
  have e1 : (j : Int) * (K : Int) = (q : Int) := by rw [hq, Int.natCast_mul]
  have e2 : (q : Int) * (Bk : Int) = (r : Int) := by rw [← hqr, Int.natCast_mul]
  rw [← hr] at hjs
  obtain ⟨sL, hsL⟩ : ∃ sL, sL = lng (K * Bk) l.length j := ⟨_, rfl⟩
  have HREF := Lib.hid (fun (i c : Nat) (hi : i < K) (hc : c < blen K Bk l.length j) => sby_ref hK hB hj hi hc (l := l))
  have HMUL := Lib.hid (fun (i : Nat) (hi : i < K) => (Nat.mul_le_mul_right (blen K Bk l.length j) (show i + 1 ≤ K from hi)))
  have HLNG := Lib.hid (long_any K Bk l.length j M)
  rw [← hsL] at HREF HLNG b3 b4 b5
  have hsl2 : sL ≤ l.length := by rw [hsL]; unfold lng; omega
  obtain ⟨lk, hlk⟩ : ∃ lk, lk = blen K Bk l.length j := ⟨_, rfl⟩
  rw [← hlk] at b1 b2 b4 b5 HREF HMUL ⊢
  rw [← hr] at HREF
  have HSB := Lib.hid (fun (i c : Nat) => (show sby K Bk l j i c = l.getD (r + i * lk + c) 0 by unfold sby; rw [hlk, hr]))
  have HJ := Lib.hid hj; have HA := Lib.hid hA
  have hKl : K * lk ≤ 1048576 + 255 := by omega
  have HKL := Lib.hid hKl
  clear hj hA hq hr hqr hsL hlk b3 b4 b5 hKl
  have HB1 : Hid (Below w.heap.size w (w.alloc (.cells #[.int .i64 K, .int .i64 M, .int .i64 Bk] 24))) := Lib.hid ((Below.refl _ _).alloc (Nat.le_refl _) _)
  have cE : ∀ w', Below (w.heap.size + 1) (w.alloc (.cells #[.int .i64 K, .int .i64 M, .int .i64 Bk] 24)) w' → w'.cell? ⟨w.heap.size, 0, none⟩ = some (.int .i64 (K : Int)) ∧ w'.cell? ⟨w.heap.size, 2, none⟩ = some (.int .i64 (Bk : Int)) := fun w' hb => ⟨by rw [hb.cell (by show w.heap.size < _; omega)]; go_simp, by rw [hb.cell (by show w.heap.size < _; omega)]; go_simp⟩
  have HCE := Lib.hid cE
  clear cE
  go_enter Try.func52, Try.ntmps52
  go_wp2_with fail
  refine (HLNG.out _ hK hB hK2 hB2 hs HJ.out).mono ?_
  rintro e w1 ⟨rfl, hb1⟩
  have HBA : Hid (Below (w.heap.size + 1) (w.alloc (.cells #[.int .i64 K, .int .i64 M, .int .i64 Bk] 24)) w1) := Lib.hid (hb1.mono (by simp))
  clear hb1 HLNG
  go_wp2
  go_loopg [9, 11, 12, 13, 14] K (fun gk v i _ _ _ wr => ∃ (k : Nat) (S : Nat → Option Addr) (C : Nat → Nat), k ≤ K ∧ gk = K - k ∧ i = .int .i64 k ∧ OwnM wr (w.heap.size + 1) 43 5 v k S C (fun _ => lk) (fun i c => .int .u8 (sby K Bk l j i c : Nat)) ∧ Below (w.heap.size + 1) (w.alloc (.cells #[.int .i64 K, .int .i64 M, .int .i64 Bk] 24)) wr)
  case atStart => exact ⟨0, fun _ => none, fun _ => 0, Nat.zero_le _, rfl, rfl, OwnM.nil _ _ _ _ _ _ _ _, HBA.out⟩
  case round =>
    clear HBA
    obtain ⟨i, S, C, hi, rfl, rfl, hO, hb⟩ := hrel
    have HO := Lib.hid hO; have HB0 := Lib.hid hb
    obtain ⟨cK, cB⟩ := HCE.out _ hb
    have hsz : w.heap.size + 1 ≤ wr.heap.size := by have := hb.size; simpa using this
    clear hO hb
    by_cases hlt : i < K
    · obtain ⟨wo, rfl⟩ : ∃ wo : World, wo = wr := ⟨_, rfl⟩
      have HM := Lib.hid (HMUL.out i hlt)
      obtain ⟨il, hil⟩ : ∃ il, il = i * lk := ⟨_, rfl⟩
      have hil2 : il + lk ≤ 1049000 := by
        have h1 := HM.out; have h2 := HKL.out
        rw [Nat.add_mul] at h1; omega
      have e3 : (i : Int) * (lk : Int) = (il : Int) := by rw [hil, Int.natCast_mul]
      have HIL := Lib.hid hil
      clear hil
      go_wp2
      go_loopg [12, 13, 14] lk (fun gk v c _ wr => ∃ q : Nat, q ≤ lk ∧ gk = lk - q ∧ c = .int .i64 q ∧ Own wr wo.heap.size 5 1 v q (fun c => [.int .u8 (sby K Bk l j i c : Nat)]) ∧ Below wo.heap.size wo wr)
      case atStart => exact ⟨0, Nat.zero_le _, rfl, rfl, Own.nil _ _ _ _ _, Below.refl _ _⟩
      case round =>
        obtain ⟨q, hq, rfl, rfl, hO, hb⟩ := hrel
        have HW := Lib.hid hO; have HB := Lib.hid hb
        have hszq := hb.size
        clear hO hb
        by_cases hlq : q < lk
        · have HRf := Lib.hid (HREF.out i q hlt hlq)
          by_cases hin : il + q < sL
          · have hin' : (il : Int) + (q : Int) < (sL : Int) := by omega
            have hx : r + il + q < l.length := by have := HRf.out.1 (by rw [← HIL.out]; exact hin); rw [← HIL.out] at this; exact this
            obtain ⟨b0, o0, rfl, hb0, hc0⟩ := HA.out (r + il + q) hx
            have hbel : Below w.heap.size w wr := HB1.out.trans ((HB0.out.mono (by omega)).trans (HB.out.mono (by omega)))
            have hcell : wr.cell? ⟨b0, o0 + (r + il + q), none⟩ = some (.int .u8 (sby K Bk l j i q : Nat)) := by
              rw [hbel.cell hb0, HSB.out, ← HIL.out]; exact hc0
            obtain ⟨cK', cB'⟩ := HCE.out _ (HB0.out.trans (HB.out.mono hsz))
            have hxl : ((r : Int) + (il : Int) + (q : Int)) < (l.length : Int) := by omega
            have hx0 : (0 : Int) ≤ (r : Int) + (il : Int) + (q : Int) := by omega
            have hxn : ((r : Int) + (il : Int) + (q : Int)).toNat = r + il + q := by omega
            clear hbel hc0 cK cB
            go_wp2_with (at_builtin; refine wpList_push _ rfl (.tmp 54) (.tmp 56) 43 rfl wo.heap.size 5 1 1 (.int .u8 0) #[.int .u8 (sby K Bk l j i q : Nat)] Try.underlying43 byteInfo rfl (by decide) _ q _ rfl HW.out hszq _ rfl rfl rfl rfl rfl (by omega) (by omega) ?_; intro v2 w2 hO2 hb2 _ _; have HO2 := Lib.hid hO2; have HB2 := Lib.hid (HB.out.trans hb2); clear hO2 hb2)
            go_roundg (lk - (q + 1))
            case measure => omega
            case rel => exact ⟨q + 1, by omega, rfl, by go_num, HO2.out, HB2.out⟩
          · have hin' : ¬ (il : Int) + (q : Int) < (sL : Int) := by omega
            have hz : sby K Bk l j i q = 0 := by
              rw [HSB.out, ← HIL.out]
              exact getD_none (by have h1 := HRf.out; rw [← HIL.out] at h1; omega)
            have HZ := Lib.hid (show (#[Value.int .u8 0] : Array Value).toList = [.int .u8 (sby K Bk l j i q : Nat)] by rw [hz]; rfl)
            clear hz cK cB
            go_wp2_with (at_builtin; refine wpList_push _ rfl (.tmp 54) (.tmp 56) 43 rfl wo.heap.size 5 1 1 (.int .u8 0) #[.int .u8 0] Try.underlying43 byteInfo rfl (by decide) _ q _ rfl HW.out hszq _ rfl rfl HZ.out rfl rfl (by omega) (by omega) ?_; intro v2 w2 hO2 hb2 _ _; have HO2 := Lib.hid hO2; have HB2 := Lib.hid (HB.out.trans hb2); clear hO2 hb2)
            go_roundg (lk - (q + 1))
            case measure => omega
            case rel => exact ⟨q + 1, by omega, rfl, by go_num, HO2.out, HB2.out⟩
        · obtain rfl : lk = q := by omega
          obtain ⟨A2, c2, rfl, _, _, _, _⟩ := HW.out.rd
          have hO1 := (HO.out.kept HB.out).next A2 c2
          have hr : Own wr (w.heap.size + 1) 5 1 (.slice (upd S i A2 i) lk (upd C i c2 i)) lk (fun c => [.int .u8 (sby K Bk l j i c : Nat)]) := by rw [upd_at, upd_at]; exact HW.out.mono hsz
          have hu : Hid ((#[Value.slice A2 lk c2] : Array Value).toList = [.slice (upd S i A2 i) lk (upd C i c2 i)]) := by rw [upd_at, upd_at]; exact Lib.hid rfl
          have HO1 := Lib.hid hO1; have HR := Lib.hid hr
          have HBW := Lib.hid (HB0.out.trans (HB.out.mono hsz))
          have hsz1 : w.heap.size + 1 ≤ wr.heap.size := Nat.le_trans hsz HB.out.size
          clear hO1 hr cK cB
          go_wp2_with (at_builtin; refine wpList_push _ rfl (.tmp 58) (.tmp 60) 67 rfl (w.heap.size + 1) 43 1 24 (.slice none 0 0) #[.slice A2 lk c2] Try.underlying67 bytesInfo rfl (by decide) _ i _ rfl HO1.out.1 hsz1 _ rfl rfl hu.out rfl rfl (by omega) (by omega) ?_; intro v2 w2 hO2 hb2 hg2 _; have HO2 := Lib.hid (HO1.out.push (by decide) HR.out hO2 hg2); have HB2 := Lib.hid (HBW.out.trans hb2); clear hO2 hb2 hg2)
          go_roundg (K - (i + 1))
          case measure => omega
          case rel => exact ⟨i + 1, _, _, by omega, rfl, by go_num, HO2.out, HB2.out⟩
    · obtain rfl : K = i := by omega
      obtain ⟨A', c', rfl, _, hR⟩ := HO.out.rdm
      have HR := Lib.hid hR
      clear hR HO
      go_wp2
      go_ret
      exact ⟨A', c', rfl, HR.out, HB1.out.trans (HB0.out.mono (by omega))⟩
end Go.Proofs.Ytjaaldandgfkgaa
