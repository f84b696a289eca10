/- StripeJoins: the law's walk. Conditions: shards that memory bears. -/
import Derived.Test.YtjaaldandgfkgaaPie
import Derived.Test.YtjaaldandgfkgaaTsh
namespace Go.Proofs.Ytjaaldandgfkgaa
open Go.RowKit

set_option maxRecDepth 100000 in
set_option maxHeartbeats 4000000 in
theorem lawJo (A : Option Addr) (n c : Nat) (H0 : Nat → Hd) (BL0 : Nat → List (List Nat)) (w : World) (hn : n * 104 ≤ 140737488351232) (hW : ∀ i, i < n → HdW (H0 i)) (hA : RSd w A n H0 BL0) (hL : ∀ i, i < n → (BL0 i).length * 24 ≤ 140737488351232) (hLL : ∀ i, i < n → ∀ l ∈ BL0 i, l.length ≤ 140737488351232) (hX : ∀ i, i < n → ∀ l ∈ BL0 i, ∀ x ∈ l, x < 256) :
    Calls Try.prog 7 #[.slice A n c] w fun e w' => e = .returned (.bool true) ∧ Below w.heap.size w w' := by
  have HA := Lib.hid hA; have HL := Lib.hid hL; have HLL := Lib.hid hLL; have HX := Lib.hid hX; have HW := Lib.hid hW
  clear hA hL hLL hX hW
  have HN := Lib.hid hn
  have hn2 : n ≤ 1353245080300 := by omega
  clear hn
  go_enter Try.func7, Try.ntmps7
  go_wp2_with fail
  refine (lentShards_any A n c H0 BL0 w HN.out HA.out HL.out fun i hi j hj => HLL.out i hi _ (getD_memL hj)).mono ?_
  rintro e w1 ⟨g, cg, V, T, U, rfl, hO, hcg, hcm, hb⟩
  have HO1 := Lib.hid hO; have HB1 := Lib.hid hb
  clear hO hb
  go_wp2
  go_loopg [4, 5, 6, 7, 8, 9] 2 (fun gk t _ _ _ _ _ wr => ∃ (k : Nat) (H : Nat → Hd) (BL : Nat → List (List Nat)), k ≤ 2 ∧ gk = 2 - k ∧ t = .int .i64 k ∧ (∀ i, i < n → HdW (H i)) ∧ (∀ i, i < n → (BL i).length * 24 ≤ 140737488351232) ∧ (∀ i, i < n → ∀ l ∈ BL i, l.length ≤ 140737488351232) ∧ (∀ i, i < n → ∀ l ∈ BL i, ∀ x ∈ l, x < 256) ∧ LentSd wr w.heap.size (.slice (some ⟨g, 0, none⟩) (n + 64) cg) n (n + 64) (bhH n H) (bhV n V) T U BL ∧ Below w.heap.size w wr)
  case atStart => exact ⟨0, H0, BL0, by omega, rfl, rfl, HW.out, HL.out, HLL.out, HX.out, HO1.out, HB1.out⟩
  case round =>
    clear HO1 HB1 HA HL HLL HX HW
    obtain ⟨k, H, BL, hk, rfl, rfl, hW, hL, hLL, hX, hO, hb⟩ := hrel
    have HL := Lib.hid hL; have HLL := Lib.hid hLL; have HX := Lib.hid hX; have HW := Lib.hid hW
    have HO := Lib.hid hO; have HB := Lib.hid hb
    have hzw : w.heap.size ≤ wr.heap.size := hb.size
    clear hL hLL hX hW hO hb
    by_cases hlt : k < 2
    · have HLe : Hid (∀ i, i < n → (BL i).length ≤ 140737488351232) := Lib.hid fun i hi => by have := HL.out i hi; omega
      have HRS := Lib.hid HO.out.rsd
      go_wp2_with fail
      refine (copied_any (some ⟨g, 0, none⟩) n cg H BL wr HN.out HRS.out HL.out HLL.out).mono ?_
      rintro e w2 ⟨v2, V2, T2, U2, rfl, hC, hb2⟩
      obtain ⟨A2, c2, rfl, _, _, hR2⟩ := hC.rsd
      have HR2 := Lib.hid hR2; have HB2 := Lib.hid hb2
      clear hC hR2 hb2
      go_wp2_with fail
      refine (rjoin_all A2 n c2 H BL  w2 (by omega) HW.out HR2.out HLe.out HLL.out HX.out).mono ?_
      rintro e w3 ⟨er, l, A3, c3, rfl, hJ, hR3, hb3⟩
      have HJ := Lib.hid hJ; have HR3 := Lib.hid hR3
      have HB3 := Lib.hid (HB2.out.trans (hb3.mono HB2.out.size))
      have HR23 := Lib.hid (HR2.out.below hb3)
      clear hJ hR3 hb3 HR2 HB2
      obtain ⟨ln, hln⟩ : ∃ ln, ln = l.length := ⟨_, rfl⟩
      have HLN := Lib.hid hln
      rw [← hln]
      clear hln
      have HRS3 := Lib.hid (HRS.out.below HB3.out)
      go_wp2_with fail
      refine (join_all (some ⟨g, 0, none⟩) n cg H BL  w3 (by omega) HW.out HRS3.out HLe.out HLL.out HX.out).mono ?_
      rintro e w4 ⟨er', l', A4, c4, rfl, hJ', hR4, hb4⟩
      obtain ⟨e1, e2⟩ := hJ'.uniq HJ.out
      clear hJ'
      rw [e1, e2, ← HLN.out]
      rw [e2] at hR4
      clear e1 e2 er' l'
      have HB4 := Lib.hid (HB3.out.trans (hb4.mono HB3.out.size))
      have HR24 := Lib.hid (HR23.out.below hb4)
      have HR34 := Lib.hid (HR3.out.below hb4)
      have hs1 := conv_strL c4 HJ.out.lt (own_rl' hR4)
      have hs2 := conv_strL c3 HJ.out.lt HR34.out
      rw [← HLN.out] at hs1 hs2
      have hne : (!(strL l).toList == (strL l).toList) = false := by simp
      have HRK := Lib.hid (keptShards_any g cg w.heap.size A2 n c2 H V T U BL w4 (by omega) hcg HW.out HX.out (fun i hi => by have := HLe.out i hi; omega) (fun i hi l hl => by have := HLL.out i hi l hl; omega) (HO.out.kept lsR_kept HB4.out) HR24.out)
      clear hR4 hb4
      go_wp2_with fail
      refine HRK.out.mono ?_
      rintro e w5 ⟨rfl, hb5⟩
      have HB5 := Lib.hid (HB4.out.trans (hb5.mono HB4.out.size))
      have HO5 := Lib.hid (HO.out.kept lsR_kept HB5.out)
      clear hb5 HRK HR24 HR34 HR23 HRS3 HRS hs1 hs2 hne
      go_wp2_with fail
      refine (turned_any g cg w.heap.size n H V T U BL w5 (by omega) (fun i hi => by have := HLe.out i hi; omega) (fun i hi l hl => by have := HLL.out i hi l hl; omega) HX.out HO5.out).mono ?_
      rintro e w6 ⟨rfl, hO6, hb6⟩
      have HO6 := Lib.hid hO6
      have HB6 := Lib.hid (HB.out.trans ((HB5.out.mono hzw).trans hb6))
      clear hO6 hb6
      go_wp2
      go_roundg (2 - (k + 1))
      case measure => omega
      case rel => exact ⟨k + 1, tnH n H, tnS n 0 0 BL, by omega, rfl, by go_num, fun i hi => by unfold tnH; rw [if_pos hi]; exact hdw_ct (HW.out i hi), fun i hi => by rw [tnS_length]; exact HL.out i hi, fun i hi => tnS_len (HLL.out i hi) _ _ _, fun i hi => tnS_lt (HX.out i hi) _ _ _, HO6.out, HB6.out⟩
    · obtain rfl : 2 = k := by omega
      go_wp2
      go_ret
      exact ⟨rfl, HB.out⟩
end Go.Proofs.Ytjaaldandgfkgaa
