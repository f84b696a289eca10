/- CodeAnyK: the law's walk. Conditions: none. -/
import Derived.Test.YthodpgkelmalmaaAnyP
import Derived.Test.YthodpgkelmalmaaAwk
namespace Go.Proofs.Ythodpgkelmalmaa
open Go.RowKit

set_option maxRecDepth 40000 in
set_option maxHeartbeats 8000000 in
theorem lawAny (K M : Int) (A Pk : Option Addr) (nb cA np cP : Nat) (f : Nat → Nat) (pi : Nat → Int) (w : World)
    (hA : Rd w A nb fun i => .int .u8 (f i : Nat)) (hn : nb ≤ 140737488351232) (hcA : nb ≤ cA) (hf : ∀ i, i < nb → f i < 256) (hP : Rd w Pk np fun i => .int .i64 (pi i)) (hnp : np * 8 ≤ 140737488351232) :
    Calls Try.prog 10 #[.agg #[.int .i64 K, .int .i64 M, .slice A nb cA, .slice Pk np cP]] w fun e w' => e = .returned (.bool true) ∧ Below w.heap.size w w' := by
  have hb0 : Below w.heap.size w (w.alloc (.cells #[.int .i64 K, .int .i64 M, .slice A nb cA, .slice Pk np cP] 42)) := (Below.refl _ _).alloc (Nat.le_refl _) _
  have HA := Lib.hid hA; have HF := Lib.hid hf; have HB0 := Lib.hid hb0; have HPk := Lib.hid hP
  clear hA hf hb0 hP
  have CF : Hid (∀ w, Calls Try.prog 25 #[.agg #[.int .i64 K, .int .i64 M, .slice A nb cA, .slice Pk np cP]] w fun e w' => e = .returned (.tuple #[.int .i64 (fitK K : Nat), .int .i64 (fitM K M : Nat)]) ∧ Below w.heap.size w w') := fun w => fit_any K M (.slice A nb cA) (.slice Pk np cP) rfl rfl w
  obtain ⟨hm1, hmk, hk4, hkm⟩ := fit_facts K M
  generalize fitK K = k at *
  generalize fitM K M = m at *
  have hix : ∀ i j, i < k → j < nb / k → i * (nb / k) + j < nb := fun i j hi hj => by
    have h1 : (i + 1) * (nb / k) ≤ k * (nb / k) := Nat.mul_le_mul_right _ hi
    have hlen : nb / k * k ≤ nb := Nat.div_mul_le_self nb k
    rw [Nat.succ_mul, Nat.mul_comm k] at h1
    omega
  have hll : nb / k ≤ nb := Nat.div_le_self nb k
  have hfa : ∀ i, i < k → ∀ j, j < nb / k → f (i * (nb / k) + j) < 256 := fun i hi j hj => HF.out _ (hix i j hi hj)
  have CUTA := Lib.hid (fun w' (hb : Below w.heap.size w w') => cut_any A nb cA k f w' (by omega) (by omega) (by omega) (by omega) (fun i hi => HA.out.below hb i (by omega)))
  have HFA := Lib.hid hfa
  clear hix hfa
  generalize nb / k = len at *
  obtain ⟨D, hD⟩ : ∃ D : Nat → Nat → Nat, D = fun i c => f (i * len + c) := ⟨_, rfl⟩
  have HDA : Hid (∀ i, i < k → ∀ j, j < len → D i j < 256) := by rw [hD]; exact HFA.out
  have HDD := Lib.hid hD
  clear hD HFA
  go_enter Try.func10, Try.ntmps10
  go_wp2_with fail
  refine (awake_any _).mono ?_
  rintro e w1 ⟨rfl, hb1⟩
  have hc0 : w1.cell? ⟨w.heap.size, 0, none⟩ = some (.int .i64 K) := by rw [hb1.cell (by simp)]; go_simp
  have hc1 : w1.cell? ⟨w.heap.size, 1, none⟩ = some (.int .i64 M) := by rw [hb1.cell (by simp)]; go_simp
  have hc2 : w1.cell? ⟨w.heap.size, 2, none⟩ = some (.slice A nb cA) := by rw [hb1.cell (by simp)]; go_simp
  have hc3 : w1.cell? ⟨w.heap.size, 3, none⟩ = some (.slice Pk np cP) := by rw [hb1.cell (by simp)]; go_simp
  have hlw : w.heap.size < w1.heap.size := by have := hb1.size; simp at this; omega
  have HB1 := Lib.hid (HB0.out.trans (hb1.mono (by simp)))
  clear hb1 HB0
  go_wp2_with fail
  refine (CF.out w1).mono ?_
  rintro e w2 ⟨rfl, hb2⟩
  have HB2 := Lib.hid (HB1.out.trans (hb2.mono HB1.out.size))
  have hd2 : w2.cell? ⟨w.heap.size, 2, none⟩ = some (.slice A nb cA) := (hb2.cell hlw).trans hc2
  have hd3 : w2.cell? ⟨w.heap.size, 3, none⟩ = some (.slice Pk np cP) := (hb2.cell hlw).trans hc3
  have HD3 := Lib.hid hd3
  have hlw2 : w.heap.size < w2.heap.size := by have := hb2.size; omega
  clear hc0 hc1 hc2 hc3 hb2 hd3 hlw
  go_wp2_with fail
  refine (CUTA.out w2 HB2.out).mono ?_
  rintro e w3 ⟨A3, c3, rfl, hcc3, hR3, hb3⟩
  have HB3 := Lib.hid (HB2.out.trans (hb3.mono HB2.out.size))
  have HR3 : Hid (RdM w3 A3 k (fun _ => len) (fun i c => .int .u8 (D i c : Nat))) := by rw [HDD.out]; exact hR3
  have HE3 : Hid (w3.cell? ⟨w.heap.size, 3, none⟩ = some (.slice Pk np cP)) := (hb3.cell hlw2).trans HD3.out
  have hlw3 : w.heap.size < w3.heap.size := by have := hb3.size; omega
  clear hd2 hb3 hR3 HB2 CUTA hlw2 HD3 HDD
  go_wp2_with fail
  refine (new_ok k m w3 hm1 hmk hk4 hkm).mono ?_
  rintro e w4 ⟨p, rfl, hC, hp, hb4⟩
  have HB4 := Lib.hid (HB3.out.trans (hb4.mono HB3.out.size))
  have HR4 := Lib.hid (RdM.below HR3.out hb4)
  have HE4 : Hid (w4.cell? ⟨w.heap.size, 3, none⟩ = some (.slice Pk np cP)) := (hb4.cell hlw3).trans HE3.out
  have hlw4 : w.heap.size < w4.heap.size := by have := hb4.size; omega
  have HC4 := Lib.hid hC
  clear hb4 HB3 HR3 hC HE3 hlw3
  go_wp2_with fail
  refine (enc_full p k (k + m) A3 k c3 (fun _ => len) D w4 (by omega) (by omega) hkm (by omega) (fun _ _ => by omega) HDA.out HC4.out HR4.out).mono ?_
  rintro e w5 ⟨er, A5, R5, c5, rfl, hE5, hR5, hM5, hb5, hcap⟩
  have he : er = 0 := hE5.uniq (.inr (.inr ⟨rfl, fun _ _ => rfl, rfl⟩))
  subst he
  rw [if_pos rfl] at hR5
  subst hR5
  have HB5 := Lib.hid (HB4.out.trans (hb5.mono HB4.out.size))
  have HR5 := Lib.hid (RdM.below HR4.out hb5)
  have HM5 := Lib.hid hM5
  have HC5 := Lib.hid (HC4.out.below hb5)
  have HE5 : Hid (w5.cell? ⟨w.heap.size, 3, none⟩ = some (.slice Pk np cP)) := (hb5.cell hlw4).trans HE4.out
  have hlw5 : w.heap.size < w5.heap.size := by have := hb5.size; omega
  have hs1 : (0 : Int) ≤ (k : Int) := by omega
  have hs2 : (k : Int) ≤ (c5 : Int) := by omega
  have HSL := same_lo (k := k) HDA.out
  have CS := Lib.hid (same_gen A5 A3 k c5 c3 len (wrd k D) D w5 (by omega) (fun _ _ _ _ => wrd_lt) HDA.out (HM5.out.firstLen (by omega) (fun _ _ => rfl)) HR5.out)
  rw [HSL] at CS
  clear hb5 HB4 HR4 hE5 hM5 HE4 HC4 hlw4 HSL
  go_wp2_with fail
  refine CS.out.mono ?_
  rintro e w6 ⟨rfl, hd⟩
  have HB6 := Lib.hid (hd.below' HB5.out)
  have HR6 := Lib.hid (RdM.below HR5.out (hd.below _)); have HM6 := Lib.hid (RdM.below HM5.out (hd.below _)); have HC6 := Lib.hid (HC5.out.below (hd.below _))
  have HE6 : Hid (w6.cell? ⟨w.heap.size, 3, none⟩ = some (.slice Pk np cP)) := (hd.cell _).trans HE5.out
  have hlw6 : w.heap.size < w6.heap.size := by have := (hd.below w5.heap.size).size; omega
  have CK := Lib.hid (pchk_any p A5 k (k + m) (k + m) c5 (fun _ => len) (wrd k D) w6 (by omega) (by omega) hkm (by omega) hcap (fun _ _ => by omega) (fun _ _ _ _ => wrd_lt) HC6.out HM6.out)
  rw [chB_word HDA.out, chE_word] at CK
  clear hd CS HB5 HR5 HM5 HC5 HE5 hlw5 hs1 hs2
  go_wp2_with fail
  refine CK.out.mono ?_
  rintro e w7 ⟨rfl, hb7⟩
  have HB7 := Lib.hid (HB6.out.trans (hb7.mono HB6.out.size))
  have HR7 := Lib.hid (RdM.below HR6.out hb7); have HM7 := Lib.hid (RdM.below HM6.out hb7); have HC7 := Lib.hid (HC6.out.below hb7)
  have HE7 : Hid (w7.cell? ⟨w.heap.size, 3, none⟩ = some (.slice Pk np cP)) := (hb7.cell hlw6).trans HE6.out
  have hlw7 : w.heap.size < w7.heap.size := by have := hb7.size; omega
  clear hb7 CK HB6 HR6 HM6 HC6 HE6 hlw6
  obtain ⟨S3, C3, h31, h32⟩ := HR7.out
  obtain ⟨b3, o3, rfl, hb3, hx3⟩ := h31 0 (by omega)
  rw [Nat.add_zero] at hx3
  replace hx3 : w7.cell? ⟨b3, o3, none⟩ = some (.slice (S3 0) len (C3 0)) := hx3
  clear h31 h32
  by_cases hl0 : len = 0
  · have t1 : ((len : Int) == 0) = true := by rw [beq_iff_eq]; omega
    clear hl0
    go_wp2
    go_ret
    exact ⟨rfl, HB7.out⟩
  · have t1 : ((len : Int) == 0) = false := by rw [beq_eq_false_iff_ne]; omega
    have hlp : 0 < len := by omega
    clear hl0
    go_wp2_with fail
    refine (copied_own A5 (k + m) c5 len (wrd k D) w7 (by omega) (by omega) HM7.out).mono ?_
    rintro e w8 ⟨v8, S8, C8, rfl, hCo, hb8⟩
    obtain ⟨T, cT, rfl, hTB, hTl, hncT, hfz⟩ := hCo.own.1.form (by omega)
    have HB8 := Lib.hid (HB7.out.trans (hb8.mono HB7.out.size))
    have HB7z := Lib.hid HB7.out
    have HM8 := Lib.hid (RdM.below HM7.out hb8); have HC8 := Lib.hid (HC7.out.below hb8)
    have hE8 : w8.cell? ⟨w.heap.size, 3, none⟩ = some (.slice Pk np cP) := (hb8.cell hlw7).trans HE7.out
    have hs3 : IntKind.i64.wrap ((k : Int) + (m : Int)) = (k : Int) + (m : Int) := i64_small _ (by omega) (by omega)
    have HO8 := Lib.hid hCo.own
    have HB78 := Lib.hid hb8
    clear hb8 HB7 HR7 HE7 hx3 t1 hfz hCo
    go_wp2_with fail
    rw [show (k : Int) + (m : Int) = ((k + m : Nat) : Int) from by omega]
    refine (places_any Pk np cP (k + m) m pi w8 (by omega) (by omega) (by omega) hnp (HPk.out.below HB8.out)).mono ?_
    rintro e w9 ⟨pb, P, rfl, hPb, hcnt, hpb, hb9⟩
    have HB9 := Lib.hid (HB8.out.trans (hb9.mono HB8.out.size))
    have HP9 := Lib.hid hPb
    have HCNT := Lib.hid hcnt
    have HTop : Hid (Own w9 w7.heap.size 24 1 (.slice (some ⟨T, 0, none⟩) (k + m) cT) (k + m) (fun t => [lostF P len S8 C8 0 t])) := (HO8.out.1.kept hb9).congr fun t _ => by unfold lostF; rw [if_neg (by omega)]
    have HRow : Hid (∀ t, t < k + m → Own w9 w7.heap.size 5 1 (.slice (S8 t) len (C8 t)) len (fun j => [.int .u8 (wrd k D t j : Nat)])) := fun t ht => (HO8.out.2 t ht).kept hb9
    have HBel : Hid (Below w7.heap.size w7 w9) := HB78.out.trans (hb9.mono HB78.out.size)
    have hTpb : T ≠ pb := by omega
    clear hb9 hPb hcnt HO8 HB78 HB8 HC8 HM8 hE8 hs3 hpb
    go_wp2
    go_loopg [13] (k + m) (fun gk v wr => ∃ i : Nat, i ≤ k + m ∧ gk = k + m - i ∧ v = .int .i64 i ∧ Own wr w7.heap.size 24 1 (.slice (some ⟨T, 0, none⟩) (k + m) cT) (k + m) (fun t => [lostF P len S8 C8 i t]) ∧ (∀ t, t < k + m → Own wr w7.heap.size 5 1 (.slice (S8 t) len (C8 t)) len (fun j => [.int .u8 (wrd k D t j : Nat)])) ∧ wr.rowIs pb 4 (k + m) (fun i => .bool (P i)) ∧ Below w7.heap.size w7 wr)
    case atStart => exact ⟨0, Nat.zero_le _, rfl, rfl, HTop.out, HRow.out, HP9.out, HBel.out⟩
    case round =>
      clear HTop HRow HP9 HBel HB9
      obtain ⟨i, hi, rfl, rfl, hTop, hRow, hPb, hB⟩ := hrel
      have HTop := Lib.hid hTop; have HRow := Lib.hid hRow; have HPb := Lib.hid hPb; have HB := Lib.hid hB
      clear hTop hRow hPb hB
      by_cases hlt : i < k + m
      · have hcp := HPb.out.cell hlt
        replace hcp : wr.cell? ⟨pb, i, none⟩ = some (.bool (P i)) := hcp
        cases hPi : P i
        · have HTop2 : Hid (Own wr w7.heap.size 24 1 (.slice (some ⟨T, 0, none⟩) (k + m) cT) (k + m) (fun t => [lostF P len S8 C8 (i + 1) t])) := HTop.out.congr fun t ht => by rw [lostF_no hPi]
          rw [hPi] at hcp
          clear hPi
          go_wp2
          go_roundg (k + m - (i + 1))
          case measure => omega
          case rel => exact ⟨i + 1, by omega, rfl, by go_num, HTop2.out, HRow.out, HPb.out, HB.out⟩
        · have HS := Lib.hid ((HTop.out.set1 hlt (.slice none 0 0)).congr (g := fun t => [lostF P len S8 C8 (i + 1) t]) fun t ht => by rw [lostF_yes hPi])
          have HRow2 : Hid (∀ t, t < k + m → Own (wr.setCell ⟨T, i, none⟩ (.slice none 0 0)) w7.heap.size 5 1 (.slice (S8 t) len (C8 t)) len (fun j => [.int .u8 (wrd k D t j : Nat)])) := fun t ht => (HRow.out t ht).setOther (a := ⟨T, i, none⟩) (row_ne HTop.out (HRow.out t ht)) _
          have HPb2 := Lib.hid (HPb.out.setOther (a := ⟨T, i, none⟩) (fun e => hTpb e.symm) (.slice none 0 0))
          have HB2 : Hid (Below w7.heap.size w7 (wr.setCell ⟨T, i, none⟩ (.slice none 0 0))) := HB.out.setCell hTB _
          have hct := HTop.out.cell1 hlt
          have hfr : wr.frozen? ⟨T, i, none⟩ = false := HTop.out.frz (by omega) i
          rw [hPi] at hcp
          clear hPi
          go_wp2
          go_roundg (k + m - (i + 1))
          case measure => omega
          case rel => exact ⟨i + 1, by omega, rfl, by go_num, HS.out, HRow2.out, HPb2.out, HB2.out⟩
      · have hin : i = k + m := by omega
        subst hin
        have hLost := lost_rdm HTop.out HRow.out
        have HLost := Lib.hid hLost
        have HBF := Lib.hid (HB7z.out.trans (HB.out.mono HB7z.out.size))
        have HCW := Lib.hid (HC7.out.below HB.out)
        have HMW := Lib.hid (RdM.below HM7.out HB.out)
        have hkN : k ≤ pkN (lostL P len) (k + m) := by have := lost_cnt (P := P) (len := len) (n := k + m) (m := m) hlp HCNT.out; omega
        clear hLost HTop HRow HPb HB HC7 HM7
        go_wp2_with fail
        refine (reb_any p k (k + m) (some ⟨T, 0, none⟩) (k + m) cT (lostL P len) (wrd k D) wr (by omega) (by omega) hkm (by omega) (fun i _ => by unfold lostL; split <;> omega) (fun _ _ _ _ => wrd_lt) HCW.out HLost.out).mono ?_
        rintro e w10 ⟨er, A10, R10, c10, W, rfl, hE, hR, hW, hM, hb10⟩
        have h0 := lost_len (P := P) (len := len) (n := k + m) (t := 0) (by omega)
        have he : er = 0 := hE.uniq (.inr (.inr (.inr ⟨rfl, fun t ht => by rw [(lost_len ht).1, h0.1], hkN, rfl⟩)))
        subst he
        rw [if_pos rfl] at hR
        subst hR
        rw [h0.1] at hM
        have hWW := reb_word (D := D) (by omega) hkm hkN (hW rfl) (fun t ht c hc => rfl)
        rw [h0.1] at hWW
        have HM10 : Hid (RdM w10 A10 (k + m) (fun _ => len) (fun i c => .int .u8 (wrd k D i c : Nat))) := hM.congr fun i hi c hc => by
          show Value.int .u8 ((W i c).val : Int) = Value.int .u8 ((wrd k D i c : Nat) : Int)
          rw [hWW i hi c hc]
        have HMW2 := Lib.hid (RdM.below HMW.out hb10)
        have HBG := Lib.hid (HBF.out.trans (hb10.mono HBF.out.size))
        clear hE hW hM hb10 h0 hWW HMW HBF HLost HCW
        go_wp2_with fail
        refine (same_any A10 A5 (k + m) c10 c5 (fun _ => len) (wrd k D) w10 (by omega) (fun _ _ _ _ => wrd_lt) HM10.out HMW2.out).mono ?_
        rintro e w11 ⟨rfl, hd⟩
        go_wp2
        go_ret
        exact ⟨rfl, hd.below' HBG.out⟩
end Go.Proofs.Ythodpgkelmalmaa
