/- CodeFar: the law's walk. Conditions: none. -/
import Derived.Test.YthodpgkelmalmaaAwk
namespace Go.Proofs.Ythodpgkelmalmaa
open Go.RowKit

/-- The code's two numbers. -/
def fitK (K : Int) : Nat := 1 + pickN K 254
def fitM (K M : Int) : Nat := 1 + pickN M (min (fitK K) (255 - fitK K))
theorem fit_facts (K M : Int) : 1 ≤ fitM K M ∧ fitM K M ≤ fitK K ∧ fitK K ≤ 254 ∧ fitK K + fitM K M ≤ 255 := by
  unfold fitM fitK
  have h1 := pickN_lt (k := K) (n := 254) (by decide)
  have h2 := pickN_lt (k := M) (n := min (1 + pickN K 254) (255 - (1 + pickN K 254))) (by omega)
  omega
set_option maxRecDepth 40000 in
set_option maxHeartbeats 4000000 in
theorem lawFar (K M : Int) (A : Option Addr) (nb cA : Nat) (f : Nat → Nat) (Pi : Value) (hPi : Pi.oneCell' = true) (Y : Option Addr) (ny cY : Nat) (g : Nat → Nat) (w : World)
    (hA : Rd w A nb fun i => .int .u8 (f i : Nat)) (hn : nb ≤ 140737488351232) (hcA : nb ≤ cA) (hf : ∀ i, i < nb → f i < 256)
    (hY : Rd w Y ny fun i => .int .u8 (g i : Nat)) (hny : ny ≤ 140737488351232) (hcY : ny ≤ cY) (hg : ∀ i, i < ny → g i < 256) :
    Calls Try.prog 5 #[.agg #[.int .i64 K, .int .i64 M, .slice A nb cA, Pi], .slice Y ny cY] w fun e w' => e = .returned (.bool true) ∧ Below w.heap.size w w' := by
  have hb0 : Below w.heap.size w (w.alloc (.cells #[.int .i64 K, .int .i64 M, .slice A nb cA, Pi] 42)) := (Below.refl _ _).alloc (Nat.le_refl _) _
  have HA := Lib.hid hA; have HY := Lib.hid hY; have HF := Lib.hid hf; have HG := Lib.hid hg; have HB0 := Lib.hid hb0
  clear hA hY hf hg hb0
  have CF : Hid (∀ w, Calls Try.prog 25 #[.agg #[.int .i64 K, .int .i64 M, .slice A nb cA, Pi]] w fun e w' => e = .returned (.tuple #[.int .i64 (fitK K : Nat), .int .i64 (fitM K M : Nat)]) ∧ Below w.heap.size w w') := fun w => fit_any K M (.slice A nb cA) Pi rfl hPi w
  obtain ⟨hm1, hmk, hk4, hkm⟩ := fit_facts K M
  generalize fitK K = k at *
  generalize fitM K M = m at *
  rcases Nat.lt_trichotomy nb ny with hlt | hlt | hlt
  · have hmn : (nb : Int) < (ny : Int) := by omega
    have hlen : nb / k * k ≤ nb := Nat.div_mul_le_self nb k
    have hll : nb / k ≤ nb := Nat.div_le_self nb k
    have hix : ∀ i j, i < k → j < nb / k → i * (nb / k) + j < nb := fun i j hi hj => by
      have h1 : (i + 1) * (nb / k) ≤ k * (nb / k) := Nat.mul_le_mul_right _ hi
      rw [Nat.succ_mul, Nat.mul_comm k] at h1
      omega
    have hfa : ∀ i, i < k → ∀ j, j < nb / k → f (i * (nb / k) + j) < 256 := fun i hi j hj => HF.out _ (by have := hix i j hi hj; omega)
    have hga : ∀ i, i < k → ∀ j, j < nb / k → g (i * (nb / k) + j) < 256 := fun i hi j hj => HG.out _ (by have := hix i j hi hj; omega)
    have CUTA := Lib.hid (fun w' (hb : Below w.heap.size w w') => cut_any A nb cA k f w' (by omega) (by omega) (by omega) (by omega) (fun i hi => HA.out.below hb i (by omega)))
    have CUTY := Lib.hid (fun w' (hb : Below w.heap.size w w') => cut_any Y nb cY k g w' (by omega) (by omega) (by omega) (by omega) (fun i hi => HY.out.below hb i (by omega)))
    have HFA := Lib.hid hfa; have HGA := Lib.hid hga
    clear hix hfa hga hlen
    generalize nb / k = len at *
    go_enter Try.func5, Try.ntmps5
    go_wp2_with fail
    refine (awake_any _).mono ?_
    rintro e w1 ⟨rfl, hb1⟩
    have hc0 : w1.cell? ⟨w.heap.size, 0, none⟩ = some (.int .i64 K) := by rw [hb1.cell (by simp)]; go_simp
    have hc1 : w1.cell? ⟨w.heap.size, 1, none⟩ = some (.int .i64 M) := by rw [hb1.cell (by simp)]; go_simp
    have hc2 : w1.cell? ⟨w.heap.size, 2, none⟩ = some (.slice A nb cA) := by rw [hb1.cell (by simp)]; go_simp
    have hc3 : w1.cell? ⟨w.heap.size, 3, none⟩ = some Pi := by rw [hb1.cell (by simp)]; go_simp
    have hlw : w.heap.size < w1.heap.size := by have := hb1.size; simp at this; omega
    have HB1 := Lib.hid (HB0.out.trans (hb1.mono (by simp)))
    clear hb1 HB0
    go_wp2_with fail
    refine (CF.out w1).mono ?_
    rintro e w2 ⟨rfl, hb2⟩
    have HB2 := Lib.hid (HB1.out.trans (hb2.mono HB1.out.size))
    have hd2 : w2.cell? ⟨w.heap.size, 2, none⟩ = some (.slice A nb cA) := (hb2.cell hlw).trans hc2
    have hs1 : (0 : Int) ≤ (nb : Int) := by omega
    have hs2 : (nb : Int) ≤ (cA : Int) := by omega
    have hs3 : (nb : Int) ≤ (cY : Int) := by omega
    clear hc0 hc1 hc2 hc3 hb2
    go_wp2_with fail
    refine (CUTA.out w2 HB2.out).mono ?_
    rintro e w3 ⟨A3, c3, rfl, hcc3, hR3, hb3⟩
    have HB3 := Lib.hid (HB2.out.trans (hb3.mono HB2.out.size))
    have HR3 := Lib.hid hR3
    clear hd2 hb3 hR3 HB2 CUTA
    go_wp2_with fail
    refine (CUTY.out w3 HB3.out).mono ?_
    rintro e w4 ⟨A4, c4, rfl, hcc4, hR4, hb4⟩
    have HB4 := Lib.hid (HB3.out.trans (hb4.mono HB3.out.size))
    have HR34 := Lib.hid (RdM.below HR3.out hb4)
    have HR4 := Lib.hid hR4
    clear hb4 hR4 HB3 HR3 CUTY
    go_wp2_with fail
    refine (new_ok k m w4 hm1 hmk hk4 hkm).mono ?_
    rintro e w5 ⟨p, rfl, hC, hp, hb5⟩
    have HB5 := Lib.hid (HB4.out.trans (hb5.mono HB4.out.size))
    have HR35 := Lib.hid (RdM.below HR34.out hb5)
    have HR45 := Lib.hid (RdM.below HR4.out hb5)
    have HC := Lib.hid hC
    clear hb5 HB4 HR34 HR4 hC
    go_wp2_with fail
    refine (enc_any p k (k + m) A3 k c3 (fun _ => len) (fun i c => f (i * len + c)) w5 (by omega) (by omega) hkm (by omega) (fun _ _ => by omega) HFA.out HC.out HR35.out).mono ?_
    rintro e w6 ⟨er, A6, R6, c6, rfl, hE6, hR6, hM6, hb6⟩
    have he : er = 0 := hE6.uniq (.inr (.inr ⟨rfl, fun _ _ => rfl, rfl⟩))
    subst he
    rw [if_pos rfl] at hR6
    have hR6' := hR6.symm
    subst hR6
    have HB6 := Lib.hid (HB5.out.trans (hb6.mono HB5.out.size))
    have HR36 := Lib.hid (RdM.below HR35.out hb6)
    have HR46 := Lib.hid (RdM.below HR45.out hb6)
    have HC6 := Lib.hid (HC.out.below hb6)
    have HM6 := Lib.hid hM6
    clear hb6 HB5 HR35 HR45 HC hM6 hE6 hR6'
    go_wp2_with fail
    refine (enc_any p k (k + m) A4 k c4 (fun _ => len) (fun i c => g (i * len + c)) w6 (by omega) (by omega) hkm (by omega) (fun _ _ => by omega) HGA.out HC6.out HR46.out).mono ?_
    rintro e w7 ⟨er, A7, R7, c7, rfl, hE7, hR7, hM7, hb7⟩
    have he : er = 0 := hE7.uniq (.inr (.inr ⟨rfl, fun _ _ => rfl, rfl⟩))
    subst he
    rw [if_pos rfl] at hR7
    subst hR7
    have HB7 := Lib.hid (HB6.out.trans (hb7.mono HB6.out.size))
    have HR37 := Lib.hid (RdM.below HR36.out hb7)
    have HR47 := Lib.hid (RdM.below HR46.out hb7)
    have HM67 := Lib.hid (RdM.below HM6.out hb7)
    have HM7 := Lib.hid hM7
    clear hb7 HB6 HR36 HR46 HC6 hM7 hE7 HM6
    have CS1 := Lib.hid (fun w' (hb : Below w7.heap.size w7 w') => same_gen A3 A4 k c3 c4 len (fun i c => f (i * len + c)) (fun i c => g (i * len + c)) w' (by omega) HFA.out HGA.out (RdM.below HR37.out hb) (RdM.below HR47.out hb))
    have CS2 := Lib.hid (fun w' (hb : Below w7.heap.size w7 w') => same_gen A6 A7 (k + m) c6 c7 len (wrd k (fun i c => f (i * len + c))) (wrd k (fun i c => g (i * len + c))) w' (by omega) (fun _ _ _ _ => wrd_lt) (fun _ _ _ _ => wrd_lt) (RdM.below HM67.out hb) (RdM.below HM7.out hb))
    have CU := Lib.hid (fun w' (hb : Below w7.heap.size w7 w') => unlike_any A6 A7 (k + m) c6 c7 len (wrd k (fun i c => f (i * len + c))) (wrd k (fun i c => g (i * len + c))) w' (by omega) (fun _ _ _ _ => wrd_lt) (fun _ _ _ _ => wrd_lt) (RdM.below HM67.out hb) (RdM.below HM7.out hb))
    have HQ1 : Hid (sameB k len (fun i c => f (i * len + c)) (fun i c => g (i * len + c)) = true ↔ ∀ i, i < k → ∀ c, c < len → f (i * len + c) = g (i * len + c)) := sameB_iff HFA.out HGA.out
    have HQ2 : Hid (sameB (k + m) len (wrd k (fun i c => f (i * len + c))) (wrd k (fun i c => g (i * len + c))) = true ↔ ∀ i, i < k + m → ∀ c, c < len → wrd k (fun i c => f (i * len + c)) i c = wrd k (fun i c => g (i * len + c)) i c) := sameB_iff (fun _ _ _ _ => wrd_lt) (fun _ _ _ _ => wrd_lt)
    have HFAR := Lib.hid (fun h => far_plain (k := k) (m := m) (len := len) (by omega) hkm HFA.out HGA.out h)
    clear HR37 HR47 HM67 HM7 HFA HGA HA HY HF HG
    by_cases hsm : ∀ i, i < k → ∀ c, c < len → f (i * len + c) = g (i * len + c)
    · have hq1 := HQ1.out.2 hsm
      have hq2 := HQ2.out.2 fun i _ c hc => wrd_congr fun j hj => hsm j hj c hc
      rw [hq1] at CS1
      rw [hq2] at CS2
      clear hq1 hq2 hsm HQ1 HQ2 CU HFAR
      go_wp2_with fail
      refine (CS1.out _ (Below.refl _ _)).mono ?_
      rintro e w8 ⟨rfl, hd8⟩
      have HB8 := Lib.hid (HB7.out.trans ((hd8.below _).mono HB7.out.size))
      have HD8 := Lib.hid (hd8.below w7.heap.size)
      clear hd8
      go_wp2_with fail
      refine (CS2.out _ HD8.out).mono ?_
      rintro e w9 ⟨rfl, hd9⟩
      have HB9 := Lib.hid (HB8.out.trans ((hd9.below _).mono HB8.out.size))
      clear hd9
      go_wp2
      go_ret
      exact ⟨rfl, HB9.out⟩
    · have hq1 : sameB k len (fun i c => f (i * len + c)) (fun i c => g (i * len + c)) = false := by
        cases e : sameB k len (fun i c => f (i * len + c)) (fun i c => g (i * len + c))
        · rfl
        · exact absurd (HQ1.out.1 e) hsm
      have hcnt : m + 1 ≤ cntB (unB len (wrd k (fun i c => f (i * len + c))) (wrd k (fun i c => g (i * len + c)))) (k + m) := by
        rcases Nat.lt_or_ge m (cntB (unB len (wrd k (fun i c => f (i * len + c))) (wrd k (fun i c => g (i * len + c)))) (k + m)) with h | h
        · exact h
        · exact absurd (HFAR.out h) hsm
      rw [hq1] at CS1
      clear hq1 hsm HQ1 HQ2 CS2 HFAR
      generalize cntB (unB len (wrd k (fun i c => f (i * len + c))) (wrd k (fun i c => g (i * len + c)))) (k + m) = cn at *
      go_wp2_with fail
      refine (CS1.out _ (Below.refl _ _)).mono ?_
      rintro e w8 ⟨rfl, hd8⟩
      have HB8 := Lib.hid (HB7.out.trans ((hd8.below _).mono HB7.out.size))
      have HD8 := Lib.hid (hd8.below w7.heap.size)
      clear hd8
      go_wp2_with fail
      refine (CS1.out _ HD8.out).mono ?_
      rintro e w9 ⟨rfl, hd9⟩
      have HB9 := Lib.hid (HB8.out.trans ((hd9.below _).mono HB8.out.size))
      have HD9 := Lib.hid (HD8.out.trans ((hd9.below _).mono HD8.out.size))
      clear hd9
      go_wp2_with fail
      refine (CU.out _ HD9.out).mono ?_
      rintro e w10 ⟨rfl, hd10⟩
      have HB10 := Lib.hid (HB9.out.trans ((hd10.below _).mono HB9.out.size))
      clear hd10
      have hge : (m : Int) + 1 ≤ (cn : Int) := by omega
      have t9 : decide ((m : Int) + 1 ≤ (cn : Int)) = true := decide_eq_true hge
      go_wp2
      go_ret
      first
        | exact ⟨rfl, HB10.out⟩
        | (refine ⟨?_, HB10.out⟩; simp [hge])
  · subst hlt
    have hlen : nb / k * k ≤ nb := Nat.div_mul_le_self nb k
    have hll : nb / k ≤ nb := Nat.div_le_self nb k
    have hix : ∀ i j, i < k → j < nb / k → i * (nb / k) + j < nb := fun i j hi hj => by
      have h1 : (i + 1) * (nb / k) ≤ k * (nb / k) := Nat.mul_le_mul_right _ hi
      rw [Nat.succ_mul, Nat.mul_comm k] at h1
      omega
    have hfa : ∀ i, i < k → ∀ j, j < nb / k → f (i * (nb / k) + j) < 256 := fun i hi j hj => HF.out _ (by have := hix i j hi hj; omega)
    have hga : ∀ i, i < k → ∀ j, j < nb / k → g (i * (nb / k) + j) < 256 := fun i hi j hj => HG.out _ (by have := hix i j hi hj; omega)
    have CUTA := Lib.hid (fun w' (hb : Below w.heap.size w w') => cut_any A nb cA k f w' (by omega) (by omega) (by omega) (by omega) (fun i hi => HA.out.below hb i (by omega)))
    have CUTY := Lib.hid (fun w' (hb : Below w.heap.size w w') => cut_any Y nb cY k g w' (by omega) (by omega) (by omega) (by omega) (fun i hi => HY.out.below hb i (by omega)))
    have HFA := Lib.hid hfa; have HGA := Lib.hid hga
    clear hix hfa hga hlen
    generalize nb / k = len at *
    go_enter Try.func5, Try.ntmps5
    go_wp2_with fail
    refine (awake_any _).mono ?_
    rintro e w1 ⟨rfl, hb1⟩
    have hc0 : w1.cell? ⟨w.heap.size, 0, none⟩ = some (.int .i64 K) := by rw [hb1.cell (by simp)]; go_simp
    have hc1 : w1.cell? ⟨w.heap.size, 1, none⟩ = some (.int .i64 M) := by rw [hb1.cell (by simp)]; go_simp
    have hc2 : w1.cell? ⟨w.heap.size, 2, none⟩ = some (.slice A nb cA) := by rw [hb1.cell (by simp)]; go_simp
    have hc3 : w1.cell? ⟨w.heap.size, 3, none⟩ = some Pi := by rw [hb1.cell (by simp)]; go_simp
    have hlw : w.heap.size < w1.heap.size := by have := hb1.size; simp at this; omega
    have HB1 := Lib.hid (HB0.out.trans (hb1.mono (by simp)))
    clear hb1 HB0
    go_wp2_with fail
    refine (CF.out w1).mono ?_
    rintro e w2 ⟨rfl, hb2⟩
    have HB2 := Lib.hid (HB1.out.trans (hb2.mono HB1.out.size))
    have hd2 : w2.cell? ⟨w.heap.size, 2, none⟩ = some (.slice A nb cA) := (hb2.cell hlw).trans hc2
    have hs1 : (0 : Int) ≤ (nb : Int) := by omega
    have hs2 : (nb : Int) ≤ (cA : Int) := by omega
    have hs3 : (nb : Int) ≤ (cY : Int) := by omega
    clear hc0 hc1 hc2 hc3 hb2
    go_wp2_with fail
    refine (CUTA.out w2 HB2.out).mono ?_
    rintro e w3 ⟨A3, c3, rfl, hcc3, hR3, hb3⟩
    have HB3 := Lib.hid (HB2.out.trans (hb3.mono HB2.out.size))
    have HR3 := Lib.hid hR3
    clear hd2 hb3 hR3 HB2 CUTA
    go_wp2_with fail
    refine (CUTY.out w3 HB3.out).mono ?_
    rintro e w4 ⟨A4, c4, rfl, hcc4, hR4, hb4⟩
    have HB4 := Lib.hid (HB3.out.trans (hb4.mono HB3.out.size))
    have HR34 := Lib.hid (RdM.below HR3.out hb4)
    have HR4 := Lib.hid hR4
    clear hb4 hR4 HB3 HR3 CUTY
    go_wp2_with fail
    refine (new_ok k m w4 hm1 hmk hk4 hkm).mono ?_
    rintro e w5 ⟨p, rfl, hC, hp, hb5⟩
    have HB5 := Lib.hid (HB4.out.trans (hb5.mono HB4.out.size))
    have HR35 := Lib.hid (RdM.below HR34.out hb5)
    have HR45 := Lib.hid (RdM.below HR4.out hb5)
    have HC := Lib.hid hC
    clear hb5 HB4 HR34 HR4 hC
    go_wp2_with fail
    refine (enc_any p k (k + m) A3 k c3 (fun _ => len) (fun i c => f (i * len + c)) w5 (by omega) (by omega) hkm (by omega) (fun _ _ => by omega) HFA.out HC.out HR35.out).mono ?_
    rintro e w6 ⟨er, A6, R6, c6, rfl, hE6, hR6, hM6, hb6⟩
    have he : er = 0 := hE6.uniq (.inr (.inr ⟨rfl, fun _ _ => rfl, rfl⟩))
    subst he
    rw [if_pos rfl] at hR6
    have hR6' := hR6.symm
    subst hR6
    have HB6 := Lib.hid (HB5.out.trans (hb6.mono HB5.out.size))
    have HR36 := Lib.hid (RdM.below HR35.out hb6)
    have HR46 := Lib.hid (RdM.below HR45.out hb6)
    have HC6 := Lib.hid (HC.out.below hb6)
    have HM6 := Lib.hid hM6
    clear hb6 HB5 HR35 HR45 HC hM6 hE6 hR6'
    go_wp2_with fail
    refine (enc_any p k (k + m) A4 k c4 (fun _ => len) (fun i c => g (i * len + c)) w6 (by omega) (by omega) hkm (by omega) (fun _ _ => by omega) HGA.out HC6.out HR46.out).mono ?_
    rintro e w7 ⟨er, A7, R7, c7, rfl, hE7, hR7, hM7, hb7⟩
    have he : er = 0 := hE7.uniq (.inr (.inr ⟨rfl, fun _ _ => rfl, rfl⟩))
    subst he
    rw [if_pos rfl] at hR7
    subst hR7
    have HB7 := Lib.hid (HB6.out.trans (hb7.mono HB6.out.size))
    have HR37 := Lib.hid (RdM.below HR36.out hb7)
    have HR47 := Lib.hid (RdM.below HR46.out hb7)
    have HM67 := Lib.hid (RdM.below HM6.out hb7)
    have HM7 := Lib.hid hM7
    clear hb7 HB6 HR36 HR46 HC6 hM7 hE7 HM6
    have CS1 := Lib.hid (fun w' (hb : Below w7.heap.size w7 w') => same_gen A3 A4 k c3 c4 len (fun i c => f (i * len + c)) (fun i c => g (i * len + c)) w' (by omega) HFA.out HGA.out (RdM.below HR37.out hb) (RdM.below HR47.out hb))
    have CS2 := Lib.hid (fun w' (hb : Below w7.heap.size w7 w') => same_gen A6 A7 (k + m) c6 c7 len (wrd k (fun i c => f (i * len + c))) (wrd k (fun i c => g (i * len + c))) w' (by omega) (fun _ _ _ _ => wrd_lt) (fun _ _ _ _ => wrd_lt) (RdM.below HM67.out hb) (RdM.below HM7.out hb))
    have CU := Lib.hid (fun w' (hb : Below w7.heap.size w7 w') => unlike_any A6 A7 (k + m) c6 c7 len (wrd k (fun i c => f (i * len + c))) (wrd k (fun i c => g (i * len + c))) w' (by omega) (fun _ _ _ _ => wrd_lt) (fun _ _ _ _ => wrd_lt) (RdM.below HM67.out hb) (RdM.below HM7.out hb))
    have HQ1 : Hid (sameB k len (fun i c => f (i * len + c)) (fun i c => g (i * len + c)) = true ↔ ∀ i, i < k → ∀ c, c < len → f (i * len + c) = g (i * len + c)) := sameB_iff HFA.out HGA.out
    have HQ2 : Hid (sameB (k + m) len (wrd k (fun i c => f (i * len + c))) (wrd k (fun i c => g (i * len + c))) = true ↔ ∀ i, i < k + m → ∀ c, c < len → wrd k (fun i c => f (i * len + c)) i c = wrd k (fun i c => g (i * len + c)) i c) := sameB_iff (fun _ _ _ _ => wrd_lt) (fun _ _ _ _ => wrd_lt)
    have HFAR := Lib.hid (fun h => far_plain (k := k) (m := m) (len := len) (by omega) hkm HFA.out HGA.out h)
    clear HR37 HR47 HM67 HM7 HFA HGA HA HY HF HG
    by_cases hsm : ∀ i, i < k → ∀ c, c < len → f (i * len + c) = g (i * len + c)
    · have hq1 := HQ1.out.2 hsm
      have hq2 := HQ2.out.2 fun i _ c hc => wrd_congr fun j hj => hsm j hj c hc
      rw [hq1] at CS1
      rw [hq2] at CS2
      clear hq1 hq2 hsm HQ1 HQ2 CU HFAR
      go_wp2_with fail
      refine (CS1.out _ (Below.refl _ _)).mono ?_
      rintro e w8 ⟨rfl, hd8⟩
      have HB8 := Lib.hid (HB7.out.trans ((hd8.below _).mono HB7.out.size))
      have HD8 := Lib.hid (hd8.below w7.heap.size)
      clear hd8
      go_wp2_with fail
      refine (CS2.out _ HD8.out).mono ?_
      rintro e w9 ⟨rfl, hd9⟩
      have HB9 := Lib.hid (HB8.out.trans ((hd9.below _).mono HB8.out.size))
      clear hd9
      go_wp2
      go_ret
      exact ⟨rfl, HB9.out⟩
    · have hq1 : sameB k len (fun i c => f (i * len + c)) (fun i c => g (i * len + c)) = false := by
        cases e : sameB k len (fun i c => f (i * len + c)) (fun i c => g (i * len + c))
        · rfl
        · exact absurd (HQ1.out.1 e) hsm
      have hcnt : m + 1 ≤ cntB (unB len (wrd k (fun i c => f (i * len + c))) (wrd k (fun i c => g (i * len + c)))) (k + m) := by
        rcases Nat.lt_or_ge m (cntB (unB len (wrd k (fun i c => f (i * len + c))) (wrd k (fun i c => g (i * len + c)))) (k + m)) with h | h
        · exact h
        · exact absurd (HFAR.out h) hsm
      rw [hq1] at CS1
      clear hq1 hsm HQ1 HQ2 CS2 HFAR
      generalize cntB (unB len (wrd k (fun i c => f (i * len + c))) (wrd k (fun i c => g (i * len + c)))) (k + m) = cn at *
      go_wp2_with fail
      refine (CS1.out _ (Below.refl _ _)).mono ?_
      rintro e w8 ⟨rfl, hd8⟩
      have HB8 := Lib.hid (HB7.out.trans ((hd8.below _).mono HB7.out.size))
      have HD8 := Lib.hid (hd8.below w7.heap.size)
      clear hd8
      go_wp2_with fail
      refine (CS1.out _ HD8.out).mono ?_
      rintro e w9 ⟨rfl, hd9⟩
      have HB9 := Lib.hid (HB8.out.trans ((hd9.below _).mono HB8.out.size))
      have HD9 := Lib.hid (HD8.out.trans ((hd9.below _).mono HD8.out.size))
      clear hd9
      go_wp2_with fail
      refine (CU.out _ HD9.out).mono ?_
      rintro e w10 ⟨rfl, hd10⟩
      have HB10 := Lib.hid (HB9.out.trans ((hd10.below _).mono HB9.out.size))
      clear hd10
      have hge : (m : Int) + 1 ≤ (cn : Int) := by omega
      have t9 : decide ((m : Int) + 1 ≤ (cn : Int)) = true := decide_eq_true hge
      go_wp2
      go_ret
      first
        | exact ⟨rfl, HB10.out⟩
        | (refine ⟨?_, HB10.out⟩; simp [hge])
  · have hmn : (ny : Int) < (nb : Int) := by omega
    have hlen : ny / k * k ≤ ny := Nat.div_mul_le_self ny k
    have hll : ny / k ≤ ny := Nat.div_le_self ny k
    have hix : ∀ i j, i < k → j < ny / k → i * (ny / k) + j < ny := fun i j hi hj => by
      have h1 : (i + 1) * (ny / k) ≤ k * (ny / k) := Nat.mul_le_mul_right _ hi
      rw [Nat.succ_mul, Nat.mul_comm k] at h1
      omega
    have hfa : ∀ i, i < k → ∀ j, j < ny / k → f (i * (ny / k) + j) < 256 := fun i hi j hj => HF.out _ (by have := hix i j hi hj; omega)
    have hga : ∀ i, i < k → ∀ j, j < ny / k → g (i * (ny / k) + j) < 256 := fun i hi j hj => HG.out _ (by have := hix i j hi hj; omega)
    have CUTA := Lib.hid (fun w' (hb : Below w.heap.size w w') => cut_any A ny cA k f w' (by omega) (by omega) (by omega) (by omega) (fun i hi => HA.out.below hb i (by omega)))
    have CUTY := Lib.hid (fun w' (hb : Below w.heap.size w w') => cut_any Y ny cY k g w' (by omega) (by omega) (by omega) (by omega) (fun i hi => HY.out.below hb i (by omega)))
    have HFA := Lib.hid hfa; have HGA := Lib.hid hga
    clear hix hfa hga hlen
    generalize ny / k = len at *
    go_enter Try.func5, Try.ntmps5
    go_wp2_with fail
    refine (awake_any _).mono ?_
    rintro e w1 ⟨rfl, hb1⟩
    have hc0 : w1.cell? ⟨w.heap.size, 0, none⟩ = some (.int .i64 K) := by rw [hb1.cell (by simp)]; go_simp
    have hc1 : w1.cell? ⟨w.heap.size, 1, none⟩ = some (.int .i64 M) := by rw [hb1.cell (by simp)]; go_simp
    have hc2 : w1.cell? ⟨w.heap.size, 2, none⟩ = some (.slice A nb cA) := by rw [hb1.cell (by simp)]; go_simp
    have hc3 : w1.cell? ⟨w.heap.size, 3, none⟩ = some Pi := by rw [hb1.cell (by simp)]; go_simp
    have hlw : w.heap.size < w1.heap.size := by have := hb1.size; simp at this; omega
    have HB1 := Lib.hid (HB0.out.trans (hb1.mono (by simp)))
    clear hb1 HB0
    go_wp2_with fail
    refine (CF.out w1).mono ?_
    rintro e w2 ⟨rfl, hb2⟩
    have HB2 := Lib.hid (HB1.out.trans (hb2.mono HB1.out.size))
    have hd2 : w2.cell? ⟨w.heap.size, 2, none⟩ = some (.slice A nb cA) := (hb2.cell hlw).trans hc2
    have hs1 : (0 : Int) ≤ (ny : Int) := by omega
    have hs2 : (ny : Int) ≤ (cA : Int) := by omega
    have hs3 : (ny : Int) ≤ (cY : Int) := by omega
    clear hc0 hc1 hc2 hc3 hb2
    go_wp2_with fail
    refine (CUTA.out w2 HB2.out).mono ?_
    rintro e w3 ⟨A3, c3, rfl, hcc3, hR3, hb3⟩
    have HB3 := Lib.hid (HB2.out.trans (hb3.mono HB2.out.size))
    have HR3 := Lib.hid hR3
    clear hd2 hb3 hR3 HB2 CUTA
    go_wp2_with fail
    refine (CUTY.out w3 HB3.out).mono ?_
    rintro e w4 ⟨A4, c4, rfl, hcc4, hR4, hb4⟩
    have HB4 := Lib.hid (HB3.out.trans (hb4.mono HB3.out.size))
    have HR34 := Lib.hid (RdM.below HR3.out hb4)
    have HR4 := Lib.hid hR4
    clear hb4 hR4 HB3 HR3 CUTY
    go_wp2_with fail
    refine (new_ok k m w4 hm1 hmk hk4 hkm).mono ?_
    rintro e w5 ⟨p, rfl, hC, hp, hb5⟩
    have HB5 := Lib.hid (HB4.out.trans (hb5.mono HB4.out.size))
    have HR35 := Lib.hid (RdM.below HR34.out hb5)
    have HR45 := Lib.hid (RdM.below HR4.out hb5)
    have HC := Lib.hid hC
    clear hb5 HB4 HR34 HR4 hC
    go_wp2_with fail
    refine (enc_any p k (k + m) A3 k c3 (fun _ => len) (fun i c => f (i * len + c)) w5 (by omega) (by omega) hkm (by omega) (fun _ _ => by omega) HFA.out HC.out HR35.out).mono ?_
    rintro e w6 ⟨er, A6, R6, c6, rfl, hE6, hR6, hM6, hb6⟩
    have he : er = 0 := hE6.uniq (.inr (.inr ⟨rfl, fun _ _ => rfl, rfl⟩))
    subst he
    rw [if_pos rfl] at hR6
    have hR6' := hR6.symm
    subst hR6
    have HB6 := Lib.hid (HB5.out.trans (hb6.mono HB5.out.size))
    have HR36 := Lib.hid (RdM.below HR35.out hb6)
    have HR46 := Lib.hid (RdM.below HR45.out hb6)
    have HC6 := Lib.hid (HC.out.below hb6)
    have HM6 := Lib.hid hM6
    clear hb6 HB5 HR35 HR45 HC hM6 hE6 hR6'
    go_wp2_with fail
    refine (enc_any p k (k + m) A4 k c4 (fun _ => len) (fun i c => g (i * len + c)) w6 (by omega) (by omega) hkm (by omega) (fun _ _ => by omega) HGA.out HC6.out HR46.out).mono ?_
    rintro e w7 ⟨er, A7, R7, c7, rfl, hE7, hR7, hM7, hb7⟩
    have he : er = 0 := hE7.uniq (.inr (.inr ⟨rfl, fun _ _ => rfl, rfl⟩))
    subst he
    rw [if_pos rfl] at hR7
    subst hR7
    have HB7 := Lib.hid (HB6.out.trans (hb7.mono HB6.out.size))
    have HR37 := Lib.hid (RdM.below HR36.out hb7)
    have HR47 := Lib.hid (RdM.below HR46.out hb7)
    have HM67 := Lib.hid (RdM.below HM6.out hb7)
    have HM7 := Lib.hid hM7
    clear hb7 HB6 HR36 HR46 HC6 hM7 hE7 HM6
    have CS1 := Lib.hid (fun w' (hb : Below w7.heap.size w7 w') => same_gen A3 A4 k c3 c4 len (fun i c => f (i * len + c)) (fun i c => g (i * len + c)) w' (by omega) HFA.out HGA.out (RdM.below HR37.out hb) (RdM.below HR47.out hb))
    have CS2 := Lib.hid (fun w' (hb : Below w7.heap.size w7 w') => same_gen A6 A7 (k + m) c6 c7 len (wrd k (fun i c => f (i * len + c))) (wrd k (fun i c => g (i * len + c))) w' (by omega) (fun _ _ _ _ => wrd_lt) (fun _ _ _ _ => wrd_lt) (RdM.below HM67.out hb) (RdM.below HM7.out hb))
    have CU := Lib.hid (fun w' (hb : Below w7.heap.size w7 w') => unlike_any A6 A7 (k + m) c6 c7 len (wrd k (fun i c => f (i * len + c))) (wrd k (fun i c => g (i * len + c))) w' (by omega) (fun _ _ _ _ => wrd_lt) (fun _ _ _ _ => wrd_lt) (RdM.below HM67.out hb) (RdM.below HM7.out hb))
    have HQ1 : Hid (sameB k len (fun i c => f (i * len + c)) (fun i c => g (i * len + c)) = true ↔ ∀ i, i < k → ∀ c, c < len → f (i * len + c) = g (i * len + c)) := sameB_iff HFA.out HGA.out
    have HQ2 : Hid (sameB (k + m) len (wrd k (fun i c => f (i * len + c))) (wrd k (fun i c => g (i * len + c))) = true ↔ ∀ i, i < k + m → ∀ c, c < len → wrd k (fun i c => f (i * len + c)) i c = wrd k (fun i c => g (i * len + c)) i c) := sameB_iff (fun _ _ _ _ => wrd_lt) (fun _ _ _ _ => wrd_lt)
    have HFAR := Lib.hid (fun h => far_plain (k := k) (m := m) (len := len) (by omega) hkm HFA.out HGA.out h)
    clear HR37 HR47 HM67 HM7 HFA HGA HA HY HF HG
    by_cases hsm : ∀ i, i < k → ∀ c, c < len → f (i * len + c) = g (i * len + c)
    · have hq1 := HQ1.out.2 hsm
      have hq2 := HQ2.out.2 fun i _ c hc => wrd_congr fun j hj => hsm j hj c hc
      rw [hq1] at CS1
      rw [hq2] at CS2
      clear hq1 hq2 hsm HQ1 HQ2 CU HFAR
      go_wp2_with fail
      refine (CS1.out _ (Below.refl _ _)).mono ?_
      rintro e w8 ⟨rfl, hd8⟩
      have HB8 := Lib.hid (HB7.out.trans ((hd8.below _).mono HB7.out.size))
      have HD8 := Lib.hid (hd8.below w7.heap.size)
      clear hd8
      go_wp2_with fail
      refine (CS2.out _ HD8.out).mono ?_
      rintro e w9 ⟨rfl, hd9⟩
      have HB9 := Lib.hid (HB8.out.trans ((hd9.below _).mono HB8.out.size))
      clear hd9
      go_wp2
      go_ret
      exact ⟨rfl, HB9.out⟩
    · have hq1 : sameB k len (fun i c => f (i * len + c)) (fun i c => g (i * len + c)) = false := by
        cases e : sameB k len (fun i c => f (i * len + c)) (fun i c => g (i * len + c))
        · rfl
        · exact absurd (HQ1.out.1 e) hsm
      have hcnt : m + 1 ≤ cntB (unB len (wrd k (fun i c => f (i * len + c))) (wrd k (fun i c => g (i * len + c)))) (k + m) := by
        rcases Nat.lt_or_ge m (cntB (unB len (wrd k (fun i c => f (i * len + c))) (wrd k (fun i c => g (i * len + c)))) (k + m)) with h | h
        · exact h
        · exact absurd (HFAR.out h) hsm
      rw [hq1] at CS1
      clear hq1 hsm HQ1 HQ2 CS2 HFAR
      generalize cntB (unB len (wrd k (fun i c => f (i * len + c))) (wrd k (fun i c => g (i * len + c)))) (k + m) = cn at *
      go_wp2_with fail
      refine (CS1.out _ (Below.refl _ _)).mono ?_
      rintro e w8 ⟨rfl, hd8⟩
      have HB8 := Lib.hid (HB7.out.trans ((hd8.below _).mono HB7.out.size))
      have HD8 := Lib.hid (hd8.below w7.heap.size)
      clear hd8
      go_wp2_with fail
      refine (CS1.out _ HD8.out).mono ?_
      rintro e w9 ⟨rfl, hd9⟩
      have HB9 := Lib.hid (HB8.out.trans ((hd9.below _).mono HB8.out.size))
      have HD9 := Lib.hid (HD8.out.trans ((hd9.below _).mono HD8.out.size))
      clear hd9
      go_wp2_with fail
      refine (CU.out _ HD9.out).mono ?_
      rintro e w10 ⟨rfl, hd10⟩
      have HB10 := Lib.hid (HB9.out.trans ((hd10.below _).mono HB9.out.size))
      clear hd10
      have hge : (m : Int) + 1 ≤ (cn : Int) := by omega
      have t9 : decide ((m : Int) + 1 ≤ (cn : Int)) = true := decide_eq_true hge
      go_wp2
      go_ret
      first
        | exact ⟨rfl, HB10.out⟩
        | (refine ⟨?_, HB10.out⟩; simp [hge])
end Go.Proofs.Ythodpgkelmalmaa
