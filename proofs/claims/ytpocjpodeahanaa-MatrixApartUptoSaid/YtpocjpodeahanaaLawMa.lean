/- MatrixApart: the law's walk. Conditions: none. -/
import Derived.Test.YtpocjpodeahanaaApO
import Derived.Test.YtpocjpodeahanaaAppN
import Derived.Test.YtpocjpodeahanaaOut1
import Derived.Test.YtpocjpodeahanaaFactT
namespace Go.Proofs.Ytpocjpodeahanaa
open Go.RowKit

theorem ME.same {w : World} {A : Option Addr} {K n : Nat} {er : Int} {X X' : Nat → Nat → Fin 256} (h : ME w A K (fun _ => n) (fun i j => (X i j).val)) (hK : K = if er = 0 then n else 0) (hx : er = 0 → ∀ i, i < n → ∀ j, j < n → X i j = X' i j) : ME w A K (fun _ => n) (fun i j => (X' i j).val) := by
  obtain ⟨S, C, h1, h2⟩ := h
  refine ⟨S, C, h1, fun i hi j hj => ?_⟩
  obtain ⟨b, o, e1, e2, e3⟩ := h2 i hi j hj
  refine ⟨b, o, e1, e2, e3.trans ?_⟩
  have h0 : er = 0 ∧ i < n := by
    by_cases h0 : er = 0
    · rw [if_pos h0] at hK; exact ⟨h0, by omega⟩
    · rw [if_neg h0] at hK; omega
  show some (Value.int .u8 ((X i j).val : Nat)) = some (Value.int .u8 ((X' i j).val : Nat))
  rw [hx h0.1 i h0.2 j hj]
theorem lit345 (w : World) (T : TypeId) : Rd (w.alloc (.cells #[.int .i64 3, .int .i64 4, .int .i64 5] T)) (some ⟨w.heap.size, 0, none⟩) 3 fun i => .int .i64 (((fun i => i + 3) i : Nat)) := by
  have r1 := World.rowIs_alloc w #[.int .i64 3, .int .i64 4, .int .i64 5] T (fun i => .int .i64 (((fun i => i + 3) i : Nat))) (by intro i hi; match i, hi with | 0, _ => rfl | 1, _ => rfl | 2, _ => rfl)
  exact row_rd r1
set_option maxRecDepth 100000 in
set_option maxHeartbeats 32000000 in
theorem lawMa (F : Int) (A Bm At : Option Addr) (n cA nb cB m cAt : Nat) (L Lb : Nat → Nat) (f fb : Nat → Nat → Int) (tt : Nat → Int) (V N One : Value) (hV : V.oneCell' = true) (hN : N.oneCell' = true) (hO : One.oneCell' = true) (w : World)
    (hn : n * 24 ≤ 140737488351232) (hL : ∀ i, i < n → L i * 8 ≤ 140737488351232) (hnb : nb * 24 ≤ 140737488351232) (hLb : ∀ i, i < nb → Lb i * 8 ≤ 140737488351232) (hm : m * 8 ≤ 140737488351232)
    (hA : RdM w A n L fun i j => .int .i64 (f i j)) (hB : RdM w Bm nb Lb fun i j => .int .i64 (fb i j)) (hAt : Rd w At m fun i => .int .i64 (tt i)) :
    Calls Try.prog 13 #[.agg #[.int .i64 F, .slice A n cA, .slice Bm nb cB, .slice At m cAt, V, N, One]] w fun e w' => e = .returned (.bool true) ∧ Below w.heap.size w w' := by
  have hoc := And.intro hV (And.intro hN hO)
  clear hoc
  have hL9 : ∀ i, i < n → L i ≤ 9223372036854775807 := fun i hi => by have := hL i hi; omega
  have hLb9 : ∀ i, i < nb → Lb i ≤ 9223372036854775807 := fun i hi => by have := hLb i hi; omega
  have HL := Lib.hid hL; have HL9 := Lib.hid hL9; have HLb := Lib.hid hLb; have HLb9 := Lib.hid hLb9; clear hL hL9 hLb hLb9
  have hn9 : n ≤ 9223372036854775807 := by omega
  have hnb9 : nb ≤ 9223372036854775807 := by omega
  go_enter Try.func13, Try.ntmps13
  have hb0 : Below w.heap.size w (w.alloc (.cells #[.int .i64 F, .slice A n cA, .slice Bm nb cB, .slice At m cAt, V, N, One] 25)) := (Below.refl _ _).alloc (Nat.le_refl _) _
  have hA0 := RdM.below hA hb0
  have hB0 := RdM.below hB hb0
  have hAt0 := hAt.below hb0
  clear hA hB hAt
  go_wp2_with fail
  refine (rows_any 256 A n cA L f _ (by omega) (by omega) hn HL.out hA0).mono ?_
  rintro e w1 ⟨v, S0, C0, rfl, hO, hb1⟩
  obtain ⟨A1, c1, rfl, _, hR⟩ := hO.rdm
  obtain ⟨G, hG⟩ : ∃ G : Nat → Nat → Fin 256, G = fun i j => lowF 256 (by decide) (f i j) := ⟨_, rfl⟩
  have hR : MI w1 A1 n L (fun i j => (G i j).val) := by rw [hG]; exact hR
  have hc2 : w1.cell? ⟨w.heap.size, 2, none⟩ = some (.slice Bm nb cB) := by rw [hb1.cell (by simp)]; go_simp
  have hc3 : w1.cell? ⟨w.heap.size, 3, none⟩ = some (.slice At m cAt) := by rw [hb1.cell (by simp)]; go_simp
  have HC3 : Hid (∀ w', Below w1.heap.size w1 w' → w'.cell? ⟨w.heap.size, 3, none⟩ = some (.slice At m cAt)) := Lib.hid fun w' hb => by rw [hb.cell (Nat.lt_of_lt_of_le (by simp) hb1.size)]; exact hc3
  have hB1 := RdM.below hB0 hb1
  have HAt : Hid (∀ w', Below w1.heap.size w1 w' → Rd w' At m fun i => .int .i64 (tt i)) := Lib.hid fun w' hb => (hAt0.below hb1).below hb
  have HX1 : Hid (Below w.heap.size w w1) := Lib.hid (hb0.trans (hb1.mono (by simp)))
  have HY1 := Lib.hid (Below.refl w1.heap.size w1)
  have HR := Lib.hid hR
  clear hb1 hb0 hA0 hB0 hAt0 hO hR hG
  go_wp2_with fail
  refine (rows_any 256 Bm nb cB Lb fb _ (by omega) (by omega) hnb HLb.out hB1).mono ?_
  rintro e w2 ⟨v, S0', C0', rfl, hO, hb2⟩
  obtain ⟨B1, d1, rfl, _, hR⟩ := hO.rdm
  obtain ⟨H, hH⟩ : ∃ H : Nat → Nat → Fin 256, H = fun i j => lowF 256 (by decide) (fb i j) := ⟨_, rfl⟩
  have hR : MI w2 B1 nb Lb (fun i j => (H i j).val) := by rw [hH]; exact hR
  have HA1 : Hid (∀ w', Below w2.heap.size w2 w' → MI w' A1 n L (fun i j => (G i j).val)) := Lib.hid fun w' hb => (HR.out.below hb2).below hb
  have HB1 : Hid (∀ w', Below w2.heap.size w2 w' → MI w' B1 nb Lb (fun i j => (H i j).val)) := Lib.hid fun w' hb => hR.below hb
  have HX2 := Lib.hid (HX1.out.trans (hb2.mono HX1.out.size))
  have HY2 := Lib.hid (HY1.out.trans (hb2.mono HY1.out.size))
  replace hc3 := HC3.out _ HY2.out
  have HB12 := Lib.hid hb2
  have hs2 := hb2.size
  clear hb2
  clear hO hB1 hc2 hR HR hH
  have HG : Hid (∀ i, i < n → ∀ j, j < L i → (G i j).val < 256) := Lib.hid fun i _ j _ => (G i j).isLt
  have HH : Hid (∀ i, i < nb → ∀ j, j < Lb i → (H i j).val < 256) := Lib.hid fun i _ j _ => (H i j).isLt
  have HGa : Hid (∀ i j, (G i j).val < 256) := Lib.hid fun i j => (G i j).isLt
  have HHa : Hid (∀ i j, (H i j).val < 256) := Lib.hid fun i j => (H i j).isLt
  have HMU : Hid (∀ i u j, mulR 256 (G i u).val (H u j).val < 2 ^ 8) := Lib.hid fun i u j => mulR_lt256 (G i u).isLt
  go_wp2_with fail
  refine (roomy_any A1 n c1 L (fun i j => (G i j).val) w2 hn HL.out HG.out (HA1.out w2 (Below.refl _ _))).mono ?_
  rintro e w3 ⟨AM, AQ, cM, cR, S, C, rfl, hM, hb3⟩
  have HM := Lib.hid hM
  have hlM := hM.len
  have HX3 := Lib.hid (HX2.out.trans (hb3.mono HX2.out.size))
  have HY3 := Lib.hid (HY2.out.trans (hb3.mono HY2.out.size))
  replace hc3 := HC3.out _ HY3.out
  have HB23 := Lib.hid hb3
  have hs3 := hb3.size
  clear hb3
  clear hM
  go_wp2_with fail
  refine (roomy_any B1 nb d1 Lb (fun i j => (H i j).val) w3 hnb HLb.out HH.out (HB1.out w3 HB23.out)).mono ?_
  rintro e w4 ⟨BM, BQ, dM, dR, S2, C2, rfl, hM, hb4⟩
  have HN := Lib.hid hM
  have hlN := hM.len
  have HX4 := Lib.hid (HX3.out.trans (hb4.mono HX3.out.size))
  have HY4 := Lib.hid (HY3.out.trans (hb4.mono HY3.out.size))
  replace hc3 := HC3.out _ HY4.out
  have HB34 := Lib.hid hb4
  have hs4 := hb4.size
  clear hb4
  clear hM
  have HMX : Hid (∀ w', Below w4.heap.size w4 w' → ME w' AM n L (fun i j => (G i j).val)) := Lib.hid fun w' hb => ((HM.out.kept HB34.out).kept hb).rdm
  have HNX : Hid (∀ w', Below w4.heap.size w4 w' → ME w' BM nb Lb (fun i j => (H i j).val)) := Lib.hid fun w' hb => (HN.out.kept hb).rdm
  go_wp2_with fail
  refine (rprod_all 256 A1 B1 n nb c1 d1 L Lb (fun i j => (G i j).val) (fun i j => (H i j).val) w4 hn9 HL9.out hnb9 HLb9.out (HA1.out w4 (HB23.out.trans (HB34.out.mono hs3))) (HB1.out w4 (HB23.out.trans (HB34.out.mono hs3))) HGa.out HHa.out HMU.out).mono ?_
  rintro e w5 ⟨Pt, ct, rfl, hPt, hb5⟩
  have HPT := Lib.hid hPt
  have HX5 := Lib.hid (HX4.out.trans (hb5.mono HX4.out.size))
  have HY5 := Lib.hid (HY4.out.trans (hb5.mono HY4.out.size))
  replace hc3 := HC3.out _ HY5.out
  have HB45 := Lib.hid hb5
  have hs5 := hb5.size
  clear hb5
  clear hPt
  go_wp2_with fail
  refine (rrows_all A1 At n m c1 cAt L (fun i j => (G i j).val) tt w5 hn9 HL9.out (HA1.out w5 (HB23.out.trans ((HB34.out.trans (HB45.out.mono hs4)).mono hs3))) (HAt.out w5 HY5.out)).mono ?_
  rintro e w6 ⟨Pr, cr, rfl, hPr, hb6⟩
  have HPR := Lib.hid hPr
  have HX6 := Lib.hid (HX5.out.trans (hb6.mono HX5.out.size))
  have HY6 := Lib.hid (HY5.out.trans (hb6.mono HY5.out.size))
  replace hc3 := HC3.out _ HY6.out
  have HB56 := Lib.hid hb6
  have hs6 := hb6.size
  clear hb6
  clear hPr
  go_wp2_with fail
  refine (rinv_any okE A1 n c1 L G w6 hn9 HL9.out (HA1.out w6 (HB23.out.trans ((HB34.out.trans ((HB45.out.trans (HB56.out.mono hs5)).mono hs4)).mono hs3)))).mono ?_
  rintro e w7 ⟨er, XI, Pi, ci, rfl, hIR, hb7, hPi⟩
  obtain ⟨K, hK⟩ : ∃ K, K = (if er = 0 then n else 0) := ⟨_, rfl⟩
  rw [← hK] at hPi ⊢
  have HK := Lib.hid hK; have HIR := Lib.hid hIR; have HPI := Lib.hid hPi
  have HX7 := Lib.hid (HX6.out.trans (hb7.mono HX6.out.size))
  have HY7 := Lib.hid (HY6.out.trans (hb7.mono HY6.out.size))
  replace hc3 := HC3.out _ HY7.out
  have HB67 := Lib.hid hb7
  have hs7 := hb7.size
  clear hb7
  clear hK hIR hPi
  go_wp2_with (at_builtin; refine wpList_appendRd rfl (.const (.slice none 0 0)) (.tmp 86) 23 rfl w7.heap.size 3 8 (.int .i64 0) Try.underlying23 apInt rfl rfl (Nat.le_refl _) At m cAt (fun i => .int .i64 (tt i)) rfl (HAt.out w7 HY7.out) (fun _ _ => rfl) (by omega) (by omega) ?_)
  intro va wq hva hbq
  have HVA := Lib.hid hva
  have hsq := hbq.size
  clear hva
  go_wp2_with (at_builtin; refine wpList_pushX wq rfl (.tmp 88) (.tmp 89) 23 rfl w7.heap.size 3 1 8 (.int .i64 0) #[.int .i64 (-9)] Try.underlying23 apInt rfl _ m (fun j => [if j < m then .int .i64 (tt j) else .int .i64 (-9)]) rfl (Own.congr HVA.out fun j hj => by rw [if_pos hj]) hsq _ rfl rfl (by simp) rfl rfl (by omega) (by omega) ?_)
  intro v9 w8 hO hb9 _
  have hb8 : Below w7.heap.size w7 w8 := hbq.trans hb9
  obtain ⟨AT, cT, rfl, hcT, _, hT, _⟩ := hO.rd
  have HOT := Lib.hid hO
  have HTX : Hid (∀ w', Below w8.heap.size w8 w' → Rd w' AT (m + 1) (fun j => if j < m then .int .i64 (tt j) else .int .i64 (-9))) := Lib.hid fun w' hb => hT.below hb
  have HT : Hid (∀ w', Below w8.heap.size w8 w' → Rd w' AT m fun i => .int .i64 (tt i)) := Lib.hid fun w' hb i hi => by
    obtain ⟨b, o, e1, e2, e3⟩ := HTX.out w' hb i (by omega)
    exact ⟨b, o, e1, e2, by rw [e3]; simp only [if_pos hi]⟩
  have HX8 := Lib.hid (HX7.out.trans (hb8.mono HX7.out.size))
  have HY8 := Lib.hid (HY7.out.trans (hb8.mono HY7.out.size))
  replace hc3 := HC3.out _ HY8.out
  have HB78 := Lib.hid hb8
  have hs8 := hb8.size
  clear hb8
  clear hT hO hb9 hbq HVA hsq
  have hq1 : (0 : Int) ≤ (m : Int) := by omega
  have hq2 : (m : Int) ≤ (cT : Int) := by omega
  go_wp2_with fail
  refine (timE_own AM BM n nb cM dM L Lb (fun i j => (G i j).val) (fun i j => (H i j).val) w8 hn9 HL9.out hnb9 HLb9.out (HMX.out w8 (HB45.out.trans ((HB56.out.trans ((HB67.out.trans (HB78.out.mono hs7)).mono hs6)).mono hs5))) (HNX.out w8 (HB45.out.trans ((HB56.out.trans ((HB67.out.trans (HB78.out.mono hs7)).mono hs6)).mono hs5))) HGa.out HHa.out).mono ?_
  rintro e w9 ⟨At1, ct1, rfl, hO, hE, hb9⟩
  have HOt1 := Lib.hid hO; have HEt1 := Lib.hid hE
  have HX9 := Lib.hid (HX8.out.trans (hb9.mono HX8.out.size))
  have HY9 := Lib.hid (HY8.out.trans (hb9.mono HY8.out.size))
  replace hc3 := HC3.out _ HY9.out
  have HB89 := Lib.hid hb9
  have hs9 := hb9.size
  clear hb9
  clear hO hE
  go_wp2_with fail
  refine (rowsO_all AM AT n m cM cT L (fun i j => (G i j).val) tt w9 hn9 HL9.out (HMX.out w9 (HB45.out.trans ((HB56.out.trans ((HB67.out.trans ((HB78.out.trans (HB89.out.mono hs8)).mono hs7)).mono hs6)).mono hs5))) (HT.out w9 HB89.out)).mono ?_
  rintro e w10 ⟨Ar1, cr1, rfl, hO, hE, hb10⟩
  have HOr1 := Lib.hid hO; have HEr1 := Lib.hid hE
  have HX10 := Lib.hid (HX9.out.trans (hb10.mono HX9.out.size))
  have HY10 := Lib.hid (HY9.out.trans (hb10.mono HY9.out.size))
  replace hc3 := HC3.out _ HY10.out
  have HB910 := Lib.hid hb10
  have hs10 := hb10.size
  clear hb10
  clear hO hE
  go_wp2_with fail
  refine (invO_any AM n cM L G w10 hn9 HL9.out (HMX.out w10 (HB45.out.trans ((HB56.out.trans ((HB67.out.trans ((HB78.out.trans ((HB89.out.trans (HB910.out.mono hs9)).mono hs8)).mono hs7)).mono hs6)).mono hs5)))).mono ?_
  rintro e w11 ⟨eri1, Xi1, Ai1, ci1, rfl, hIP, hb11, hO, hE⟩
  obtain ⟨e1, hx⟩ := inv_same hIP HIR.out
  replace e1 := e1.symm
  subst e1
  rw [← HK.out] at hO hE ⊢
  have HOi1 := Lib.hid hO
  have HEi1 := Lib.hid (hE.same HK.out hx)
  have HK255 : Hid (K ≤ 255) := Lib.hid (by rw [HK.out]; exact hIP.small.1)
  have HX11 := Lib.hid (HX10.out.trans (hb11.mono HX10.out.size))
  have HY11 := Lib.hid (HY10.out.trans (hb11.mono HY10.out.size))
  replace hc3 := HC3.out _ HY11.out
  have HB1011 := Lib.hid hb11
  have hs11 := hb11.size
  clear hb11
  clear hO hE hIP hx
  go_wp2_with fail
  refine (elems_any (some ⟨w11.heap.size, 0, none⟩) 3 3 (fun i => i + 3) _ (by decide) (fun i hi => by omega) (lit345 w11 3)).mono ?_
  rintro e w12 ⟨v, rfl, hO, hb⟩
  have hb12 : Below w11.heap.size w11 w12 := ((Below.refl w11.heap.size w11).alloc (Nat.le_refl _) (.cells #[.int .i64 3, .int .i64 4, .int .i64 5] 3)).trans (hb.mono (by simp))
  obtain ⟨Alp1, clp1, rfl, _, _, hR, _⟩ := hO.rd
  have HX12 := Lib.hid (HX11.out.trans (hb12.mono HX11.out.size))
  have HY12 := Lib.hid (HY11.out.trans (hb12.mono HY11.out.size))
  replace hc3 := HC3.out _ HY12.out
  have HB1112 := Lib.hid hb12
  have hs12 := hb12.size
  clear hb12
  clear hO hb
  go_wp2_with fail
  refine (powE3_own Alp1 clp1 (fun i => i + 3) w12 (fun i hi => by omega) hR).mono ?_
  rintro e w13 ⟨Ap1, rfl, hO, hE, hb13⟩
  have HOp1 := Lib.hid hO; have HEp1 := Lib.hid hE
  have HX13 := Lib.hid (HX12.out.trans (hb13.mono HX12.out.size))
  have HY13 := Lib.hid (HY12.out.trans (hb13.mono HY12.out.size))
  replace hc3 := HC3.out _ HY13.out
  have HB1213 := Lib.hid hb13
  have hs13 := hb13.size
  clear hb13
  clear hO hE hR
  go_wp2_with fail
  refine (elem_any 1 w13 (by decide)).mono ?_
  rintro e w' ⟨rfl, hw⟩
  replace hw := hw.symm
  subst hw
  go_wp2_with fail
  refine (identE_own _).mono ?_
  rintro e w14 ⟨Au1, rfl, hO, hE, hb14⟩
  have HOu1 := Lib.hid hO; have HEu1 := Lib.hid hE
  have HX14 := Lib.hid (HX13.out.trans (hb14.mono HX13.out.size))
  have HY14 := Lib.hid (HY13.out.trans (hb14.mono HY13.out.size))
  replace hc3 := HC3.out _ HY14.out
  have HB1314 := Lib.hid hb14
  have hs14 := hb14.size
  clear hb14
  clear hO hE
  go_wp2_with fail
  refine (timE_own BM AM nb n dM cM Lb L (fun i j => (H i j).val) (fun i j => (G i j).val) w14 hnb9 HLb9.out hn9 HL9.out (HNX.out w14 (HB45.out.trans ((HB56.out.trans ((HB67.out.trans ((HB78.out.trans ((HB89.out.trans ((HB910.out.trans ((HB1011.out.trans ((HB1112.out.trans ((HB1213.out.trans (HB1314.out.mono hs13)).mono hs12)).mono hs11)).mono hs10)).mono hs9)).mono hs8)).mono hs7)).mono hs6)).mono hs5))) (HMX.out w14 (HB45.out.trans ((HB56.out.trans ((HB67.out.trans ((HB78.out.trans ((HB89.out.trans ((HB910.out.trans ((HB1011.out.trans ((HB1112.out.trans ((HB1213.out.trans (HB1314.out.mono hs13)).mono hs12)).mono hs11)).mono hs10)).mono hs9)).mono hs8)).mono hs7)).mono hs6)).mono hs5))) HHa.out HGa.out).mono ?_
  rintro e w15 ⟨Ao1, co1, rfl, hO, hE, hb15⟩
  have HOo1 := Lib.hid hO; have HEo1 := Lib.hid hE
  have HX15 := Lib.hid (HX14.out.trans (hb15.mono HX14.out.size))
  have HY15 := Lib.hid (HY14.out.trans (hb15.mono HY14.out.size))
  replace hc3 := HC3.out _ HY15.out
  have HB1415 := Lib.hid hb15
  have hs15 := hb15.size
  clear hb15
  clear hO hE
  go_wp2_with fail
  refine (timE_own AM BM n nb cM dM L Lb (fun i j => (G i j).val) (fun i j => (H i j).val) w15 hn9 HL9.out hnb9 HLb9.out (HMX.out w15 (HB45.out.trans ((HB56.out.trans ((HB67.out.trans ((HB78.out.trans ((HB89.out.trans ((HB910.out.trans ((HB1011.out.trans ((HB1112.out.trans ((HB1213.out.trans ((HB1314.out.trans (HB1415.out.mono hs14)).mono hs13)).mono hs12)).mono hs11)).mono hs10)).mono hs9)).mono hs8)).mono hs7)).mono hs6)).mono hs5))) (HNX.out w15 (HB45.out.trans ((HB56.out.trans ((HB67.out.trans ((HB78.out.trans ((HB89.out.trans ((HB910.out.trans ((HB1011.out.trans ((HB1112.out.trans ((HB1213.out.trans ((HB1314.out.trans (HB1415.out.mono hs14)).mono hs13)).mono hs12)).mono hs11)).mono hs10)).mono hs9)).mono hs8)).mono hs7)).mono hs6)).mono hs5))) HGa.out HHa.out).mono ?_
  rintro e w16 ⟨At2, ct2, rfl, hO, hE, hb16⟩
  have HOt2 := Lib.hid hO; have HEt2 := Lib.hid hE
  have HX16 := Lib.hid (HX15.out.trans (hb16.mono HX15.out.size))
  have HY16 := Lib.hid (HY15.out.trans (hb16.mono HY15.out.size))
  replace hc3 := HC3.out _ HY16.out
  have HB1516 := Lib.hid hb16
  have hs16 := hb16.size
  clear hb16
  clear hO hE
  go_wp2_with fail
  refine (rowsO_all AM AT n m cM cT L (fun i j => (G i j).val) tt w16 hn9 HL9.out (HMX.out w16 (HB45.out.trans ((HB56.out.trans ((HB67.out.trans ((HB78.out.trans ((HB89.out.trans ((HB910.out.trans ((HB1011.out.trans ((HB1112.out.trans ((HB1213.out.trans ((HB1314.out.trans ((HB1415.out.trans (HB1516.out.mono hs15)).mono hs14)).mono hs13)).mono hs12)).mono hs11)).mono hs10)).mono hs9)).mono hs8)).mono hs7)).mono hs6)).mono hs5))) (HT.out w16 (HB89.out.trans ((HB910.out.trans ((HB1011.out.trans ((HB1112.out.trans ((HB1213.out.trans ((HB1314.out.trans ((HB1415.out.trans (HB1516.out.mono hs15)).mono hs14)).mono hs13)).mono hs12)).mono hs11)).mono hs10)).mono hs9)))).mono ?_
  rintro e w17 ⟨Ar2, cr2, rfl, hO, hE, hb17⟩
  have HOr2 := Lib.hid hO; have HEr2 := Lib.hid hE
  have HX17 := Lib.hid (HX16.out.trans (hb17.mono HX16.out.size))
  have HY17 := Lib.hid (HY16.out.trans (hb17.mono HY16.out.size))
  replace hc3 := HC3.out _ HY17.out
  have HB1617 := Lib.hid hb17
  have hs17 := hb17.size
  clear hb17
  clear hO hE
  go_wp2_with fail
  refine (invO_any AM n cM L G w17 hn9 HL9.out (HMX.out w17 (HB45.out.trans ((HB56.out.trans ((HB67.out.trans ((HB78.out.trans ((HB89.out.trans ((HB910.out.trans ((HB1011.out.trans ((HB1112.out.trans ((HB1213.out.trans ((HB1314.out.trans ((HB1415.out.trans ((HB1516.out.trans (HB1617.out.mono hs16)).mono hs15)).mono hs14)).mono hs13)).mono hs12)).mono hs11)).mono hs10)).mono hs9)).mono hs8)).mono hs7)).mono hs6)).mono hs5)))).mono ?_
  rintro e w18 ⟨eri2, Xi2, Ai2, ci2, rfl, hIP, hb18, hO, hE⟩
  obtain ⟨e1, hx⟩ := inv_same hIP HIR.out
  replace e1 := e1.symm
  subst e1
  rw [← HK.out] at hO hE ⊢
  have HOi2 := Lib.hid hO
  have HEi2 := Lib.hid (hE.same HK.out hx)
  have HX18 := Lib.hid (HX17.out.trans (hb18.mono HX17.out.size))
  have HY18 := Lib.hid (HY17.out.trans (hb18.mono HY17.out.size))
  replace hc3 := HC3.out _ HY18.out
  have HB1718 := Lib.hid hb18
  have hs18 := hb18.size
  clear hb18
  clear hO hE hIP hx
  go_wp2_with fail
  refine (elems_any (some ⟨w18.heap.size, 0, none⟩) 3 3 (fun i => i + 3) _ (by decide) (fun i hi => by omega) (lit345 w18 3)).mono ?_
  rintro e w19 ⟨v, rfl, hO, hb⟩
  have hb19 : Below w18.heap.size w18 w19 := ((Below.refl w18.heap.size w18).alloc (Nat.le_refl _) (.cells #[.int .i64 3, .int .i64 4, .int .i64 5] 3)).trans (hb.mono (by simp))
  obtain ⟨Alp2, clp2, rfl, _, _, hR, _⟩ := hO.rd
  have HX19 := Lib.hid (HX18.out.trans (hb19.mono HX18.out.size))
  have HY19 := Lib.hid (HY18.out.trans (hb19.mono HY18.out.size))
  replace hc3 := HC3.out _ HY19.out
  have HB1819 := Lib.hid hb19
  have hs19 := hb19.size
  clear hb19
  clear hO hb
  go_wp2_with fail
  refine (powE3_own Alp2 clp2 (fun i => i + 3) w19 (fun i hi => by omega) hR).mono ?_
  rintro e w20 ⟨Ap2, rfl, hO, hE, hb20⟩
  have HOp2 := Lib.hid hO; have HEp2 := Lib.hid hE
  have HX20 := Lib.hid (HX19.out.trans (hb20.mono HX19.out.size))
  have HY20 := Lib.hid (HY19.out.trans (hb20.mono HY19.out.size))
  replace hc3 := HC3.out _ HY20.out
  have HB1920 := Lib.hid hb20
  have hs20 := hb20.size
  clear hb20
  clear hO hE hR
  go_wp2_with fail
  refine (elem_any 1 w20 (by decide)).mono ?_
  rintro e w' ⟨rfl, hw⟩
  replace hw := hw.symm
  subst hw
  go_wp2_with fail
  refine (identE_own _).mono ?_
  rintro e w21 ⟨Au2, rfl, hO, hE, hb21⟩
  have HOu2 := Lib.hid hO; have HEu2 := Lib.hid hE
  have HX21 := Lib.hid (HX20.out.trans (hb21.mono HX20.out.size))
  have HY21 := Lib.hid (HY20.out.trans (hb21.mono HY20.out.size))
  replace hc3 := HC3.out _ HY21.out
  have HB2021 := Lib.hid hb21
  have hs21 := hb21.size
  clear hb21
  clear hO hE
  go_wp2_with fail
  have HK1 : Hid (tk n nb L Lb ≤ 1000000000000000) := by have := tk_le n nb L Lb; show _ ≤ _; omega
  have HL1 : Hid (∀ i, i < tk n nb L Lb → colsN nb Lb ≤ 1000000000000000) := fun i hi => by have := (tk_good hi).2.2; omega
  have HK2 : Hid (rk n m L tt ≤ 1000000000000000) := by have := rk_le n m L tt; show _ ≤ _; omega
  have HL2 : Hid (∀ i, i < rk n m L tt → L (tt i).toNat ≤ 1000000000000000) := fun i hi => by have := HL.out _ (rk_good hi).1; omega
  have HK3 : Hid (K ≤ 1000000000000000) := by
    show K ≤ _
    rw [HK.out]
    split <;> omega
  have HL3 : Hid (∀ i, i < K → n ≤ 1000000000000000) := fun i hi => by omega
  refine (likeElemss_any At1 Pt _ ct1 ct (fun _ => colsN nb Lb) (fun i j => dot 256 (fun u => (G i u).val) (fun u => (H u j).val) nb) w21 HK1.out HL1.out (fun i _ j _ => dot_lt (e := 8) nb fun u _ => mulR_lt256 (G i u).isLt) (RdM.below HEt1.out (HB910.out.trans ((HB1011.out.trans ((HB1112.out.trans ((HB1213.out.trans ((HB1314.out.trans ((HB1415.out.trans ((HB1516.out.trans ((HB1617.out.trans ((HB1718.out.trans ((HB1819.out.trans ((HB1920.out.trans (HB2021.out.mono hs20)).mono hs19)).mono hs18)).mono hs17)).mono hs16)).mono hs15)).mono hs14)).mono hs13)).mono hs12)).mono hs11)).mono hs10))) (RdM.below HPT.out (HB56.out.trans ((HB67.out.trans ((HB78.out.trans ((HB89.out.trans ((HB910.out.trans ((HB1011.out.trans ((HB1112.out.trans ((HB1213.out.trans ((HB1314.out.trans ((HB1415.out.trans ((HB1516.out.trans ((HB1617.out.trans ((HB1718.out.trans ((HB1819.out.trans ((HB1920.out.trans (HB2021.out.mono hs20)).mono hs19)).mono hs18)).mono hs17)).mono hs16)).mono hs15)).mono hs14)).mono hs13)).mono hs12)).mono hs11)).mono hs10)).mono hs9)).mono hs8)).mono hs7)).mono hs6)))).mono ?_
  rintro e w22 ⟨rfl, hdr⟩
  have hb22 : Below w21.heap.size w21 w22 := hdr.below _
  have HX22 := Lib.hid (HX21.out.trans (hb22.mono HX21.out.size))
  have HY22 := Lib.hid (HY21.out.trans (hb22.mono HY21.out.size))
  replace hc3 := HC3.out _ HY22.out
  have HB2122 := Lib.hid hb22
  have hs22 := hb22.size
  clear hb22
  clear hdr
  go_wp2_with fail
  refine (likeElemss_any Ar1 Pr _ cr1 cr (fun i => L (tt i).toNat) (fun i j => (G (tt i).toNat j).val) w22 HK2.out HL2.out (fun i _ j _ => (G _ _).isLt) (RdM.below HEr1.out (HB1011.out.trans ((HB1112.out.trans ((HB1213.out.trans ((HB1314.out.trans ((HB1415.out.trans ((HB1516.out.trans ((HB1617.out.trans ((HB1718.out.trans ((HB1819.out.trans ((HB1920.out.trans ((HB2021.out.trans (HB2122.out.mono hs21)).mono hs20)).mono hs19)).mono hs18)).mono hs17)).mono hs16)).mono hs15)).mono hs14)).mono hs13)).mono hs12)).mono hs11))) (RdM.below HPR.out (HB67.out.trans ((HB78.out.trans ((HB89.out.trans ((HB910.out.trans ((HB1011.out.trans ((HB1112.out.trans ((HB1213.out.trans ((HB1314.out.trans ((HB1415.out.trans ((HB1516.out.trans ((HB1617.out.trans ((HB1718.out.trans ((HB1819.out.trans ((HB1920.out.trans ((HB2021.out.trans (HB2122.out.mono hs21)).mono hs20)).mono hs19)).mono hs18)).mono hs17)).mono hs16)).mono hs15)).mono hs14)).mono hs13)).mono hs12)).mono hs11)).mono hs10)).mono hs9)).mono hs8)).mono hs7)))).mono ?_
  rintro e w23 ⟨rfl, hdr⟩
  have hb23 : Below w22.heap.size w22 w23 := hdr.below _
  have HX23 := Lib.hid (HX22.out.trans (hb23.mono HX22.out.size))
  have HY23 := Lib.hid (HY22.out.trans (hb23.mono HY22.out.size))
  replace hc3 := HC3.out _ HY23.out
  have HB2223 := Lib.hid hb23
  have hs23 := hb23.size
  clear hb23
  clear hdr
  go_wp2_with fail
  refine (likeElemss_any Ai1 Pi _ ci1 ci (fun _ => n) (fun i j => (XI i j).val) w23 HK3.out HL3.out (fun i _ j _ => (XI _ _).isLt) (RdM.below HEi1.out (HB1112.out.trans ((HB1213.out.trans ((HB1314.out.trans ((HB1415.out.trans ((HB1516.out.trans ((HB1617.out.trans ((HB1718.out.trans ((HB1819.out.trans ((HB1920.out.trans ((HB2021.out.trans ((HB2122.out.trans (HB2223.out.mono hs22)).mono hs21)).mono hs20)).mono hs19)).mono hs18)).mono hs17)).mono hs16)).mono hs15)).mono hs14)).mono hs13)).mono hs12))) (RdM.below HPI.out (HB78.out.trans ((HB89.out.trans ((HB910.out.trans ((HB1011.out.trans ((HB1112.out.trans ((HB1213.out.trans ((HB1314.out.trans ((HB1415.out.trans ((HB1516.out.trans ((HB1617.out.trans ((HB1718.out.trans ((HB1819.out.trans ((HB1920.out.trans ((HB2021.out.trans ((HB2122.out.trans (HB2223.out.mono hs22)).mono hs21)).mono hs20)).mono hs19)).mono hs18)).mono hs17)).mono hs16)).mono hs15)).mono hs14)).mono hs13)).mono hs12)).mono hs11)).mono hs10)).mono hs9)).mono hs8)))).mono ?_
  rintro e w24 ⟨rfl, hdr⟩
  have hb24 : Below w23.heap.size w23 w24 := hdr.below _
  have HX24 := Lib.hid (HX23.out.trans (hb24.mono HX23.out.size))
  have HY24 := Lib.hid (HY23.out.trans (hb24.mono HY23.out.size))
  replace hc3 := HC3.out _ HY24.out
  have HB2324 := Lib.hid hb24
  have hs24 := hb24.size
  clear hb24
  clear hdr
  go_wp2_with fail
  refine (likeElemss_any At2 Pt _ ct2 ct (fun _ => colsN nb Lb) (fun i j => dot 256 (fun u => (G i u).val) (fun u => (H u j).val) nb) w24 HK1.out HL1.out (fun i _ j _ => dot_lt (e := 8) nb fun u _ => mulR_lt256 (G i u).isLt) (RdM.below HEt2.out (HB1617.out.trans ((HB1718.out.trans ((HB1819.out.trans ((HB1920.out.trans ((HB2021.out.trans ((HB2122.out.trans ((HB2223.out.trans (HB2324.out.mono hs23)).mono hs22)).mono hs21)).mono hs20)).mono hs19)).mono hs18)).mono hs17))) (RdM.below HPT.out (HB56.out.trans ((HB67.out.trans ((HB78.out.trans ((HB89.out.trans ((HB910.out.trans ((HB1011.out.trans ((HB1112.out.trans ((HB1213.out.trans ((HB1314.out.trans ((HB1415.out.trans ((HB1516.out.trans ((HB1617.out.trans ((HB1718.out.trans ((HB1819.out.trans ((HB1920.out.trans ((HB2021.out.trans ((HB2122.out.trans ((HB2223.out.trans (HB2324.out.mono hs23)).mono hs22)).mono hs21)).mono hs20)).mono hs19)).mono hs18)).mono hs17)).mono hs16)).mono hs15)).mono hs14)).mono hs13)).mono hs12)).mono hs11)).mono hs10)).mono hs9)).mono hs8)).mono hs7)).mono hs6)))).mono ?_
  rintro e w25 ⟨rfl, hdr⟩
  have hb25 : Below w24.heap.size w24 w25 := hdr.below _
  have HX25 := Lib.hid (HX24.out.trans (hb25.mono HX24.out.size))
  have HY25 := Lib.hid (HY24.out.trans (hb25.mono HY24.out.size))
  replace hc3 := HC3.out _ HY25.out
  have HB2425 := Lib.hid hb25
  have hs25 := hb25.size
  clear hb25
  clear hdr
  go_wp2_with fail
  refine (likeElemss_any Ar2 Pr _ cr2 cr (fun i => L (tt i).toNat) (fun i j => (G (tt i).toNat j).val) w25 HK2.out HL2.out (fun i _ j _ => (G _ _).isLt) (RdM.below HEr2.out (HB1718.out.trans ((HB1819.out.trans ((HB1920.out.trans ((HB2021.out.trans ((HB2122.out.trans ((HB2223.out.trans ((HB2324.out.trans (HB2425.out.mono hs24)).mono hs23)).mono hs22)).mono hs21)).mono hs20)).mono hs19)).mono hs18))) (RdM.below HPR.out (HB67.out.trans ((HB78.out.trans ((HB89.out.trans ((HB910.out.trans ((HB1011.out.trans ((HB1112.out.trans ((HB1213.out.trans ((HB1314.out.trans ((HB1415.out.trans ((HB1516.out.trans ((HB1617.out.trans ((HB1718.out.trans ((HB1819.out.trans ((HB1920.out.trans ((HB2021.out.trans ((HB2122.out.trans ((HB2223.out.trans ((HB2324.out.trans (HB2425.out.mono hs24)).mono hs23)).mono hs22)).mono hs21)).mono hs20)).mono hs19)).mono hs18)).mono hs17)).mono hs16)).mono hs15)).mono hs14)).mono hs13)).mono hs12)).mono hs11)).mono hs10)).mono hs9)).mono hs8)).mono hs7)))).mono ?_
  rintro e w26 ⟨rfl, hdr⟩
  have hb26 : Below w25.heap.size w25 w26 := hdr.below _
  have HX26 := Lib.hid (HX25.out.trans (hb26.mono HX25.out.size))
  have HY26 := Lib.hid (HY25.out.trans (hb26.mono HY25.out.size))
  replace hc3 := HC3.out _ HY26.out
  have HB2526 := Lib.hid hb26
  have hs26 := hb26.size
  clear hb26
  clear hdr
  go_wp2_with fail
  refine (likeElemss_any Ai2 Pi _ ci2 ci (fun _ => n) (fun i j => (XI i j).val) w26 HK3.out HL3.out (fun i _ j _ => (XI _ _).isLt) (RdM.below HEi2.out (HB1819.out.trans ((HB1920.out.trans ((HB2021.out.trans ((HB2122.out.trans ((HB2223.out.trans ((HB2324.out.trans ((HB2425.out.trans (HB2526.out.mono hs25)).mono hs24)).mono hs23)).mono hs22)).mono hs21)).mono hs20)).mono hs19))) (RdM.below HPI.out (HB78.out.trans ((HB89.out.trans ((HB910.out.trans ((HB1011.out.trans ((HB1112.out.trans ((HB1213.out.trans ((HB1314.out.trans ((HB1415.out.trans ((HB1516.out.trans ((HB1617.out.trans ((HB1718.out.trans ((HB1819.out.trans ((HB1920.out.trans ((HB2021.out.trans ((HB2122.out.trans ((HB2223.out.trans ((HB2324.out.trans ((HB2425.out.trans (HB2526.out.mono hs25)).mono hs24)).mono hs23)).mono hs22)).mono hs21)).mono hs20)).mono hs19)).mono hs18)).mono hs17)).mono hs16)).mono hs15)).mono hs14)).mono hs13)).mono hs12)).mono hs11)).mono hs10)).mono hs9)).mono hs8)))).mono ?_
  rintro e w27 ⟨rfl, hdr⟩
  have hb27 : Below w26.heap.size w26 w27 := hdr.below _
  have HX27 := Lib.hid (HX26.out.trans (hb27.mono HX26.out.size))
  have HY27 := Lib.hid (HY26.out.trans (hb27.mono HY26.out.size))
  replace hc3 := HC3.out _ HY27.out
  have HB2627 := Lib.hid hb27
  have hs27 := hb27.size
  clear hb27
  clear hdr
  go_wp2_with fail
  refine (intsE_any Ap2 3 3 (fun _ => 3) (fun i j => pw 256 1 (i + 3) j) w27 (by decide) (fun _ _ => by decide) (fun i j => pw_lt256 (by decide) j) (RdM.below HEp2.out (HB2021.out.trans ((HB2122.out.trans ((HB2223.out.trans ((HB2324.out.trans ((HB2425.out.trans ((HB2526.out.trans (HB2627.out.mono hs26)).mono hs25)).mono hs24)).mono hs23)).mono hs22)).mono hs21)))).mono ?_
  rintro e w28 ⟨v, S9, C9, rfl, hO, hb28⟩
  obtain ⟨AI, cI, rfl, _, _, hI⟩ := hO.rdm
  have HX28 := Lib.hid (HX27.out.trans (hb28.mono HX27.out.size))
  have HY28 := Lib.hid (HY27.out.trans (hb28.mono HY27.out.size))
  replace hc3 := HC3.out _ HY28.out
  have HB2728 := Lib.hid hb28
  have hs28 := hb28.size
  clear hb28
  clear hO
  go_wp2_with fail
  refine (likeElemss_any Ap1 AI 3 3 cI (fun _ => 3) (fun i j => pw 256 1 (i + 3) j) w28 (by decide) (fun _ _ => by decide) (fun i _ j _ => pw_lt256 (by decide) j) (RdM.below HEp1.out (HB1314.out.trans ((HB1415.out.trans ((HB1516.out.trans ((HB1617.out.trans ((HB1718.out.trans ((HB1819.out.trans ((HB1920.out.trans ((HB2021.out.trans ((HB2122.out.trans ((HB2223.out.trans ((HB2324.out.trans ((HB2425.out.trans ((HB2526.out.trans ((HB2627.out.trans (HB2728.out.mono hs27)).mono hs26)).mono hs25)).mono hs24)).mono hs23)).mono hs22)).mono hs21)).mono hs20)).mono hs19)).mono hs18)).mono hs17)).mono hs16)).mono hs15)).mono hs14))) hI).mono ?_
  rintro e w29 ⟨rfl, hdr⟩
  have hb29 : Below w28.heap.size w28 w29 := hdr.below _
  have HX29 := Lib.hid (HX28.out.trans (hb29.mono HX28.out.size))
  have HY29 := Lib.hid (HY28.out.trans (hb29.mono HY28.out.size))
  replace hc3 := HC3.out _ HY29.out
  have HB2829 := Lib.hid hb29
  have hs29 := hb29.size
  clear hb29
  clear hdr hI
  go_wp2_with fail
  have IDV : Hid (∀ i j : Nat, Value.int .u8 (((if i = j then 1 else 0) : Nat) : Int) = Value.int .u8 (((gE.idm i j).val : Nat) : Int)) := Lib.hid fun i j => by unfold Fd.idm; split <;> rfl
  refine (unit_any okE 3 w29 (by decide)).mono ?_
  rintro e w30 ⟨Uu1, cUu1, rfl, hU, hb30⟩
  have HX30 := Lib.hid (HX29.out.trans (hb30.mono HX29.out.size))
  have HY30 := Lib.hid (HY29.out.trans (hb30.mono HY29.out.size))
  replace hc3 := HC3.out _ HY30.out
  have HB2930 := Lib.hid hb30
  have hs30 := hb30.size
  clear hb30
  go_wp2_with fail
  refine (likeElemss_any Au1 Uu1 3 3 cUu1 (fun _ => 3) (fun i j => (gE.idm i j).val) w30 (by decide) (fun _ _ => by decide) (fun _ _ _ _ => (gE.idm _ _).isLt) (RdM.below (RdM.congr HEu1.out fun i _ j _ => IDV.out i j) (HB1415.out.trans ((HB1516.out.trans ((HB1617.out.trans ((HB1718.out.trans ((HB1819.out.trans ((HB1920.out.trans ((HB2021.out.trans ((HB2122.out.trans ((HB2223.out.trans ((HB2324.out.trans ((HB2425.out.trans ((HB2526.out.trans ((HB2627.out.trans ((HB2728.out.trans ((HB2829.out.trans (HB2930.out.mono hs29)).mono hs28)).mono hs27)).mono hs26)).mono hs25)).mono hs24)).mono hs23)).mono hs22)).mono hs21)).mono hs20)).mono hs19)).mono hs18)).mono hs17)).mono hs16)).mono hs15))) hU).mono ?_
  rintro e w31 ⟨rfl, hdr⟩
  have hb31 : Below w30.heap.size w30 w31 := hdr.below _
  have HX31 := Lib.hid (HX30.out.trans (hb31.mono HX30.out.size))
  have HY31 := Lib.hid (HY30.out.trans (hb31.mono HY30.out.size))
  replace hc3 := HC3.out _ HY31.out
  have HB3031 := Lib.hid hb31
  have hs31 := hb31.size
  clear hb31
  clear hdr hU
  go_wp2_with fail
  refine (unit_any okE 3 w31 (by decide)).mono ?_
  rintro e w32 ⟨Uu2, cUu2, rfl, hU, hb32⟩
  have HX32 := Lib.hid (HX31.out.trans (hb32.mono HX31.out.size))
  have HY32 := Lib.hid (HY31.out.trans (hb32.mono HY31.out.size))
  replace hc3 := HC3.out _ HY32.out
  have HB3132 := Lib.hid hb32
  have hs32 := hb32.size
  clear hb32
  go_wp2_with fail
  refine (likeElemss_any Au2 Uu2 3 3 cUu2 (fun _ => 3) (fun i j => (gE.idm i j).val) w32 (by decide) (fun _ _ => by decide) (fun _ _ _ _ => (gE.idm _ _).isLt) (RdM.below (RdM.congr HEu2.out fun i _ j _ => IDV.out i j) (HB2122.out.trans ((HB2223.out.trans ((HB2324.out.trans ((HB2425.out.trans ((HB2526.out.trans ((HB2627.out.trans ((HB2728.out.trans ((HB2829.out.trans ((HB2930.out.trans ((HB3031.out.trans (HB3132.out.mono hs31)).mono hs30)).mono hs29)).mono hs28)).mono hs27)).mono hs26)).mono hs25)).mono hs24)).mono hs23)).mono hs22))) hU).mono ?_
  rintro e w33 ⟨rfl, hdr⟩
  have hb33 : Below w32.heap.size w32 w33 := hdr.below _
  have HX33 := Lib.hid (HX32.out.trans (hb33.mono HX32.out.size))
  have HY33 := Lib.hid (HY32.out.trans (hb33.mono HY32.out.size))
  replace hc3 := HC3.out _ HY33.out
  have HB3233 := Lib.hid hb33
  have hs33 := hb33.size
  clear hb33
  clear hdr hU
  go_wp2_with fail
  have HS : Hid (∀ k, (∃ i, i < n ∧ k = S i) → w2.heap.size ≤ k ∧ k < w3.heap.size) := Lib.hid fun k ⟨i, hi, e⟩ => by
    subst e
    exact (HM.out.row i hi).lt (S i) rfl
  have HS2 : Hid (∀ k, (∃ i, i < nb ∧ k = S2 i) → w3.heap.size ≤ k ∧ k < w4.heap.size) := Lib.hid fun k ⟨i, hi, e⟩ => by
    subst e
    exact (HN.out.row i hi).lt (S2 i) rfl
  have HA1b : Hid (∀ w', Below w2.heap.size w33 w' → MI w' A1 n L (fun i j => (G i j).val)) := Lib.hid fun w' hb => HA1.out w' (((HB23.out.trans ((HB34.out.trans ((HB45.out.trans ((HB56.out.trans ((HB67.out.trans ((HB78.out.trans ((HB89.out.trans ((HB910.out.trans ((HB1011.out.trans ((HB1112.out.trans ((HB1213.out.trans ((HB1314.out.trans ((HB1415.out.trans ((HB1516.out.trans ((HB1617.out.trans ((HB1718.out.trans ((HB1819.out.trans ((HB1920.out.trans ((HB2021.out.trans ((HB2122.out.trans ((HB2223.out.trans ((HB2324.out.trans ((HB2425.out.trans ((HB2526.out.trans ((HB2627.out.trans ((HB2728.out.trans ((HB2829.out.trans ((HB2930.out.trans ((HB3031.out.trans ((HB3132.out.trans (HB3233.out.mono hs32)).mono hs31)).mono hs30)).mono hs29)).mono hs28)).mono hs27)).mono hs26)).mono hs25)).mono hs24)).mono hs23)).mono hs22)).mono hs21)).mono hs20)).mono hs19)).mono hs18)).mono hs17)).mono hs16)).mono hs15)).mono hs14)).mono hs13)).mono hs12)).mono hs11)).mono hs10)).mono hs9)).mono hs8)).mono hs7)).mono hs6)).mono hs5)).mono hs4)).mono hs3))).trans hb)
  have HM33 := Lib.hid (HM.out.kept (HB34.out.trans ((HB45.out.trans ((HB56.out.trans ((HB67.out.trans ((HB78.out.trans ((HB89.out.trans ((HB910.out.trans ((HB1011.out.trans ((HB1112.out.trans ((HB1213.out.trans ((HB1314.out.trans ((HB1415.out.trans ((HB1516.out.trans ((HB1617.out.trans ((HB1718.out.trans ((HB1819.out.trans ((HB1920.out.trans ((HB2021.out.trans ((HB2122.out.trans ((HB2223.out.trans ((HB2324.out.trans ((HB2425.out.trans ((HB2526.out.trans ((HB2627.out.trans ((HB2728.out.trans ((HB2829.out.trans ((HB2930.out.trans ((HB3031.out.trans ((HB3132.out.trans (HB3233.out.mono hs32)).mono hs31)).mono hs30)).mono hs29)).mono hs28)).mono hs27)).mono hs26)).mono hs25)).mono hs24)).mono hs23)).mono hs22)).mono hs21)).mono hs20)).mono hs19)).mono hs18)).mono hs17)).mono hs16)).mono hs15)).mono hs14)).mono hs13)).mono hs12)).mono hs11)).mono hs10)).mono hs9)).mono hs8)).mono hs7)).mono hs6)).mono hs5)).mono hs4)))
  have HN33 := Lib.hid (HN.out.kept (HB45.out.trans ((HB56.out.trans ((HB67.out.trans ((HB78.out.trans ((HB89.out.trans ((HB910.out.trans ((HB1011.out.trans ((HB1112.out.trans ((HB1213.out.trans ((HB1314.out.trans ((HB1415.out.trans ((HB1516.out.trans ((HB1617.out.trans ((HB1718.out.trans ((HB1819.out.trans ((HB1920.out.trans ((HB2021.out.trans ((HB2122.out.trans ((HB2223.out.trans ((HB2324.out.trans ((HB2425.out.trans ((HB2526.out.trans ((HB2627.out.trans ((HB2728.out.trans ((HB2829.out.trans ((HB2930.out.trans ((HB3031.out.trans ((HB3132.out.trans (HB3233.out.mono hs32)).mono hs31)).mono hs30)).mono hs29)).mono hs28)).mono hs27)).mono hs26)).mono hs25)).mono hs24)).mono hs23)).mono hs22)).mono hs21)).mono hs20)).mono hs19)).mono hs18)).mono hs17)).mono hs16)).mono hs15)).mono hs14)).mono hs13)).mono hs12)).mono hs11)).mono hs10)).mono hs9)).mono hs8)).mono hs7)).mono hs6)).mono hs5)))
  refine (untouched_any n A1 AM AQ c1 cM cR w2.heap.size S C L (fun i j => (G i j).val) w33 hn HL.out HG.out HM33.out HA1b.out).mono ?_
  rintro e w34 ⟨rfl, hM, ho⟩
  have HM34 := Lib.hid hM; have HO34 := Lib.hid ho
  have hs34 := ho.size
  have HB34' : Hid (Below w2.heap.size w33 w34) := Lib.hid (ho.toBelow (fun k hk => (HS.out k hk).1) (by omega))
  have HN34 := Lib.hid (HN33.out.only ho fun k hk => (HS.out k hk).2)
  have HB1b : Hid (∀ w', Below w3.heap.size w34 w' → MI w' B1 nb Lb (fun i j => (H i j).val)) := Lib.hid fun w' hb => HB1.out w' ((((HB23.out.trans ((HB34.out.trans ((HB45.out.trans ((HB56.out.trans ((HB67.out.trans ((HB78.out.trans ((HB89.out.trans ((HB910.out.trans ((HB1011.out.trans ((HB1112.out.trans ((HB1213.out.trans ((HB1314.out.trans ((HB1415.out.trans ((HB1516.out.trans ((HB1617.out.trans ((HB1718.out.trans ((HB1819.out.trans ((HB1920.out.trans ((HB2021.out.trans ((HB2122.out.trans ((HB2223.out.trans ((HB2324.out.trans ((HB2425.out.trans ((HB2526.out.trans ((HB2627.out.trans ((HB2728.out.trans ((HB2829.out.trans ((HB2930.out.trans ((HB3031.out.trans ((HB3132.out.trans (HB3233.out.mono hs32)).mono hs31)).mono hs30)).mono hs29)).mono hs28)).mono hs27)).mono hs26)).mono hs25)).mono hs24)).mono hs23)).mono hs22)).mono hs21)).mono hs20)).mono hs19)).mono hs18)).mono hs17)).mono hs16)).mono hs15)).mono hs14)).mono hs13)).mono hs12)).mono hs11)).mono hs10)).mono hs9)).mono hs8)).mono hs7)).mono hs6)).mono hs5)).mono hs4)).mono hs3))).trans HB34'.out).trans (hb.mono (by omega)))
  clear hM ho HM33 HN33
  go_wp2_with fail
  refine (untouched_any nb B1 BM BQ d1 dM dR w3.heap.size S2 C2 Lb (fun i j => (H i j).val) w34 hnb HLb.out HH.out HN34.out HB1b.out).mono ?_
  rintro e w35 ⟨rfl, hN, ho⟩
  have HN35 := Lib.hid hN; have HO35 := Lib.hid ho
  have hs35 := ho.size
  have HB35 : Hid (Below w3.heap.size w34 w35) := Lib.hid (ho.toBelow (fun k hk => (HS2.out k hk).1) (by omega))
  have HM35 := Lib.hid (Rmy.far HM.out HM34.out HB35.out (Nat.le_refl _))
  have HB3335 : Hid (Below w2.heap.size w33 w35) := Lib.hid (HB34'.out.trans (HB35.out.mono (by omega)))
  have HT35 : Hid (∀ lo hi Av cv k R, OMa w33 lo hi Av cv k R → w4.heap.size ≤ lo → OMa w35 lo hi Av cv k R) := Lib.hid fun lo hi Av cv k R h hlo => (h.only HO34.out fun q hq => by have := (HS.out q hq).2; omega).only HO35.out fun q hq => by have := (HS2.out q hq).2; omega
  have HY35 : Hid (Below w1.heap.size w1 w35) := Lib.hid (HY33.out.trans (HB3335.out.mono (by omega)))
  have HX35 : Hid (Below w.heap.size w w35) := Lib.hid (HX33.out.trans (HB3335.out.mono (Nat.le_trans HX1.out.size hs2)))
  replace hc3 := HC3.out _ HY35.out
  have HOT35 := Lib.hid (((HOT.out.kept (HB89.out.trans ((HB910.out.trans ((HB1011.out.trans ((HB1112.out.trans ((HB1213.out.trans ((HB1314.out.trans ((HB1415.out.trans ((HB1516.out.trans ((HB1617.out.trans ((HB1718.out.trans ((HB1819.out.trans ((HB1920.out.trans ((HB2021.out.trans ((HB2122.out.trans ((HB2223.out.trans ((HB2324.out.trans ((HB2425.out.trans ((HB2526.out.trans ((HB2627.out.trans ((HB2728.out.trans ((HB2829.out.trans ((HB2930.out.trans ((HB3031.out.trans ((HB3132.out.trans (HB3233.out.mono hs32)).mono hs31)).mono hs30)).mono hs29)).mono hs28)).mono hs27)).mono hs26)).mono hs25)).mono hs24)).mono hs23)).mono hs22)).mono hs21)).mono hs20)).mono hs19)).mono hs18)).mono hs17)).mono hs16)).mono hs15)).mono hs14)).mono hs13)).mono hs12)).mono hs11)).mono hs10)).mono hs9))).only HO34.out fun q hq => by have := (HS.out q hq).2; omega).only HO35.out fun q hq => by have := (HS2.out q hq).2; omega)
  clear hN ho HM34 HN34
  obtain ⟨A', c', e', _, _, hr, _⟩ := HOT35.out.rd
  injection e' with e' _ ec'
  subst e'
  subst ec'
  obtain ⟨bT, oT, eT, hbT, hcT⟩ := hr m (by omega)
  dsimp only at hcT
  rw [if_neg (by omega)] at hcT
  subst eT
  have hq3 : (m : Int) < (m : Int) + 1 := by omega
  clear hr
  go_wp2_with fail
  obtain ⟨Rt1, hRt1⟩ := HOt1.out.a
  have HQt1 := Lib.hid (HT35.out _ _ _ _ _ _ (hRt1.kept (HB910.out.trans ((HB1011.out.trans ((HB1112.out.trans ((HB1213.out.trans ((HB1314.out.trans ((HB1415.out.trans ((HB1516.out.trans ((HB1617.out.trans ((HB1718.out.trans ((HB1819.out.trans ((HB1920.out.trans ((HB2021.out.trans ((HB2122.out.trans ((HB2223.out.trans ((HB2324.out.trans ((HB2425.out.trans ((HB2526.out.trans ((HB2627.out.trans ((HB2728.out.trans ((HB2829.out.trans ((HB2930.out.trans ((HB3031.out.trans ((HB3132.out.trans (HB3233.out.mono hs32)).mono hs31)).mono hs30)).mono hs29)).mono hs28)).mono hs27)).mono hs26)).mono hs25)).mono hs24)).mono hs23)).mono hs22)).mono hs21)).mono hs20)).mono hs19)).mono hs18)).mono hs17)).mono hs16)).mono hs15)).mono hs14)).mono hs13)).mono hs12)).mono hs11)).mono hs10))) (by omega))
  clear hRt1
  obtain ⟨Rr1, hRr1⟩ := HOr1.out.a
  have HQr1 := Lib.hid (HT35.out _ _ _ _ _ _ (hRr1.kept (HB1011.out.trans ((HB1112.out.trans ((HB1213.out.trans ((HB1314.out.trans ((HB1415.out.trans ((HB1516.out.trans ((HB1617.out.trans ((HB1718.out.trans ((HB1819.out.trans ((HB1920.out.trans ((HB2021.out.trans ((HB2122.out.trans ((HB2223.out.trans ((HB2324.out.trans ((HB2425.out.trans ((HB2526.out.trans ((HB2627.out.trans ((HB2728.out.trans ((HB2829.out.trans ((HB2930.out.trans ((HB3031.out.trans ((HB3132.out.trans (HB3233.out.mono hs32)).mono hs31)).mono hs30)).mono hs29)).mono hs28)).mono hs27)).mono hs26)).mono hs25)).mono hs24)).mono hs23)).mono hs22)).mono hs21)).mono hs20)).mono hs19)).mono hs18)).mono hs17)).mono hs16)).mono hs15)).mono hs14)).mono hs13)).mono hs12)).mono hs11))) (by omega))
  clear hRr1
  obtain ⟨Ri1, hRi1⟩ := HOi1.out.a
  have HQi1 := Lib.hid (HT35.out _ _ _ _ _ _ (hRi1.kept (HB1112.out.trans ((HB1213.out.trans ((HB1314.out.trans ((HB1415.out.trans ((HB1516.out.trans ((HB1617.out.trans ((HB1718.out.trans ((HB1819.out.trans ((HB1920.out.trans ((HB2021.out.trans ((HB2122.out.trans ((HB2223.out.trans ((HB2324.out.trans ((HB2425.out.trans ((HB2526.out.trans ((HB2627.out.trans ((HB2728.out.trans ((HB2829.out.trans ((HB2930.out.trans ((HB3031.out.trans ((HB3132.out.trans (HB3233.out.mono hs32)).mono hs31)).mono hs30)).mono hs29)).mono hs28)).mono hs27)).mono hs26)).mono hs25)).mono hs24)).mono hs23)).mono hs22)).mono hs21)).mono hs20)).mono hs19)).mono hs18)).mono hs17)).mono hs16)).mono hs15)).mono hs14)).mono hs13)).mono hs12))) (by omega))
  clear hRi1
  obtain ⟨Rp1, hRp1⟩ := HOp1.out.a
  have HQp1 := Lib.hid (HT35.out _ _ _ _ _ _ (hRp1.kept (HB1314.out.trans ((HB1415.out.trans ((HB1516.out.trans ((HB1617.out.trans ((HB1718.out.trans ((HB1819.out.trans ((HB1920.out.trans ((HB2021.out.trans ((HB2122.out.trans ((HB2223.out.trans ((HB2324.out.trans ((HB2425.out.trans ((HB2526.out.trans ((HB2627.out.trans ((HB2728.out.trans ((HB2829.out.trans ((HB2930.out.trans ((HB3031.out.trans ((HB3132.out.trans (HB3233.out.mono hs32)).mono hs31)).mono hs30)).mono hs29)).mono hs28)).mono hs27)).mono hs26)).mono hs25)).mono hs24)).mono hs23)).mono hs22)).mono hs21)).mono hs20)).mono hs19)).mono hs18)).mono hs17)).mono hs16)).mono hs15)).mono hs14))) (by omega))
  clear hRp1
  obtain ⟨Ru1, hRu1⟩ := HOu1.out.a
  have HQu1 := Lib.hid (HT35.out _ _ _ _ _ _ (hRu1.kept (HB1415.out.trans ((HB1516.out.trans ((HB1617.out.trans ((HB1718.out.trans ((HB1819.out.trans ((HB1920.out.trans ((HB2021.out.trans ((HB2122.out.trans ((HB2223.out.trans ((HB2324.out.trans ((HB2425.out.trans ((HB2526.out.trans ((HB2627.out.trans ((HB2728.out.trans ((HB2829.out.trans ((HB2930.out.trans ((HB3031.out.trans ((HB3132.out.trans (HB3233.out.mono hs32)).mono hs31)).mono hs30)).mono hs29)).mono hs28)).mono hs27)).mono hs26)).mono hs25)).mono hs24)).mono hs23)).mono hs22)).mono hs21)).mono hs20)).mono hs19)).mono hs18)).mono hs17)).mono hs16)).mono hs15))) (by omega))
  clear hRu1
  obtain ⟨Ro1, hRo1⟩ := HOo1.out.a
  have HQo1 := Lib.hid (HT35.out _ _ _ _ _ _ (hRo1.kept (HB1516.out.trans ((HB1617.out.trans ((HB1718.out.trans ((HB1819.out.trans ((HB1920.out.trans ((HB2021.out.trans ((HB2122.out.trans ((HB2223.out.trans ((HB2324.out.trans ((HB2425.out.trans ((HB2526.out.trans ((HB2627.out.trans ((HB2728.out.trans ((HB2829.out.trans ((HB2930.out.trans ((HB3031.out.trans ((HB3132.out.trans (HB3233.out.mono hs32)).mono hs31)).mono hs30)).mono hs29)).mono hs28)).mono hs27)).mono hs26)).mono hs25)).mono hs24)).mono hs23)).mono hs22)).mono hs21)).mono hs20)).mono hs19)).mono hs18)).mono hs17)).mono hs16))) (by omega))
  clear hRo1
  obtain ⟨Rt2, hRt2⟩ := HOt2.out.a
  have HQt2 := Lib.hid (HT35.out _ _ _ _ _ _ (hRt2.kept (HB1617.out.trans ((HB1718.out.trans ((HB1819.out.trans ((HB1920.out.trans ((HB2021.out.trans ((HB2122.out.trans ((HB2223.out.trans ((HB2324.out.trans ((HB2425.out.trans ((HB2526.out.trans ((HB2627.out.trans ((HB2728.out.trans ((HB2829.out.trans ((HB2930.out.trans ((HB3031.out.trans ((HB3132.out.trans (HB3233.out.mono hs32)).mono hs31)).mono hs30)).mono hs29)).mono hs28)).mono hs27)).mono hs26)).mono hs25)).mono hs24)).mono hs23)).mono hs22)).mono hs21)).mono hs20)).mono hs19)).mono hs18)).mono hs17))) (by omega))
  clear hRt2
  obtain ⟨Rr2, hRr2⟩ := HOr2.out.a
  have HQr2 := Lib.hid (HT35.out _ _ _ _ _ _ (hRr2.kept (HB1718.out.trans ((HB1819.out.trans ((HB1920.out.trans ((HB2021.out.trans ((HB2122.out.trans ((HB2223.out.trans ((HB2324.out.trans ((HB2425.out.trans ((HB2526.out.trans ((HB2627.out.trans ((HB2728.out.trans ((HB2829.out.trans ((HB2930.out.trans ((HB3031.out.trans ((HB3132.out.trans (HB3233.out.mono hs32)).mono hs31)).mono hs30)).mono hs29)).mono hs28)).mono hs27)).mono hs26)).mono hs25)).mono hs24)).mono hs23)).mono hs22)).mono hs21)).mono hs20)).mono hs19)).mono hs18))) (by omega))
  clear hRr2
  obtain ⟨Ri2, hRi2⟩ := HOi2.out.a
  have HQi2 := Lib.hid (HT35.out _ _ _ _ _ _ (hRi2.kept (HB1819.out.trans ((HB1920.out.trans ((HB2021.out.trans ((HB2122.out.trans ((HB2223.out.trans ((HB2324.out.trans ((HB2425.out.trans ((HB2526.out.trans ((HB2627.out.trans ((HB2728.out.trans ((HB2829.out.trans ((HB2930.out.trans ((HB3031.out.trans ((HB3132.out.trans (HB3233.out.mono hs32)).mono hs31)).mono hs30)).mono hs29)).mono hs28)).mono hs27)).mono hs26)).mono hs25)).mono hs24)).mono hs23)).mono hs22)).mono hs21)).mono hs20)).mono hs19))) (by omega))
  clear hRi2
  obtain ⟨Rp2, hRp2⟩ := HOp2.out.a
  have HQp2 := Lib.hid (HT35.out _ _ _ _ _ _ (hRp2.kept (HB2021.out.trans ((HB2122.out.trans ((HB2223.out.trans ((HB2324.out.trans ((HB2425.out.trans ((HB2526.out.trans ((HB2627.out.trans ((HB2728.out.trans ((HB2829.out.trans ((HB2930.out.trans ((HB3031.out.trans ((HB3132.out.trans (HB3233.out.mono hs32)).mono hs31)).mono hs30)).mono hs29)).mono hs28)).mono hs27)).mono hs26)).mono hs25)).mono hs24)).mono hs23)).mono hs22)).mono hs21))) (by omega))
  clear hRp2
  obtain ⟨Ru2, hRu2⟩ := HOu2.out.a
  have HQu2 := Lib.hid (HT35.out _ _ _ _ _ _ (hRu2.kept (HB2122.out.trans ((HB2223.out.trans ((HB2324.out.trans ((HB2425.out.trans ((HB2526.out.trans ((HB2627.out.trans ((HB2728.out.trans ((HB2829.out.trans ((HB2930.out.trans ((HB3031.out.trans ((HB3132.out.trans (HB3233.out.mono hs32)).mono hs31)).mono hs30)).mono hs29)).mono hs28)).mono hs27)).mono hs26)).mono hs25)).mono hs24)).mono hs23)).mono hs22))) (by omega))
  clear hRu2
  have HAPO := Lib.hid (apartO w35 11 w8.heap.size (fun i : Nat => ([w8.heap.size, w9.heap.size, w10.heap.size, w12.heap.size, w13.heap.size, w14.heap.size, w15.heap.size, w16.heap.size, w17.heap.size, w19.heap.size, w20.heap.size] : List _).getD i 0) (fun i : Nat => ([w9.heap.size, w10.heap.size, w11.heap.size, w13.heap.size, w14.heap.size, w15.heap.size, w16.heap.size, w17.heap.size, w18.heap.size, w20.heap.size, w21.heap.size] : List _).getD i 0) (fun i : Nat => ([ct1, cr1, ci1, 3, 3, co1, ct2, cr2, ci2, 3, 3] : List _).getD i 0) (fun i : Nat => ([tk n nb L Lb, rk n m L tt, K, 3, 3, tk nb n Lb L, tk n nb L Lb, rk n m L tt, K, 3, 3] : List _).getD i 0) (fun i : Nat => ([At1, Ar1, Ai1, Ap1, Au1, Ao1, At2, Ar2, Ai2, Ap2, Au2] : List _).getD i none) (fun i : Nat => ([Rt1, Rr1, Ri1, Rp1, Ru1, Ro1, Rt2, Rr2, Ri2, Rp2, Ru2] : List _).getD i []) #[.slice At1 (tk n nb L Lb) ct1, .slice Ar1 (rk n m L tt) cr1, .slice Ai1 (K) ci1, .slice Ap1 (3) 3, .slice Au1 (3) 3, .slice Ao1 (tk nb n Lb L) co1, .slice At2 (tk n nb L Lb) ct2, .slice Ar2 (rk n m L tt) cr2, .slice Ai2 (K) ci2, .slice Ap2 (3) 3, .slice Au2 (3) 3] (by decide) (fun i hi => match i, hi with | 0, _ => HQt1.out | 1, _ => HQr1.out | 2, _ => HQi1.out | 3, _ => HQp1.out | 4, _ => HQu1.out | 5, _ => HQo1.out | 6, _ => HQt2.out | 7, _ => HQr2.out | 8, _ => HQi2.out | 9, _ => HQp2.out | 10, _ => HQu2.out | k + 11, h => absurd h (by omega)) (fun i hi => match i, hi with | 0, _ => tk_le _ _ _ _ | 1, _ => rk_le _ _ _ _ | 2, _ => HK255.out | 3, _ => (by decide : 3 ≤ 255) | 4, _ => (by decide : 3 ≤ 255) | 5, _ => tk_le _ _ _ _ | 6, _ => tk_le _ _ _ _ | 7, _ => rk_le _ _ _ _ | 8, _ => HK255.out | 9, _ => (by decide : 3 ≤ 255) | 10, _ => (by decide : 3 ≤ 255) | k + 11, h => absurd h (by omega))
    (fun i hi => match i, hi with | 0, _ => (show w8.heap.size ≤ w8.heap.size by omega) | 1, _ => (show w8.heap.size ≤ w9.heap.size by omega) | 2, _ => (show w8.heap.size ≤ w10.heap.size by omega) | 3, _ => (show w8.heap.size ≤ w12.heap.size by omega) | 4, _ => (show w8.heap.size ≤ w13.heap.size by omega) | 5, _ => (show w8.heap.size ≤ w14.heap.size by omega) | 6, _ => (show w8.heap.size ≤ w15.heap.size by omega) | 7, _ => (show w8.heap.size ≤ w16.heap.size by omega) | 8, _ => (show w8.heap.size ≤ w17.heap.size by omega) | 9, _ => (show w8.heap.size ≤ w19.heap.size by omega) | 10, _ => (show w8.heap.size ≤ w20.heap.size by omega) | k + 11, h => absurd h (by omega)) (fun i hi => match i, hi with | 0, _ => (show w8.heap.size ≤ w9.heap.size by omega) | 1, _ => (show w9.heap.size ≤ w10.heap.size by omega) | 2, _ => (show w10.heap.size ≤ w11.heap.size by omega) | 3, _ => (show w12.heap.size ≤ w13.heap.size by omega) | 4, _ => (show w13.heap.size ≤ w14.heap.size by omega) | 5, _ => (show w14.heap.size ≤ w15.heap.size by omega) | 6, _ => (show w15.heap.size ≤ w16.heap.size by omega) | 7, _ => (show w16.heap.size ≤ w17.heap.size by omega) | 8, _ => (show w17.heap.size ≤ w18.heap.size by omega) | 9, _ => (show w19.heap.size ≤ w20.heap.size by omega) | 10, _ => (show w20.heap.size ≤ w21.heap.size by omega) | k + 11, h => absurd h (by omega)) (fun i hi => match i, hi with | 0, _ => (show w9.heap.size ≤ w9.heap.size by omega) | 1, _ => (show w10.heap.size ≤ w10.heap.size by omega) | 2, _ => (show w11.heap.size ≤ w12.heap.size by omega) | 3, _ => (show w13.heap.size ≤ w13.heap.size by omega) | 4, _ => (show w14.heap.size ≤ w14.heap.size by omega) | 5, _ => (show w15.heap.size ≤ w15.heap.size by omega) | 6, _ => (show w16.heap.size ≤ w16.heap.size by omega) | 7, _ => (show w17.heap.size ≤ w17.heap.size by omega) | 8, _ => (show w18.heap.size ≤ w19.heap.size by omega) | 9, _ => (show w20.heap.size ≤ w20.heap.size by omega) | k + 10, h => absurd h (by omega))
    (fun i hi => match i, hi with | 0, _ => (show w9.heap.size ≤ w35.heap.size by omega) | 1, _ => (show w10.heap.size ≤ w35.heap.size by omega) | 2, _ => (show w11.heap.size ≤ w35.heap.size by omega) | 3, _ => (show w13.heap.size ≤ w35.heap.size by omega) | 4, _ => (show w14.heap.size ≤ w35.heap.size by omega) | 5, _ => (show w15.heap.size ≤ w35.heap.size by omega) | 6, _ => (show w16.heap.size ≤ w35.heap.size by omega) | 7, _ => (show w17.heap.size ≤ w35.heap.size by omega) | 8, _ => (show w18.heap.size ≤ w35.heap.size by omega) | 9, _ => (show w20.heap.size ≤ w35.heap.size by omega) | 10, _ => (show w21.heap.size ≤ w35.heap.size by omega) | k + 11, h => absurd h (by omega)) (by omega) rfl)
  clear HQt1 HQr1 HQi1 HQp1 HQu1 HQo1 HQt2 HQr2 HQi2 HQp2 HQu2
  refine HAPO.out.mono ?_
  rintro e w36 ⟨rfl, ho⟩
  have hs36 := ho.size
  have HB36 : Hid (Below w8.heap.size w35 w36) := Lib.hid (ho.toBelow (fun k hk => hk) (by omega))
  clear ho HAPO
  go_wp2_with fail
  have hx1 : w.heap.size ≤ w1.heap.size := HX1.out.size
  have hz2 : w1.heap.size ≤ w2.heap.size := hs2
  have hz3 : w2.heap.size ≤ w3.heap.size := hs3
  have hz4 : w3.heap.size ≤ w4.heap.size := hs4
  have hz8 : w4.heap.size ≤ w8.heap.size := by omega
  have hz36 : w8.heap.size ≤ w36.heap.size := by omega
  have HZ36 : Hid (Below w2.heap.size w2 w36) := Lib.hid (((HB23.out.trans ((HB34.out.trans ((HB45.out.trans ((HB56.out.trans ((HB67.out.trans ((HB78.out.trans ((HB89.out.trans ((HB910.out.trans ((HB1011.out.trans ((HB1112.out.trans ((HB1213.out.trans ((HB1314.out.trans ((HB1415.out.trans ((HB1516.out.trans ((HB1617.out.trans ((HB1718.out.trans ((HB1819.out.trans ((HB1920.out.trans ((HB2021.out.trans ((HB2122.out.trans ((HB2223.out.trans ((HB2324.out.trans ((HB2425.out.trans ((HB2526.out.trans ((HB2627.out.trans ((HB2728.out.trans ((HB2829.out.trans ((HB2930.out.trans ((HB3031.out.trans ((HB3132.out.trans (HB3233.out.mono hs32)).mono hs31)).mono hs30)).mono hs29)).mono hs28)).mono hs27)).mono hs26)).mono hs25)).mono hs24)).mono hs23)).mono hs22)).mono hs21)).mono hs20)).mono hs19)).mono hs18)).mono hs17)).mono hs16)).mono hs15)).mono hs14)).mono hs13)).mono hs12)).mono hs11)).mono hs10)).mono hs9)).mono hs8)).mono hs7)).mono hs6)).mono hs5)).mono hs4)).mono hs3))).trans (HB3335.out.trans (HB36.out.mono (by omega))))
  have HY36 : Hid (Below w1.heap.size w1 w36) := Lib.hid (HY35.out.trans (HB36.out.mono (by omega)))
  have HX36 : Hid (Below w.heap.size w w36) := Lib.hid (HX35.out.trans (HB36.out.mono (by omega)))
  have HM36 := Lib.hid (Rmy.far HM.out HM35.out HB36.out (by omega))
  have HN36 := Lib.hid (Rmy.far HN.out HN35.out HB36.out (by omega))
  have HOTL : Hid (∀ k, (Value.slice (some ⟨bT, oT, none⟩) (m + 1) cT).ownBlock = some k → w7.heap.size ≤ k ∧ k < w8.heap.size) := Lib.hid fun k hk => HOT.out.lt k hk
  have hz7 : w4.heap.size ≤ w7.heap.size := by omega
  have HOT36 := Lib.hid (HOT35.out.blkX fun k hk => HB36.out.block k (HOT.out.lt k hk).2)
  have HA1c : Hid (∀ w', Below w2.heap.size w36 w' → MI w' A1 n L (fun i j => (G i j).val)) := Lib.hid fun w' hb => HA1.out w' (HZ36.out.trans hb)
  have HB1c : Hid (∀ w', Below w2.heap.size w36 w' → MI w' B1 nb Lb (fun i j => (H i j).val)) := Lib.hid fun w' hb => HB1.out w' (HZ36.out.trans hb)
  have hb36 : Below w36.heap.size w36 w36 := Below.refl _ _
  try clear HX2
  try clear HX3
  try clear HX4
  try clear HX5
  try clear HX6
  try clear HX7
  try clear HX8
  try clear HX9
  try clear HX10
  try clear HX11
  try clear HX12
  try clear HX13
  try clear HX14
  try clear HX15
  try clear HX16
  try clear HX17
  try clear HX18
  try clear HX19
  try clear HX20
  try clear HX21
  try clear HX22
  try clear HX23
  try clear HX24
  try clear HX25
  try clear HX26
  try clear HX27
  try clear HX28
  try clear HX29
  try clear HX30
  try clear HX31
  try clear HX32
  try clear HX33
  try clear HX34
  try clear HX35
  try clear HY1
  try clear HY2
  try clear HY3
  try clear HY4
  try clear HY5
  try clear HY6
  try clear HY7
  try clear HY8
  try clear HY9
  try clear HY10
  try clear HY11
  try clear HY12
  try clear HY13
  try clear HY14
  try clear HY15
  try clear HY16
  try clear HY17
  try clear HY18
  try clear HY19
  try clear HY20
  try clear HY21
  try clear HY22
  try clear HY23
  try clear HY24
  try clear HY25
  try clear HY26
  try clear HY27
  try clear HY28
  try clear HY29
  try clear HY30
  try clear HY31
  try clear HY32
  try clear HY33
  try clear HY34
  try clear HY35
  try clear HB12
  try clear HB23
  try clear HB34
  try clear HB45
  try clear HB56
  try clear HB67
  try clear HB78
  try clear HB89
  try clear HB910
  try clear HB1011
  try clear HB1112
  try clear HB1213
  try clear HB1314
  try clear HB1415
  try clear HB1516
  try clear HB1617
  try clear HB1718
  try clear HB1819
  try clear HB1920
  try clear HB2021
  try clear HB2122
  try clear HB2223
  try clear HB2324
  try clear HB2425
  try clear HB2526
  try clear HB2627
  try clear HB2728
  try clear HB2829
  try clear HB2930
  try clear HB3031
  try clear HB3132
  try clear HB3233
  try clear HB34'
  try clear HB35
  try clear HB3335
  try clear HB36
  try clear HO34
  try clear HO35
  try clear HOt1
  try clear HOr1
  try clear HOi1
  try clear HOp1
  try clear HOu1
  try clear HOo1
  try clear HOt2
  try clear HOr2
  try clear HOi2
  try clear HOp2
  try clear HOu2
  try clear HEt1
  try clear HEr1
  try clear HEi1
  try clear HEp1
  try clear HEu1
  try clear HEo1
  try clear HEt2
  try clear HEr2
  try clear HEi2
  try clear HEp2
  try clear HEu2
  try clear hRt1
  try clear hRr1
  try clear hRi1
  try clear hRp1
  try clear hRu1
  try clear hRo1
  try clear hRt2
  try clear hRr2
  try clear hRi2
  try clear hRp2
  try clear hRu2
  try clear HPT
  try clear HPR
  try clear HPI
  try clear HIR
  try clear HK
  try clear HK255
  try clear HK1
  try clear HK2
  try clear HK3
  try clear HL1
  try clear HL2
  try clear HL3
  try clear HT35
  try clear HT
  try clear HTX
  try clear HMX
  try clear HNX
  try clear IDV
  try clear HOT
  try clear HM35
  try clear HN35
  try clear HOT35
  try clear HI
  try clear hdr
  try clear hR
  try clear hU
  try clear hrel
  try clear hlM
  try clear hlN
  try clear hq1
  try clear hq2
  try clear hcT
  try clear HMU
  try clear HA1b
  try clear HB1b
  try clear hbT
  try clear hq3
  try clear hcI
  try clear hs2
  try clear hs3
  try clear hs4
  try clear hs5
  try clear hs6
  try clear hs7
  try clear hs8
  try clear hs9
  try clear hs10
  try clear hs11
  try clear hs12
  try clear hs13
  try clear hs14
  try clear hs15
  try clear hs16
  try clear hs17
  try clear hs18
  try clear hs19
  try clear hs20
  try clear hs21
  try clear hs22
  try clear hs23
  try clear hs24
  try clear hs25
  try clear hs26
  try clear hs27
  try clear hs28
  try clear hs29
  try clear hs30
  try clear hs31
  try clear hs32
  try clear hs33
  try clear hs34
  try clear hs35
  try clear hs36
  refine (untouched_any n A1 AM AQ c1 cM cR w2.heap.size S C L (fun i j => (G i j).val) w36 hn HL.out HG.out HM36.out HA1c.out).mono ?_
  rintro e w37 ⟨rfl, hM, ho⟩
  have HM37 := Lib.hid hM; have HO37 := Lib.hid ho
  have hs37 := ho.size
  have HB37 : Hid (Below w2.heap.size w36 w37) := Lib.hid (ho.toBelow (fun k hk => (HS.out k hk).1) (by omega))
  have HN37 := Lib.hid (HN36.out.only ho fun k hk => (HS.out k hk).2)
  have HB1d : Hid (∀ w', Below w3.heap.size w37 w' → MI w' B1 nb Lb (fun i j => (H i j).val)) := Lib.hid fun w' hb => HB1c.out w' (HB37.out.trans (hb.mono hz3))
  clear hM ho HM36 HN36
  go_wp2_with fail
  refine (untouched_any nb B1 BM BQ d1 dM dR w3.heap.size S2 C2 Lb (fun i j => (H i j).val) w37 hnb HLb.out HH.out HN37.out HB1d.out).mono ?_
  rintro e w38 ⟨rfl, hN, ho⟩
  have HN38 := Lib.hid hN; have HO38 := Lib.hid ho
  have hs38 := ho.size
  have HB38 : Hid (Below w3.heap.size w37 w38) := Lib.hid (ho.toBelow (fun k hk => (HS2.out k hk).1) (by omega))
  have HM38 := Lib.hid (Rmy.far HM.out HM37.out HB38.out (Nat.le_refl _))
  have HOT38 := Lib.hid ((HOT36.out.only HO37.out fun q hq => by have := (HS.out q hq).2; omega).only HO38.out fun q hq => by have := (HS2.out q hq).2; omega)
  have HB3638 : Hid (Below w2.heap.size w36 w38) := Lib.hid (HB37.out.trans (HB38.out.mono hz3))
  have HZ38 := Lib.hid (HZ36.out.trans HB3638.out)
  have HY38 : Hid (Below w1.heap.size w1 w38) := Lib.hid (HY36.out.trans (HB3638.out.mono hz2))
  have HX38 : Hid (Below w.heap.size w w38) := Lib.hid (HX36.out.trans (HB3638.out.mono (Nat.le_trans hx1 hz2)))
  replace hc3 := HC3.out _ HY38.out
  have HT38 : Hid (∀ w', Below w38.heap.size w38 w' → Rd w' (some ⟨bT, oT, none⟩) m fun i => .int .i64 (tt i)) := Lib.hid fun w' hb i hi => by
    obtain ⟨A', c', e', _, _, hr, _⟩ := (HOT38.out.kept hb).rd
    injection e' with e' _ _
    subst e'
    obtain ⟨b, o, e1, e2, e3⟩ := hr i (by omega)
    exact ⟨b, o, e1, e2, by rw [e3]; simp only [if_pos hi]⟩
  clear hN ho HM37 HN37 HO37 HO38 HB37 HB38 HX36 HY36 HOT36 HB1c HB1d HA1c HZ36
  go_wp2_with fail
  refine (timE_own AM BM n nb cM dM L Lb (fun i j => (G i j).val) (fun i j => (H i j).val) w38 hn9 HL9.out hnb9 HLb9.out HM38.out.rdm HN38.out.rdm HGa.out HHa.out).mono ?_
  rintro e w39 ⟨A9, c9, rfl, _, _, hb39⟩
  have HX39 := Lib.hid (HX38.out.trans (hb39.mono HX38.out.size))
  have HY39 := Lib.hid (HY38.out.trans (hb39.mono HY38.out.size))
  replace hc3 := HC3.out _ HY39.out
  have HB3839 := Lib.hid hb39
  have hs39 := hb39.size
  clear hb39
  go_wp2_with fail
  refine (invO_any AM n cM L G w39 hn9 HL9.out (HM38.out.kept HB3839.out).rdm).mono ?_
  rintro e w40 ⟨er9, X9, A9i, c9i, rfl, _, hb40, _, _⟩
  obtain ⟨K9, hK9⟩ : ∃ K9, K9 = (if er9 = 0 then n else 0) := ⟨_, rfl⟩
  rw [← hK9]
  clear hK9
  have HX40 := Lib.hid (HX39.out.trans (hb40.mono HX39.out.size))
  have HY40 := Lib.hid (HY39.out.trans (hb40.mono HY39.out.size))
  replace hc3 := HC3.out _ HY40.out
  have HB3940 := Lib.hid hb40
  have hs40 := hb40.size
  clear hb40
  go_wp2_with fail
  refine (rowsO_all AM (some ⟨bT, oT, none⟩) n m cM _ L (fun i j => (G i j).val) tt w40 hn9 HL9.out (HM38.out.kept (HB3839.out.trans (HB3940.out.mono hs39))).rdm (HT38.out w40 (HB3839.out.trans (HB3940.out.mono hs39)))).mono ?_
  rintro e w41 ⟨A9r, c9r, rfl, _, _, hb41⟩
  have HX41 := Lib.hid (HX40.out.trans (hb41.mono HX40.out.size))
  have HY41 := Lib.hid (HY40.out.trans (hb41.mono HY40.out.size))
  replace hc3 := HC3.out _ HY41.out
  have HB4041 := Lib.hid hb41
  have hs41 := hb41.size
  clear hb41
  have HM41 := Lib.hid (HM38.out.kept (HB3839.out.trans ((HB3940.out.trans (HB4041.out.mono hs40)).mono hs39)))
  have HN41 := Lib.hid (HN38.out.kept (HB3839.out.trans ((HB3940.out.trans (HB4041.out.mono hs40)).mono hs39)))
  have HOT41 := Lib.hid (HOT38.out.kept (HB3839.out.trans ((HB3940.out.trans (HB4041.out.mono hs40)).mono hs39)))
  have HBW2 : Hid (Below w2.heap.size w2 w41) := Lib.hid (HZ38.out.trans (((HB3839.out.trans ((HB3940.out.trans (HB4041.out.mono hs40)).mono hs39))).mono (by omega)))
  obtain ⟨S1, C1, hT1, hR1⟩ := HA1.out w2 (Below.refl _ _)
  have HT1 := Lib.hid hT1; have HRR1 := Lib.hid hR1
  obtain ⟨gx, hgx⟩ : ∃ gx : Nat → Nat → Nat, gx = fun a b => (G a b).val ^^^ (1 + b % 3) := ⟨_, rfl⟩
  obtain ⟨gO, hgO⟩ : ∃ gO : Nat → Nat → Nat → Nat → Nat, gO = fun i j a b => if a < i ∨ (a = i ∧ b < j) then gx a b else (G a b).val := ⟨_, rfl⟩
  have HGX := Lib.hid hgx; have HGO := Lib.hid hgO
  have HM0 : Hid (Rmy w41 w2.heap.size n AM AQ cM cR S C L (gO 0 0)) := Lib.hid (HM41.out.congr fun a _ b _ => by rw [hgO]; exact if_neg (by omega))
  have hbq : w3.heap.size ≤ w41.heap.size := by omega
  have hz41 : w8.heap.size ≤ w41.heap.size := by omega
  clear hT1 hR1 hgx hgO HM41 HM38 HN38 HOT38 HT38 HZ38 HB3638 HX38 HY38 HB3839 HB3940 HB4041 hs37 hs38 hs39 hs40 hs41 hz36 HY39 HY40 HX39 HX40
  go_wp2
  go_loopg [41, 42, 43, 44] n (fun gk xo vi _ _ wr => ∃ (i : Nat) (vo : Value) (So : Nat → Option Addr) (Co : Nat → Nat), vo = xo ∧ i ≤ n ∧ gk = n - i ∧ vi = .int .i64 i ∧ OwnM wr w41.heap.size 23 3 vo i So Co L (fun a b => .int .i64 ((gx a b : Nat) : Int)) ∧ Rmy wr w2.heap.size n AM AQ cM cR S C L (gO i 0) ∧
    Only (fun k => w2.heap.size ≤ k ∧ k < w3.heap.size) w41 wr)
  case atStart => exact ⟨0, _, fun _ => none, fun _ => 0, rfl, Nat.zero_le _, rfl, rfl, OwnM.nil _ _ _ _ _ _ _ _, HM0.out, Only.refl _ _⟩
  case round =>
    clear HM0
    obtain ⟨i, vo, So, Co, rfl, hi, rfl, rfl, hOv, hM, hbw⟩ := hrel
    have hsw := hbw.size
    by_cases hlt : i < n
    · obtain ⟨bH, oH, rfl, hbH, hcH⟩ := HT1.out i hlt
      have hLi := HL.out i hlt
      obtain ⟨ln, hln⟩ : ∃ ln, ln = L i := ⟨_, rfl⟩
      obtain ⟨di, hdi⟩ : ∃ di, di = C1 i := ⟨_, rfl⟩
      obtain ⟨Ai, hAi⟩ : ∃ Ai, Ai = S1 i := ⟨_, rfl⟩
      dsimp only at hcH
      rw [← hln] at hLi hcH
      rw [← hdi, ← hAi] at hcH
      have HRI : Hid (Rd w2 Ai ln (fun j => .int .i64 (((G i j).val : Nat) : Int))) := Lib.hid (by rw [hAi, hln]; exact HRR1.out i hlt)
      have HCA : Hid (∀ w', Below w2.heap.size w41 w' → w'.cell? ⟨bH, oH + i, none⟩ = some (.slice Ai ln di)) := Lib.hid fun w' hb => ((HBW2.out.trans hb).cell hbH).trans hcH
      have hcA := HCA.out wr (hbw.toBelow (fun k hk => hk.1) (by omega))
      have HLN := Lib.hid hln
      have HOv := Lib.hid hOv; have HMv := Lib.hid hM; have HBv := Lib.hid hbw
      clear hOv hM hbw hln hdi hAi hcH hbH
      go_wp2
      go_loopg [43, 44] ln (fun gk xr vj wr => ∃ (j : Nat) (vr : Value), vr = xr ∧ j ≤ ln ∧ gk = ln - j ∧ vj = .int .i64 j ∧ Own wr w41.heap.size 3 1 vr j (fun b => [.int .i64 ((gx i b : Nat) : Int)]) ∧ OwnM wr w41.heap.size 23 3 vo i So Co L (fun a b => .int .i64 ((gx a b : Nat) : Int)) ∧ Rmy wr w2.heap.size n AM AQ cM cR S C L (gO i j) ∧
        Only (fun k => w2.heap.size ≤ k ∧ k < w3.heap.size) w41 wr ∧ (∀ q, q < i → ∀ k, vr.ownBlock = some k → (Value.slice (So q) (L q) (Co q)).ownBlock ≠ some k))
      case atStart => exact ⟨0, _, rfl, Nat.zero_le _, rfl, rfl, Own.nil _ _ _ _ _, HOv.out, HMv.out, HBv.out, fun q _ k hk => by (cases hk)⟩
      case round =>
        clear HOv HMv HBv hcA hsw
        obtain ⟨j, vr, rfl, hj, rfl, rfl, hOr, hOv, hM, hbw, hne⟩ := hrel
        have hsw := hbw.size
        have hcA := HCA.out wr (hbw.toBelow (fun k hk => hk.1) (by omega))
        by_cases hlj : j < ln
        · obtain ⟨bA, oA, rfl, hbA, hcX⟩ := HRI.out j hlj
          dsimp only at hcX
          obtain ⟨r, hr⟩ : ∃ r, r = j % 3 := ⟨_, rfl⟩
          obtain ⟨c, hc⟩ : ∃ c, c = 1 + r := ⟨_, rfl⟩
          obtain ⟨x, hx⟩ : ∃ x, x = (G i j).val := ⟨_, rfl⟩
          obtain ⟨y, hy⟩ : ∃ y, y = x ^^^ c := ⟨_, rfl⟩
          have hr3 : r < 3 := by rw [hr]; exact Nat.mod_lt _ (by decide)
          have hx2 : x < 256 := by rw [hx]; exact (G i j).isLt
          have hy2 : y < 256 := by rw [hy]; exact Nat.xor_lt_two_pow (n := 8) hx2 (by omega)
          have hrm : (j : Int).tmod 3 = (r : Int) := by rw [hr, Int.tmod_eq_emod_of_nonneg (by omega)]; omega
          have hadd : (1 : Int) + (r : Int) = (c : Int) := by omega
          have hwc : IntKind.i64.wrap (c : Int) = (c : Int) := by rw [IntKind.wrap_i64]; omega
          have hxor : bits .xor .i64 (x : Int) (c : Int) = (y : Int) := by rw [hy]; exact i64_xor_nat x c (by omega) (by omega)
          have HY : Hid (y = gx i j) := Lib.hid (by rw [HGX.out, hy, hc, hr, hx])
          rw [← hx] at hcX
          have HCX : Hid (∀ w', Below w2.heap.size w41 w' → w'.cell? ⟨bA, oA + j, none⟩ = some (.int .i64 (x : Int))) := Lib.hid fun w' hb => ((HBW2.out.trans hb).cell hbA).trans hcX
          have hcx := HCX.out wr (hbw.toBelow (fun k hk => hk.1) (by omega))
          have hu : Hid ((#[Value.int .i64 (y : Int)] : Array Value).toList = [.int .i64 ((gx i j : Nat) : Int)]) := Lib.hid (by rw [← HY.out])
          have HOr := Lib.hid hOr; have HOv := Lib.hid hOv; have HMv := Lib.hid hM; have HBv := Lib.hid hbw
          have HNE := Lib.hid hne
          clear hOr hOv hM hbw hne hcX hbA hr hc hx hy
          go_wp2_with (at_builtin; refine wpList_pushX _ rfl (.tmp 337) (.tmp 349) 23 rfl w41.heap.size 3 1 8 (.int .i64 0) #[.int .i64 (y : Int)] Try.underlying23 apInt rfl _ j _ rfl HOr.out hsw _ rfl rfl hu.out rfl rfl (by omega) (by omega) ?_)
          intro vr2 wa hO2 hba hga
          have HOr2 := Lib.hid hO2
          have HGA := Lib.hid hga
          have HONa : Hid (Only (fun k => w2.heap.size ≤ k ∧ k < w3.heap.size) w41 wa) := Lib.hid (HBv.out.grown hga.gr fun k hk => .inr (HOr.out.lt k hk).1)
          have HBa : Hid (Below w2.heap.size w41 wa) := Lib.hid (HONa.out.toBelow (fun k hk => hk.1) (by omega))
          have HOv2 : Hid (OwnM wa w41.heap.size 23 3 vo i So Co L (fun a b => .int .i64 ((gx a b : Nat) : Int))) := Lib.hid ⟨HOv.out.1.keptRow hga.gr (own_ne HOv.out.1 HOr.out (by decide)), fun q hq => (HOv.out.2 q hq).keptRow hga.gr (ne_or fun k hk => HNE.out q hq k hk)⟩
          have HNE2 : Hid (∀ q, q < i → ∀ k, vr2.ownBlock = some k → (Value.slice (So q) (L q) (Co q)).ownBlock ≠ some k) := Lib.hid fun q hq k hk e => hga.ne ((HOv.out.2 q hq).lt k e).2 (fun e2 => HNE.out q hq k e2 e) hk
          have HMa := Lib.hid (Rmy.far HM.out HMv.out hba (by omega))
          have hsa := HBa.out.size
          clear hO2 hba hga HOr HOv HMv HBv HNE hu hcx hcA hsw HGA
          obtain ⟨bR, oR, hAR, hcR, hbR⟩ := HMa.out.rcell hlt
          subst hAR
          obtain ⟨si, hsi⟩ : ∃ si, si = S i := ⟨_, rfl⟩
          obtain ⟨ci, hci⟩ : ∃ ci, ci = C i := ⟨_, rfl⟩
          rw [← hsi, ← hci, ← HLN.out] at hcR
          have HSI := Lib.hid hsi
          have HX : Hid (∀ w', Below wa.heap.size wa w' → w'.cell? ⟨bR, oR + i, none⟩ = some (.slice (some ⟨si, 0, none⟩) (ln + 1) ci) ∧ w'.cell? ⟨bH, oH + i, none⟩ = some (.slice (some ⟨bA, oA, none⟩) ln di) ∧ w'.cell? ⟨bA, oA + j, none⟩ = some (.int .i64 (x : Int))) := Lib.hid fun w' hb' => ⟨(hb'.cell hbR).trans hcR, HCA.out w' (HBa.out.trans (hb'.mono (by omega))), HCX.out w' (HBa.out.trans (hb'.mono (by omega)))⟩
          have hjl1 : j < ln + 1 := by omega
          have hjl2 : (j : Int) < ((ln + 1 : Nat) : Int) := by omega
          have hjl3 : (j : Int) < (ln : Int) + 1 := by omega
          clear hcR hbR hsi hci
          go_wp2_with fail
          refine wp_region_factsT 18 [.is (.slice (some ⟨bR, oR, none⟩) n cR), .is (.int .i64 (i : Int)), .is (.pointer (some ⟨bR, oR + i, none⟩)), .is (.slice (some ⟨si, 0, none⟩) (ln + 1) ci), .is (.int .i64 (j : Int)), .is (.slice (some ⟨bH, oH, none⟩) n c1), .is (.int .i64 (i : Int)), .is (.pointer (some ⟨bH, oH + i, none⟩)), .is (.slice (some ⟨bA, oA, none⟩) ln di), .is (.int .i64 (j : Int)), .is (.pointer (some ⟨bA, oA + j, none⟩)), .is (.int .i64 (x : Int)), .is (.int .i64 (j : Int)), .is (.int .i64 (r : Int)), .is (.int .i64 (c : Int)), .is (.int .i64 (y : Int)), .is (.int .u8 (y : Int)), .is (.pointer (some ⟨si, j, none⟩))] mixedM (by kernel_rfl) (fun hdr => ⟨?_, ?_, ?_, ?_, ?_, ?_, ?_, ?_, ?_, ?_, ?_, ?_, ?_, ?_, ?_, ?_, ?_, ?_, trivial⟩) (fun wE hbE => ?_)
          · intro a w2 hb hs K hK
            repeat (intro _)
            refine ⟨?_⟩
            have h6 : a.tmps[6]?.getD undef = .slice (some ⟨bR, oR, none⟩) n cR := hs 6 (by kernel_rfl)
            rw [if_pos (by rfl)]
            go_simp
            exact hK.out _ _ (Below.refl _ _) rfl
          · intro a w2 hb hs K hK
            repeat (intro _)
            refine ⟨?_⟩
            have h42 : a.tmps[42]?.getD undef = .int .i64 (i : Int) := hs 42 (by kernel_rfl)
            rw [if_pos (by rfl)]
            go_simp
            exact hK.out _ _ (Below.refl _ _) rfl
          · intro a w2 hb hs K hK
            repeat (intro _)
            refine ⟨?_⟩
            have h351 : a.tmps[351]?.getD undef = .slice (some ⟨bR, oR, none⟩) n cR := by assumption
            have h352 : a.tmps[352]?.getD undef = .int .i64 (i : Int) := by assumption
            rw [if_pos (by rfl)]
            go_simp
            exact hK.out _ _ (Below.refl _ _) rfl
          · intro a w2 hb hs K hK
            repeat (intro _)
            refine ⟨?_⟩
            have h353 : a.tmps[353]?.getD undef = .pointer (some ⟨bR, oR + i, none⟩) := by assumption
            rw [if_pos (by rfl)]
            have hcc := (HX.out w2 (hdr.out.trans (hb.mono hdr.out.size))).1
            go_simp
            exact hK.out _ _ (Below.refl _ _) rfl
          · intro a w2 hb hs K hK
            repeat (intro _)
            refine ⟨?_⟩
            have h44 : a.tmps[44]?.getD undef = .int .i64 (j : Int) := hs 44 (by kernel_rfl)
            rw [if_pos (by rfl)]
            go_simp
            exact hK.out _ _ (Below.refl _ _) rfl
          · intro a w2 hb hs K hK
            repeat (intro _)
            refine ⟨?_⟩
            have h3 : a.tmps[3]?.getD undef = .slice (some ⟨bH, oH, none⟩) n c1 := hs 3 (by kernel_rfl)
            rw [if_pos (by rfl)]
            go_simp
            exact hK.out _ _ (Below.refl _ _) rfl
          · intro a w2 hb hs K hK
            repeat (intro _)
            refine ⟨?_⟩
            have h42 : a.tmps[42]?.getD undef = .int .i64 (i : Int) := hs 42 (by kernel_rfl)
            rw [if_pos (by rfl)]
            go_simp
            exact hK.out _ _ (Below.refl _ _) rfl
          · intro a w2 hb hs K hK
            repeat (intro _)
            refine ⟨?_⟩
            have h356 : a.tmps[356]?.getD undef = .slice (some ⟨bH, oH, none⟩) n c1 := by assumption
            have h357 : a.tmps[357]?.getD undef = .int .i64 (i : Int) := by assumption
            rw [if_pos (by rfl)]
            go_simp
            exact hK.out _ _ (Below.refl _ _) rfl
          · intro a w2 hb hs K hK
            repeat (intro _)
            refine ⟨?_⟩
            have h358 : a.tmps[358]?.getD undef = .pointer (some ⟨bH, oH + i, none⟩) := by assumption
            rw [if_pos (by rfl)]
            have hcc := (HX.out w2 (hdr.out.trans (hb.mono hdr.out.size))).2.1
            go_simp
            exact hK.out _ _ (Below.refl _ _) rfl
          · intro a w2 hb hs K hK
            repeat (intro _)
            refine ⟨?_⟩
            have h44 : a.tmps[44]?.getD undef = .int .i64 (j : Int) := hs 44 (by kernel_rfl)
            rw [if_pos (by rfl)]
            go_simp
            exact hK.out _ _ (Below.refl _ _) rfl
          · intro a w2 hb hs K hK
            repeat (intro _)
            refine ⟨?_⟩
            have h359 : a.tmps[359]?.getD undef = .slice (some ⟨bA, oA, none⟩) ln di := by assumption
            have h360 : a.tmps[360]?.getD undef = .int .i64 (j : Int) := by assumption
            rw [if_pos (by rfl)]
            go_simp
            exact hK.out _ _ (Below.refl _ _) rfl
          · intro a w2 hb hs K hK
            repeat (intro _)
            refine ⟨?_⟩
            have h361 : a.tmps[361]?.getD undef = .pointer (some ⟨bA, oA + j, none⟩) := by assumption
            rw [if_pos (by rfl)]
            have hcc := (HX.out w2 (hdr.out.trans (hb.mono hdr.out.size))).2.2
            go_simp
            exact hK.out _ _ (Below.refl _ _) rfl
          · intro a w2 hb hs K hK
            repeat (intro _)
            refine ⟨?_⟩
            have h44 : a.tmps[44]?.getD undef = .int .i64 (j : Int) := hs 44 (by kernel_rfl)
            rw [if_pos (by rfl)]
            go_simp
            exact hK.out _ _ (Below.refl _ _) rfl
          · intro a w2 hb hs K hK
            repeat (intro _)
            refine ⟨?_⟩
            have h363 : a.tmps[363]?.getD undef = .int .i64 (j : Int) := by assumption
            rw [if_pos (by rfl)]
            go_simp
            exact hK.out _ _ (Below.refl _ _) rfl
          · intro a w2 hb hs K hK
            repeat (intro _)
            refine ⟨?_⟩
            have h364 : a.tmps[364]?.getD undef = .int .i64 (r : Int) := by assumption
            rw [if_pos (by rfl)]
            go_simp
            exact hK.out _ _ (Below.refl _ _) rfl
          · intro a w2 hb hs K hK
            repeat (intro _)
            refine ⟨?_⟩
            have h362 : a.tmps[362]?.getD undef = .int .i64 (x : Int) := by assumption
            have h365 : a.tmps[365]?.getD undef = .int .i64 (c : Int) := by assumption
            rw [if_pos (by rfl)]
            go_simp
            exact hK.out _ _ (Below.refl _ _) rfl
          · intro a w2 hb hs K hK
            repeat (intro _)
            refine ⟨?_⟩
            have h366 : a.tmps[366]?.getD undef = .int .i64 (y : Int) := by assumption
            rw [if_pos (by rfl)]
            go_simp
            refine (elem_any y w2 (by omega)).mono ?_
            rintro e w3 ⟨rfl, rfl⟩
            exact hK.out _ _ (Below.refl _ _) rfl
          · intro a w2 hb hs K hK
            repeat (intro _)
            refine ⟨?_⟩
            have h354 : a.tmps[354]?.getD undef = .slice (some ⟨si, 0, none⟩) (ln + 1) ci := by assumption
            have h355 : a.tmps[355]?.getD undef = .int .i64 (j : Int) := by assumption
            rw [if_pos (by rfl)]
            go_simp
            exact hK.out _ _ (Below.refl _ _) rfl
          intro v0 f0 v1 f1 v2 f2 v3 f3 v4 f4 v5 f5 v6 f6 v7 f7 v8 f8 v9 f9 v10 f10 v11 f11 v12 f12 v13 f13 v14 f14 v15 f15 v16 f16 v17 f17
          refine finG_end rfl (kq_normal ?_)
          simp only [List.drop_succ_cons, List.drop_zero]
          simp only [Act.put, List.setIfInBounds_toArray, List.set_cons_zero, List.set_cons_succ]
          obtain rfl : v17 = .pointer (some ⟨si, j, none⟩) := f17
          obtain rfl : v16 = .int .u8 (y : Int) := f16
          clear f0 f1 f2 f3 f4 f5 f6 f7 f8 f9 f10 f11 f12 f13 f14 f15
          have HMe := Lib.hid (HMa.out.kept hbE)
          have HONe : Hid (Only (fun k => w2.heap.size ≤ k ∧ k < w3.heap.size) w41 wE) := Lib.hid (HONa.out.below hbE)
          have HOre := Lib.hid (HOr2.out.kept hbE)
          have HOve := Lib.hid (HOv2.out.kept hbE)
          have hjL : j < L i := by rw [← HLN.out]; exact hlj
          obtain ⟨hcs, hcf⟩ := HMe.out.cell hlt (Nat.le_of_lt hjL)
          rw [← HSI.out] at hcs hcf
          generalize rmV L (gO i j) i j = u0 at hcs
          have HMs : Hid (Rmy (wE.setCell ⟨si, j, none⟩ (.int .u8 (y : Int))) w2.heap.size n AM (some ⟨bR, oR, none⟩) cM cR S C L (gO i (j + 1))) := Lib.hid (by
            have h1 := HMe.out.set hlt hjL y
            rw [← HSI.out] at h1
            refine h1.congr fun a ha b hb => ?_
            rw [HGO.out]
            dsimp only
            by_cases e : a = i ∧ b = j
            · rw [if_pos (by omega), if_pos e, HY.out, e.1, e.2]
            · rw [if_neg e]
              by_cases e2 : a < i ∨ (a = i ∧ b < j)
              · rw [if_pos e2, if_pos (by omega)]
              · rw [if_neg e2, if_neg (by omega)])
          have hsB : w2.heap.size ≤ si ∧ si < w3.heap.size := by rw [HSI.out]; exact HS.out _ ⟨i, hlt, rfl⟩
          have HOrs := Lib.hid (Own.setOtherX HOre.out (a := ⟨si, j, none⟩) (fun e => by have := (HOre.out.lt si e).1; omega) (.int .u8 (y : Int)))
          have HOvs : Hid (OwnM (wE.setCell ⟨si, j, none⟩ (.int .u8 (y : Int))) w41.heap.size 23 3 vo i So Co L (fun a b => .int .i64 ((gx a b : Nat) : Int))) := Lib.hid ⟨Own.setOtherX HOve.out.1 (a := ⟨si, j, none⟩) (fun e => by have := (HOve.out.1.lt si e).1; omega) _, fun q hq => Own.setOtherX (HOve.out.2 q hq) (a := ⟨si, j, none⟩) (fun e => by have := ((HOve.out.2 q hq).lt si e).1; omega) _⟩
          have HONs : Hid (Only (fun k => w2.heap.size ≤ k ∧ k < w3.heap.size) w41 (wE.setCell ⟨si, j, none⟩ (.int .u8 (y : Int)))) := Lib.hid (HONe.out.setCell (.inl hsB) _)
          clear hbE HX HMa HBa HOr2 HOv2 HMe HONe HONa HOre HOve hjL
          go_wp2
          refine NoPanic.normal ?_
          go_wp2
          go_roundg (ln - (j + 1))
          case measure => omega
          case rel => exact ⟨j + 1, vr2, rfl, by omega, rfl, by go_num, HOrs.out, HOvs.out, HMs.out, HONs.out, HNE2.out⟩
        · obtain rfl : ln = j := by omega
          obtain ⟨Ar, cr, rfl, _, _, _, _⟩ := hOr.rd
          have HOvn := Lib.hid (hOv.next Ar cr)
          have HRo : Hid (Own wr w41.heap.size 3 1 (.slice (upd So i Ar i) (L i) (upd Co i cr i)) (L i) (fun b => [.int .i64 ((gx i b : Nat) : Int)])) := Lib.hid (by rw [upd_at, upd_at, ← HLN.out]; exact hOr)
          have hu : Hid ((#[Value.slice Ar ln cr] : Array Value).toList = [.slice (upd So i Ar i) (L i) (upd Co i cr i)]) := Lib.hid (by rw [upd_at, upd_at, HLN.out])
          have HMn : Hid (Rmy wr w2.heap.size n AM AQ cM cR S C L (gO (i + 1) 0)) := Lib.hid (hM.congr fun a ha b hb => by
            rw [HGO.out]
            dsimp only
            by_cases e : a < i ∨ (a = i ∧ b < ln)
            · rw [if_pos e, if_pos (by omega)]
            · rw [if_neg e, if_neg (by
                have h5 := HLN.out
                rintro (h2 | ⟨_, h2⟩)
                · have : a = i := by omega
                  subst this
                  omega
                · omega)])
          have HBv := Lib.hid hbw
          clear hOr hOv hM hbw hne
          go_wp2_with (at_builtin; refine wpList_pushX _ rfl (.tmp 369) (.tmp 371) 22 rfl w41.heap.size 23 1 24 (.slice none 0 0) #[.slice Ar ln cr] Try.underlying22 intsInfo rfl _ i _ rfl HOvn.out.1 hsw _ rfl rfl hu.out rfl rfl (by omega) (by omega) ?_)
          intro vo2 wb hO2 hbb hgb
          have HOv2 := Lib.hid (HOvn.out.push (by decide) HRo.out hO2 hgb.gr)
          have HMb := Lib.hid (Rmy.far HM.out HMn.out hbb (by omega))
          have HBb : Hid (Only (fun k => w2.heap.size ≤ k ∧ k < w3.heap.size) w41 wb) := Lib.hid (HBv.out.grown hgb.gr fun k hk => .inr (HOvn.out.1.lt k hk).1)
          clear hO2 hbb hgb HOvn HRo hu HMn HBv
          go_wp2
          go_roundg (n - (i + 1))
          case measure => omega
          case rel => exact ⟨i + 1, vo2, _, _, rfl, by omega, rfl, by go_num, HOv2.out, HMb.out, HBb.out⟩
    · obtain rfl : n = i := by omega
      obtain ⟨Aov, cov, rfl, _, hOM⟩ := hOv.rdm
      obtain ⟨w42, hw42⟩ : ∃ w42, w42 = wr := ⟨_, rfl⟩
      rw [← hw42] at hOv hM hbw hsw hOM ⊢
      have hxl : ∀ a b, gx a b < 256 := fun a b => by
        rw [HGX.out]
        exact Nat.xor_lt_two_pow (n := 8) (G a b).isLt (by have := Nat.mod_lt b (show 0 < 3 by decide); omega)
      obtain ⟨G2, hG2⟩ : ∃ G2 : Nat → Nat → Fin 256, G2 = fun a b => ⟨gx a b, hxl a b⟩ := ⟨_, rfl⟩
      have HM3 : Hid (Rmy w42 w2.heap.size n AM AQ cM cR S C L (fun i j => (G2 i j).val)) := Lib.hid (hM.congr fun a ha b _ => by
        rw [hG2, HGO.out]
        dsimp only
        rw [if_pos (.inl ha)])
      have HA3 : Hid (∀ w', Below w42.heap.size w42 w' → MI w' Aov n L (fun i j => (G2 i j).val)) := Lib.hid fun w' hb => by
        rw [hG2]
        exact RdM.below hOM hb
      have hb42 : Below w2.heap.size w41 w42 := hbw.toBelow (fun k hk => hk.1) (by omega)
      have HN3 := Lib.hid (HN41.out.only hbw fun k hk => hk.2)
      have HOT3 := Lib.hid (HOT41.out.only hbw fun k hk => by have := hk.2; omega)
      have HX42 : Hid (Below w.heap.size w w42) := Lib.hid (HX41.out.trans (hb42.mono (by omega)))
      have HY42 : Hid (Below w1.heap.size w1 w42) := Lib.hid (HY41.out.trans (hb42.mono (by omega)))
      have HZ42 : Hid (Below w2.heap.size w2 w42) := Lib.hid (HBW2.out.trans hb42)
      have hz42 : w1.heap.size ≤ w42.heap.size := by omega
      have HB3 : Hid (∀ w', Below w42.heap.size w42 w' → MI w' B1 nb Lb (fun i j => (H i j).val)) := Lib.hid fun w' hb => HB1.out w' (HZ42.out.trans (hb.mono (by omega)))
      have HAt3 : Hid (∀ w', Below w42.heap.size w42 w' → Rd w' At m fun i => .int .i64 (tt i)) := Lib.hid fun w' hb => HAt.out w' (HY42.out.trans (hb.mono hz42))
      have HC33 : Hid (∀ w', Below w42.heap.size w42 w' → w'.cell? ⟨w.heap.size, 3, none⟩ = some (.slice At m cAt)) := Lib.hid fun w' hb => HC3.out w' (HY42.out.trans (hb.mono hz42))
      have HT3 : Hid (∀ w', Below w42.heap.size w42 w' → Rd w' (some ⟨bT, oT, none⟩) m fun i => .int .i64 (tt i)) := Lib.hid fun w' hb i hi => by
        obtain ⟨A', c', e', _, _, hr, _⟩ := (HOT3.out.kept hb).rd
        injection e' with e' _ _
        subst e'
        obtain ⟨b, o, e1, e2, e3⟩ := hr i (by omega)
        exact ⟨b, o, e1, e2, by rw [e3]; simp only [if_pos hi]⟩
      have HV42 := Lib.hid (Below.refl w42.heap.size w42)
      have HG2a : Hid (∀ i j, (G2 i j).val < 256) := Lib.hid fun i j => (G2 i j).isLt
      have HMU2 : Hid (∀ i u j, mulR 256 (G2 i u).val (H u j).val < 2 ^ 8) := Lib.hid fun i u j => mulR_lt256 (G2 i u).isLt
      clear hOv hM hbw hsw hOM hw42 hxl hG2 hb42 hc3 HX41 HY41 HZ42 HY42 HN41 HOT41 HOT3 HBW2 HA1 HB1 HAt HC3 HT1 HRR1 HGX HGO HM hbq
      go_wp2_with fail
      refine (rprod_all 256 Aov B1 n nb cov d1 L Lb (fun i j => (G2 i j).val) (fun i j => (H i j).val) w42 hn9 HL9.out hnb9 HLb9.out (HA3.out w42 HV42.out) (HB3.out w42 HV42.out) HG2a.out HHa.out HMU2.out).mono ?_
      rintro e w43 ⟨Pt3, ct3, rfl, hPt, hb43⟩
      have HPT := Lib.hid hPt
      have HV43 := Lib.hid (HV42.out.trans (hb43.mono HV42.out.size))
      have hs43 := hb43.size
      have HB4243 := Lib.hid hb43
      clear hb43
      clear hPt
      go_wp2_with fail
      refine (rinv_any okE Aov n cov L G2 w43 hn9 HL9.out (HA3.out w43 HV43.out)).mono ?_
      rintro e w44 ⟨er3, XI3, Pi3, ci3, rfl, hIR, hb44, hPi⟩
      obtain ⟨K3, hK⟩ : ∃ K3, K3 = (if er3 = 0 then n else 0) := ⟨_, rfl⟩
      rw [← hK] at hPi ⊢
      have HK := Lib.hid hK; have HIR := Lib.hid hIR; have HPI := Lib.hid hPi
      have HV44 := Lib.hid (HV43.out.trans (hb44.mono HV43.out.size))
      have hs44 := hb44.size
      have HB4344 := Lib.hid hb44
      clear hb44
      clear hK hIR hPi
      have hc3 := HC33.out w44 HV44.out
      go_wp2_with fail
      refine (rrows_all Aov At n m cov cAt L (fun i j => (G2 i j).val) tt w44 hn9 HL9.out (HA3.out w44 HV44.out) (HAt3.out w44 HV44.out)).mono ?_
      rintro e w45 ⟨Pr3, cr3, rfl, hPr, hb45⟩
      have HPR := Lib.hid hPr
      have HV45 := Lib.hid (HV44.out.trans (hb45.mono HV44.out.size))
      have hs45 := hb45.size
      have HB4445 := Lib.hid hb45
      clear hb45
      clear hPr hc3
      have hc3 := HC33.out w45 HV45.out
      have hq2 : (m : Int) ≤ (cT : Int) := by omega
      go_wp2_with fail
      refine (rowsO_all AM (some ⟨bT, oT, none⟩) n m cM _ L (fun i j => (G2 i j).val) tt w45 hn9 HL9.out ((HM3.out.kept HV45.out).rdm) (HT3.out w45 HV45.out)).mono ?_
      rintro e w46 ⟨Ar3, cr9, rfl, _, hE, hb46⟩
      have HEr := Lib.hid hE
      have HV46 := Lib.hid (HV45.out.trans (hb46.mono HV45.out.size))
      have hs46 := hb46.size
      have HB4546 := Lib.hid hb46
      clear hb46
      clear hE hc3
      go_wp2_with fail
      refine (timE_own AM BM n nb cM dM L Lb (fun i j => (G2 i j).val) (fun i j => (H i j).val) w46 hn9 HL9.out hnb9 HLb9.out ((HM3.out.kept HV46.out).rdm) ((HN3.out.kept HV46.out).rdm) HG2a.out HHa.out).mono ?_
      rintro e w47 ⟨At3, ct9, rfl, _, hE, hb47⟩
      have HEt := Lib.hid hE
      have HV47 := Lib.hid (HV46.out.trans (hb47.mono HV46.out.size))
      have hs47 := hb47.size
      have HB4647 := Lib.hid hb47
      clear hb47
      clear hE
      go_wp2_with fail
      refine (invO_any AM n cM L G2 w47 hn9 HL9.out ((HM3.out.kept HV47.out).rdm)).mono ?_
      rintro e w48 ⟨er4, XI4, Ai3, ci9, rfl, hIP, hb48, _, hE⟩
      obtain ⟨e1, hx⟩ := inv_same hIP HIR.out
      replace e1 := e1.symm
      subst e1
      rw [← HK.out] at hE ⊢
      have HEi := Lib.hid (hE.same HK.out hx)
      have HV48 := Lib.hid (HV47.out.trans (hb48.mono HV47.out.size))
      have hs48 := hb48.size
      have HB4748 := Lib.hid hb48
      clear hb48
      clear hE hIP hx
      have HK1 : Hid (tk n nb L Lb ≤ 1000000000000000) := by have := tk_le n nb L Lb; show _ ≤ _; omega
      have HL1 : Hid (∀ i, i < tk n nb L Lb → colsN nb Lb ≤ 1000000000000000) := fun i hi => by have := (tk_good hi).2.2; omega
      have HK2 : Hid (rk n m L tt ≤ 1000000000000000) := by have := rk_le n m L tt; show _ ≤ _; omega
      have HL2 : Hid (∀ i, i < rk n m L tt → L (tt i).toNat ≤ 1000000000000000) := fun i hi => by have := HL.out _ (rk_good hi).1; omega
      have HK3 : Hid (K3 ≤ 1000000000000000) := by
        show K3 ≤ _
        rw [HK.out]
        split <;> omega
      have HL3 : Hid (∀ i, i < K3 → n ≤ 1000000000000000) := fun i hi => by omega
      go_wp2_with fail
      refine (likeElemss_any At3 Pt3 _ ct9 ct3 (fun _ => colsN nb Lb) (fun i j => dot 256 (fun u => (G2 i u).val) (fun u => (H u j).val) nb) w48 HK1.out HL1.out (fun i _ j _ => dot_lt (e := 8) nb fun u _ => mulR_lt256 (G2 i u).isLt) (RdM.below HEt.out HB4748.out) (RdM.below HPT.out (HB4344.out.trans ((HB4445.out.trans ((HB4546.out.trans ((HB4647.out.trans (HB4748.out.mono hs47)).mono hs46)).mono hs45)).mono hs44)))).mono ?_
      rintro e w49 ⟨rfl, hdr⟩
      have hb49 : Below w48.heap.size w48 w49 := hdr.below _
      have HV49 := Lib.hid (HV48.out.trans (hb49.mono HV48.out.size))
      have hs49 := hb49.size
      have HB4849 := Lib.hid hb49
      clear hb49
      clear hdr
      go_wp2_with fail
      refine (likeElemss_any Ar3 Pr3 _ cr9 cr3 (fun i => L (tt i).toNat) (fun i j => (G2 (tt i).toNat j).val) w49 HK2.out HL2.out (fun i _ j _ => (G2 _ _).isLt) (RdM.below HEr.out (HB4647.out.trans ((HB4748.out.trans (HB4849.out.mono hs48)).mono hs47))) (RdM.below HPR.out (HB4546.out.trans ((HB4647.out.trans ((HB4748.out.trans (HB4849.out.mono hs48)).mono hs47)).mono hs46)))).mono ?_
      rintro e w50 ⟨rfl, hdr⟩
      have hb50 : Below w49.heap.size w49 w50 := hdr.below _
      have HV50 := Lib.hid (HV49.out.trans (hb50.mono HV49.out.size))
      have hs50 := hb50.size
      have HB4950 := Lib.hid hb50
      clear hb50
      clear hdr
      go_wp2_with fail
      refine (likeElemss_any Ai3 Pi3 _ ci9 ci3 (fun _ => n) (fun i j => (XI3 i j).val) w50 HK3.out HL3.out (fun i _ j _ => (XI3 _ _).isLt) (RdM.below HEi.out (HB4849.out.trans (HB4950.out.mono hs49))) (RdM.below HPI.out (HB4445.out.trans ((HB4546.out.trans ((HB4647.out.trans ((HB4748.out.trans ((HB4849.out.trans (HB4950.out.mono hs49)).mono hs48)).mono hs47)).mono hs46)).mono hs45)))).mono ?_
      rintro e w51 ⟨rfl, hdr⟩
      have hb51 : Below w50.heap.size w50 w51 := hdr.below _
      have HV51 := Lib.hid (HV50.out.trans (hb51.mono HV50.out.size))
      have hs51 := hb51.size
      have HB5051 := Lib.hid hb51
      clear hb51
      clear hdr
      have HF : Hid (Below w.heap.size w w51) := Lib.hid (HX42.out.trans (HV51.out.mono (by omega)))
      go_wp2
      go_ret
      exact ⟨rfl, HF.out⟩
end Go.Proofs.Ytpocjpodeahanaa
