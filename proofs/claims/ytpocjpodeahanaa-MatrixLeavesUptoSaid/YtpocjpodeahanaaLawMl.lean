/- MatrixLeaves: the law's walk. Conditions: none. -/
import Derived.Test.YtpocjpodeahanaaOwn3
import Derived.Test.YtpocjpodeahanaaRmr
import Derived.Test.YtpocjpodeahanaaOutP
import Derived.Test.YtpocjpodeahanaaSolR
import Derived.Test.YtpocjpodeahanaaFactT
namespace Go.Proofs.Ytpocjpodeahanaa
open Go.RowKit

theorem lit1m (w : World) (u : Value) (T TR : TypeId) : RdM ((w.alloc (.cells #[u] T)).alloc (.cells #[.slice (some ⟨w.heap.size, 0, none⟩) 1 1] TR)) (some ⟨w.heap.size + 1, 0, none⟩) 1 (fun _ => 1) (fun _ _ => u) := by
  have r1 := (World.rowIs_alloc w #[u] T (fun _ => u) (by intro i hi; match i, hi with | 0, _ => rfl)).alloc (.cells #[.slice (some ⟨w.heap.size, 0, none⟩) 1 1] TR)
  have r2 := World.rowIs_alloc (w.alloc (.cells #[u] T)) #[.slice (some ⟨w.heap.size, 0, none⟩) 1 1] TR (fun _ => .slice (some ⟨w.heap.size, 0, none⟩) 1 1) (by intro i hi; match i, hi with | 0, _ => rfl)
  rw [show (w.alloc (.cells #[u] T)).heap.size = w.heap.size + 1 from by simp] at r2
  exact ⟨fun _ => some ⟨w.heap.size, 0, none⟩, fun _ => 1, row_rd r2, fun i _ => row_rd r1⟩
def two1 (_ _ : Nat) : Fin 256 := 2
def inv1 (_ _ : Nat) : Fin 256 := 142
theorem two_out {er : Int} {x : Nat → Fin 256} (h : SolP gE 1 (fun _ => 1) 1 two1 (fun _ => 1) er x) : er = 0 ∧ x 0 = 142 := by
  have k1 : ∀ i, i < 1 → ∀ j, j < 1 → gE.mm 1 inv1 two1 i j = gE.idm i j := by decide +kernel
  have k2 : ∀ i, i < 1 → ∀ j, j < 1 → gE.mm 1 two1 inv1 i j = gE.idm i j := by decide +kernel
  obtain ⟨e1, e2⟩ := h.free (X := inv1) (by decide) rfl (Fd.free_of_right (F := gE) (n := 1) (X := two1) (G := inv1) (fun i j hi hj => k2 i hi j hj)) (fun i j hi hj => k1 i hi j hj) (fun i j hi hj => k2 i hi j hj)
  refine ⟨e1, ?_⟩
  have e3 : gE.s 1 (fun u => gE.m (two1 0 u) (x u)) = 1 := e2 0 (by decide)
  have key : ∀ y : Fin 256, gE.s 1 (fun _ => gE.m 2 y) = 1 → y = 142 := by decide +kernel
  refine key (x 0) ?_
  rw [← e3]
  rfl
theorem Own.only {w w' : World} {B e sz n : Nat} {v : Value} {f : Nat → List Value} {X : Nat → Prop} (h : Own w B e sz v n f) (ho : Only X w w') (hX : ∀ k, X k → k < B) : Own w' B e sz v n f :=
  ho.own h fun k hk hx => by have := hX k hx; have := (h.lt k hk).1; omega
theorem Rmy.far {w3 w w' : World} {B P n cM cR : Nat} {AM AQ : Option Addr} {S C L : Nat → Nat} {g g0 : Nat → Nat → Nat} (h0 : Rmy w3 B n AM AQ cM cR S C L g0) (h : Rmy w B n AM AQ cM cR S C L g) (hb : Below P w w') (hP : w3.heap.size ≤ P) : Rmy w' B n AM AQ cM cR S C L g :=
  ⟨h.mtop.blkX fun k hk => hb.block k (Nat.lt_of_lt_of_le (h0.mtop.lt k hk).2 hP), h.rtop.blkX fun k hk => hb.block k (Nat.lt_of_lt_of_le (h0.rtop.lt k hk).2 hP), fun i hi => (h.row i hi).blkX fun k hk => hb.block k (Nat.lt_of_lt_of_le ((h0.row i hi).lt k hk).2 hP), h.mark.blkX fun k hk => hb.block k (Nat.lt_of_lt_of_le (h0.mark.lt k hk).2 hP), h.inj, h.len⟩
theorem AR.only {w w' : World} {B e : Nat} {U X : Nat → Prop} {R : List Rw} (h : AR w B e U R) (ho : Only X w w') (hX : ∀ k, X k → k < B) : AR w' B e U R := ⟨fun r hr => (h.row r hr).only ho hX, h.apart, h.inU⟩
theorem OwnR.only {w w' : World} {B e : Nat} {v : Value} {X : Nat → Prop} {R : List Rw} (h : OwnR w B e v R) (ho : Only X w w') (hX : ∀ k, X k → k < B) : OwnR w' B e v R := OwnR.of (h.own.only ho hX)
set_option maxRecDepth 100000 in
set_option maxHeartbeats 32000000 in
theorem lawMl (F : Int) (A V : Option Addr) (n cA m cV : Nat) (L : Nat → Nat) (f : Nat → Nat → Int) (vv : Nat → Int) (B At N One : Value) (hB : B.oneCell' = true) (hAt : At.oneCell' = true) (hN : N.oneCell' = true) (hO : One.oneCell' = true) (w : World)
    (hn : n * 24 ≤ 140737488351232) (hL : ∀ i, i < n → L i * 8 ≤ 140737488351232) (hm : m * 8 ≤ 140737488351232) (hA : RdM w A n L fun i j => .int .i64 (f i j)) (hV : Rd w V m fun i => .int .i64 (vv i)) :
    Calls Try.prog 10 #[.agg #[.int .i64 F, .slice A n cA, B, At, .slice V m cV, N, One]] w fun e w' => e = .returned (.bool true) ∧ Below w.heap.size w w' := by
  have hoc := And.intro hB (And.intro hAt (And.intro hN hO))
  clear hoc
  have hL9 : ∀ i, i < n → L i ≤ 9223372036854775807 := fun i hi => by have := hL i hi; omega
  have HL := Lib.hid hL; have HL9 := Lib.hid hL9; clear hL hL9
  have hn9 : n ≤ 9223372036854775807 := by omega
  go_enter Try.func10, Try.ntmps10
  have hb0 : Below w.heap.size w (w.alloc (.cells #[.int .i64 F, .slice A n cA, B, At, .slice V m cV, N, One] 25)) := (Below.refl _ _).alloc (Nat.le_refl _) _
  have hA0 := RdM.below hA hb0
  have hV0 := hV.below hb0
  clear hA hV
  go_wp2_with fail
  refine (rows_any 256 A n cA L f _ (by omega) (by omega) hn HL.out hA0).mono ?_
  rintro e w1 ⟨v, S0, C0, rfl, hO, hb1⟩
  obtain ⟨A1, c1, rfl, _, hR⟩ := hO.rdm
  obtain ⟨G, hG⟩ : ∃ G : Nat → Nat → Fin 256, G = fun i j => lowF 256 (by decide) (f i j) := ⟨_, rfl⟩
  obtain ⟨v0, hv0⟩ : ∃ v0 : Nat → Fin 256, v0 = fun i => lowF 256 (by decide) (vv i) := ⟨_, rfl⟩
  have hR : MI w1 A1 n L (fun i j => (G i j).val) := by rw [hG]; exact hR
  have hc4 : w1.cell? ⟨w.heap.size, 4, none⟩ = some (.slice V m cV) := by rw [hb1.cell (by simp)]; go_simp
  have hV1 := hV0.below hb1
  have HX1 : Hid (Below w.heap.size w w1) := Lib.hid (hb0.trans (hb1.mono (by simp)))
  have HR := Lib.hid hR
  clear hb1 hb0 hA0 hO hV0 hR hG
  go_wp2_with fail
  refine (list_any 256 V m cV vv _ (by omega) (by omega) hm hV1).mono ?_
  rintro e w2 ⟨v, rfl, hO, hb2⟩
  obtain ⟨A2, c2, rfl, _, _, hV2, _⟩ := hO.rd
  have hV2 : Rd w2 A2 m (fun i => .int .i64 ((v0 i).val : Nat)) := by rw [hv0]; exact hV2
  have HA1 : Hid (∀ w', Below w2.heap.size w2 w' → MI w' A1 n L (fun i j => (G i j).val)) := Lib.hid fun w' hb => (HR.out.below hb2).below hb
  have HA2 : Hid (∀ w', Below w2.heap.size w2 w' → Rd w' A2 m (fun i => .int .i64 ((v0 i).val : Nat))) := Lib.hid fun w' hb => hV2.below hb
  have HX2 := Lib.hid (HX1.out.trans (hb2.mono HX1.out.size))
  have HB12 := Lib.hid hb2
  have hs2 := hb2.size
  clear hb2
  have HX22 := Lib.hid (Below.refl w2.heap.size w2)
  clear hO hV1 hc4 hv0 hV2 HR
  have HG : Hid (∀ i, i < n → ∀ j, j < L i → (G i j).val < 256) := Lib.hid fun i _ j _ => (G i j).isLt
  have HV256 : Hid (∀ i, i < m → (v0 i).val < 256) := Lib.hid fun i _ => (v0 i).isLt
  go_wp2_with fail
  refine (roomy_any A1 n c1 L (fun i j => (G i j).val) w2 hn HL.out HG.out (HA1.out w2 HX22.out)).mono ?_
  rintro e w3 ⟨AM, AQ, cM, cR, S, C, rfl, hM, hb3⟩
  have HM := Lib.hid hM
  have hlM := hM.len
  have HX3 := Lib.hid (HX2.out.trans (hb3.mono HX2.out.size))
  have HB23 := Lib.hid hb3
  have hs3 := hb3.size
  clear hb3
  clear hM
  go_wp2_with fail
  refine (roomyRow_any A2 m c2 (fun i => (v0 i).val) w3 hm HV256.out (HA2.out w3 HB23.out)).mono ?_
  rintro e w4 ⟨Ab, cb, rfl, hcb, hO, hb4⟩
  have HBO := Lib.hid hO
  have HX4 := Lib.hid (HX3.out.trans (hb4.mono HX3.out.size))
  have HB34 := Lib.hid hb4
  have hs4 := hb4.size
  clear hb4
  clear hO
  have HB24 := Lib.hid ((HB23.out.trans (HB34.out.mono hs3)))
  have hq1 : (0 : Int) ≤ (m : Int) := by omega
  have hq2 : (m : Int) ≤ (cb : Int) := by omega
  have HMX : Hid (∀ w', Below w4.heap.size w4 w' → ME w' AM n L (fun i j => (G i j).val)) := Lib.hid fun w' hb => ((HM.out.kept HB34.out).kept hb).rdm
  have HBX : Hid (∀ w', Below w4.heap.size w4 w' → Rd w' Ab m (fun i => vE (v0 i))) := Lib.hid fun w' hb i hi => by
    obtain ⟨A', c', e, _, _, hr, _⟩ := (HBO.out.kept hb).rd
    injection e with e _ _
    obtain ⟨b, o, e2, h1, h2⟩ := hr i (by omega)
    refine ⟨b, o, by rw [e]; exact e2, h1, ?_⟩
    rw [h2]
    show some (rrV m (fun i => (v0 i).val) i) = _
    unfold rrV
    rw [if_pos hi]
    rfl
  go_wp2_with fail
  refine (rrank_any okE A1 n c1 L G w4 hn9 HL9.out (HA1.out w4 HB24.out)).mono ?_
  rintro e w5 ⟨rr, rfl, hb5, hr0, hr1⟩
  have HR0 := Lib.hid hr0; have HR1 := Lib.hid hr1
  clear hr0 hr1
  have HX5 := Lib.hid (HX4.out.trans (hb5.mono HX4.out.size))
  have HB45 := Lib.hid hb5
  have hs5 := hb5.size
  clear hb5
  go_wp2_with fail
  refine (rsol_any okE A1 A2 n c1 m c2 L G v0 w5 hn9 HL9.out (HA1.out w5 (HB24.out.trans (HB45.out.mono (by omega)))) (HA2.out w5 (HB24.out.trans (HB45.out.mono (by omega))))).mono ?_
  rintro e w6 ⟨er, x', Ay, cy, rfl, hSR, hb6, hY⟩
  obtain ⟨K, hK⟩ : ∃ K, K = (if er = 0 then n else 0) := ⟨_, rfl⟩
  rw [← hK] at hY ⊢
  have HK := Lib.hid hK; have HSR := Lib.hid hSR; have HY := Lib.hid hY
  have HX6 := Lib.hid (HX5.out.trans (hb6.mono HX5.out.size))
  have HB56 := Lib.hid hb6
  have hs6 := hb6.size
  clear hb6
  clear hK hSR hY
  go_wp2_with fail
  refine (rpow_all 256 A2 m c2 4 1 (fun i => (v0 i).val) w6 (fun i _ j => pw_lt256 (by decide) j) HV256.out (HA2.out w6 (HB24.out.trans ((HB45.out.trans (HB56.out.mono hs5)).mono (by omega))))).mono ?_
  rintro e w7 ⟨Ap, cp, rfl, hP, hb7⟩
  have HP := Lib.hid hP
  have HX7 := Lib.hid (HX6.out.trans (hb7.mono HX6.out.size))
  have HB67 := Lib.hid hb7
  have hs7 := hb7.size
  clear hb7
  clear hP
  go_wp2_with fail
  refine (rankE_any AM n cM L G w7 hn9 HL9.out (HMX.out w7 ((HB45.out.trans ((HB56.out.trans (HB67.out.mono hs6)).mono hs5))))).mono ?_
  rintro e w8 ⟨st, rfl, hb8, hk0, hk1⟩
  have hst : st = rr := by
    by_cases hf : faultE n L = 0
    · obtain ⟨R', p', hBS⟩ := HR1.out hf
      obtain ⟨G', p, hRR⟩ := hk1 hf
      exact Fd.rank_eq hRR hBS
    · rw [hk0 hf, HR0.out hf]
  subst hst
  have HX8 := Lib.hid (HX7.out.trans (hb8.mono HX7.out.size))
  have HB78 := Lib.hid hb8
  have hs8 := hb8.size
  clear hb8
  clear hk0 hk1
  go_wp2_with fail
  refine (solO_any AM Ab n cM m cb L G v0 w8 hn9 HL9.out (HMX.out w8 ((HB45.out.trans ((HB56.out.trans ((HB67.out.trans (HB78.out.mono hs7)).mono hs6)).mono hs5)))) (HBX.out w8 ((HB45.out.trans ((HB56.out.trans ((HB67.out.trans (HB78.out.mono hs7)).mono hs6)).mono hs5)))) (by omega)).mono ?_
  rintro e w9 ⟨er1, x1, Ay1, cy1, rfl, hS1, hb9, hO1⟩
  obtain ⟨e1, hx1⟩ := sol_same hS1 HSR.out
  subst e1
  have hKs := hS1.small
  rw [← HK.out] at hO1 hKs ⊢
  have HO1 : Hid (Own w9 w8.heap.size 34 1 (.slice Ay1 K cy1) K (fun i => [vE (x1 i)])) := Lib.hid hO1
  have HX1e := Lib.hid hx1
  have HX9 := Lib.hid (HX8.out.trans (hb9.mono HX8.out.size))
  have HB89 := Lib.hid hb9
  have hs9 := hb9.size
  clear hb9
  clear hS1 hO1 hx1
  go_wp2_with fail
  refine (powE_own Ab m cb (fun i => (v0 i).val) w9 HV256.out (HBX.out w9 ((HB45.out.trans ((HB56.out.trans ((HB67.out.trans ((HB78.out.trans (HB89.out.mono hs8)).mono hs7)).mono hs6)).mono hs5))))).mono ?_
  rintro e w10 ⟨RP1, Ap1, cp1, rfl, hl1, hT1, hA1, hn1, hE1, hb10⟩
  obtain ⟨P, hPk⟩ : ∃ P, P = pk m 4 := ⟨_, rfl⟩
  have hPs : P ≤ 255 := by rw [hPk]; exact pk_le m 4
  rw [← hPk] at hl1 hE1 HP ⊢
  have HPK := Lib.hid hPk
  rw [hl1] at hT1
  have HLP1 := Lib.hid hl1; have HTP1 := Lib.hid hT1; have HAP1 := Lib.hid hA1; have HNP1 := Lib.hid hn1; have HEP1 := Lib.hid hE1
  have HX10 := Lib.hid (HX9.out.trans (hb10.mono HX9.out.size))
  have HB910 := Lib.hid hb10
  have hs10 := hb10.size
  clear hb10
  clear hl1 hT1 hA1 hn1 hE1 hPk
  have hbL : Below w10.heap.size w10 (((w10.alloc (.cells #[.int .u8 2] 34)).alloc (.cells #[.slice (some ⟨w10.heap.size, 0, none⟩) 1 1] 62)).alloc (.cells #[.int .u8 1] 34)) := (((Below.refl _ _).alloc (Nat.le_refl _) _).alloc (by simp <;> omega) _).alloc (by simp <;> omega) _
  have hLM : ME (((w10.alloc (.cells #[.int .u8 2] 34)).alloc (.cells #[.slice (some ⟨w10.heap.size, 0, none⟩) 1 1] 62)).alloc (.cells #[.int .u8 1] 34)) (some ⟨w10.heap.size + 1, 0, none⟩) 1 (fun _ => 1) (fun i j => (two1 i j).val) := RdM.below (lit1m w10 (.int .u8 2) 34 62) ((Below.refl _ _).alloc (by simp) _)
  have hLV : Rd (((w10.alloc (.cells #[.int .u8 2] 34)).alloc (.cells #[.slice (some ⟨w10.heap.size, 0, none⟩) 1 1] 62)).alloc (.cells #[.int .u8 1] 34)) (some ⟨w10.heap.size + 2, 0, none⟩) 1 (fun i => vE ((fun _ => (1 : Fin 256)) i)) := fun i hi => by
    have : i = 0 := by omega
    subst this
    refine ⟨w10.heap.size + 2, 0, rfl, by simp, ?_⟩
    have h1 := heap_alloc_new ((w10.alloc (.cells #[.int .u8 2] 34)).alloc (.cells #[.slice (some ⟨w10.heap.size, 0, none⟩) 1 1] 62)) (.cells #[.int .u8 1] 34)
    rw [show ((w10.alloc (.cells #[.int .u8 2] 34)).alloc (.cells #[.slice (some ⟨w10.heap.size, 0, none⟩) 1 1] 62)).heap.size = w10.heap.size + 2 from by simp] at h1
    rw [cell_of_row _ (w10.heap.size + 2) (0 + 0) _ _ (0, 0) h1]
    rfl
  have HSO := Lib.hid (solO_any (some ⟨w10.heap.size + 1, 0, none⟩) (some ⟨w10.heap.size + 2, 0, none⟩) 1 1 1 1 (fun _ => 1) two1 (fun _ => 1) (((w10.alloc (.cells #[.int .u8 2] 34)).alloc (.cells #[.slice (some ⟨w10.heap.size, 0, none⟩) 1 1] 62)).alloc (.cells #[.int .u8 1] 34)) (by decide) (fun _ _ => by decide) hLM hLV (Nat.le_refl _))
  have HBL := Lib.hid hbL
  clear hbL hLM hLV
  go_wp2_with fail
  refine HSO.out.mono ?_
  rintro e w11 ⟨er2, x2, Ao, co, rfl, hS2, hb11, hO2⟩
  obtain ⟨e1, e2⟩ := two_out hS2
  subst e1
  have HOO : Hid (Own w11 w10.heap.size 34 1 (.slice Ao 1 co) 1 (fun i => [vE (x2 i)])) := Lib.hid ((show Own w11 _ 34 1 (.slice Ao 1 co) 1 (fun i => [vE (x2 i)]) from hO2).mono HBL.out.size)
  have HO142 : Hid (x2 0 = 142) := Lib.hid e2
  replace hb11 := HBL.out.trans (hb11.mono HBL.out.size)
  have HX11 := Lib.hid (HX10.out.trans (hb11.mono HX10.out.size))
  have HB1011 := Lib.hid hb11
  have hs11 := hb11.size
  clear hb11
  clear hS2 hO2 HSO HBL e2
  go_wp2_with fail
  refine (rankE_any AM n cM L G w11 hn9 HL9.out (HMX.out w11 ((HB45.out.trans ((HB56.out.trans ((HB67.out.trans ((HB78.out.trans ((HB89.out.trans ((HB910.out.trans (HB1011.out.mono hs10)).mono hs9)).mono hs8)).mono hs7)).mono hs6)).mono hs5))))).mono ?_
  rintro e w12 ⟨st2, rfl, hb12, hk0, hk1⟩
  have hst : st2 = st := by
    by_cases hf : faultE n L = 0
    · obtain ⟨R', p', hBS⟩ := HR1.out hf
      obtain ⟨G', p, hRR⟩ := hk1 hf
      exact Fd.rank_eq hRR hBS
    · rw [hk0 hf, HR0.out hf]
  subst hst
  have HX12 := Lib.hid (HX11.out.trans (hb12.mono HX11.out.size))
  have HB1112 := Lib.hid hb12
  have hs12 := hb12.size
  clear hb12
  clear hk0 hk1
  go_wp2_with fail
  refine (solO_any AM Ab n cM m cb L G v0 w12 hn9 HL9.out (HMX.out w12 ((HB45.out.trans ((HB56.out.trans ((HB67.out.trans ((HB78.out.trans ((HB89.out.trans ((HB910.out.trans ((HB1011.out.trans (HB1112.out.mono hs11)).mono hs10)).mono hs9)).mono hs8)).mono hs7)).mono hs6)).mono hs5)))) (HBX.out w12 ((HB45.out.trans ((HB56.out.trans ((HB67.out.trans ((HB78.out.trans ((HB89.out.trans ((HB910.out.trans ((HB1011.out.trans (HB1112.out.mono hs11)).mono hs10)).mono hs9)).mono hs8)).mono hs7)).mono hs6)).mono hs5)))) (by omega)).mono ?_
  rintro e w13 ⟨er3, x3, Ay2, cy2, rfl, hS3, hb13, hO3⟩
  obtain ⟨e1, hx3⟩ := sol_same hS3 HSR.out
  subst e1
  rw [← HK.out] at hO3 ⊢
  have HO3 : Hid (Own w13 w12.heap.size 34 1 (.slice Ay2 K cy2) K (fun i => [vE (x3 i)])) := Lib.hid hO3
  have HX3e := Lib.hid hx3
  have HX13 := Lib.hid (HX12.out.trans (hb13.mono HX12.out.size))
  have HB1213 := Lib.hid hb13
  have hs13 := hb13.size
  clear hb13
  clear hS3 hO3 hx3
  go_wp2_with fail
  refine (powE_own Ab m cb (fun i => (v0 i).val) w13 HV256.out (HBX.out w13 ((HB45.out.trans ((HB56.out.trans ((HB67.out.trans ((HB78.out.trans ((HB89.out.trans ((HB910.out.trans ((HB1011.out.trans ((HB1112.out.trans (HB1213.out.mono hs12)).mono hs11)).mono hs10)).mono hs9)).mono hs8)).mono hs7)).mono hs6)).mono hs5))))).mono ?_
  rintro e w14 ⟨RP2, Ap2, cp2, rfl, hl1, hT1, hA1, hn1, hE1, hb14⟩
  rw [← HPK.out] at hl1 hE1 ⊢
  rw [hl1] at hT1
  have HLP2 := Lib.hid hl1; have HTP2 := Lib.hid hT1; have HAP2 := Lib.hid hA1; have HNP2 := Lib.hid hn1; have HEP2 := Lib.hid hE1
  have HX14 := Lib.hid (HX13.out.trans (hb14.mono HX13.out.size))
  have HB1314 := Lib.hid hb14
  have hs14 := hb14.size
  clear hb14
  clear hl1 hT1 hA1 hn1 hE1
  go_wp2_with fail
  have HLy1 : Hid (Rd w14 Ay1 K (fun j => .int .u8 (((fun j => (x' j).val) j : Nat)))) := Lib.hid fun j hj => by
    obtain ⟨A', c', e, _, _, hr, _⟩ := (HO1.out.kept (HB910.out.trans ((HB1011.out.trans ((HB1112.out.trans ((HB1213.out.trans (HB1314.out.mono hs13)).mono hs12)).mono hs11)).mono hs10))).rd
    injection e with e _ _
    obtain ⟨b, o, e2, h1, h2⟩ := hr j hj
    refine ⟨b, o, by rw [e]; exact e2, h1, ?_⟩
    rw [h2]
    show some (vE _) = _
    have hk0 : er3 = 0 ∧ j < n := by
      have h3 := HK.out
      by_cases h0 : er3 = 0
      · rw [if_pos h0] at h3; exact ⟨h0, by omega⟩
      · rw [if_neg h0] at h3; omega
    rw [HX1e.out hk0.1 j hk0.2]
    rfl
  refine (likeElems_any Ay1 Ay K cy1 cy (fun j => (x' j).val) w14 (by omega) (fun j _ => (x' j).isLt) HLy1.out (HY.out.below (HB67.out.trans ((HB78.out.trans ((HB89.out.trans ((HB910.out.trans ((HB1011.out.trans ((HB1112.out.trans ((HB1213.out.trans (HB1314.out.mono hs13)).mono hs12)).mono hs11)).mono hs10)).mono hs9)).mono hs8)).mono hs7)))).mono ?_
  rintro e w15 ⟨rfl, hdr⟩
  have hb15 : Below w14.heap.size w14 w15 := hdr.below _
  have HX15 := Lib.hid (HX14.out.trans (hb15.mono HX14.out.size))
  have HB1415 := Lib.hid hb15
  have hs15 := hb15.size
  clear hb15
  clear hdr
  go_wp2_with fail
  have HLy2 : Hid (Rd w15 Ay2 K (fun j => .int .u8 (((fun j => (x' j).val) j : Nat)))) := Lib.hid fun j hj => by
    obtain ⟨A', c', e, _, _, hr, _⟩ := (HO3.out.kept (HB1314.out.trans (HB1415.out.mono hs14))).rd
    injection e with e _ _
    obtain ⟨b, o, e2, h1, h2⟩ := hr j hj
    refine ⟨b, o, by rw [e]; exact e2, h1, ?_⟩
    rw [h2]
    show some (vE _) = _
    have hk0 : er3 = 0 ∧ j < n := by
      have h3 := HK.out
      by_cases h0 : er3 = 0
      · rw [if_pos h0] at h3; exact ⟨h0, by omega⟩
      · rw [if_neg h0] at h3; omega
    rw [HX3e.out hk0.1 j hk0.2]
    rfl
  refine (likeElems_any Ay2 Ay K cy2 cy (fun j => (x' j).val) w15 (by omega) (fun j _ => (x' j).isLt) HLy2.out (HY.out.below (HB67.out.trans ((HB78.out.trans ((HB89.out.trans ((HB910.out.trans ((HB1011.out.trans ((HB1112.out.trans ((HB1213.out.trans ((HB1314.out.trans (HB1415.out.mono hs14)).mono hs13)).mono hs12)).mono hs11)).mono hs10)).mono hs9)).mono hs8)).mono hs7)))).mono ?_
  rintro e w16 ⟨rfl, hdr⟩
  have hb16 : Below w15.heap.size w15 w16 := hdr.below _
  have HX16 := Lib.hid (HX15.out.trans (hb16.mono HX15.out.size))
  have HB1516 := Lib.hid hb16
  have hs16 := hb16.size
  clear hb16
  clear hdr
  go_wp2_with fail
  refine (likeElemss_any Ap1 Ap P cp1 cp (fun _ => 4) (fun i j => pw 256 1 (v0 i).val j) w16 (by omega) (fun _ _ => by decide) (fun i _ j _ => pw_lt256 (by decide) j) (RdM.below HEP1.out (HB1011.out.trans ((HB1112.out.trans ((HB1213.out.trans ((HB1314.out.trans ((HB1415.out.trans (HB1516.out.mono hs15)).mono hs14)).mono hs13)).mono hs12)).mono hs11))) (RdM.below HP.out (HB78.out.trans ((HB89.out.trans ((HB910.out.trans ((HB1011.out.trans ((HB1112.out.trans ((HB1213.out.trans ((HB1314.out.trans ((HB1415.out.trans (HB1516.out.mono hs15)).mono hs14)).mono hs13)).mono hs12)).mono hs11)).mono hs10)).mono hs9)).mono hs8)))).mono ?_
  rintro e w17 ⟨rfl, hdr⟩
  have hb17 : Below w16.heap.size w16 w17 := hdr.below _
  have HX17 := Lib.hid (HX16.out.trans (hb17.mono HX16.out.size))
  have HB1617 := Lib.hid hb17
  have hs17 := hb17.size
  clear hb17
  clear hdr
  go_wp2_with fail
  refine (likeElemss_any Ap2 Ap P cp2 cp (fun _ => 4) (fun i j => pw 256 1 (v0 i).val j) w17 (by omega) (fun _ _ => by decide) (fun i _ j _ => pw_lt256 (by decide) j) (RdM.below HEP2.out (HB1415.out.trans ((HB1516.out.trans (HB1617.out.mono hs16)).mono hs15))) (RdM.below HP.out (HB78.out.trans ((HB89.out.trans ((HB910.out.trans ((HB1011.out.trans ((HB1112.out.trans ((HB1213.out.trans ((HB1314.out.trans ((HB1415.out.trans ((HB1516.out.trans (HB1617.out.mono hs16)).mono hs15)).mono hs14)).mono hs13)).mono hs12)).mono hs11)).mono hs10)).mono hs9)).mono hs8)))).mono ?_
  rintro e w18 ⟨rfl, hdr⟩
  have hb18 : Below w17.heap.size w17 w18 := hdr.below _
  have HX18 := Lib.hid (HX17.out.trans (hb18.mono HX17.out.size))
  have HB1718 := Lib.hid hb18
  have hs18 := hb18.size
  clear hb18
  clear hdr
  go_wp2_with fail
  refine (likeElems_any Ao (some ⟨w18.heap.size, 0, none⟩) 1 co 1 (fun _ => 142) (w18.alloc (.cells #[.int .i64 142] 3)) (by decide) (fun _ _ => by decide) (fun j hj => by
    have : j = 0 := by omega
    subst this
    obtain ⟨A', c', e, _, _, hr, _⟩ := ((HOO.out.kept (HB1112.out.trans ((HB1213.out.trans ((HB1314.out.trans ((HB1415.out.trans ((HB1516.out.trans ((HB1617.out.trans (HB1718.out.mono hs17)).mono hs16)).mono hs15)).mono hs14)).mono hs13)).mono hs12))).alloc (.cells #[.int .i64 142] 3)).rd
    injection e with e _ _
    obtain ⟨b, o, e2, h1, h2⟩ := hr 0 (by decide)
    refine ⟨b, o, by rw [e]; exact e2, h1, ?_⟩
    rw [h2]
    show some (vE (x2 0)) = _
    rw [HO142.out]
    rfl) (fun j hj => by
    have : j = 0 := by omega
    subst this
    exact ⟨w18.heap.size, 0, rfl, by simp, by rw [cell_of_row _ w18.heap.size (0 + 0) _ _ (0, 0) (heap_alloc_new w18 _)]; rfl⟩)).mono ?_
  rintro e w19 ⟨rfl, hdr⟩
  have hb19 : Below w18.heap.size w18 w19 := ((Below.refl _ _).alloc (Nat.le_refl _) _).trans (hdr.below _)
  have HX19 := Lib.hid (HX18.out.trans (hb19.mono HX18.out.size))
  have HB1819 := Lib.hid hb19
  have hs19 := hb19.size
  clear hb19
  clear hdr
  have HA1b : Hid (∀ w', Below w2.heap.size w19 w' → MI w' A1 n L (fun i j => (G i j).val)) := Lib.hid fun w' hb => HA1.out w' (((HB24.out.trans ((HB45.out.trans ((HB56.out.trans ((HB67.out.trans ((HB78.out.trans ((HB89.out.trans ((HB910.out.trans ((HB1011.out.trans ((HB1112.out.trans ((HB1213.out.trans ((HB1314.out.trans ((HB1415.out.trans ((HB1516.out.trans ((HB1617.out.trans ((HB1718.out.trans (HB1819.out.mono hs18)).mono hs17)).mono hs16)).mono hs15)).mono hs14)).mono hs13)).mono hs12)).mono hs11)).mono hs10)).mono hs9)).mono hs8)).mono hs7)).mono hs6)).mono hs5)).mono (by omega)))).trans hb)
  have HA2b : Hid (∀ w', Below w2.heap.size w19 w' → Rd w' A2 m (fun i => .int .i64 ((v0 i).val : Nat))) := Lib.hid fun w' hb => HA2.out w' (((HB24.out.trans ((HB45.out.trans ((HB56.out.trans ((HB67.out.trans ((HB78.out.trans ((HB89.out.trans ((HB910.out.trans ((HB1011.out.trans ((HB1112.out.trans ((HB1213.out.trans ((HB1314.out.trans ((HB1415.out.trans ((HB1516.out.trans ((HB1617.out.trans ((HB1718.out.trans (HB1819.out.mono hs18)).mono hs17)).mono hs16)).mono hs15)).mono hs14)).mono hs13)).mono hs12)).mono hs11)).mono hs10)).mono hs9)).mono hs8)).mono hs7)).mono hs6)).mono hs5)).mono (by omega)))).trans hb)
  have HS23 : Hid (∀ k, (∃ i, i < n ∧ k = S i) → w2.heap.size ≤ k ∧ k < w3.heap.size) := Lib.hid fun k ⟨i, hi, e⟩ => by
    subst e
    exact (HM.out.row i hi).lt (S i) rfl
  have HM19 := Lib.hid (HM.out.kept (HB34.out.trans ((HB45.out.trans ((HB56.out.trans ((HB67.out.trans ((HB78.out.trans ((HB89.out.trans ((HB910.out.trans ((HB1011.out.trans ((HB1112.out.trans ((HB1213.out.trans ((HB1314.out.trans ((HB1415.out.trans ((HB1516.out.trans ((HB1617.out.trans ((HB1718.out.trans (HB1819.out.mono hs18)).mono hs17)).mono hs16)).mono hs15)).mono hs14)).mono hs13)).mono hs12)).mono hs11)).mono hs10)).mono hs9)).mono hs8)).mono hs7)).mono hs6)).mono hs5)).mono hs4)))
  go_wp2_with fail
  refine (untouched_any n A1 AM AQ c1 cM cR w2.heap.size S C L (fun i j => (G i j).val) w19 hn HL.out HG.out HM19.out HA1b.out).mono ?_
  rintro e w20 ⟨rfl, hM20, ho20⟩
  have HM20 := Lib.hid hM20; have HO20 := Lib.hid ho20
  have hs20 := ho20.size
  have HB20 : Hid (Below w2.heap.size w19 w20) := Lib.hid (ho20.toBelow (fun k hk => (HS23.out k hk).1) (by omega))
  have HT20 : Hid (∀ (B' e' sz q : Nat) (v : Value) (Z : Nat → List Value), Own w19 B' e' sz v q Z → w3.heap.size ≤ B' → Own w20 B' e' sz v q Z) := Lib.hid fun B' e' sz q v Z h hB => h.only ho20 (fun k hk => by have := (HS23.out k hk).2; omega)
  have HBO20 := Lib.hid (HT20.out _ _ _ _ _ _ (HBO.out.kept (HB45.out.trans ((HB56.out.trans ((HB67.out.trans ((HB78.out.trans ((HB89.out.trans ((HB910.out.trans ((HB1011.out.trans ((HB1112.out.trans ((HB1213.out.trans ((HB1314.out.trans ((HB1415.out.trans ((HB1516.out.trans ((HB1617.out.trans ((HB1718.out.trans (HB1819.out.mono hs18)).mono hs17)).mono hs16)).mono hs15)).mono hs14)).mono hs13)).mono hs12)).mono hs11)).mono hs10)).mono hs9)).mono hs8)).mono hs7)).mono hs6)).mono hs5))) (Nat.le_refl _))
  clear hM20 ho20 HM19
  go_wp2_with fail
  refine (asBefore_any A2 Ab m c2 cb w3.heap.size (fun i => (v0 i).val) w20 hm HV256.out hcb HBO20.out (HA2b.out w20 HB20.out)).mono ?_
  rintro e w21 ⟨rfl, hdr⟩
  have HB2021 : Hid (Below w20.heap.size w20 w21) := Lib.hid (hdr.below _)
  have hs21 := HB2021.out.size
  clear hdr
  obtain ⟨RLs, hRLs⟩ : ∃ RLs : Nat → List Rw, RLs = fun i => if i = 0 then [⟨Ay1, K, cy1, fun i => vE (x1 i)⟩, ⟨Ao, 1, co, fun i => vE (x2 i)⟩] else if i = 1 then RP1 else if i = 2 then [⟨Ay2, K, cy2, fun i => vE (x3 i)⟩] else RP2 := ⟨_, rfl⟩
  obtain ⟨SM, hSM⟩ : ∃ SM : Nat → Option Addr, SM = fun i => if i = 0 then some ⟨w21.heap.size, 0, none⟩ else if i = 1 then Ap1 else if i = 2 then some ⟨w21.heap.size + 1, 0, none⟩ else Ap2 := ⟨_, rfl⟩
  obtain ⟨CM, hCM⟩ : ∃ CM : Nat → Nat, CM = fun i => if i = 0 then 2 else if i = 1 then cp1 else if i = 2 then 1 else cp2 := ⟨_, rfl⟩
  have four : ∀ i, i < 4 → i = 0 ∨ i = 1 ∨ i = 2 ∨ i = 3 := fun i hi => by omega
  have hz22 : (w21.alloc (.cells #[.slice Ay1 K cy1, .slice Ao 1 co] 62)).heap.size = w21.heap.size + 1 := by simp
  have hz23 : ((w21.alloc (.cells #[.slice Ay1 K cy1, .slice Ao 1 co] 62)).alloc (.cells #[.slice Ay2 K cy2] 62)).heap.size = w21.heap.size + 1 + 1 := by simp
  have HY1 : Hid (AR w21 w8.heap.size 34 (fun k => w8.heap.size ≤ k ∧ k < w9.heap.size) [⟨Ay1, K, cy1, fun i => vE (x1 i)⟩]) := Lib.hid (AR.one ((HT20.out _ _ _ _ _ _ (HO1.out.kept (HB910.out.trans ((HB1011.out.trans ((HB1112.out.trans ((HB1213.out.trans ((HB1314.out.trans ((HB1415.out.trans ((HB1516.out.trans ((HB1617.out.trans ((HB1718.out.trans (HB1819.out.mono hs18)).mono hs17)).mono hs16)).mono hs15)).mono hs14)).mono hs13)).mono hs12)).mono hs11)).mono hs10))) (by omega)).kept HB2021.out) (fun k hk => HO1.out.lt k hk))
  have HY2 : Hid (AR w21 w8.heap.size 34 (fun k => w10.heap.size ≤ k ∧ k < w11.heap.size) [⟨Ao, 1, co, fun i => vE (x2 i)⟩]) := Lib.hid (AR.monoB (AR.one ((HT20.out _ _ _ _ _ _ (HOO.out.kept (HB1112.out.trans ((HB1213.out.trans ((HB1314.out.trans ((HB1415.out.trans ((HB1516.out.trans ((HB1617.out.trans ((HB1718.out.trans (HB1819.out.mono hs18)).mono hs17)).mono hs16)).mono hs15)).mono hs14)).mono hs13)).mono hs12))) (by omega)).kept HB2021.out) (fun k hk => HOO.out.lt k hk)) (by omega))
  have HY3 : Hid (AR w21 w8.heap.size 34 (fun k => w12.heap.size ≤ k ∧ k < w13.heap.size) [⟨Ay2, K, cy2, fun i => vE (x3 i)⟩]) := Lib.hid (AR.monoB (AR.one ((HT20.out _ _ _ _ _ _ (HO3.out.kept (HB1314.out.trans ((HB1415.out.trans ((HB1516.out.trans ((HB1617.out.trans ((HB1718.out.trans (HB1819.out.mono hs18)).mono hs17)).mono hs16)).mono hs15)).mono hs14))) (by omega)).kept HB2021.out) (fun k hk => HO3.out.lt k hk)) (by omega))
  have HQ1 : Hid (AR w21 w8.heap.size 34 (fun k => w9.heap.size ≤ k ∧ k < w10.heap.size) RP1) := Lib.hid ((((HAP1.out.kept (HB1011.out.trans ((HB1112.out.trans ((HB1213.out.trans ((HB1314.out.trans ((HB1415.out.trans ((HB1516.out.trans ((HB1617.out.trans ((HB1718.out.trans (HB1819.out.mono hs18)).mono hs17)).mono hs16)).mono hs15)).mono hs14)).mono hs13)).mono hs12)).mono hs11))).only HO20.out (fun k hk => by have := (HS23.out k hk).2; omega)).kept HB2021.out).monoB (by omega))
  have HQ2 : Hid (AR w21 w8.heap.size 34 (fun k => w13.heap.size ≤ k ∧ k < w14.heap.size) RP2) := Lib.hid ((((HAP2.out.kept (HB1415.out.trans ((HB1516.out.trans ((HB1617.out.trans ((HB1718.out.trans (HB1819.out.mono hs18)).mono hs17)).mono hs16)).mono hs15))).only HO20.out (fun k hk => by have := (HS23.out k hk).2; omega)).kept HB2021.out).monoB (by omega))
  have HFL : Hid (flR RLs 4 = ((([⟨Ay1, K, cy1, fun i => vE (x1 i)⟩, ⟨Ao, 1, co, fun i => vE (x2 i)⟩] ++ RP1) ++ [⟨Ay2, K, cy2, fun i => vE (x3 i)⟩]) ++ RP2)) := Lib.hid (by
    rw [flR_next, flR_next, flR_next, flR_next, hRLs]
    rfl)
  have HRALL : Hid (AR (((w21.alloc (.cells #[.slice Ay1 K cy1, .slice Ao 1 co] 62)).alloc (.cells #[.slice Ay2 K cy2] 62)).alloc (.cells #[.slice (some ⟨w21.heap.size, 0, none⟩) 2 2, .slice Ap1 P cp1, .slice (some ⟨w21.heap.size + 1, 0, none⟩) 1 1, .slice Ap2 P cp2] 31)) w8.heap.size 34 (fun k => w8.heap.size ≤ k ∧ k < w14.heap.size) (flR RLs 4)) := Lib.hid (by
    rw [HFL.out]
    have a1 : AR w21 w8.heap.size 34 (fun k => (w8.heap.size ≤ k ∧ k < w9.heap.size) ∨ (w10.heap.size ≤ k ∧ k < w11.heap.size)) [⟨Ay1, K, cy1, fun i => vE (x1 i)⟩, ⟨Ao, 1, co, fun i => vE (x2 i)⟩] := HY1.out.app HY2.out (fun k h h' => by omega) (fun k h => .inl h) (fun k h => .inr h)
    have a2 : AR w21 w8.heap.size 34 (fun k => w8.heap.size ≤ k ∧ k < w11.heap.size) ([⟨Ay1, K, cy1, fun i => vE (x1 i)⟩, ⟨Ao, 1, co, fun i => vE (x2 i)⟩] ++ RP1) := a1.app HQ1.out (fun k h h' => by omega) (fun k h => by omega) (fun k h => by omega)
    have a3 : AR w21 w8.heap.size 34 (fun k => w8.heap.size ≤ k ∧ k < w13.heap.size) (([⟨Ay1, K, cy1, fun i => vE (x1 i)⟩, ⟨Ao, 1, co, fun i => vE (x2 i)⟩] ++ RP1) ++ [⟨Ay2, K, cy2, fun i => vE (x3 i)⟩]) := a2.app HY3.out (fun k h h' => by omega) (fun k h => by omega) (fun k h => by omega)
    have a4 : AR w21 w8.heap.size 34 (fun k => w8.heap.size ≤ k ∧ k < w14.heap.size) ((([⟨Ay1, K, cy1, fun i => vE (x1 i)⟩, ⟨Ao, 1, co, fun i => vE (x2 i)⟩] ++ RP1) ++ [⟨Ay2, K, cy2, fun i => vE (x3 i)⟩]) ++ RP2) := a3.app HQ2.out (fun k h h' => by omega) (fun k h => by omega) (fun k h => by omega)
    exact ((a4.kept ((Below.refl _ _).alloc (Nat.le_refl _) _)).kept ((Below.refl _ _).alloc (Nat.le_refl _) _)).kept ((Below.refl _ _).alloc (Nat.le_refl _) _))
  have HM4 : Hid (∀ i, i < 4 → Own (((w21.alloc (.cells #[.slice Ay1 K cy1, .slice Ao 1 co] 62)).alloc (.cells #[.slice Ay2 K cy2] 62)).alloc (.cells #[.slice (some ⟨w21.heap.size, 0, none⟩) 2 2, .slice Ap1 P cp1, .slice (some ⟨w21.heap.size + 1, 0, none⟩) 1 1, .slice Ap2 P cp2] 31)) w8.heap.size 62 1 (.slice (SM i) (RLs i).length (CM i)) (RLs i).length (fun j => [((RLs i).getD j rw0).v])) := Lib.hid fun i hi => by
    rw [hSM, hRLs, hCM]
    rcases four i hi with rfl | rfl | rfl | rfl
    · exact (((OwnR.made w21 62 #[.slice Ay1 K cy1, .slice Ao 1 co] 2 [⟨Ay1, K, cy1, fun i => vE (x1 i)⟩, ⟨Ao, 1, co, fun i => vE (x2 i)⟩] rfl rfl (by show 2 ≤ maxLen; unfold maxLen; decide)).own.alloc _).alloc _).mono (by omega)
    · show Own _ _ _ 1 (.slice Ap1 RP1.length cp1) RP1.length _
      have h1 := ((HT20.out _ _ _ _ _ _ (HTP1.out.own.kept (HB1011.out.trans ((HB1112.out.trans ((HB1213.out.trans ((HB1314.out.trans ((HB1415.out.trans ((HB1516.out.trans ((HB1617.out.trans ((HB1718.out.trans (HB1819.out.mono hs18)).mono hs17)).mono hs16)).mono hs15)).mono hs14)).mono hs13)).mono hs12)).mono hs11))) (by omega)).kept HB2021.out).mono (show w8.heap.size ≤ w9.heap.size by omega)
      rw [HLP1.out] at h1 ⊢
      exact ((h1.alloc _).alloc _).alloc _
    · have h1 := (OwnR.made (w21.alloc (.cells #[.slice Ay1 K cy1, .slice Ao 1 co] 62)) 62 #[.slice Ay2 K cy2] 1 [⟨Ay2, K, cy2, fun i => vE (x3 i)⟩] rfl rfl (by show 1 ≤ maxLen; unfold maxLen; decide)).own
      rw [hz22] at h1
      exact (h1.alloc _).mono (by omega)
    · show Own _ _ _ 1 (.slice Ap2 RP2.length cp2) RP2.length _
      have h1 := ((HT20.out _ _ _ _ _ _ (HTP2.out.own.kept (HB1415.out.trans ((HB1516.out.trans ((HB1617.out.trans ((HB1718.out.trans (HB1819.out.mono hs18)).mono hs17)).mono hs16)).mono hs15))) (by omega)).kept HB2021.out).mono (show w8.heap.size ≤ w13.heap.size by omega)
      rw [HLP2.out] at h1 ⊢
      exact ((h1.alloc _).alloc _).alloc _
  have HT4 : Hid (Own (((w21.alloc (.cells #[.slice Ay1 K cy1, .slice Ao 1 co] 62)).alloc (.cells #[.slice Ay2 K cy2] 62)).alloc (.cells #[.slice (some ⟨w21.heap.size, 0, none⟩) 2 2, .slice Ap1 P cp1, .slice (some ⟨w21.heap.size + 1, 0, none⟩) 1 1, .slice Ap2 P cp2] 31)) (w21.heap.size + 1 + 1) 31 1 (.slice (some ⟨w21.heap.size + 1 + 1, 0, none⟩) 4 4) 4 (fun i => [.slice (SM i) (RLs i).length (CM i)])) := Lib.hid (by
    have h1 := (OwnR.made ((w21.alloc (.cells #[.slice Ay1 K cy1, .slice Ao 1 co] 62)).alloc (.cells #[.slice Ay2 K cy2] 62)) 31 #[.slice (some ⟨w21.heap.size, 0, none⟩) 2 2, .slice Ap1 P cp1, .slice (some ⟨w21.heap.size + 1, 0, none⟩) 1 1, .slice Ap2 P cp2] 4 [⟨some ⟨w21.heap.size, 0, none⟩, 2, 2, fun _ => undef⟩, ⟨Ap1, P, cp1, fun _ => undef⟩, ⟨some ⟨w21.heap.size + 1, 0, none⟩, 1, 1, fun _ => undef⟩, ⟨Ap2, P, cp2, fun _ => undef⟩] rfl rfl (by show 4 ≤ maxLen; unfold maxLen; decide)).own
    rw [hz23] at h1
    refine Own.congr h1 fun i hi => ?_
    rw [hSM, hRLs, hCM]
    rcases four i hi with rfl | rfl | rfl | rfl
    · rfl
    · show [Value.slice Ap1 P cp1] = [.slice Ap1 RP1.length cp1]
      rw [HLP1.out]
    · rfl
    · show [Value.slice Ap2 P cp2] = [.slice Ap2 RP2.length cp2]
      rw [HLP2.out])
  have HBK : Hid (∀ i, i < 4 → ∀ k o, SM i = some ⟨k, o, none⟩ → (i = 0 ∧ k = w21.heap.size) ∨ (i = 1 ∧ w9.heap.size ≤ k ∧ k < w10.heap.size) ∨ (i = 2 ∧ k = w21.heap.size + 1) ∨ (i = 3 ∧ w13.heap.size ≤ k ∧ k < w14.heap.size)) := Lib.hid fun i hi k o es => by
    rw [hSM] at es
    rcases four i hi with rfl | rfl | rfl | rfl
    · have e2 : some (⟨w21.heap.size, 0, none⟩ : Addr) = some ⟨k, o, none⟩ := es
      injection e2 with e2; injection e2 with e2 _
      exact .inl ⟨rfl, e2.symm⟩
    · have e2 : Ap1 = some ⟨k, o, none⟩ := es
      have h1 := HTP1.out.own
      rw [e2, HLP1.out] at h1
      exact .inr (.inl ⟨rfl, h1.lt k ((h1.off rfl).2)⟩)
    · have e2 : some (⟨w21.heap.size + 1, 0, none⟩ : Addr) = some ⟨k, o, none⟩ := es
      injection e2 with e2; injection e2 with e2 _
      exact .inr (.inr (.inl ⟨rfl, e2.symm⟩))
    · have e2 : Ap2 = some ⟨k, o, none⟩ := es
      have h1 := HTP2.out.own
      rw [e2, HLP2.out] at h1
      exact .inr (.inr (.inr ⟨rfl, h1.lt k ((h1.off rfl).2)⟩))
  have HAPT : Hid (Apt 4 SM) := Lib.hid fun s t hs ht k o o' es et => by
    have h1 := HBK.out s hs k o es
    have h2 := HBK.out t ht k o' et
    omega
  have HLEN : Hid (∀ i, i < 4 → (RLs i).length ≤ 300) := Lib.hid fun i hi => by
    rw [hRLs]
    rcases four i hi with rfl | rfl | rfl | rfl
    · show 2 ≤ 300; decide
    · show RP1.length ≤ 300; rw [HLP1.out]; omega
    · show 1 ≤ 300; decide
    · show RP2.length ≤ 300; rw [HLP2.out]; omega
  have HLEN2 : Hid ((flR RLs 4).length ≤ 30000) := Lib.hid (by
    rw [HFL.out]
    simp only [List.length_append, HLP1.out, HLP2.out, List.length_cons, List.length_nil]
    omega)
  have HLEN3 : Hid (∀ r ∈ flR RLs 4, r.n ≤ 1000000) := Lib.hid fun r hr => by
    rw [HFL.out] at hr
    simp only [List.mem_append, List.mem_cons, List.not_mem_nil, or_false] at hr
    rcases hr with (((rfl | rfl) | hr) | rfl) | hr
    · show K ≤ 1000000; omega
    · show 1 ≤ 1000000; decide
    · rw [HNP1.out r hr]; decide
    · show K ≤ 1000000; omega
    · rw [HNP2.out r hr]; decide
  have HAPC := Lib.hid (apart3_any (some ⟨w21.heap.size + 1 + 1, 0, none⟩) 4 4 SM CM RLs (fun k => w8.heap.size ≤ k ∧ k < w14.heap.size) (w21.heap.size + 1 + 1) w8.heap.size w8.heap.size (((w21.alloc (.cells #[.slice Ay1 K cy1, .slice Ao 1 co] 62)).alloc (.cells #[.slice Ay2 K cy2] 62)).alloc (.cells #[.slice (some ⟨w21.heap.size, 0, none⟩) 2 2, .slice Ap1 P cp1, .slice (some ⟨w21.heap.size + 1, 0, none⟩) 1 1, .slice Ap2 P cp2] 31)) (by decide) HLEN.out HLEN2.out HLEN3.out HT4.out HM4.out HAPT.out HRALL.out (by simp; omega) (by simp; omega) (fun k hk => by simp; omega))
  clear hRLs hSM hCM hz22 hz23 four HY1 HY2 HY3 HQ1 HQ2 HFL HRALL HM4 HT4 HAPT HLEN HLEN2 HLEN3
  go_wp2_with fail
  refine HAPC.out.mono ?_
  rintro e w25 ⟨rfl, ho25⟩
  have HO25 : Hid (Only (fun k => w8.heap.size ≤ k) w21 w25) := Lib.hid (((Only.refl _ w21).below ((((Below.refl _ _).alloc (Nat.le_refl _) _).alloc (by simp <;> omega) _).alloc (by simp <;> omega) _)).trans' ho25 fun k hk => by
    rcases hk with h | ⟨t, o, ht, es⟩
    · exact h.1
    · have := HBK.out t ht k o es
      omega)
  have hs25 := HO25.out.size
  have HB25 : Hid (Below w8.heap.size w21 w25) := Lib.hid (HO25.out.toBelow (fun k hk => hk) (by omega))
  have HM25 : Hid (Rmy w25 w2.heap.size n AM AQ cM cR S C L (fun i j => (G i j).val)) := Lib.hid (Rmy.far HM.out (HM20.out.kept HB2021.out) HB25.out (by omega))
  have HBO25 := Lib.hid ((HBO20.out.kept HB2021.out).blkX fun k hk => HB25.out.block k (by have := (HBO.out.lt k hk).2; omega))
  have HB1925 : Hid (Below w2.heap.size w19 w25) := Lib.hid ((HB20.out.trans (HB2021.out.mono (by omega))).trans (HB25.out.mono (by omega)))
  clear ho25 HAPC HO25 HBK SM CM RLs HTP1 HTP2 HAP1 HAP2 HNP1 HNP2 HEP1 HEP2 HLP1 HLP2
  have HA1c : Hid (∀ w', Below w2.heap.size w25 w' → MI w' A1 n L (fun i j => (G i j).val)) := Lib.hid fun w' hb => HA1b.out w' (HB1925.out.trans hb)
  have HA2c : Hid (∀ w', Below w2.heap.size w25 w' → Rd w' A2 m (fun i => .int .i64 ((v0 i).val : Nat))) := Lib.hid fun w' hb => HA2b.out w' (HB1925.out.trans hb)
  go_wp2_with fail
  refine (untouched_any n A1 AM AQ c1 cM cR w2.heap.size S C L (fun i j => (G i j).val) w25 hn HL.out HG.out HM25.out HA1c.out).mono ?_
  rintro e w26 ⟨rfl, hM26, ho26⟩
  have HM26 := Lib.hid hM26
  have hs26 := ho26.size
  have HB26 : Hid (Below w2.heap.size w25 w26) := Lib.hid (ho26.toBelow (fun k hk => (HS23.out k hk).1) (by omega))
  have HBO26 := Lib.hid (HBO25.out.only ho26 (fun k hk => (HS23.out k hk).2))
  clear hM26 ho26 HM25 HBO25
  go_wp2_with fail
  refine (asBefore_any A2 Ab m c2 cb w3.heap.size (fun i => (v0 i).val) w26 hm HV256.out hcb HBO26.out (HA2c.out w26 HB26.out)).mono ?_
  rintro e w27 ⟨rfl, hdr⟩
  have hb27 : Below w26.heap.size w26 w27 := hdr.below _
  have HM27 := Lib.hid (HM26.out.kept hb27)
  have HBO27 := Lib.hid (HBO26.out.kept hb27)
  have HB27 : Hid (Below w2.heap.size w25 w27) := Lib.hid (HB26.out.trans (hb27.mono (by omega)))
  have hs27 := hb27.size
  have HBR27 : Hid (∀ w', Below w27.heap.size w27 w' → Rd w' Ab m (fun i => vE (v0 i))) := Lib.hid fun w' hb i hi => by
    obtain ⟨A', c', e, _, _, hr, _⟩ := (HBO27.out.kept hb).rd
    injection e with e _ _
    obtain ⟨b, o, e2, h1, h2⟩ := hr i (by omega)
    refine ⟨b, o, by rw [e]; exact e2, h1, ?_⟩
    rw [h2]
    show some (rrV m (fun i => (v0 i).val) i) = _
    unfold rrV
    rw [if_pos hi]
    rfl
  clear hb27 hdr HM26 HBO26 HB26
  go_wp2_with fail
  refine (rankE_any AM n cM L G w27 hn9 HL9.out HM27.out.rdm).mono ?_
  rintro e w28 ⟨st9, rfl, hb28, _, _⟩
  have HB2728 := Lib.hid hb28
  have hs28 := hb28.size
  clear hb28
  go_wp2_with fail
  refine (solO_any AM Ab n cM m cb L G v0 w28 hn9 HL9.out (HM27.out.kept HB2728.out).rdm (HBR27.out w28 HB2728.out) (by omega)).mono ?_
  rintro e w29 ⟨er9, x9, Ay9, cy9, rfl, _, hb29, _⟩
  obtain ⟨K9, hK9⟩ : ∃ K9, K9 = (if er9 = 0 then n else 0) := ⟨_, rfl⟩
  rw [← hK9]
  clear hK9
  have HB2729 := Lib.hid (HB2728.out.trans (hb29.mono hs28))
  have hs29 := hb29.size
  clear hb29
  go_wp2_with fail
  refine (powE_own Ab m cb (fun i => (v0 i).val) w29 HV256.out (HBR27.out w29 HB2729.out)).mono ?_
  rintro e w30 ⟨RP9, Ap9, cp9, rfl, _, _, _, _, _, hb30⟩
  have HB2730 := Lib.hid (HB2729.out.trans (hb30.mono (by omega)))
  have hs30 := hb30.size
  clear hb30
  have HM30 := Lib.hid (HM27.out.kept HB2730.out)
  have HBO30 := Lib.hid (HBO27.out.kept HB2730.out)
  have HB30 : Hid (Below w2.heap.size w25 w30) := Lib.hid (HB27.out.trans (HB2730.out.mono (by omega)))
  have HA1d : Hid (∀ w', Below w2.heap.size w30 w' → MI w' A1 n L (fun i j => (G i j).val)) := Lib.hid fun w' hb => HA1c.out w' (HB30.out.trans hb)
  have HA2d : Hid (∀ w', Below w2.heap.size w30 w' → Rd w' A2 m (fun i => .int .i64 ((v0 i).val : Nat))) := Lib.hid fun w' hb => HA2c.out w' (HB30.out.trans hb)
  have HXW : Hid (Below w.heap.size w w30) := Lib.hid ((((HB24.out.trans ((HB45.out.trans ((HB56.out.trans ((HB67.out.trans ((HB78.out.trans ((HB89.out.trans ((HB910.out.trans ((HB1011.out.trans ((HB1112.out.trans ((HB1213.out.trans ((HB1314.out.trans ((HB1415.out.trans ((HB1516.out.trans ((HB1617.out.trans ((HB1718.out.trans (HB1819.out.mono hs18)).mono hs17)).mono hs16)).mono hs15)).mono hs14)).mono hs13)).mono hs12)).mono hs11)).mono hs10)).mono hs9)).mono hs8)).mono hs7)).mono hs6)).mono hs5)).mono (by omega))).trans (HB1925.out.trans HB30.out)) |> fun h => HX2.out.trans (h.mono (by have := HX2.out.size; omega))))
  clear HM27 HBO27 HB27 HBR27 HB2728 HB2729 HB2730
  have HBW2 : Hid (Below w2.heap.size w2 w30) := Lib.hid (((HB24.out.trans ((HB45.out.trans ((HB56.out.trans ((HB67.out.trans ((HB78.out.trans ((HB89.out.trans ((HB910.out.trans ((HB1011.out.trans ((HB1112.out.trans ((HB1213.out.trans ((HB1314.out.trans ((HB1415.out.trans ((HB1516.out.trans ((HB1617.out.trans ((HB1718.out.trans (HB1819.out.mono hs18)).mono hs17)).mono hs16)).mono hs15)).mono hs14)).mono hs13)).mono hs12)).mono hs11)).mono hs10)).mono hs9)).mono hs8)).mono hs7)).mono hs6)).mono hs5)).mono (by omega)))).trans (HB1925.out.trans HB30.out))
  obtain ⟨S1, C1, hT1, hR1⟩ := HA1.out w2 (Below.refl _ _)
  have HT1 := Lib.hid hT1; have HRR1 := Lib.hid hR1
  obtain ⟨gx, hgx⟩ : ∃ gx : Nat → Nat → Nat, gx = fun a b => (G a b).val ^^^ (1 + b % 3) := ⟨_, rfl⟩
  obtain ⟨gO, hgO⟩ : ∃ gO : Nat → Nat → Nat → Nat → Nat, gO = fun i j a b => if a < i ∨ (a = i ∧ b < j) then gx a b else (G a b).val := ⟨_, rfl⟩
  have HGX := Lib.hid hgx; have HGO := Lib.hid hgO
  have HM0 : Hid (Rmy w30 w2.heap.size n AM AQ cM cR S C L (gO 0 0)) := Lib.hid (HM30.out.congr fun a _ b _ => by rw [hgO]; exact if_neg (by omega))
  have hbq : w3.heap.size ≤ w30.heap.size := by omega
  have HBLT : Hid (∀ k, (Value.slice Ab (m + 8) cb).ownBlock = some k → w3.heap.size ≤ k ∧ k < w30.heap.size) := Lib.hid fun k hk => by have := HBO.out.lt k hk; omega
  clear hT1 hR1 hgx hgO HM30
  go_wp2
  go_loopg [28, 29, 30, 31] n (fun gk xo vi _ _ wr => ∃ (i : Nat) (vo : Value) (So : Nat → Option Addr) (Co : Nat → Nat), vo = xo ∧ i ≤ n ∧ gk = n - i ∧ vi = .int .i64 i ∧ OwnM wr w30.heap.size 23 3 vo i So Co L (fun a b => .int .i64 ((gx a b : Nat) : Int)) ∧ Rmy wr w2.heap.size n AM AQ cM cR S C L (gO i 0) ∧
    Own wr w3.heap.size 34 1 (.slice Ab (m + 8) cb) (m + 8) (fun j => [rrV m (fun i => (v0 i).val) j]) ∧ Below w2.heap.size w30 wr)
  case atStart => exact ⟨0, _, fun _ => none, fun _ => 0, rfl, Nat.zero_le _, rfl, rfl, OwnM.nil _ _ _ _ _ _ _ _, HM0.out, HBO30.out, Below.refl _ _⟩
  case round =>
    clear HM0 HBO30
    obtain ⟨i, vo, So, Co, rfl, hi, rfl, rfl, hOv, hM, hBo, hbw⟩ := hrel
    have hsw := hbw.size
    by_cases hlt : i < n
    · obtain ⟨bT, oT, rfl, hbT, hcT⟩ := HT1.out i hlt
      have hLi := HL.out i hlt
      obtain ⟨ln, hln⟩ : ∃ ln, ln = L i := ⟨_, rfl⟩
      obtain ⟨di, hdi⟩ : ∃ di, di = C1 i := ⟨_, rfl⟩
      obtain ⟨Ai, hAi⟩ : ∃ Ai, Ai = S1 i := ⟨_, rfl⟩
      dsimp only at hcT
      rw [← hln] at hLi hcT
      rw [← hdi, ← hAi] at hcT
      have HRI : Hid (Rd w2 Ai ln (fun j => .int .i64 (((G i j).val : Nat) : Int))) := Lib.hid (by rw [hAi, hln]; exact HRR1.out i hlt)
      have HCA : Hid (∀ w', Below w2.heap.size w30 w' → w'.cell? ⟨bT, oT + i, none⟩ = some (.slice Ai ln di)) := Lib.hid fun w' hb => ((HBW2.out.trans hb).cell hbT).trans hcT
      have hcA := HCA.out wr hbw
      have HLN := Lib.hid hln
      have HOv := Lib.hid hOv; have HMv := Lib.hid hM; have HBo := Lib.hid hBo; have HBv := Lib.hid hbw
      clear hOv hM hBo hbw hln hdi hAi hcT hbT
      go_wp2
      go_loopg [30, 31] ln (fun gk xr vj wr => ∃ (j : Nat) (vr : Value), vr = xr ∧ j ≤ ln ∧ gk = ln - j ∧ vj = .int .i64 j ∧ Own wr w30.heap.size 3 1 vr j (fun b => [.int .i64 ((gx i b : Nat) : Int)]) ∧ OwnM wr w30.heap.size 23 3 vo i So Co L (fun a b => .int .i64 ((gx a b : Nat) : Int)) ∧ Rmy wr w2.heap.size n AM AQ cM cR S C L (gO i j) ∧
        Own wr w3.heap.size 34 1 (.slice Ab (m + 8) cb) (m + 8) (fun j => [rrV m (fun i => (v0 i).val) j]) ∧ Below w2.heap.size w30 wr ∧ (∀ q, q < i → ∀ k, vr.ownBlock = some k → (Value.slice (So q) (L q) (Co q)).ownBlock ≠ some k))
      case atStart => exact ⟨0, _, rfl, Nat.zero_le _, rfl, rfl, Own.nil _ _ _ _ _, HOv.out, HMv.out, HBo.out, HBv.out, fun q _ k hk => by (cases hk)⟩
      case round =>
        clear HOv HMv HBo HBv hcA hsw
        obtain ⟨j, vr, rfl, hj, rfl, rfl, hOr, hOv, hM, hBo, hbw, hne⟩ := hrel
        have hsw := hbw.size
        have hcA := HCA.out wr hbw
        by_cases hlj : j < ln
        · obtain ⟨bA, oA, rfl, hbA, hcX⟩ := HRI.out j hlj
          dsimp only at hcX
          obtain ⟨r, hr⟩ : ∃ r, r = j % 3 := ⟨_, rfl⟩
          obtain ⟨c, hc⟩ : ∃ c, c = 1 + r := ⟨_, rfl⟩
          obtain ⟨x, hx⟩ : ∃ x, x = (G i j).val := ⟨_, rfl⟩
          obtain ⟨y, hy⟩ : ∃ y, y = x ^^^ c := ⟨_, rfl⟩
          have hr3 : r < 3 := by rw [hr]; exact Nat.mod_lt _ (by decide)
          have hx2 : x < 256 := by rw [hx]; exact (G i j).isLt
          have hy2 : y < 256 := by rw [hy]; exact Nat.xor_lt_two_pow (n := 8) hx2 (by omega)
          have hrm : (j : Int).tmod 3 = (r : Int) := by rw [hr, Int.tmod_eq_emod_of_nonneg (by omega)]; omega
          have hadd : (1 : Int) + (r : Int) = (c : Int) := by omega
          have hwc : IntKind.i64.wrap (c : Int) = (c : Int) := by rw [IntKind.wrap_i64]; omega
          have hxor : bits .xor .i64 (x : Int) (c : Int) = (y : Int) := by rw [hy]; exact i64_xor_nat x c (by omega) (by omega)
          have HY : Hid (y = gx i j) := Lib.hid (by rw [HGX.out, hy, hc, hr, hx])
          rw [← hx] at hcX
          have HCX : Hid (∀ w', Below w2.heap.size w30 w' → w'.cell? ⟨bA, oA + j, none⟩ = some (.int .i64 (x : Int))) := Lib.hid fun w' hb => ((HBW2.out.trans hb).cell hbA).trans hcX
          have hcx := HCX.out wr hbw
          have hu : Hid ((#[Value.int .i64 (y : Int)] : Array Value).toList = [.int .i64 ((gx i j : Nat) : Int)]) := Lib.hid (by rw [← HY.out])
          have HOr := Lib.hid hOr; have HOv := Lib.hid hOv; have HMv := Lib.hid hM; have HBo := Lib.hid hBo; have HBv := Lib.hid hbw; have HNE := Lib.hid hne
          clear hOr hOv hM hBo hbw hne hcX hbA hr hc hx hy
          go_wp2_with (at_builtin; refine wpList_pushX _ rfl (.tmp 250) (.tmp 262) 23 rfl w30.heap.size 3 1 8 (.int .i64 0) #[.int .i64 (y : Int)] Try.underlying23 apInt rfl _ j _ rfl HOr.out hsw _ rfl rfl hu.out rfl rfl (by omega) (by omega) ?_)
          intro vr2 wa hO2 hba hga
          have HOr2 := Lib.hid hO2
          have HGA := Lib.hid hga
          have HBa : Hid (Below w2.heap.size w30 wa) := Lib.hid (HBv.out.trans (hba.mono (by omega)))
          have HOv2 : Hid (OwnM wa w30.heap.size 23 3 vo i So Co L (fun a b => .int .i64 ((gx a b : Nat) : Int))) := Lib.hid ⟨HOv.out.1.keptRow hga.gr (own_ne HOv.out.1 HOr.out (by decide)), fun q hq => (HOv.out.2 q hq).keptRow hga.gr (ne_or fun k hk => HNE.out q hq k hk)⟩
          have HNE2 : Hid (∀ q, q < i → ∀ k, vr2.ownBlock = some k → (Value.slice (So q) (L q) (Co q)).ownBlock ≠ some k) := Lib.hid fun q hq k hk e => hga.ne ((HOv.out.2 q hq).lt k e).2 (fun e2 => HNE.out q hq k e2 e) hk
          have HMa := Lib.hid (Rmy.far HM.out HMv.out hba (by omega))
          have HBoa := Lib.hid (HBo.out.blkX fun k hk => hba.block k (HBLT.out k hk).2)
          have hsa := HBa.out.size
          clear hO2 hba hga HOr HOv HMv HBo HBv HNE hu hcx hcA hsw HGA
          obtain ⟨bR, oR, hAR, hcR, hbR⟩ := HMa.out.rcell hlt
          subst hAR
          obtain ⟨si, hsi⟩ : ∃ si, si = S i := ⟨_, rfl⟩
          obtain ⟨ci, hci⟩ : ∃ ci, ci = C i := ⟨_, rfl⟩
          rw [← hsi, ← hci, ← HLN.out] at hcR
          have HSI := Lib.hid hsi
          have HX : Hid (∀ w', Below wa.heap.size wa w' → w'.cell? ⟨bR, oR + i, none⟩ = some (.slice (some ⟨si, 0, none⟩) (ln + 1) ci) ∧ w'.cell? ⟨bT, oT + i, none⟩ = some (.slice (some ⟨bA, oA, none⟩) ln di) ∧ w'.cell? ⟨bA, oA + j, none⟩ = some (.int .i64 (x : Int))) := Lib.hid fun w' hb' => ⟨(hb'.cell hbR).trans hcR, HCA.out w' (HBa.out.trans (hb'.mono (by omega))), HCX.out w' (HBa.out.trans (hb'.mono (by omega)))⟩
          have hjl1 : j < ln + 1 := by omega
          have hjl2 : (j : Int) < ((ln + 1 : Nat) : Int) := by omega
          have hjl3 : (j : Int) < (ln : Int) + 1 := by omega
          clear hcR hbR hsi hci
          go_wp2_with fail
          refine wp_region_factsT 18 [.is (.slice (some ⟨bR, oR, none⟩) n cR), .is (.int .i64 (i : Int)), .is (.pointer (some ⟨bR, oR + i, none⟩)), .is (.slice (some ⟨si, 0, none⟩) (ln + 1) ci), .is (.int .i64 (j : Int)), .is (.slice (some ⟨bT, oT, none⟩) n c1), .is (.int .i64 (i : Int)), .is (.pointer (some ⟨bT, oT + i, none⟩)), .is (.slice (some ⟨bA, oA, none⟩) ln di), .is (.int .i64 (j : Int)), .is (.pointer (some ⟨bA, oA + j, none⟩)), .is (.int .i64 (x : Int)), .is (.int .i64 (j : Int)), .is (.int .i64 (r : Int)), .is (.int .i64 (c : Int)), .is (.int .i64 (y : Int)), .is (.int .u8 (y : Int)), .is (.pointer (some ⟨si, j, none⟩))] mixedM (by kernel_rfl) (fun hdr => ⟨?_, ?_, ?_, ?_, ?_, ?_, ?_, ?_, ?_, ?_, ?_, ?_, ?_, ?_, ?_, ?_, ?_, ?_, trivial⟩) (fun wE hbE => ?_)
          · intro a w2 hb hs K hK
            repeat (intro _)
            refine ⟨?_⟩
            have h6 : a.tmps[6]?.getD undef = .slice (some ⟨bR, oR, none⟩) n cR := hs 6 (by kernel_rfl)
            rw [if_pos (by rfl)]
            go_simp
            exact hK.out _ _ (Below.refl _ _) rfl
          · intro a w2 hb hs K hK
            repeat (intro _)
            refine ⟨?_⟩
            have h29 : a.tmps[29]?.getD undef = .int .i64 (i : Int) := hs 29 (by kernel_rfl)
            rw [if_pos (by rfl)]
            go_simp
            exact hK.out _ _ (Below.refl _ _) rfl
          · intro a w2 hb hs K hK
            repeat (intro _)
            refine ⟨?_⟩
            have h264 : a.tmps[264]?.getD undef = .slice (some ⟨bR, oR, none⟩) n cR := by assumption
            have h265 : a.tmps[265]?.getD undef = .int .i64 (i : Int) := by assumption
            rw [if_pos (by rfl)]
            go_simp
            exact hK.out _ _ (Below.refl _ _) rfl
          · intro a w2 hb hs K hK
            repeat (intro _)
            refine ⟨?_⟩
            have h266 : a.tmps[266]?.getD undef = .pointer (some ⟨bR, oR + i, none⟩) := by assumption
            rw [if_pos (by rfl)]
            have hcc := (HX.out w2 (hdr.out.trans (hb.mono hdr.out.size))).1
            go_simp
            exact hK.out _ _ (Below.refl _ _) rfl
          · intro a w2 hb hs K hK
            repeat (intro _)
            refine ⟨?_⟩
            have h31 : a.tmps[31]?.getD undef = .int .i64 (j : Int) := hs 31 (by kernel_rfl)
            rw [if_pos (by rfl)]
            go_simp
            exact hK.out _ _ (Below.refl _ _) rfl
          · intro a w2 hb hs K hK
            repeat (intro _)
            refine ⟨?_⟩
            have h3 : a.tmps[3]?.getD undef = .slice (some ⟨bT, oT, none⟩) n c1 := hs 3 (by kernel_rfl)
            rw [if_pos (by rfl)]
            go_simp
            exact hK.out _ _ (Below.refl _ _) rfl
          · intro a w2 hb hs K hK
            repeat (intro _)
            refine ⟨?_⟩
            have h29 : a.tmps[29]?.getD undef = .int .i64 (i : Int) := hs 29 (by kernel_rfl)
            rw [if_pos (by rfl)]
            go_simp
            exact hK.out _ _ (Below.refl _ _) rfl
          · intro a w2 hb hs K hK
            repeat (intro _)
            refine ⟨?_⟩
            have h269 : a.tmps[269]?.getD undef = .slice (some ⟨bT, oT, none⟩) n c1 := by assumption
            have h270 : a.tmps[270]?.getD undef = .int .i64 (i : Int) := by assumption
            rw [if_pos (by rfl)]
            go_simp
            exact hK.out _ _ (Below.refl _ _) rfl
          · intro a w2 hb hs K hK
            repeat (intro _)
            refine ⟨?_⟩
            have h271 : a.tmps[271]?.getD undef = .pointer (some ⟨bT, oT + i, none⟩) := by assumption
            rw [if_pos (by rfl)]
            have hcc := (HX.out w2 (hdr.out.trans (hb.mono hdr.out.size))).2.1
            go_simp
            exact hK.out _ _ (Below.refl _ _) rfl
          · intro a w2 hb hs K hK
            repeat (intro _)
            refine ⟨?_⟩
            have h31 : a.tmps[31]?.getD undef = .int .i64 (j : Int) := hs 31 (by kernel_rfl)
            rw [if_pos (by rfl)]
            go_simp
            exact hK.out _ _ (Below.refl _ _) rfl
          · intro a w2 hb hs K hK
            repeat (intro _)
            refine ⟨?_⟩
            have h272 : a.tmps[272]?.getD undef = .slice (some ⟨bA, oA, none⟩) ln di := by assumption
            have h273 : a.tmps[273]?.getD undef = .int .i64 (j : Int) := by assumption
            rw [if_pos (by rfl)]
            go_simp
            exact hK.out _ _ (Below.refl _ _) rfl
          · intro a w2 hb hs K hK
            repeat (intro _)
            refine ⟨?_⟩
            have h274 : a.tmps[274]?.getD undef = .pointer (some ⟨bA, oA + j, none⟩) := by assumption
            rw [if_pos (by rfl)]
            have hcc := (HX.out w2 (hdr.out.trans (hb.mono hdr.out.size))).2.2
            go_simp
            exact hK.out _ _ (Below.refl _ _) rfl
          · intro a w2 hb hs K hK
            repeat (intro _)
            refine ⟨?_⟩
            have h31 : a.tmps[31]?.getD undef = .int .i64 (j : Int) := hs 31 (by kernel_rfl)
            rw [if_pos (by rfl)]
            go_simp
            exact hK.out _ _ (Below.refl _ _) rfl
          · intro a w2 hb hs K hK
            repeat (intro _)
            refine ⟨?_⟩
            have h276 : a.tmps[276]?.getD undef = .int .i64 (j : Int) := by assumption
            rw [if_pos (by rfl)]
            go_simp
            exact hK.out _ _ (Below.refl _ _) rfl
          · intro a w2 hb hs K hK
            repeat (intro _)
            refine ⟨?_⟩
            have h277 : a.tmps[277]?.getD undef = .int .i64 (r : Int) := by assumption
            rw [if_pos (by rfl)]
            go_simp
            exact hK.out _ _ (Below.refl _ _) rfl
          · intro a w2 hb hs K hK
            repeat (intro _)
            refine ⟨?_⟩
            have h275 : a.tmps[275]?.getD undef = .int .i64 (x : Int) := by assumption
            have h278 : a.tmps[278]?.getD undef = .int .i64 (c : Int) := by assumption
            rw [if_pos (by rfl)]
            go_simp
            exact hK.out _ _ (Below.refl _ _) rfl
          · intro a w2 hb hs K hK
            repeat (intro _)
            refine ⟨?_⟩
            have h279 : a.tmps[279]?.getD undef = .int .i64 (y : Int) := by assumption
            rw [if_pos (by rfl)]
            go_simp
            refine (elem_any y w2 (by omega)).mono ?_
            rintro e w3 ⟨rfl, rfl⟩
            exact hK.out _ _ (Below.refl _ _) rfl
          · intro a w2 hb hs K hK
            repeat (intro _)
            refine ⟨?_⟩
            have h267 : a.tmps[267]?.getD undef = .slice (some ⟨si, 0, none⟩) (ln + 1) ci := by assumption
            have h268 : a.tmps[268]?.getD undef = .int .i64 (j : Int) := by assumption
            rw [if_pos (by rfl)]
            go_simp
            exact hK.out _ _ (Below.refl _ _) rfl
          intro v0 f0 v1 f1 v2 f2 v3 f3 v4 f4 v5 f5 v6 f6 v7 f7 v8 f8 v9 f9 v10 f10 v11 f11 v12 f12 v13 f13 v14 f14 v15 f15 v16 f16 v17 f17
          refine finG_end rfl (kq_normal ?_)
          simp only [List.drop_succ_cons, List.drop_zero]
          simp only [Act.put, List.setIfInBounds_toArray, List.set_cons_zero, List.set_cons_succ]
          obtain rfl : v17 = .pointer (some ⟨si, j, none⟩) := f17
          obtain rfl : v16 = .int .u8 (y : Int) := f16
          clear f0 f1 f2 f3 f4 f5 f6 f7 f8 f9 f10 f11 f12 f13 f14 f15
          have HMe := Lib.hid (HMa.out.kept hbE)
          have HBe : Hid (Below w2.heap.size w30 wE) := Lib.hid (HBa.out.trans (hbE.mono (by omega)))
          have HOre := Lib.hid (HOr2.out.kept hbE)
          have HOve := Lib.hid (HOv2.out.kept hbE)
          have HBoe := Lib.hid (HBoa.out.kept hbE)
          have hjL : j < L i := by rw [← HLN.out]; exact hlj
          obtain ⟨hcs, hcf⟩ := HMe.out.cell hlt (Nat.le_of_lt hjL)
          rw [← HSI.out] at hcs hcf
          generalize rmV L (gO i j) i j = u0 at hcs
          have HMs : Hid (Rmy (wE.setCell ⟨si, j, none⟩ (.int .u8 (y : Int))) w2.heap.size n AM (some ⟨bR, oR, none⟩) cM cR S C L (gO i (j + 1))) := Lib.hid (by
            have h1 := HMe.out.set hlt hjL y
            rw [← HSI.out] at h1
            refine h1.congr fun a ha b hb => ?_
            rw [HGO.out]
            dsimp only
            by_cases e : a = i ∧ b = j
            · rw [if_pos (by omega), if_pos e, HY.out, e.1, e.2]
            · rw [if_neg e]
              by_cases e2 : a < i ∨ (a = i ∧ b < j)
              · rw [if_pos e2, if_pos (by omega)]
              · rw [if_neg e2, if_neg (by omega)])
          have hsB : w2.heap.size ≤ si ∧ si < w3.heap.size := by rw [HSI.out]; exact HS23.out _ ⟨i, hlt, rfl⟩
          have HOrs := Lib.hid (Own.setOtherX HOre.out (a := ⟨si, j, none⟩) (fun e => by have := (HOre.out.lt si e).1; omega) (.int .u8 (y : Int)))
          have HOvs : Hid (OwnM (wE.setCell ⟨si, j, none⟩ (.int .u8 (y : Int))) w30.heap.size 23 3 vo i So Co L (fun a b => .int .i64 ((gx a b : Nat) : Int))) := Lib.hid ⟨Own.setOtherX HOve.out.1 (a := ⟨si, j, none⟩) (fun e => by have := (HOve.out.1.lt si e).1; omega) _, fun q hq => Own.setOtherX (HOve.out.2 q hq) (a := ⟨si, j, none⟩) (fun e => by have := ((HOve.out.2 q hq).lt si e).1; omega) _⟩
          have HBos := Lib.hid (Own.setOtherX HBoe.out (a := ⟨si, j, none⟩) (fun e => by have := (HBoe.out.lt si e).1; omega) (.int .u8 (y : Int)))
          have HBs : Hid (Below w2.heap.size w30 (wE.setCell ⟨si, j, none⟩ (.int .u8 (y : Int)))) := Lib.hid (Below.setC HBe.out (by exact hsB.1) _)
          clear hbE HX HMa HBa HOr2 HOv2 HBoa HMe HBe HOre HOve HBoe hjL
          go_wp2
          refine NoPanic.normal ?_
          go_wp2
          go_roundg (ln - (j + 1))
          case measure => omega
          case rel => exact ⟨j + 1, vr2, rfl, by omega, rfl, by go_num, HOrs.out, HOvs.out, HMs.out, HBos.out, HBs.out, HNE2.out⟩
        · obtain rfl : ln = j := by omega
          obtain ⟨Ar, cr, rfl, _, _, _, _⟩ := hOr.rd
          have HOvn := Lib.hid (hOv.next Ar cr)
          have HRo : Hid (Own wr w30.heap.size 3 1 (.slice (upd So i Ar i) (L i) (upd Co i cr i)) (L i) (fun b => [.int .i64 ((gx i b : Nat) : Int)])) := Lib.hid (by rw [upd_at, upd_at, ← HLN.out]; exact hOr)
          have hu : Hid ((#[Value.slice Ar ln cr] : Array Value).toList = [.slice (upd So i Ar i) (L i) (upd Co i cr i)]) := Lib.hid (by rw [upd_at, upd_at, HLN.out])
          have HMn : Hid (Rmy wr w2.heap.size n AM AQ cM cR S C L (gO (i + 1) 0)) := Lib.hid (hM.congr fun a ha b hb => by
            rw [HGO.out]
            dsimp only
            by_cases e : a < i ∨ (a = i ∧ b < ln)
            · rw [if_pos e, if_pos (by omega)]
            · rw [if_neg e, if_neg (by
                have h5 := HLN.out
                rintro (h2 | ⟨_, h2⟩)
                · have : a = i := by omega
                  subst this
                  omega
                · omega)])
          have HBo := Lib.hid hBo; have HBv := Lib.hid hbw
          clear hOr hOv hM hBo hbw hne
          go_wp2_with (at_builtin; refine wpList_pushX _ rfl (.tmp 282) (.tmp 284) 22 rfl w30.heap.size 23 1 24 (.slice none 0 0) #[.slice Ar ln cr] Try.underlying22 intsInfo rfl _ i _ rfl HOvn.out.1 hsw _ rfl rfl hu.out rfl rfl (by omega) (by omega) ?_)
          intro vo2 wb hO2 hbb hgb
          have HOv2 := Lib.hid (HOvn.out.push (by decide) HRo.out hO2 hgb.gr)
          have HMb := Lib.hid (Rmy.far HM.out HMn.out hbb (by omega))
          have HBob := Lib.hid (HBo.out.blkX fun k hk => hbb.block k (HBLT.out k hk).2)
          have HBb : Hid (Below w2.heap.size w30 wb) := Lib.hid (HBv.out.trans (hbb.mono (by omega)))
          clear hO2 hbb hgb HOvn HRo hu HMn HBo HBv
          go_wp2
          go_roundg (n - (i + 1))
          case measure => omega
          case rel => exact ⟨i + 1, vo2, _, _, rfl, by omega, rfl, by go_num, HOv2.out, HMb.out, HBob.out, HBb.out⟩
    · obtain rfl : n = i := by omega
      obtain ⟨Aov, cov, rfl, _, hOM⟩ := hOv.rdm
      obtain ⟨wq, hwq⟩ : ∃ wq, wq = wr := ⟨_, rfl⟩
      rw [← hwq] at hOv hM hBo hbw hsw hOM ⊢
      have HOv := Lib.hid hOv; have HMq := Lib.hid hM; have HBq := Lib.hid hbw
      obtain ⟨vx, hvx⟩ : ∃ vx : Nat → Nat, vx = fun b => (v0 b).val ^^^ 9 := ⟨_, rfl⟩
      obtain ⟨vO, hvO⟩ : ∃ vO : Nat → Nat → Nat, vO = fun j q => if q < j then vx q else (v0 q).val := ⟨_, rfl⟩
      have HVX := Lib.hid hvx; have HVO := Lib.hid hvO
      have HBo0 : Hid (Own wq w3.heap.size 34 1 (.slice Ab (m + 8) cb) (m + 8) (fun j => [rrV m (vO 0) j])) := Lib.hid (hBo.congr fun q _ => by rw [hvO]; rfl)
      obtain ⟨bb, cbb, ebb, hbb1, hbb2, _, _⟩ := hBo.form (by omega)
      injection ebb with ebb _ ecb
      subst ebb
      clear ecb
      have hbb4 : bb < w4.heap.size := (HBO.out.lt bb rfl).2
      have hbb30 : bb < w30.heap.size := by omega
      have hfz : True := trivial
      clear hOv hM hBo hbw hwq hvx hvO hOM hfz
      go_wp2
      go_loopg [32, 33] m (fun gk xw vi wr => ∃ (j : Nat) (vw : Value), vw = xw ∧ j ≤ m ∧ gk = m - j ∧ vi = .int .i64 j ∧ Own wr wq.heap.size 3 1 vw j (fun b => [.int .i64 ((vx b : Nat) : Int)]) ∧ Own wr w3.heap.size 34 1 (.slice (some ⟨bb, 0, none⟩) (m + 8) cb) (m + 8) (fun q => [rrV m (vO j) q]) ∧ Only (fun k => k = bb) wq wr)
      case atStart => exact ⟨0, _, rfl, Nat.zero_le _, rfl, rfl, Own.nil _ _ _ _ _, HBo0.out, Only.refl _ _⟩
      case round =>
        clear HBo0
        obtain ⟨j, vw, rfl, hj, rfl, rfl, hOw, hBo, hon⟩ := hrel
        have hsz := hon.size
        have hbw : Below w2.heap.size w30 wr := HBq.out.trans (hon.toBelow (fun k hk => by omega) (by omega))
        by_cases hlt : j < m
        · obtain ⟨bV, oV, rfl, hbV, hcV⟩ := HA2.out w2 (Below.refl _ _) j hlt
          have HCV : Hid (∀ w', Below w2.heap.size w30 w' → w'.cell? ⟨bV, oV + j, none⟩ = some (.int .i64 (((v0 j).val : Nat) : Int))) := Lib.hid fun w' hb => ((HBW2.out.trans hb).cell hbV).trans hcV
          obtain ⟨x, hx⟩ : ∃ x, x = (v0 j).val := ⟨_, rfl⟩
          obtain ⟨y, hy⟩ : ∃ y, y = x ^^^ 9 := ⟨_, rfl⟩
          have hx2 : x < 256 := by rw [hx]; exact (v0 j).isLt
          have hy2 : y < 256 := by rw [hy]; exact Nat.xor_lt_two_pow (n := 8) hx2 (by decide)
          have hxor : bits .xor .i64 (x : Int) 9 = (y : Int) := by rw [hy]; exact i64_xor_nat x 9 (by omega) (by decide)
          have HY : Hid (y = vx j) := Lib.hid (by rw [HVX.out, hy, hx])
          have hcx := HCV.out wr hbw
          rw [← hx] at HCV hcx
          have hu : Hid ((#[Value.int .i64 (y : Int)] : Array Value).toList = [.int .i64 ((vx j : Nat) : Int)]) := Lib.hid (by rw [← HY.out])
          have HOw := Lib.hid hOw; have HBo := Lib.hid hBo; have HON := Lib.hid hon
          clear hOw hBo hon hcV hbV hx hy hbw
          go_wp2_with (at_builtin; refine wpList_pushX _ rfl (.tmp 292) (.tmp 298) 23 rfl wq.heap.size 3 1 8 (.int .i64 0) #[.int .i64 (y : Int)] Try.underlying23 apInt rfl _ j _ rfl HOw.out hsz _ rfl rfl hu.out rfl rfl (by omega) (by omega) ?_)
          intro vw2 wa hO2 hba hga
          have HOw2 := Lib.hid hO2
          have HBa := Lib.hid (HBo.out.keptRow hga.gr (own_ne HBo.out HOw.out (by decide)))
          have HONa : Hid (Only (fun k => k = bb) wq wa) := Lib.hid (HON.out.grown hga.gr fun k hk => .inr (HOw.out.lt k hk).1)
          have hsa := HONa.out.size
          have hbwa : Below w2.heap.size w30 wa := HBq.out.trans (HONa.out.toBelow (fun k hk => by omega) (by omega))
          have hcx2 := HCV.out wa hbwa
          clear hO2 hba hga HOw HBo HON hu hcx hsz hbwa
          go_wp2_with fail
          refine (elem_any y wa (by omega)).mono ?_
          rintro e w' ⟨rfl, he⟩
          subst he
          obtain ⟨u0, hcs, hcf⟩ : ∃ u0, w'.cell? ⟨bb, j, none⟩ = some u0 ∧ w'.frozen? ⟨bb, j, none⟩ = false := ⟨_, HBa.out.cell1 (by omega), own_freeX HBa.out j⟩
          have HBs : Hid (Own (w'.setCell ⟨bb, j, none⟩ (.int .u8 (y : Int))) w3.heap.size 34 1 (.slice (some ⟨bb, 0, none⟩) (m + 8) cb) (m + 8) (fun q => [rrV m (vO (j + 1)) q])) := Lib.hid ((HBa.out.set1 (i := j) (by omega) (.int .u8 (y : Int))).congr fun q hq => by
            by_cases eq : q = j
            · subst eq
              rw [if_pos rfl]
              unfold rrV
              rw [if_pos hlt, HVO.out]
              dsimp only
              rw [if_pos (by omega), ← HY.out]
            · rw [if_neg eq]
              unfold rrV
              rw [HVO.out]
              dsimp only
              by_cases h1 : q < m
              · rw [if_pos h1, if_pos h1]
                by_cases h2 : q < j
                · rw [if_pos h2, if_pos (by omega)]
                · rw [if_neg h2, if_neg (by omega)]
              · rw [if_neg h1, if_neg h1])
          have HOws := Lib.hid (Own.setOtherX HOw2.out (a := ⟨bb, j, none⟩) (fun e => by have := (HOw2.out.lt bb e).1; omega) (.int .u8 (y : Int)))
          have HONs : Hid (Only (fun k => k = bb) wq (w'.setCell ⟨bb, j, none⟩ (.int .u8 (y : Int)))) := Lib.hid (HONa.out.setCell (.inl rfl) _)
          clear HBa HOw2 HONa
          go_wp2
          go_roundg (m - (j + 1))
          case measure => omega
          case rel => exact ⟨j + 1, vw2, rfl, by omega, rfl, by go_num, HOws.out, HBs.out, HONs.out⟩
        · obtain rfl : m = j := by omega
          obtain ⟨Aw, cw, rfl, _, _, hrw, _⟩ := hOw.rd
          obtain ⟨w40, hw40⟩ : ∃ w40, w40 = wr := ⟨_, rfl⟩
          rw [← hw40] at hOw hBo hon hsz hbw hrw ⊢
          have HOv2 : Hid (OwnM w40 w30.heap.size 23 3 (.slice Aov n cov) n So Co L (fun a b => .int .i64 ((gx a b : Nat) : Int))) := Lib.hid ⟨hon.own HOv.out.1 (fun k hk e => by have := (HOv.out.1.lt k hk).1; omega), fun q hq => hon.own (HOv.out.2 q hq) (fun k hk e => by have := ((HOv.out.2 q hq).lt k hk).1; omega)⟩
          have hM3 : Rmy w40 w2.heap.size n AM AQ cM cR S C L (gO n 0) := ⟨hon.own HMq.out.mtop (fun k hk e => by have := (HM.out.mtop.lt k hk).2; omega), hon.own HMq.out.rtop (fun k hk e => by have := (HM.out.rtop.lt k hk).2; omega), fun i hi => hon.own (HMq.out.row i hi) (fun k hk e => by have := ((HM.out.row i hi).lt k hk).2; omega), hon.own HMq.out.mark (fun k hk e => by have := (HM.out.mark.lt k hk).2; omega), HMq.out.inj, HMq.out.len⟩
          have hxl : ∀ a b, gx a b < 256 := fun a b => by
            rw [HGX.out]
            exact Nat.xor_lt_two_pow (n := 8) (G a b).isLt (by have := Nat.mod_lt b (show 0 < 3 by decide); omega)
          have hvl : ∀ b, vx b < 256 := fun b => by
            rw [HVX.out]
            exact Nat.xor_lt_two_pow (n := 8) (v0 b).isLt (by decide)
          obtain ⟨G2, hG2⟩ : ∃ G2 : Nat → Nat → Fin 256, G2 = fun a b => ⟨gx a b, hxl a b⟩ := ⟨_, rfl⟩
          obtain ⟨v2, hv2⟩ : ∃ v2 : Nat → Fin 256, v2 = fun b => ⟨vx b, hvl b⟩ := ⟨_, rfl⟩
          have HM3 : Hid (Rmy w40 w2.heap.size n AM AQ cM cR S C L (fun i j => (G2 i j).val)) := Lib.hid (hM3.congr fun a ha b _ => by
            rw [hG2, HGO.out]
            dsimp only
            rw [if_pos (.inl ha)])
          have HA3 : Hid (∀ w', Below w40.heap.size w40 w' → MI w' Aov n L (fun i j => (G2 i j).val)) := Lib.hid fun w' hb => by
            obtain ⟨A', c', e, _, h4⟩ := HOv2.out.rdm
            injection e with e _ _
            rw [e, hG2]
            exact RdM.below h4 hb
          have HW3 : Hid (∀ w', Below w40.heap.size w40 w' → Rd w' Aw m (fun i => .int .i64 (((v2 i).val : Nat) : Int))) := Lib.hid fun w' hb => by
            rw [hv2]
            exact hrw.below hb
          have HBO3 := Lib.hid hBo
          have HR3 : Hid (∀ w', Below w40.heap.size w40 w' → Rd w' (some ⟨bb, 0, none⟩) m (fun i => vE (v2 i))) := Lib.hid fun w' hb i hi => by
            obtain ⟨A', c', e, _, _, hr, _⟩ := (HBO3.out.kept hb).rd
            injection e with e _ _
            obtain ⟨b, o, e2, h1, h2⟩ := hr i (by omega)
            refine ⟨b, o, by rw [e]; exact e2, h1, ?_⟩
            rw [h2]
            show some (rrV m (vO m) i) = _
            unfold rrV
            rw [if_pos hi, HVO.out]
            dsimp only
            rw [if_pos hi, hv2]
            rfl
          have HV2L : Hid (∀ i, i < m → (v2 i).val < 256) := Lib.hid fun i _ => (v2 i).isLt
          have HFIN : Hid (Below w.heap.size w w40) := Lib.hid (HXW.out.trans (hbw.mono (by have := HX2.out.size; omega)))
          have HX40 := Lib.hid (Below.refl w40.heap.size w40)
          clear hOw hBo hon hsz hbw hrw hw40 hM3 hxl hvl hG2 hv2 HOv HMq HBq HOv2
          go_wp2_with fail
          refine (rrank_any okE Aov n cov L G2 w40 hn9 HL9.out (HA3.out w40 HX40.out)).mono ?_
          rintro e w41 ⟨r3, rfl, hb41, hr0, hr1⟩
          have HR0 := Lib.hid hr0; have HR1 := Lib.hid hr1
          clear hr0 hr1
          have HX41 := Lib.hid (HX40.out.trans (hb41.mono HX40.out.size))
          have hs41 := hb41.size
          have HB4041 := Lib.hid hb41
          clear hb41
          go_wp2_with fail
          refine (rsol_any okE Aov Aw n cov m cw L G2 v2 w41 hn9 HL9.out (HA3.out w41 HX41.out) (HW3.out w41 HX41.out)).mono ?_
          rintro e w42 ⟨e4, x4, Ay3, cy3, rfl, hSR, hb42, hY⟩
          obtain ⟨K3, hK⟩ : ∃ K3, K3 = (if e4 = 0 then n else 0) := ⟨_, rfl⟩
          rw [← hK] at hY ⊢
          have HK3 := Lib.hid hK; have HSR3 := Lib.hid hSR; have HY3 := Lib.hid hY
          have HX42 := Lib.hid (HX41.out.trans (hb42.mono HX41.out.size))
          have hs42 := hb42.size
          have HB4142 := Lib.hid hb42
          clear hb42
          clear hK hSR hY
          go_wp2_with fail
          refine (rpow_all 256 Aw m cw 4 1 (fun i => (v2 i).val) w42 (fun i _ j => pw_lt256 (by decide) j) HV2L.out (HW3.out w42 HX42.out)).mono ?_
          rintro e w43 ⟨Ap3, cp3, rfl, hP, hb43⟩
          rw [← HPK.out] at hP ⊢
          have HP3 := Lib.hid hP
          have HX43 := Lib.hid (HX42.out.trans (hb43.mono HX42.out.size))
          have hs43 := hb43.size
          have HB4243 := Lib.hid hb43
          clear hb43
          clear hP
          go_wp2_with fail
          refine (rankE_any AM n cM L G2 w43 hn9 HL9.out ((HM3.out.kept HX43.out).rdm)).mono ?_
          rintro e w44 ⟨s3, rfl, hb44, hk0, hk1⟩
          have hst : s3 = r3 := by
            by_cases hf : faultE n L = 0
            · obtain ⟨R', p', hBS⟩ := HR1.out hf
              obtain ⟨G', p, hRR⟩ := hk1 hf
              exact Fd.rank_eq hRR hBS
            · rw [hk0 hf, HR0.out hf]
          subst hst
          have HX44 := Lib.hid (HX43.out.trans (hb44.mono HX43.out.size))
          have hs44 := hb44.size
          have HB4344 := Lib.hid hb44
          clear hb44
          clear hk0 hk1
          go_wp2_with fail
          refine (solO_any AM (some ⟨bb, 0, none⟩) n cM m cb L G2 v2 w44 hn9 HL9.out ((HM3.out.kept HX44.out).rdm) (HR3.out w44 HX44.out) (by omega)).mono ?_
          rintro e w45 ⟨e5, x5, Ay5, cy5, rfl, hS5, hb45, hO5⟩
          obtain ⟨e1, hx5⟩ := sol_same hS5 HSR3.out
          subst e1
          have hKs3 := hS5.small
          rw [← HK3.out] at hO5 hKs3 ⊢
          have HO5 := Lib.hid hO5
          have HX5e := Lib.hid hx5
          have HX45 := Lib.hid (HX44.out.trans (hb45.mono HX44.out.size))
          have hs45 := hb45.size
          have HB4445 := Lib.hid hb45
          clear hb45
          clear hS5 hO5 hx5
          go_wp2_with fail
          refine (powE_own (some ⟨bb, 0, none⟩) m cb (fun i => (v2 i).val) w45 HV2L.out (HR3.out w45 HX45.out)).mono ?_
          rintro e w46 ⟨RP3, Ap5, cp5, rfl, _, _, _, _, hE5, hb46⟩
          rw [← HPK.out] at hE5 ⊢
          have HE5 := Lib.hid hE5
          have HX46 := Lib.hid (HX45.out.trans (hb46.mono HX45.out.size))
          have hs46 := hb46.size
          have HB4546 := Lib.hid hb46
          clear hb46
          clear hE5
          have HLy : Hid (Rd w46 Ay5 K3 (fun j => .int .u8 (((fun j => (x4 j).val) j : Nat)))) := Lib.hid fun j hj => by
            obtain ⟨A', c', e, _, _, hr, _⟩ := (HO5.out.kept HB4546.out).rd
            injection e with e _ _
            obtain ⟨b, o, e2, h1, h2⟩ := hr j hj
            refine ⟨b, o, by rw [e]; exact e2, h1, ?_⟩
            rw [h2]
            show some (vE _) = _
            have hk0 : e5 = 0 ∧ j < n := by
              have h3 := HK3.out
              by_cases h0 : e5 = 0
              · rw [if_pos h0] at h3; exact ⟨h0, by omega⟩
              · rw [if_neg h0] at h3; omega
            rw [HX5e.out hk0.1 j hk0.2]
            rfl
          go_wp2_with fail
          refine (likeElems_any Ay5 Ay3 K3 cy5 cy3 (fun j => (x4 j).val) w46 (by omega) (fun j _ => (x4 j).isLt) HLy.out (HY3.out.below (HB4243.out.trans ((HB4344.out.trans ((HB4445.out.trans (HB4546.out.mono hs45)).mono hs44)).mono hs43)))).mono ?_
          rintro e w47 ⟨rfl, hdr⟩
          have hb47 : Below w46.heap.size w46 w47 := hdr.below _
          have HX47 := Lib.hid (HX46.out.trans (hb47.mono HX46.out.size))
          have hs47 := hb47.size
          have HB4647 := Lib.hid hb47
          clear hb47
          clear hdr
          go_wp2_with fail
          refine (likeElemss_any Ap5 Ap3 P cp5 cp3 (fun _ => 4) (fun i j => pw 256 1 (v2 i).val j) w47 (by omega) (fun _ _ => by decide) (fun i _ j _ => pw_lt256 (by decide) j) (RdM.below HE5.out HB4647.out) (RdM.below HP3.out (HB4344.out.trans ((HB4445.out.trans ((HB4546.out.trans (HB4647.out.mono hs46)).mono hs45)).mono hs44)))).mono ?_
          rintro e w48 ⟨rfl, hdr⟩
          have hb48 : Below w47.heap.size w47 w48 := hdr.below _
          have HF : Hid (Below w.heap.size w w48) := Lib.hid (HFIN.out.trans ((HX47.out.trans (hb48.mono HX47.out.size)).mono HFIN.out.size))
          clear hb48 hdr
          go_wp2
          go_ret
          exact ⟨rfl, HF.out⟩
end Go.Proofs.Ytpocjpodeahanaa
