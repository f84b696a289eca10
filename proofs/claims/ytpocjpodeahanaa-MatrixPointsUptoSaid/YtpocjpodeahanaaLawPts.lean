/- MatrixPoints: the law's walk. Conditions: none but that lengths are such as memory bears. -/
import Derived.Test.YtpocjpodeahanaaUnl
import Derived.Test.YtpocjpodeahanaaLawUnd
import Derived.Test.YtpocjpodeahanaaLawPow
import Derived.Test.YtpocjpodeahanaaLawRows
import Derived.Deep.CutBlock
import Derived.Deep.DeepCutAuto
namespace Go.Proofs.Ytpocjpodeahanaa
open Go.RowKit

set_option maxRecDepth 20000 in
set_option maxHeartbeats 8000000 in
theorem lawPts (F A B N One : Value) (At V : Option Addr) (n cV m cAt : Nat) (vv tt : Nat → Int) (hF : F.oneCell' = true) (hA : A.oneCell' = true) (hB : B.oneCell' = true) (hN : N.oneCell' = true) (hO : One.oneCell' = true) (w : World)
    (hn : n * 8 ≤ 140737488351232) (hm : m * 8 ≤ 140737488351232) (hT : Rd w At m fun i => .int .i64 (tt i)) (hV : Rd w V n fun i => .int .i64 (vv i)) :
    Calls Try.prog 14 #[.agg #[F, A, B, .slice At m cAt, .slice V n cV, N, One]] w fun e w' => e = .returned (.bool true) ∧ Below w.heap.size w w' := by
  have hoc := And.intro hF (And.intro hA (And.intro hB (And.intro hN hO)))
  clear hoc
  have hb0 : Below w.heap.size w (w.alloc (.cells #[F, A, B, .slice At m cAt, .slice V n cV, N, One] 25)) := (Below.refl _ _).alloc (Nat.le_refl _) _
  have HT := Lib.hid (hT.below hb0); have HV := Lib.hid (hV.below hb0); have HZ0 := Lib.hid hb0
  clear hT hV hb0
  go_enter Try.func14, Try.ntmps14
  go_wp2_with fail
  refine (known_any _).mono ?_
  rintro e w4 ⟨rfl, hb4⟩
  have hsz4 : w.heap.size < w4.heap.size := by have := hb4.size; simp at this; omega
  have hy3 : w4.cell? ⟨w.heap.size, 3, none⟩ = some (.slice At m cAt) := by rw [hb4.cell (by simp)]; go_simp
  have hy4 : w4.cell? ⟨w.heap.size, 4, none⟩ = some (.slice V n cV) := by rw [hb4.cell (by simp)]; go_simp
  have HY3 := Lib.hid hy3
  have HT4 := Lib.hid (HT.out.below hb4); have HV4 := Lib.hid (HV.out.below hb4)
  have HZ4 := Lib.hid (HZ0.out.trans (hb4.mono (by simp)))
  clear hb4 HT HV HZ0 hy3
  go_wp2_with fail
  refine (list_any 256 V n cV vv _ (by decide) (by decide) hn HV4.out).mono ?_
  rintro e w5 ⟨v5, rfl, hO5, hb5⟩
  obtain ⟨A5, c5, rfl, _, _, hR5, _⟩ := hO5.rd
  have HR5 := Lib.hid hR5
  have HY5 : Hid (w5.cell? ⟨w.heap.size, 3, none⟩ = some (.slice At m cAt)) := (hb5.cell hsz4).trans HY3.out
  have hsz5 : w.heap.size < w5.heap.size := by have := hb5.size; omega
  have HT5 := Lib.hid (HT4.out.below hb5)
  have HZ5 := Lib.hid (HZ4.out.trans (hb5.mono HZ4.out.size))
  clear hb5 hO5 hR5 HT4 HV4 HZ4 HY3 hy4 hsz4
  go_wp2_with fail
  refine (unlike_any A5 n c5 (fun i => lowN 256 (vv i)) _ hn HR5.out).mono ?_
  rintro e w8 ⟨v8, kv, G1, rfl, hO8, hU1, hb8⟩
  obtain ⟨A8, c8, rfl, hkc8, _, hR8, _⟩ := hO8.rd
  have HU1 := Lib.hid hU1
  have HV256 : Hid (∀ i, i < kv → G1 i < 256) := fun i hi => by
    obtain ⟨j, _, e⟩ := HU1.out.out i hi
    rw [e]
    have := lowN_lt (s := 256) (by decide) (vv j); omega
  have hkv : kv ≤ 256 := inj_le 256 kv G1 HV256.out HU1.out.inj
  have HRV8 := Lib.hid hR8
  have HY8 : Hid (w8.cell? ⟨w.heap.size, 3, none⟩ = some (.slice At m cAt)) := (hb8.cell hsz5).trans HY5.out
  have hsz8 : w.heap.size < w8.heap.size := by have := hb8.size; omega
  have HT8 := Lib.hid (HT5.out.below hb8)
  have HZ8 := Lib.hid (HZ5.out.trans (hb8.mono HZ5.out.size))
  clear hb8 hO8 hU1 hR8 HT5 HR5 HZ5 HY5 hsz5
  have hbr : Below w8.heap.size w8 w8 := Below.refl _ _
  obtain ⟨B8, hB8⟩ : ∃ B8, B8 = w8.heap.size := ⟨_, rfl⟩
  rw [← hB8] at hbr hsz8
  have HB8 := Lib.hid hB8; clear hB8
  go_upto_block 0 with fail
  go_cut [4] (fun v wx => ∃ (q : Nat) (A7 : Option Addr) (c7 : Nat), v = .slice A7 q c7 ∧ Hid (q * 8 ≤ 140737488351232) ∧ Hid (Rd wx A7 q (fun i => .int .i64 (lowN (kv : Nat) (tt i) : Nat))) ∧ Hid (Below w8.heap.size w8 wx))
  case first =>
   go_wp2_with fail
   go_loopg [4, 5] m (fun gk v i wr => ∃ q : Nat, q ≤ m ∧ gk = m - q ∧ i = .int .i64 q ∧ Own wr B8 3 1 v q (fun i => [.int .i64 (lowN (kv : Nat) (tt i) : Nat)]) ∧ Below B8 w8 wr ∧ (0 < q → 0 < kv))
   case atStart => exact ⟨0, Nat.zero_le _, rfl, rfl, Own.nil _ _ _ _ _, hbr, fun h => absurd h (by omega)⟩
   case round =>
     clear hbr
     obtain ⟨q, hq, rfl, rfl, hown, hbel, hq0⟩ := hrel
     have hbel' : Below w8.heap.size w8 wr := by rw [← HB8.out]; exact hbel
     have hsz : B8 ≤ wr.heap.size := by rw [HB8.out]; exact hbel'.size
     have y3 : wr.cell? ⟨w.heap.size, 3, none⟩ = some (.slice At m cAt) := (hbel.cell hsz8).trans HY8.out
     by_cases hlt : q < m ∧ 0 < kv
     · obtain ⟨hlt, hk0⟩ := hlt
       obtain ⟨b, o, rfl, hb, hc⟩ := HT8.out q hlt
       replace hc : wr.cell? ⟨b, o + q, none⟩ = some (.int .i64 (tt q)) := (hbel'.cell hb).trans hc
       have HBE := Lib.hid hbel; have HOW := Lib.hid hown
       clear hbel' hbel hown hq0
       go_wp2_with fail
       refine (low1_any (kv : Nat) (tt q) _ (by omega) (by omega)).mono ?_
       rintro e w9 ⟨rfl, rfl⟩
       have hown := HOW.out
       go_wp2_with (at_builtin; refine wpList_push _ rfl (.tmp 35) (.tmp 44) 23 rfl B8 3 1 8 (.int .i64 0) #[.int .i64 (lowN (kv : Nat) (tt q) : Nat)] Try.underlying23 intInfo rfl (by decide) _ q _ rfl hown hsz _ rfl rfl rfl rfl rfl (by omega) (by omega) ?_)
       intro v' w9 hown4 hb4 _ _
       have hbF := HBE.out.trans hb4
       clear hown hb4 HOW HBE hc y3
       go_wp2
       go_roundg (m - (q + 1))
       case measure => omega
       case rel => exact ⟨q + 1, by omega, rfl, by go_num, hown4, hbF, fun _ => hk0⟩
     · obtain ⟨A7, c7, rfl, _, _, hR7, _⟩ := hown.rd
       have HR7 : Hid (Rd wr A7 q (fun i => .int .i64 (lowN (kv : Nat) (tt i) : Nat))) := hR7
       have HBL := Lib.hid hbel'
       have hqb : Hid (q * 8 ≤ 140737488351232) := by show _ ≤ _; omega
       have hcases : ¬ q < m ∨ (q < m ∧ ¬ 0 < kv) := by omega
       clear hown hbel hbel' hR7 hq0 hsz hlt
       rcases hcases with hc | ⟨hc1, hc2⟩
       all_goals
         go_wp2_with fail
         go_meet
         exact ⟨q, A7, c7, rfl, hqb, HR7, HBL⟩
  case rest =>
    obtain ⟨q, A7, c7, rfl, hqb, HR7, HBL⟩ := hcut
    have HRV9 := Lib.hid (HRV8.out.below HBL.out)
    have HZ9' := Lib.hid (HZ8.out.trans (HBL.out.mono HZ8.out.size))
    clear HRV8 HZ8 HT8 HY8 HB8 HBL hbr hsz8
    go_wp2_with fail
    refine (unlike_any A7 q c7 (fun i => lowN (kv : Nat) (tt i)) _ hqb.out HR7.out).mono ?_
    rintro e w9 ⟨v9, ka, G2, rfl, hO9, hU2, hb9⟩
    obtain ⟨A9, c9, rfl, _, _, hR9, _⟩ := hO9.rd
    have HU2 := Lib.hid hU2
    have hkb : ka ≤ 20000000000000 := by have := hU2.le; have := hqb.out; omega
    have HR2 := Lib.hid hR9
    have HR1 := Lib.hid (HRV9.out.below hb9)
    have HZ9 := Lib.hid (HZ9'.out.trans (hb9.mono HZ9'.out.size))
    clear hb9 hO9 hU2 hR9 HR7 HRV9 HZ9' hqb
    go_upto_if 50 with fail
    go_cut [3] (fun v wx => w9 = wx ∧ ∃ K : Nat, v = .slice A8 K c8 ∧ K ≤ 255 ∧ K ≤ kv)
    case first =>
      by_cases h255 : 255 < kv
      · have h8 : 255 ≤ c8 := by omega
        go_wp2_with fail
        go_meet
        exact ⟨rfl, 255, rfl, by omega, by omega⟩
      · go_wp2_with fail
        go_meet
        exact ⟨rfl, kv, rfl, by omega, by omega⟩
    case rest =>
      obtain ⟨rfl, K, rfl, hK5, hKv⟩ := hcut
      have h255 := hK5
      have HKL : Hid (∀ a b, a < K → b < K → G1 a = G1 b → a = b) := fun a b ha hb => HU1.out.inj a b (by omega) (by omega)
      clear h255
      go_wp2
      go_loopg [6] ka (fun gk i wr => wr = w9 ∧ ∃ q : Nat, q ≤ ka ∧ gk = ka - q ∧ i = .int .i64 q ∧ Hid (∀ j, j < q → G2 j < K))
      case atStart => exact ⟨rfl, 0, Nat.zero_le _, rfl, rfl, fun j hj => absurd hj (by omega)⟩
      case round =>
        obtain ⟨rfl, q, hq, rfl, rfl, HQ⟩ := hrel
        by_cases hlt : q < ka
        · obtain ⟨b, o, rfl, _, hc⟩ := HR2.out q hlt
          replace hc : wr.cell? ⟨b, o + q, none⟩ = some (.int .i64 (G2 q : Nat)) := hc
          have HQ2 : G2 q < K → Hid (∀ j, j < q + 1 → G2 j < K) := fun h j hj => by
            by_cases e : j = q
            · rw [e]; exact h
            · exact HQ.out j (by omega)
          generalize G2 q = gq at *
          by_cases hg : gq < K
          · have HQ3 := HQ2 hg
            have t1 : decide (K ≤ gq) = false := decide_eq_false (by omega)
            clear HQ2
            go_wp2
            go_roundg (ka - (q + 1))
            case measure => omega
            case rel => exact ⟨rfl, q + 1, by omega, rfl, by go_num, HQ3⟩
          · have t1 : decide (K ≤ gq) = true := decide_eq_true (by omega)
            clear HQ2
            go_wp2
            go_ret
            exact ⟨rfl, HZ9.out⟩
        · have hqk : ka = q := by omega
          subst hqk
          have hkk : ka ≤ K := inj_le K ka G2 HQ.out HU2.out.inj
          have HGV : Hid (∀ i, i < K → G1 i < 256) := fun i hi => HV256.out i (by omega)
          have HRV : Hid (Rd wr A8 K (fun i => .int .i64 (G1 i : Nat))) := fun i hi => HR1.out i (by omega)
          have HX2 : Hid (∀ i, i < ka → G1 (G2 i) < 256) := fun i hi => HGV.out _ (HQ.out i hi)
          have HXI : Hid (∀ i j, i < ka → j < ka → G1 (G2 i) = G1 (G2 j) → i = j) := fun i j hi hj e => HU2.out.inj i j hi hj (HKL.out _ _ (HQ.out i hi) (HQ.out j hj) e)
          have hfree := van_free HX2.out HXI.out
          have HFR := Lib.hid hfree
          obtain ⟨Gm, hGm⟩ : ∃ Gm : Nat → Nat → Fin 256, Gm = fun i j => gE.pow (el (G1 (G2 i))) j := ⟨_, rfl⟩
          have HFR2 : Hid (gE.Free ka ka Gm) := by rw [hGm]; exact hfree
          have HGm := Lib.hid hGm
          have hcf : faultE ka (fun _ => ka) = 0 := fault_const (by omega) (by omega)
          have hcc : colsN ka (fun _ => ka) = ka := colsN_const ka
          have hkf : faultE K (fun _ => ka) = 0 := fault_const (by omega) (by omega)
          have HP := Lib.hid (perr_ok (n := K) (cols := (ka : Int)) (by omega) (by omega))
          have HRO := Lib.hid (rerr_good (n := K) (m := ka) (L := fun _ => ka) (t := fun i => ((G2 i : Nat) : Int)) hkf (by omega) (fun i hi => by have := HQ.out i hi; omega))
          have HSQ := Lib.hid (square_ok hcf hcc)
          have HCF := Lib.hid hcf; have HCC := Lib.hid hcc
          clear hfree hGm hcf hcc hkf HFR
          go_wp2_with fail
          refine (elems_any A8 K c8 G1 _ (by omega) HGV.out HRV.out).mono ?_
          rintro e w10 ⟨v10, rfl, hO, hb⟩
          obtain ⟨A10, c10, rfl, _, _, hE10, _⟩ := hO.rd
          have HE10 := Lib.hid hE10
          have HA10 := Lib.hid (HR2.out.below hb)
          have HZ10 := Lib.hid (HZ9.out.trans (hb.mono HZ9.out.size))
          clear hO hE10 hb HZ9 HR2 HRV
          go_wp2_with fail
          refine (elem_any 1 _ (by decide)).mono ?_
          rintro e w11 ⟨rfl, rfl⟩
          go_wp2_with fail
          refine (powE_all A10 K c10 (ka : Int) 1 G1 _ (by decide) HGV.out HE10.out).mono ?_
          rintro e w11 ⟨A11, c11, rfl, hM, hb⟩
          rw [HP.out.1]
          rw [HP.out.2] at hM ⊢
          rw [Int.toNat_natCast] at hM
          have HM11 := Lib.hid hM
          have HA11 := Lib.hid (HA10.out.below hb)
          have HZ11 := Lib.hid (HZ10.out.trans (hb.mono HZ10.out.size))
          clear hM hb HA10 HE10 HZ10 HP
          go_wp2_with fail
          refine (rowsE_all A11 A9 K ka c11 c9 (fun _ => ka) (fun i j => pw 256 1 (G1 i) j) (fun i => ((G2 i : Nat) : Int)) _ (by omega) (fun _ _ => by omega) HM11.out HA11.out).mono ?_
          rintro e w12 ⟨A12, c12, rfl, hM, hb⟩
          rw [HRO.out.1]
          rw [HRO.out.2] at hM ⊢
          have HM12 : Hid (ME w12 A12 ka (fun _ => ka) (fun i j => (Gm i j).val)) := hM.congr fun i hi j _ => by
            show Value.int .u8 ((pw 256 1 (G1 (((G2 i : Nat) : Int).toNat)) j : Nat) : Int) = Value.int .u8 ((Gm i j).val : Int)
            rw [Int.toNat_natCast, pw_pow (HX2.out i hi) j, HGm.out]
          have HZ12 := Lib.hid (HZ11.out.trans (hb.mono HZ11.out.size))
          clear hM hb HA11 HM11 HZ11 HRO HGm HX2 HXI
          go_wp2_with fail
          refine (rankE_any A12 ka c12 (fun _ => ka) Gm _ (by omega) (fun _ _ => by omega) HM12.out).mono ?_
          rintro e w13 ⟨st, rfl, hb, _, hR⟩
          have hst : ka = st := ((rank_free HCF.out HCC.out hR).2.2 HFR2.out).symm
          subst hst
          rw [HCF.out]
          have HM13 := Lib.hid (ME.below HM12.out hb)
          have HZ13 := Lib.hid (HZ12.out.trans (hb.mono HZ12.out.size))
          clear hR hb HM12 HZ12
          go_wp2_with fail
          refine (invE_any A12 ka c12 (fun _ => ka) Gm _ (by omega) (fun _ _ => by omega) HM13.out).mono ?_
          rintro e w14 ⟨er, X, A14, c14, rfl, hIP, hb, hX⟩
          obtain ⟨he, hr, _⟩ := hIP.free HCF.out HCC.out HFR2.out
          obtain ⟨_, _, hr⟩ := hIP.free HCF.out HCC.out HFR2.out
          subst he
          rw [if_pos rfl] at hX ⊢
          have HX := Lib.hid hX; have HRR := Lib.hid hr
          have HM14 := Lib.hid (ME.below HM13.out hb)
          have HZ14 := Lib.hid (HZ13.out.trans (hb.mono HZ13.out.size))
          clear hIP hr hX hb HM13 HZ13
          go_wp2_with fail
          refine (timE_all A12 A14 ka ka c12 c14 (fun _ => ka) (fun _ => ka) (fun i j => (Gm i j).val) (fun i j => (X i j).val) _ (by omega) (fun _ _ => by omega) (by omega) (fun _ _ => by omega) HM14.out HX.out (fun i j => (Gm i j).isLt) (fun i j => (X i j).isLt)).mono ?_
          rintro e w15 ⟨A15, c15, rfl, hM, hb⟩
          rw [HSQ.out.1]
          rw [HSQ.out.2.1] at hM ⊢
          rw [HCC.out] at hM
          have HM15 : Hid (ME w15 A15 ka (fun _ => ka) (fun i j => (gE.idm i j).val)) := hM.congr fun i hi j hj => by
            have e1 : dot 256 (fun u => (Gm i u).val) (fun u => (X u j).val) ka = (gE.mm ka Gm X i j).val := dot_mm okE Gm X i j ka
            show Value.int .u8 ((dot 256 (fun u => (Gm i u).val) (fun u => (X u j).val) ka : Nat) : Int) = Value.int .u8 ((gE.idm i j).val : Int)
            rw [e1, HRR.out i j hi hj]
          have HZ15 := Lib.hid (HZ14.out.trans (hb.mono HZ14.out.size))
          clear hM hb HM14 HX HRR HZ14 HSQ
          go_wp2_with fail
          refine (intsE_any A15 ka c15 (fun _ => ka) (fun i j => (gE.idm i j).val) _ (by omega) (fun _ _ => by omega) (fun i j => (gE.idm i j).isLt) HM15.out).mono ?_
          rintro e w16 ⟨v16, S16, C16, rfl, hO, hb⟩
          obtain ⟨A16, c16, rfl, _, _, hI⟩ := hO.rdm
          have HI := Lib.hid hI
          have HZ16 := Lib.hid (HZ15.out.trans (hb.mono HZ15.out.size))
          clear hO hI hb HM15 HZ15
          go_wp2_with fail
          refine (unit_any okE ka _ (by omega)).mono ?_
          rintro e w17 ⟨A17, c17, rfl, hU, hb⟩
          have HU := Lib.hid hU
          have HI2 := Lib.hid (MI.below HI.out hb)
          have HZ17 := Lib.hid (HZ16.out.trans (hb.mono HZ16.out.size))
          clear hU hb HI HZ16
          go_wp2_with fail
          refine (alike_any A16 A17 ka c16 c17 (fun _ => ka) (fun i j => (gE.idm i j).val) _ (by omega) (fun _ _ => by omega) HI2.out HU.out).mono ?_
          rintro e w18 ⟨rfl, hd⟩
          go_wp2
          go_ret
          exact ⟨rfl, hd.below' HZ17.out⟩

end Go.Proofs.Ytpocjpodeahanaa
