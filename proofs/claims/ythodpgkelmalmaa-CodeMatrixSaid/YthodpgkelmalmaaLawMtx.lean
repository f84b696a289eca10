/- CodeMatrix: the law's walk. Conditions: none. -/
import Derived.Test.YthodpgkelmalmaaMtx1
import Derived.Test.YthodpgkelmalmaaAnyP
import Derived.Test.YthodpgkelmalmaaAwk
import Derived.Test.YthodpgkelmalmaaTwE
namespace Go.Proofs.Ythodpgkelmalmaa
open Go.RowKit

set_option maxRecDepth 40000 in
set_option maxHeartbeats 8000000 in
theorem lawMtx_a (K M : Int) (A Pk : Option Addr) (nb cA np cP : Nat) (f : Nat → Nat) (pi : Nat → Int) (w : World)
    (hA : Rd w A nb fun i => .int .u8 (f i : Nat)) (hn : nb ≤ 140737488351232) (hcA : nb ≤ cA) (hf : ∀ i, i < nb → f i < 256) (hP : Rd w Pk np fun i => .int .i64 (pi i)) (hnp : np * 8 ≤ 140737488351232)
    (k m : Nat) (hk : k = 1 + pickN K 24) (hm : m = 1 + pickN M k) (hle : nb ≤ 255 * k) :
    Calls Try.prog 12 #[.agg #[.int .i64 K, .int .i64 M, .slice A nb cA, .slice Pk np cP]] w fun e w' => e = .returned (.bool true) ∧ Below w.heap.size w w' := by
  have hb0 : Below w.heap.size w (w.alloc (.cells #[.int .i64 K, .int .i64 M, .slice A nb cA, .slice Pk np cP] 42)) := (Below.refl _ _).alloc (Nat.le_refl _) _
  have HA := Lib.hid hA; have HF := Lib.hid hf; have HB0 := Lib.hid hb0; have HPk := Lib.hid hP
  clear hA hf hb0 hP
  have hk1 : 1 ≤ k := by omega
  have hk24 : k ≤ 24 := by have := pickN_lt (k := K) (n := 24) (by decide); omega
  have hm1 : 1 ≤ m := by omega
  have hmk : m ≤ k := by have := pickN_lt (k := M) (n := k) (by omega); omega
  have CK := Lib.hid (fun w => pick_any K 24 w (by decide) (by decide))
  have CM := Lib.hid (fun w => pick_any M k w (by omega) (by omega))
  have hk' : (1 : Int) + (pickN K 24 : Nat) = (k : Int) := by omega
  have hm' : (1 : Int) + (pickN M k : Nat) = (m : Int) := by omega
  clear hk hm
  generalize pickN K 24 = k0 at *
  generalize pickN M k = m0 at *
  have hlen : nb / k * k ≤ nb := Nat.div_mul_le_self nb k
  have hll : nb / k ≤ 255 := by
    have h := Nat.div_le_of_le_mul (m := nb) (n := 255) (k := k) (by rw [Nat.mul_comm]; omega)
    exact h
  have hix : ∀ i j, i < k → j < nb / k → i * (nb / k) + j < nb := fun i j hi hj => by
    have h1 : (i + 1) * (nb / k) ≤ k * (nb / k) := Nat.mul_le_mul_right _ hi
    rw [Nat.succ_mul, Nat.mul_comm k] at h1
    omega
  have hfa : ∀ i, i < k → ∀ j, j < nb / k → f (i * (nb / k) + j) < 256 := fun i hi j hj => HF.out _ (by have := hix i j hi hj; omega)
  have CUTA := Lib.hid (fun w' (hb : Below w.heap.size w w') => cut_any A nb cA k f w' (by omega) (by omega) (by omega) (by omega) (fun i hi => HA.out.below hb i (by omega)))
  have HFA := Lib.hid hfa
  clear hix hfa hlen
  generalize nb / k = len at *
  obtain ⟨D, hD⟩ : ∃ D : Nat → Nat → Nat, D = fun i c => f (i * len + c) := ⟨_, rfl⟩
  have HDA : Hid (∀ i, i < k → ∀ j, j < len → D i j < 256) := by rw [hD]; exact HFA.out
  have HDD := Lib.hid hD
  clear hD HFA
  go_enter Try.func12, Try.ntmps12
  go_wp2_with fail
  refine (awake_any _).mono ?_
  rintro e w1 ⟨rfl, hb1⟩
  have hc0 : w1.cell? ⟨w.heap.size, 0, none⟩ = some (.int .i64 K) := by rw [hb1.cell (by simp)]; go_simp
  have hc1 : w1.cell? ⟨w.heap.size, 1, none⟩ = some (.int .i64 M) := by rw [hb1.cell (by simp)]; go_simp
  have hc2 : w1.cell? ⟨w.heap.size, 2, none⟩ = some (.slice A nb cA) := by rw [hb1.cell (by simp)]; go_simp
  have hc3 : w1.cell? ⟨w.heap.size, 3, none⟩ = some (.slice Pk np cP) := by rw [hb1.cell (by simp)]; go_simp
  have hlw : w.heap.size < w1.heap.size := by have := hb1.size; simp at this; omega
  have HB1 := Lib.hid (HB0.out.trans (hb1.mono (by simp)))
  clear hb1 HB0
  go_wp2_with fail
  refine (CK.out w1).mono ?_
  rintro e w2 ⟨rfl, rfl⟩
  go_wp2_with fail
  refine (CM.out w1).mono ?_
  rintro e w2 ⟨rfl, rfl⟩
  go_wp2_with fail
  refine (new_ok k m w1 hm1 hmk (by omega) (by omega)).mono ?_
  rintro e w3 ⟨p, rfl, hC, hp, hb3⟩
  have HB3 := Lib.hid (HB1.out.trans (hb3.mono HB1.out.size))
  have hd2 : w3.cell? ⟨w.heap.size, 2, none⟩ = some (.slice A nb cA) := (hb3.cell hlw).trans hc2
  have HE3 : Hid (w3.cell? ⟨w.heap.size, 3, none⟩ = some (.slice Pk np cP)) := (hb3.cell hlw).trans hc3
  have HD2 := Lib.hid hd2
  have hlw3 : w.heap.size < w3.heap.size := by have := hb3.size; omega
  have HC3 := Lib.hid hC
  clear hc0 hc1 hc2 hc3 hb3 hC HB1 CK CM hlw hd2
  obtain ⟨n, hnn⟩ : ∃ n, n = k + m := ⟨_, rfl⟩
  have hsn : (k : Int) + (m : Int) = (n : Int) := by omega
  have hnk : k ≤ n := by omega
  have hn5 : n ≤ 48 := by omega
  have hn1 : n ≤ k + m := by omega
  have hn2 : k + m ≤ n := by omega
  rw [← hnn] at HC3
  clear hnn
  go_wp2_with fail
  refine (mat_any p k n w3 HC3.out (by omega) (by omega) (by omega)).mono ?_
  rintro e w4 ⟨b4, S4, C4, rfl, _, hT4, hR4, _, hb4⟩
  have HM4 : Hid (RdM w4 (some ⟨b4, 0, none⟩) n (fun _ => k) (fun i j => .int .u8 ((gE.cM el k i j).val : Nat))) := ⟨S4, C4, row_rd hT4, fun i hi => (hR4 i hi).rdd⟩
  have HB4 := Lib.hid (HB3.out.trans (hb4.mono HB3.out.size))
  have HC4 := Lib.hid (HC3.out.below hb4)
  have HE4 : Hid (w4.cell? ⟨w.heap.size, 3, none⟩ = some (.slice Pk np cP)) := (hb4.cell hlw3).trans HE3.out
  have HD4 : Hid (w4.cell? ⟨w.heap.size, 2, none⟩ = some (.slice A nb cA)) := (hb4.cell hlw3).trans HD2.out
  have hlw4 : w.heap.size < w4.heap.size := by have := hb4.size; omega
  clear hT4 hR4 hb4 HB3 HC3 HE3 HD2 hlw3
  go_wp2_with fail
  refine (elems_any (some ⟨b4, 0, none⟩) n n (fun _ => k) (fun i j => (gE.cM el k i j).val) w4 (by omega) (fun _ _ => by omega) HM4.out).mono ?_
  rintro e w5 ⟨A5, c5, rfl, hM5, hb5⟩
  have HM5 := Lib.hid hM5
  have HB5 := Lib.hid (HB4.out.trans (hb5.mono HB4.out.size))
  have HC5 := Lib.hid (HC4.out.below hb5)
  have HE5 : Hid (w5.cell? ⟨w.heap.size, 3, none⟩ = some (.slice Pk np cP)) := (hb5.cell hlw4).trans HE4.out
  have hd5 : w5.cell? ⟨w.heap.size, 2, none⟩ = some (.slice A nb cA) := (hb5.cell hlw4).trans HD4.out
  have hlw5 : w.heap.size < w5.heap.size := by have := hb5.size; omega
  have hq1 : (nb : Int) ≤ 255 * (k : Int) := by omega
  have hq2 : (0 : Int) ≤ (nb : Int) := by omega
  have hq3 : (nb : Int) ≤ (cA : Int) := by omega
  have hq4 : IntKind.i64.wrap (255 * (k : Int)) = 255 * (k : Int) := i64_small _ (by omega) (by omega)
  clear hM5 hb5 HB4 HC4 HE4 HD4 hlw4 HM4
  go_wp2_with fail
  refine (CUTA.out w5 HB5.out).mono ?_
  rintro e w6 ⟨A6, c6, rfl, hcc6, hR6, hb6⟩
  have HR6 : Hid (RdM w6 A6 k (fun _ => len) (fun i c => .int .u8 (D i c : Nat))) := by rw [HDD.out]; exact hR6
  have HB6 := Lib.hid (HB5.out.trans (hb6.mono HB5.out.size))
  have HC6 := Lib.hid (HC5.out.below hb6)
  have HM6 := Lib.hid (ME.below HM5.out hb6)
  have HE6 : Hid (w6.cell? ⟨w.heap.size, 3, none⟩ = some (.slice Pk np cP)) := (hb6.cell hlw5).trans HE5.out
  have hlw6 : w.heap.size < w6.heap.size := by have := hb6.size; omega
  clear hR6 hb6 HB5 HC5 HM5 HE5 hd5 hlw5 CUTA HDD hq1 hq2 hq3 hq4
  go_wp2_with fail
  refine (enc_full p k n A6 k c6 (fun _ => len) D w6 (by omega) (by omega) (by omega) (by omega) (fun _ _ => by omega) HDA.out HC6.out HR6.out).mono ?_
  rintro e w7 ⟨er, A7, R7, c7, rfl, hE7, hR7, hM7, hb7, hcap⟩
  have he : er = 0 := hE7.uniq (.inr (.inr ⟨rfl, fun _ _ => rfl, rfl⟩))
  subst he
  rw [if_pos rfl] at hR7
  subst R7
  have HB7 := Lib.hid (HB6.out.trans (hb7.mono HB6.out.size))
  have HR7 := Lib.hid (RdM.below HR6.out hb7)
  have HM7 := Lib.hid (ME.below HM6.out hb7)
  have HW7 := Lib.hid hM7
  have hE7' : w7.cell? ⟨w.heap.size, 3, none⟩ = some (.slice Pk np cP) := (hb7.cell hlw6).trans HE6.out
  have HE7 := Lib.hid hE7'
  have hlw7 : w.heap.size < w7.heap.size := by have := hb7.size; omega
  obtain ⟨S7, C7, h71, h72⟩ := HR7.out
  obtain ⟨b7, o7, rfl, hbb7, hx7⟩ := h71 0 (by omega)
  rw [Nat.add_zero] at hx7
  replace hx7 : w7.cell? ⟨b7, o7, none⟩ = some (.slice (S7 0) len (C7 0)) := hx7
  clear h71 h72 hbb7 hb7 hM7 hE7 hE7' HB6 HC6 HM6 HE6 HR6 hlw6 hcap
  by_cases hl0 : len = 0
  · have t1 : ¬ ((0 : Int) < (len : Int)) := by omega
    have HBX := Lib.hid HB7.out
    have HM8 := Lib.hid HM7.out
    have hE8 := HE7.out
    have hlw8 := hlw7
    have HPW := Lib.hid (HPk.out.below HB7.out)
    clear hl0 HW7 HR7 HM7 HE7 HDA HB7
    obtain ⟨w8, rfl⟩ : ∃ w8 : World, w8 = w7 := ⟨_, rfl⟩
    go_wp2_with fail
    refine (places_any Pk np cP n m pi w8 (by omega) (by omega) (by omega) hnp HPW.out).mono ?_
    rintro e w12 ⟨pb, P, rfl, hPb, hcnt, hpb, hb12⟩
    have HB12 := Lib.hid (HBX.out.trans (hb12.mono HBX.out.size))
    have HPB := Lib.hid hPb
    have HM12 := Lib.hid (ME.below HM8.out hb12)
    have HQ : Hid (k ≤ cntB (fun i => !P i) n) := by have := cntB_not P n; show k ≤ _; omega
    have hpl := hPb.lt
    clear hPb hcnt hb12 HBX HM8 HPW hE8
    go_wp2
    go_loopg [12, 14] (n + 1) (fun gk vo v wr => ∃ (i cnt : Nat) (a : Nat → Nat), i ≤ n ∧ gk = n + 1 - i ∧ v = .int .i64 i ∧ Own wr w12.heap.size 3 1 vo cnt (fun t => [.int .i64 (a t : Nat)]) ∧ (cnt = cntB (fun i => !P i) i ∧ cnt ≤ k ∧ (∀ t, t < cnt → a t < i) ∧ ∀ s t, s < t → t < cnt → a s < a t) ∧ Below w12.heap.size w12 wr)
    case atStart => exact ⟨0, 0, fun t => t, Nat.zero_le _, rfl, rfl, Own.nil _ _ _ _ _, ⟨rfl, Nat.zero_le _, fun t ht => absurd ht (by omega), fun s t _ ht => absurd ht (by omega)⟩, Below.refl _ _⟩
    case round =>
      obtain ⟨i, cnt, a, hi, rfl, rfl, hO, ⟨hc, hck, ha, hs⟩, hb⟩ := hrel
      have HO := Lib.hid hO; have HB := Lib.hid hb; have HA' := Lib.hid ha; have HS := Lib.hid hs; have HCC := Lib.hid hc
      have hsz := hb.size
      obtain ⟨Ao, co, rfl, _, _, hRo, _⟩ := hO.rd
      have HRo := Lib.hid hRo
      clear hO hb ha hs hc hRo
      by_cases hgo : i < n ∧ cnt < k
      · obtain ⟨hlt, hlk⟩ := hgo
        have hcp : wr.cell? ⟨pb, i, none⟩ = some (.bool (P i)) := (HB.out.cell (p := ⟨pb, i, none⟩) hpl).trans (HPB.out.cell hlt)
        cases hPi : P i
        · have HC2 : Hid (cnt + 1 = cntB (fun i => !P i) (i + 1)) := by
            show _ = cntB (fun i => !P i) i + (if (!P i) = true then 1 else 0)
            rw [hPi, ← HCC.out]; rfl
          have hownB : Own wr w12.heap.size 3 1 (.slice Ao cnt co) cnt (fun t => [.int .i64 ((if t = cnt then i else a t : Nat) : Int)]) := HO.out.congr fun t ht => by rw [if_neg (by omega)]
          have hu : Hid ((#[Value.int .i64 (i : Nat)] : Array Value).toList = [.int .i64 ((if cnt = cnt then i else a cnt : Nat) : Int)]) := by rw [if_pos rfl]; rfl
          have HOB := Lib.hid hownB
          rw [hPi] at hcp
          clear hPi hownB HRo HO HCC
          go_wp2_with (at_builtin; refine wpList_push _ rfl (.tmp 119) (.tmp 121) 40 rfl w12.heap.size 3 1 8 (.int .i64 0) #[.int .i64 (i : Nat)] Try.underlying40 intInfo rfl (by decide) _ cnt _ rfl HOB.out hsz _ rfl rfl hu.out rfl rfl (by omega) (by omega) ?_)
          intro v' w' hown2 hbel2 _ _
          have HB2 := Lib.hid (HB.out.trans hbel2)
          have HO2 := Lib.hid hown2
          clear hown2 hbel2 HOB hu hcp HB
          go_wp2
          go_roundg (n + 1 - (i + 1))
          case measure => omega
          case rel => exact ⟨i + 1, cnt + 1, _, by omega, rfl, by go_num, HO2.out, ⟨HC2.out, by omega, fun t ht => by
              show (if t = cnt then i else a t) < i + 1
              split
              · omega
              · have := HA'.out t (by omega); omega, fun s t hst ht => by
              show (if s = cnt then i else a s) < (if t = cnt then i else a t)
              rw [if_neg (by omega)]
              split
              · exact HA'.out s (by omega)
              · exact HS.out s t hst (by omega)⟩, HB2.out⟩
        · have HC2 : Hid (cnt = cntB (fun i => !P i) (i + 1)) := by
            show _ = cntB (fun i => !P i) i + (if (!P i) = true then 1 else 0)
            rw [hPi, ← HCC.out]; rfl
          rw [hPi] at hcp
          clear hPi HRo HCC
          go_wp2
          go_roundg (n + 1 - (i + 1))
          case measure => omega
          case rel => exact ⟨i + 1, cnt, a, by omega, rfl, by go_num, HO.out, ⟨HC2.out, hck, fun t ht => by have := HA'.out t ht; omega, HS.out⟩, HB.out⟩
      · have hcnt : cnt = k := by
          rcases Nat.lt_or_ge i n with h | h
          · omega
          · have e : i = n := by omega
            have := HQ.out
            have := HCC.out
            rw [e] at this
            omega
        subst hcnt
        have HAn : Hid (∀ t, t < cnt → a t < n) := fun t ht => by have := HA'.out t ht; omega
        have HINJ : Hid (∀ s t, s < cnt → t < cnt → a s = a t → s = t) := fun s t hs ht e => by
          rcases Nat.lt_trichotomy s t with h | h | h
          · have := HS.out s t h ht; omega
          · exact h
          · have := HS.out t s h hs; omega
        have HFREE : Hid (gE.Free cnt cnt (fun t => gE.cM el cnt (a t))) := Fd.cM_free (n := n) hnk (fun x y hx hy e => el_inj (by omega) (by omega) e) HAn.out HINJ.out
        have HM13 := Lib.hid (ME.below HM12.out HB.out)
        have HB13 := Lib.hid (HB12.out.trans (HB.out.mono HB12.out.size))
        have t3 : decide ((cnt : Int) < (cnt : Int)) = false := by simp
        clear hgo HCC HQ HB HA' HS HINJ HPB hpl HM12 HB12
        by_cases hin : i < n
        · have t4 : (i : Int) < (n : Int) := by omega
          clear hin
          go_wp2_with fail
          refine (rowsE_ok A5 Ao n cnt c5 co (fun _ => cnt) (fun i j => (gE.cM el cnt i j).val) a wr (fault_none (by omega) (fun _ _ => by omega) fun _ _ => rfl) (by omega) HM13.out HRo.out HAn.out).mono ?_
          rintro e w14 ⟨A14, c14, rfl, hM14, hb14⟩
          have HB14 := Lib.hid (HB13.out.trans (hb14.mono HB13.out.size))
          have HM14 := Lib.hid hM14
          have hfl : faultE cnt (fun _ => cnt) = 0 := fault_none (by omega) (fun _ _ => by omega) fun _ _ => rfl
          have hcn : colsN cnt (fun _ => cnt) = cnt := by unfold colsN; rw [if_neg (by omega)]
          have HFL := Lib.hid hfl; have HCN := Lib.hid hcn
          clear hM14 hb14 HM13 HB13 HRo HO hfl hcn
          go_wp2_with fail
          refine (invE_any A14 cnt c14 (fun _ => cnt) (fun t => gE.cM el cnt (a t)) w14 (by omega) (fun _ _ => by omega) HM14.out).mono ?_
          rintro e w15 ⟨er, X, Av, cv, rfl, hI, hb15, _⟩
          have he : er = 0 := by
            rcases hI with ⟨h, _⟩ | ⟨_, h, _⟩ | ⟨_, _, h, _⟩ | ⟨_, _, h, _⟩
            · exact absurd HFL.out h
            · exact absurd HCN.out h
            · exact absurd HFREE.out h
            · exact h
          subst he
          have HB15 := Lib.hid (HB14.out.trans (hb15.mono HB14.out.size))
          have HM15 := Lib.hid (ME.below HM14.out hb15)
          have CR := Lib.hid (rankE_any A14 cnt c14 (fun _ => cnt) (fun t => gE.cM el cnt (a t)) w15 (by omega) (fun _ _ => by omega) HM15.out)
          rw [HFL.out, HCN.out] at CR
          clear hI hb15 HM14 HM15 HB14
          rw [if_pos rfl]
          go_wp2_with fail
          refine CR.out.mono ?_
          rintro e w16 ⟨st, rfl, hb16, _, hst⟩
          obtain ⟨G', p', hRR⟩ := hst trivial
          have he : st = cnt := (hRR.full_iff (Nat.le_refl _)).2 HFREE.out
          subst he
          have HB16 := Lib.hid (HB15.out.trans (hb16.mono HB15.out.size))
          clear hst hRR hb16 HFREE CR
          go_wp2
          go_ret
          exact ⟨rfl, HB16.out⟩
        · have t4 : ¬ ((i : Int) < (n : Int)) := by omega
          clear hin
          go_wp2_with fail
          refine (rowsE_ok A5 Ao n cnt c5 co (fun _ => cnt) (fun i j => (gE.cM el cnt i j).val) a wr (fault_none (by omega) (fun _ _ => by omega) fun _ _ => rfl) (by omega) HM13.out HRo.out HAn.out).mono ?_
          rintro e w14 ⟨A14, c14, rfl, hM14, hb14⟩
          have HB14 := Lib.hid (HB13.out.trans (hb14.mono HB13.out.size))
          have HM14 := Lib.hid hM14
          have hfl : faultE cnt (fun _ => cnt) = 0 := fault_none (by omega) (fun _ _ => by omega) fun _ _ => rfl
          have hcn : colsN cnt (fun _ => cnt) = cnt := by unfold colsN; rw [if_neg (by omega)]
          have HFL := Lib.hid hfl; have HCN := Lib.hid hcn
          clear hM14 hb14 HM13 HB13 HRo HO hfl hcn
          go_wp2_with fail
          refine (invE_any A14 cnt c14 (fun _ => cnt) (fun t => gE.cM el cnt (a t)) w14 (by omega) (fun _ _ => by omega) HM14.out).mono ?_
          rintro e w15 ⟨er, X, Av, cv, rfl, hI, hb15, _⟩
          have he : er = 0 := by
            rcases hI with ⟨h, _⟩ | ⟨_, h, _⟩ | ⟨_, _, h, _⟩ | ⟨_, _, h, _⟩
            · exact absurd HFL.out h
            · exact absurd HCN.out h
            · exact absurd HFREE.out h
            · exact h
          subst he
          have HB15 := Lib.hid (HB14.out.trans (hb15.mono HB14.out.size))
          have HM15 := Lib.hid (ME.below HM14.out hb15)
          have CR := Lib.hid (rankE_any A14 cnt c14 (fun _ => cnt) (fun t => gE.cM el cnt (a t)) w15 (by omega) (fun _ _ => by omega) HM15.out)
          rw [HFL.out, HCN.out] at CR
          clear hI hb15 HM14 HM15 HB14
          rw [if_pos rfl]
          go_wp2_with fail
          refine CR.out.mono ?_
          rintro e w16 ⟨st, rfl, hb16, _, hst⟩
          obtain ⟨G', p', hRR⟩ := hst trivial
          have he : st = cnt := (hRR.full_iff (Nat.le_refl _)).2 HFREE.out
          subst he
          have HB16 := Lib.hid (HB15.out.trans (hb16.mono HB15.out.size))
          clear hst hRR hb16 HFREE CR
          go_wp2
          go_ret
          exact ⟨rfl, HB16.out⟩
  · have t1 : (0 : Int) < (len : Int) := by omega
    have hlp : 0 < len := by omega
    have HCD := Lib.hid (fun w' (hb : Below w7.heap.size w7 w') => elems_any (some ⟨b7, o7, none⟩) k c6 (fun _ => len) D w' (by omega) (fun _ _ => by omega) (RdM.below HR7.out hb))
    clear hl0
    go_wp2_with fail
    refine (HCD.out w7 (Below.refl _ _)).mono ?_
    rintro e w9 ⟨A9, c9, rfl, hM9, hb9⟩
    have HB9 := Lib.hid hb9
    have HD9 : Hid (ME w9 A9 k (fun _ => len) (fun i j => (el (D i j)).val)) := hM9.congr fun i hi j hj => by show Value.int .u8 ((D i j : Nat) : Int) = Value.int .u8 (((el (D i j)).val : Nat) : Int); rw [el_val (HDA.out i hi j hj)]
    have HM9 := Lib.hid (ME.below HM7.out hb9)
    have HW9 := Lib.hid (RdM.below HW7.out hb9)
    have hE9 := (hb9.cell hlw7).trans HE7.out
    clear hM9 hb9 HM7 HW7 HCD HR7 hx7 HE7
    go_wp2_with fail
    refine (timE A5 A9 n k c5 c9 (fun _ => k) (fun _ => len) (gE.cM el k) (fun i j => el (D i j)) w9 (fault_none (by omega) (fun _ _ => by omega) fun _ _ => rfl) (fault_none (by omega) (fun _ _ => by omega) fun _ _ => rfl) (by unfold colsN; rw [if_neg (by omega)]) HM9.out HD9.out).mono ?_
    rintro e w10 ⟨b10, S10, rfl, hM10, hb10⟩
    have hcl : colsN k (fun _ => len) = len := by unfold colsN; rw [if_neg (by omega)]
    rw [hcl] at hM10
    have HP10 : Hid (ME w10 (some ⟨b10, 0, none⟩) n (fun _ => len) (fun i c => wrd k D i c)) := hM10.rdm
    have HB10 := Lib.hid (HB9.out.trans (hb10.mono HB9.out.size))
    have HM10 := Lib.hid (ME.below HM9.out hb10)
    have HW10 := Lib.hid (RdM.below HW9.out hb10)
    have hl79 := HB9.out.size
    have hE10 := (hb10.cell (show w.heap.size < w9.heap.size by omega)).trans hE9
    clear hM10 hb10 HM9 HW9 HD9 HB9 hcl
    go_wp2_with fail
    refine (elems_any A7 n c7 (fun _ => len) (wrd k D) w10 (by omega) (fun _ _ => by omega) HW10.out).mono ?_
    rintro e w11 ⟨A11, c11, rfl, hM11, hb11⟩
    have HB11 := Lib.hid (HB10.out.trans (hb11.mono HB10.out.size))
    have HM11 := Lib.hid (ME.below HM10.out hb11)
    have HP11 := Lib.hid (ME.below HP10.out hb11)
    have HX11 := Lib.hid hM11
    have hl710 := HB10.out.size
    have hE11 := (hb11.cell (show w.heap.size < w10.heap.size by omega)).trans hE10
    clear hM11 hb11 HM10 HP10 HW10 HB10
    go_wp2_with fail
    refine (equalE_any (some ⟨b10, 0, none⟩) A11 n n c11 (fun _ => len) (wrd k D) w11 (by omega) (fun _ _ => by omega) HP11.out HX11.out).mono ?_
    rintro e w8 ⟨rfl, hd⟩
    have HBX := Lib.hid (HB7.out.trans ((hd.below' HB11.out).mono HB7.out.size))
    have HM8 := Lib.hid (ME.below HM11.out (hd.below _))
    have hE8 := (hd.cell _).trans hE11
    have hl811 := HB11.out.size
    have hlw8 : w.heap.size < w8.heap.size := by have := (hd.below w11.heap.size).size; omega
    have HPW := Lib.hid (HPk.out.below HBX.out)
    clear hd HM11 HP11 HX11 HB11 hE9 hE10 hE11 HDA HB7 hl79 hl710 hl811
    go_wp2_with fail
    refine (places_any Pk np cP n m pi w8 (by omega) (by omega) (by omega) hnp HPW.out).mono ?_
    rintro e w12 ⟨pb, P, rfl, hPb, hcnt, hpb, hb12⟩
    have HB12 := Lib.hid (HBX.out.trans (hb12.mono HBX.out.size))
    have HPB := Lib.hid hPb
    have HM12 := Lib.hid (ME.below HM8.out hb12)
    have HQ : Hid (k ≤ cntB (fun i => !P i) n) := by have := cntB_not P n; show k ≤ _; omega
    have hpl := hPb.lt
    clear hPb hcnt hb12 HBX HM8 HPW hE8
    go_wp2
    go_loopg [12, 14] (n + 1) (fun gk vo v wr => ∃ (i cnt : Nat) (a : Nat → Nat), i ≤ n ∧ gk = n + 1 - i ∧ v = .int .i64 i ∧ Own wr w12.heap.size 3 1 vo cnt (fun t => [.int .i64 (a t : Nat)]) ∧ (cnt = cntB (fun i => !P i) i ∧ cnt ≤ k ∧ (∀ t, t < cnt → a t < i) ∧ ∀ s t, s < t → t < cnt → a s < a t) ∧ Below w12.heap.size w12 wr)
    case atStart => exact ⟨0, 0, fun t => t, Nat.zero_le _, rfl, rfl, Own.nil _ _ _ _ _, ⟨rfl, Nat.zero_le _, fun t ht => absurd ht (by omega), fun s t _ ht => absurd ht (by omega)⟩, Below.refl _ _⟩
    case round =>
      obtain ⟨i, cnt, a, hi, rfl, rfl, hO, ⟨hc, hck, ha, hs⟩, hb⟩ := hrel
      have HO := Lib.hid hO; have HB := Lib.hid hb; have HA' := Lib.hid ha; have HS := Lib.hid hs; have HCC := Lib.hid hc
      have hsz := hb.size
      obtain ⟨Ao, co, rfl, _, _, hRo, _⟩ := hO.rd
      have HRo := Lib.hid hRo
      clear hO hb ha hs hc hRo
      by_cases hgo : i < n ∧ cnt < k
      · obtain ⟨hlt, hlk⟩ := hgo
        have hcp : wr.cell? ⟨pb, i, none⟩ = some (.bool (P i)) := (HB.out.cell (p := ⟨pb, i, none⟩) hpl).trans (HPB.out.cell hlt)
        cases hPi : P i
        · have HC2 : Hid (cnt + 1 = cntB (fun i => !P i) (i + 1)) := by
            show _ = cntB (fun i => !P i) i + (if (!P i) = true then 1 else 0)
            rw [hPi, ← HCC.out]; rfl
          have hownB : Own wr w12.heap.size 3 1 (.slice Ao cnt co) cnt (fun t => [.int .i64 ((if t = cnt then i else a t : Nat) : Int)]) := HO.out.congr fun t ht => by rw [if_neg (by omega)]
          have hu : Hid ((#[Value.int .i64 (i : Nat)] : Array Value).toList = [.int .i64 ((if cnt = cnt then i else a cnt : Nat) : Int)]) := by rw [if_pos rfl]; rfl
          have HOB := Lib.hid hownB
          rw [hPi] at hcp
          clear hPi hownB HRo HO HCC
          go_wp2_with (at_builtin; refine wpList_push _ rfl (.tmp 119) (.tmp 121) 40 rfl w12.heap.size 3 1 8 (.int .i64 0) #[.int .i64 (i : Nat)] Try.underlying40 intInfo rfl (by decide) _ cnt _ rfl HOB.out hsz _ rfl rfl hu.out rfl rfl (by omega) (by omega) ?_)
          intro v' w' hown2 hbel2 _ _
          have HB2 := Lib.hid (HB.out.trans hbel2)
          have HO2 := Lib.hid hown2
          clear hown2 hbel2 HOB hu hcp HB
          go_wp2
          go_roundg (n + 1 - (i + 1))
          case measure => omega
          case rel => exact ⟨i + 1, cnt + 1, _, by omega, rfl, by go_num, HO2.out, ⟨HC2.out, by omega, fun t ht => by
              show (if t = cnt then i else a t) < i + 1
              split
              · omega
              · have := HA'.out t (by omega); omega, fun s t hst ht => by
              show (if s = cnt then i else a s) < (if t = cnt then i else a t)
              rw [if_neg (by omega)]
              split
              · exact HA'.out s (by omega)
              · exact HS.out s t hst (by omega)⟩, HB2.out⟩
        · have HC2 : Hid (cnt = cntB (fun i => !P i) (i + 1)) := by
            show _ = cntB (fun i => !P i) i + (if (!P i) = true then 1 else 0)
            rw [hPi, ← HCC.out]; rfl
          rw [hPi] at hcp
          clear hPi HRo HCC
          go_wp2
          go_roundg (n + 1 - (i + 1))
          case measure => omega
          case rel => exact ⟨i + 1, cnt, a, by omega, rfl, by go_num, HO.out, ⟨HC2.out, hck, fun t ht => by have := HA'.out t ht; omega, HS.out⟩, HB.out⟩
      · have hcnt : cnt = k := by
          rcases Nat.lt_or_ge i n with h | h
          · omega
          · have e : i = n := by omega
            have := HQ.out
            have := HCC.out
            rw [e] at this
            omega
        subst hcnt
        have HAn : Hid (∀ t, t < cnt → a t < n) := fun t ht => by have := HA'.out t ht; omega
        have HINJ : Hid (∀ s t, s < cnt → t < cnt → a s = a t → s = t) := fun s t hs ht e => by
          rcases Nat.lt_trichotomy s t with h | h | h
          · have := HS.out s t h ht; omega
          · exact h
          · have := HS.out t s h hs; omega
        have HFREE : Hid (gE.Free cnt cnt (fun t => gE.cM el cnt (a t))) := Fd.cM_free (n := n) hnk (fun x y hx hy e => el_inj (by omega) (by omega) e) HAn.out HINJ.out
        have HM13 := Lib.hid (ME.below HM12.out HB.out)
        have HB13 := Lib.hid (HB12.out.trans (HB.out.mono HB12.out.size))
        have t3 : decide ((cnt : Int) < (cnt : Int)) = false := by simp
        clear hgo HCC HQ HB HA' HS HINJ HPB hpl HM12 HB12
        by_cases hin : i < n
        · have t4 : (i : Int) < (n : Int) := by omega
          clear hin
          go_wp2_with fail
          refine (rowsE_ok A5 Ao n cnt c5 co (fun _ => cnt) (fun i j => (gE.cM el cnt i j).val) a wr (fault_none (by omega) (fun _ _ => by omega) fun _ _ => rfl) (by omega) HM13.out HRo.out HAn.out).mono ?_
          rintro e w14 ⟨A14, c14, rfl, hM14, hb14⟩
          have HB14 := Lib.hid (HB13.out.trans (hb14.mono HB13.out.size))
          have HM14 := Lib.hid hM14
          have hfl : faultE cnt (fun _ => cnt) = 0 := fault_none (by omega) (fun _ _ => by omega) fun _ _ => rfl
          have hcn : colsN cnt (fun _ => cnt) = cnt := by unfold colsN; rw [if_neg (by omega)]
          have HFL := Lib.hid hfl; have HCN := Lib.hid hcn
          clear hM14 hb14 HM13 HB13 HRo HO hfl hcn
          go_wp2_with fail
          refine (invE_any A14 cnt c14 (fun _ => cnt) (fun t => gE.cM el cnt (a t)) w14 (by omega) (fun _ _ => by omega) HM14.out).mono ?_
          rintro e w15 ⟨er, X, Av, cv, rfl, hI, hb15, _⟩
          have he : er = 0 := by
            rcases hI with ⟨h, _⟩ | ⟨_, h, _⟩ | ⟨_, _, h, _⟩ | ⟨_, _, h, _⟩
            · exact absurd HFL.out h
            · exact absurd HCN.out h
            · exact absurd HFREE.out h
            · exact h
          subst he
          have HB15 := Lib.hid (HB14.out.trans (hb15.mono HB14.out.size))
          have HM15 := Lib.hid (ME.below HM14.out hb15)
          have CR := Lib.hid (rankE_any A14 cnt c14 (fun _ => cnt) (fun t => gE.cM el cnt (a t)) w15 (by omega) (fun _ _ => by omega) HM15.out)
          rw [HFL.out, HCN.out] at CR
          clear hI hb15 HM14 HM15 HB14
          rw [if_pos rfl]
          go_wp2_with fail
          refine CR.out.mono ?_
          rintro e w16 ⟨st, rfl, hb16, _, hst⟩
          obtain ⟨G', p', hRR⟩ := hst trivial
          have he : st = cnt := (hRR.full_iff (Nat.le_refl _)).2 HFREE.out
          subst he
          have HB16 := Lib.hid (HB15.out.trans (hb16.mono HB15.out.size))
          clear hst hRR hb16 HFREE CR
          go_wp2
          go_ret
          exact ⟨rfl, HB16.out⟩
        · have t4 : ¬ ((i : Int) < (n : Int)) := by omega
          clear hin
          go_wp2_with fail
          refine (rowsE_ok A5 Ao n cnt c5 co (fun _ => cnt) (fun i j => (gE.cM el cnt i j).val) a wr (fault_none (by omega) (fun _ _ => by omega) fun _ _ => rfl) (by omega) HM13.out HRo.out HAn.out).mono ?_
          rintro e w14 ⟨A14, c14, rfl, hM14, hb14⟩
          have HB14 := Lib.hid (HB13.out.trans (hb14.mono HB13.out.size))
          have HM14 := Lib.hid hM14
          have hfl : faultE cnt (fun _ => cnt) = 0 := fault_none (by omega) (fun _ _ => by omega) fun _ _ => rfl
          have hcn : colsN cnt (fun _ => cnt) = cnt := by unfold colsN; rw [if_neg (by omega)]
          have HFL := Lib.hid hfl; have HCN := Lib.hid hcn
          clear hM14 hb14 HM13 HB13 HRo HO hfl hcn
          go_wp2_with fail
          refine (invE_any A14 cnt c14 (fun _ => cnt) (fun t => gE.cM el cnt (a t)) w14 (by omega) (fun _ _ => by omega) HM14.out).mono ?_
          rintro e w15 ⟨er, X, Av, cv, rfl, hI, hb15, _⟩
          have he : er = 0 := by
            rcases hI with ⟨h, _⟩ | ⟨_, h, _⟩ | ⟨_, _, h, _⟩ | ⟨_, _, h, _⟩
            · exact absurd HFL.out h
            · exact absurd HCN.out h
            · exact absurd HFREE.out h
            · exact h
          subst he
          have HB15 := Lib.hid (HB14.out.trans (hb15.mono HB14.out.size))
          have HM15 := Lib.hid (ME.below HM14.out hb15)
          have CR := Lib.hid (rankE_any A14 cnt c14 (fun _ => cnt) (fun t => gE.cM el cnt (a t)) w15 (by omega) (fun _ _ => by omega) HM15.out)
          rw [HFL.out, HCN.out] at CR
          clear hI hb15 HM14 HM15 HB14
          rw [if_pos rfl]
          go_wp2_with fail
          refine CR.out.mono ?_
          rintro e w16 ⟨st, rfl, hb16, _, hst⟩
          obtain ⟨G', p', hRR⟩ := hst trivial
          have he : st = cnt := (hRR.full_iff (Nat.le_refl _)).2 HFREE.out
          subst he
          have HB16 := Lib.hid (HB15.out.trans (hb16.mono HB15.out.size))
          clear hst hRR hb16 HFREE CR
          go_wp2
          go_ret
          exact ⟨rfl, HB16.out⟩
set_option maxRecDepth 40000 in
set_option maxHeartbeats 8000000 in
theorem lawMtx_b (K M : Int) (A Pk : Option Addr) (nb cA np cP : Nat) (f : Nat → Nat) (pi : Nat → Int) (w : World)
    (hA : Rd w A nb fun i => .int .u8 (f i : Nat)) (_hn : nb ≤ 140737488351232) (hcA : nb ≤ cA) (hf : ∀ i, i < nb → f i < 256) (hP : Rd w Pk np fun i => .int .i64 (pi i)) (hnp : np * 8 ≤ 140737488351232)
    (k m : Nat) (hk : k = 1 + pickN K 24) (hm : m = 1 + pickN M k) (hle : 255 * k < nb) :
    Calls Try.prog 12 #[.agg #[.int .i64 K, .int .i64 M, .slice A nb cA, .slice Pk np cP]] w fun e w' => e = .returned (.bool true) ∧ Below w.heap.size w w' := by
  have hb0 : Below w.heap.size w (w.alloc (.cells #[.int .i64 K, .int .i64 M, .slice A nb cA, .slice Pk np cP] 42)) := (Below.refl _ _).alloc (Nat.le_refl _) _
  have HA := Lib.hid hA; have HF := Lib.hid hf; have HB0 := Lib.hid hb0; have HPk := Lib.hid hP
  clear hA hf hb0 hP
  have hk1 : 1 ≤ k := by omega
  have hk24 : k ≤ 24 := by have := pickN_lt (k := K) (n := 24) (by decide); omega
  have hm1 : 1 ≤ m := by omega
  have hmk : m ≤ k := by have := pickN_lt (k := M) (n := k) (by omega); omega
  have CK := Lib.hid (fun w => pick_any K 24 w (by decide) (by decide))
  have CM := Lib.hid (fun w => pick_any M k w (by omega) (by omega))
  have hk' : (1 : Int) + (pickN K 24 : Nat) = (k : Int) := by omega
  have hm' : (1 : Int) + (pickN M k : Nat) = (m : Int) := by omega
  clear hk hm
  generalize pickN K 24 = k0 at *
  generalize pickN M k = m0 at *
  have hlen : (255 * k) / k * k ≤ (255 * k) := Nat.div_mul_le_self (255 * k) k
  have hll : (255 * k) / k ≤ 255 := by
    have h := Nat.div_le_of_le_mul (m := (255 * k)) (n := 255) (k := k) (by rw [Nat.mul_comm]; omega)
    exact h
  have hix : ∀ i j, i < k → j < (255 * k) / k → i * ((255 * k) / k) + j < (255 * k) := fun i j hi hj => by
    have h1 : (i + 1) * ((255 * k) / k) ≤ k * ((255 * k) / k) := Nat.mul_le_mul_right _ hi
    rw [Nat.succ_mul, Nat.mul_comm k] at h1
    omega
  have hfa : ∀ i, i < k → ∀ j, j < (255 * k) / k → f (i * ((255 * k) / k) + j) < 256 := fun i hi j hj => HF.out _ (by have := hix i j hi hj; omega)
  have CUTA := Lib.hid (fun w' (hb : Below w.heap.size w w') => cut_any A (255 * k) cA k f w' (by omega) (by omega) (by omega) (by omega) (fun i hi => HA.out.below hb i (by omega)))
  have HFA := Lib.hid hfa
  clear hix hfa hlen
  generalize (255 * k) / k = len at *
  obtain ⟨D, hD⟩ : ∃ D : Nat → Nat → Nat, D = fun i c => f (i * len + c) := ⟨_, rfl⟩
  have HDA : Hid (∀ i, i < k → ∀ j, j < len → D i j < 256) := by rw [hD]; exact HFA.out
  have HDD := Lib.hid hD
  clear hD HFA
  go_enter Try.func12, Try.ntmps12
  go_wp2_with fail
  refine (awake_any _).mono ?_
  rintro e w1 ⟨rfl, hb1⟩
  have hc0 : w1.cell? ⟨w.heap.size, 0, none⟩ = some (.int .i64 K) := by rw [hb1.cell (by simp)]; go_simp
  have hc1 : w1.cell? ⟨w.heap.size, 1, none⟩ = some (.int .i64 M) := by rw [hb1.cell (by simp)]; go_simp
  have hc2 : w1.cell? ⟨w.heap.size, 2, none⟩ = some (.slice A nb cA) := by rw [hb1.cell (by simp)]; go_simp
  have hc3 : w1.cell? ⟨w.heap.size, 3, none⟩ = some (.slice Pk np cP) := by rw [hb1.cell (by simp)]; go_simp
  have hlw : w.heap.size < w1.heap.size := by have := hb1.size; simp at this; omega
  have HB1 := Lib.hid (HB0.out.trans (hb1.mono (by simp)))
  clear hb1 HB0
  go_wp2_with fail
  refine (CK.out w1).mono ?_
  rintro e w2 ⟨rfl, rfl⟩
  go_wp2_with fail
  refine (CM.out w1).mono ?_
  rintro e w2 ⟨rfl, rfl⟩
  go_wp2_with fail
  refine (new_ok k m w1 hm1 hmk (by omega) (by omega)).mono ?_
  rintro e w3 ⟨p, rfl, hC, hp, hb3⟩
  have HB3 := Lib.hid (HB1.out.trans (hb3.mono HB1.out.size))
  have hd2 : w3.cell? ⟨w.heap.size, 2, none⟩ = some (.slice A nb cA) := (hb3.cell hlw).trans hc2
  have HE3 : Hid (w3.cell? ⟨w.heap.size, 3, none⟩ = some (.slice Pk np cP)) := (hb3.cell hlw).trans hc3
  have HD2 := Lib.hid hd2
  have hlw3 : w.heap.size < w3.heap.size := by have := hb3.size; omega
  have HC3 := Lib.hid hC
  clear hc0 hc1 hc2 hc3 hb3 hC HB1 CK CM hlw hd2
  obtain ⟨n, hnn⟩ : ∃ n, n = k + m := ⟨_, rfl⟩
  have hsn : (k : Int) + (m : Int) = (n : Int) := by omega
  have hnk : k ≤ n := by omega
  have hn5 : n ≤ 48 := by omega
  have hn1 : n ≤ k + m := by omega
  have hn2 : k + m ≤ n := by omega
  rw [← hnn] at HC3
  clear hnn
  go_wp2_with fail
  refine (mat_any p k n w3 HC3.out (by omega) (by omega) (by omega)).mono ?_
  rintro e w4 ⟨b4, S4, C4, rfl, _, hT4, hR4, _, hb4⟩
  have HM4 : Hid (RdM w4 (some ⟨b4, 0, none⟩) n (fun _ => k) (fun i j => .int .u8 ((gE.cM el k i j).val : Nat))) := ⟨S4, C4, row_rd hT4, fun i hi => (hR4 i hi).rdd⟩
  have HB4 := Lib.hid (HB3.out.trans (hb4.mono HB3.out.size))
  have HC4 := Lib.hid (HC3.out.below hb4)
  have HE4 : Hid (w4.cell? ⟨w.heap.size, 3, none⟩ = some (.slice Pk np cP)) := (hb4.cell hlw3).trans HE3.out
  have HD4 : Hid (w4.cell? ⟨w.heap.size, 2, none⟩ = some (.slice A nb cA)) := (hb4.cell hlw3).trans HD2.out
  have hlw4 : w.heap.size < w4.heap.size := by have := hb4.size; omega
  clear hT4 hR4 hb4 HB3 HC3 HE3 HD2 hlw3
  go_wp2_with fail
  refine (elems_any (some ⟨b4, 0, none⟩) n n (fun _ => k) (fun i j => (gE.cM el k i j).val) w4 (by omega) (fun _ _ => by omega) HM4.out).mono ?_
  rintro e w5 ⟨A5, c5, rfl, hM5, hb5⟩
  have HM5 := Lib.hid hM5
  have HB5 := Lib.hid (HB4.out.trans (hb5.mono HB4.out.size))
  have HC5 := Lib.hid (HC4.out.below hb5)
  have HE5 : Hid (w5.cell? ⟨w.heap.size, 3, none⟩ = some (.slice Pk np cP)) := (hb5.cell hlw4).trans HE4.out
  have hd5 : w5.cell? ⟨w.heap.size, 2, none⟩ = some (.slice A nb cA) := (hb5.cell hlw4).trans HD4.out
  have hlw5 : w.heap.size < w5.heap.size := by have := hb5.size; omega
  have hq1 : ¬ ((nb : Int) ≤ 255 * (k : Int)) := by omega
  have hq2 : (0 : Int) ≤ 255 * (k : Int) := by omega
  have hq3 : 255 * (k : Int) ≤ (cA : Int) := by omega
  have hq4 : IntKind.i64.wrap (255 * (k : Int)) = 255 * (k : Int) := i64_small _ (by omega) (by omega)
  have hq5 : (255 * (k : Int)).toNat = 255 * k := by omega
  clear hM5 hb5 HB4 HC4 HE4 HD4 hlw4 HM4
  go_wp2_with fail
  refine (CUTA.out w5 HB5.out).mono ?_
  rintro e w6 ⟨A6, c6, rfl, hcc6, hR6, hb6⟩
  have HR6 : Hid (RdM w6 A6 k (fun _ => len) (fun i c => .int .u8 (D i c : Nat))) := by rw [HDD.out]; exact hR6
  have HB6 := Lib.hid (HB5.out.trans (hb6.mono HB5.out.size))
  have HC6 := Lib.hid (HC5.out.below hb6)
  have HM6 := Lib.hid (ME.below HM5.out hb6)
  have HE6 : Hid (w6.cell? ⟨w.heap.size, 3, none⟩ = some (.slice Pk np cP)) := (hb6.cell hlw5).trans HE5.out
  have hlw6 : w.heap.size < w6.heap.size := by have := hb6.size; omega
  clear hR6 hb6 HB5 HC5 HM5 HE5 hd5 hlw5 CUTA HDD hq1 hq2 hq3 hq4
  go_wp2_with fail
  refine (enc_full p k n A6 k c6 (fun _ => len) D w6 (by omega) (by omega) (by omega) (by omega) (fun _ _ => by omega) HDA.out HC6.out HR6.out).mono ?_
  rintro e w7 ⟨er, A7, R7, c7, rfl, hE7, hR7, hM7, hb7, hcap⟩
  have he : er = 0 := hE7.uniq (.inr (.inr ⟨rfl, fun _ _ => rfl, rfl⟩))
  subst he
  rw [if_pos rfl] at hR7
  subst R7
  have HB7 := Lib.hid (HB6.out.trans (hb7.mono HB6.out.size))
  have HR7 := Lib.hid (RdM.below HR6.out hb7)
  have HM7 := Lib.hid (ME.below HM6.out hb7)
  have HW7 := Lib.hid hM7
  have hE7' : w7.cell? ⟨w.heap.size, 3, none⟩ = some (.slice Pk np cP) := (hb7.cell hlw6).trans HE6.out
  have HE7 := Lib.hid hE7'
  have hlw7 : w.heap.size < w7.heap.size := by have := hb7.size; omega
  obtain ⟨S7, C7, h71, h72⟩ := HR7.out
  obtain ⟨b7, o7, rfl, hbb7, hx7⟩ := h71 0 (by omega)
  rw [Nat.add_zero] at hx7
  replace hx7 : w7.cell? ⟨b7, o7, none⟩ = some (.slice (S7 0) len (C7 0)) := hx7
  clear h71 h72 hbb7 hb7 hM7 hE7 hE7' HB6 HC6 HM6 HE6 HR6 hlw6 hcap
  by_cases hl0 : len = 0
  · have t1 : ¬ ((0 : Int) < (len : Int)) := by omega
    have HBX := Lib.hid HB7.out
    have HM8 := Lib.hid HM7.out
    have hE8 := HE7.out
    have hlw8 := hlw7
    have HPW := Lib.hid (HPk.out.below HB7.out)
    clear hl0 HW7 HR7 HM7 HE7 HDA HB7
    obtain ⟨w8, rfl⟩ : ∃ w8 : World, w8 = w7 := ⟨_, rfl⟩
    go_wp2_with fail
    refine (places_any Pk np cP n m pi w8 (by omega) (by omega) (by omega) hnp HPW.out).mono ?_
    rintro e w12 ⟨pb, P, rfl, hPb, hcnt, hpb, hb12⟩
    have HB12 := Lib.hid (HBX.out.trans (hb12.mono HBX.out.size))
    have HPB := Lib.hid hPb
    have HM12 := Lib.hid (ME.below HM8.out hb12)
    have HQ : Hid (k ≤ cntB (fun i => !P i) n) := by have := cntB_not P n; show k ≤ _; omega
    have hpl := hPb.lt
    clear hPb hcnt hb12 HBX HM8 HPW hE8
    go_wp2
    go_loopg [12, 14] (n + 1) (fun gk vo v wr => ∃ (i cnt : Nat) (a : Nat → Nat), i ≤ n ∧ gk = n + 1 - i ∧ v = .int .i64 i ∧ Own wr w12.heap.size 3 1 vo cnt (fun t => [.int .i64 (a t : Nat)]) ∧ (cnt = cntB (fun i => !P i) i ∧ cnt ≤ k ∧ (∀ t, t < cnt → a t < i) ∧ ∀ s t, s < t → t < cnt → a s < a t) ∧ Below w12.heap.size w12 wr)
    case atStart => exact ⟨0, 0, fun t => t, Nat.zero_le _, rfl, rfl, Own.nil _ _ _ _ _, ⟨rfl, Nat.zero_le _, fun t ht => absurd ht (by omega), fun s t _ ht => absurd ht (by omega)⟩, Below.refl _ _⟩
    case round =>
      obtain ⟨i, cnt, a, hi, rfl, rfl, hO, ⟨hc, hck, ha, hs⟩, hb⟩ := hrel
      have HO := Lib.hid hO; have HB := Lib.hid hb; have HA' := Lib.hid ha; have HS := Lib.hid hs; have HCC := Lib.hid hc
      have hsz := hb.size
      obtain ⟨Ao, co, rfl, _, _, hRo, _⟩ := hO.rd
      have HRo := Lib.hid hRo
      clear hO hb ha hs hc hRo
      by_cases hgo : i < n ∧ cnt < k
      · obtain ⟨hlt, hlk⟩ := hgo
        have hcp : wr.cell? ⟨pb, i, none⟩ = some (.bool (P i)) := (HB.out.cell (p := ⟨pb, i, none⟩) hpl).trans (HPB.out.cell hlt)
        cases hPi : P i
        · have HC2 : Hid (cnt + 1 = cntB (fun i => !P i) (i + 1)) := by
            show _ = cntB (fun i => !P i) i + (if (!P i) = true then 1 else 0)
            rw [hPi, ← HCC.out]; rfl
          have hownB : Own wr w12.heap.size 3 1 (.slice Ao cnt co) cnt (fun t => [.int .i64 ((if t = cnt then i else a t : Nat) : Int)]) := HO.out.congr fun t ht => by rw [if_neg (by omega)]
          have hu : Hid ((#[Value.int .i64 (i : Nat)] : Array Value).toList = [.int .i64 ((if cnt = cnt then i else a cnt : Nat) : Int)]) := by rw [if_pos rfl]; rfl
          have HOB := Lib.hid hownB
          rw [hPi] at hcp
          clear hPi hownB HRo HO HCC
          go_wp2_with (at_builtin; refine wpList_push _ rfl (.tmp 119) (.tmp 121) 40 rfl w12.heap.size 3 1 8 (.int .i64 0) #[.int .i64 (i : Nat)] Try.underlying40 intInfo rfl (by decide) _ cnt _ rfl HOB.out hsz _ rfl rfl hu.out rfl rfl (by omega) (by omega) ?_)
          intro v' w' hown2 hbel2 _ _
          have HB2 := Lib.hid (HB.out.trans hbel2)
          have HO2 := Lib.hid hown2
          clear hown2 hbel2 HOB hu hcp HB
          go_wp2
          go_roundg (n + 1 - (i + 1))
          case measure => omega
          case rel => exact ⟨i + 1, cnt + 1, _, by omega, rfl, by go_num, HO2.out, ⟨HC2.out, by omega, fun t ht => by
              show (if t = cnt then i else a t) < i + 1
              split
              · omega
              · have := HA'.out t (by omega); omega, fun s t hst ht => by
              show (if s = cnt then i else a s) < (if t = cnt then i else a t)
              rw [if_neg (by omega)]
              split
              · exact HA'.out s (by omega)
              · exact HS.out s t hst (by omega)⟩, HB2.out⟩
        · have HC2 : Hid (cnt = cntB (fun i => !P i) (i + 1)) := by
            show _ = cntB (fun i => !P i) i + (if (!P i) = true then 1 else 0)
            rw [hPi, ← HCC.out]; rfl
          rw [hPi] at hcp
          clear hPi HRo HCC
          go_wp2
          go_roundg (n + 1 - (i + 1))
          case measure => omega
          case rel => exact ⟨i + 1, cnt, a, by omega, rfl, by go_num, HO.out, ⟨HC2.out, hck, fun t ht => by have := HA'.out t ht; omega, HS.out⟩, HB.out⟩
      · have hcnt : cnt = k := by
          rcases Nat.lt_or_ge i n with h | h
          · omega
          · have e : i = n := by omega
            have := HQ.out
            have := HCC.out
            rw [e] at this
            omega
        subst hcnt
        have HAn : Hid (∀ t, t < cnt → a t < n) := fun t ht => by have := HA'.out t ht; omega
        have HINJ : Hid (∀ s t, s < cnt → t < cnt → a s = a t → s = t) := fun s t hs ht e => by
          rcases Nat.lt_trichotomy s t with h | h | h
          · have := HS.out s t h ht; omega
          · exact h
          · have := HS.out t s h hs; omega
        have HFREE : Hid (gE.Free cnt cnt (fun t => gE.cM el cnt (a t))) := Fd.cM_free (n := n) hnk (fun x y hx hy e => el_inj (by omega) (by omega) e) HAn.out HINJ.out
        have HM13 := Lib.hid (ME.below HM12.out HB.out)
        have HB13 := Lib.hid (HB12.out.trans (HB.out.mono HB12.out.size))
        have t3 : decide ((cnt : Int) < (cnt : Int)) = false := by simp
        clear hgo HCC HQ HB HA' HS HINJ HPB hpl HM12 HB12
        by_cases hin : i < n
        · have t4 : (i : Int) < (n : Int) := by omega
          clear hin
          go_wp2_with fail
          refine (rowsE_ok A5 Ao n cnt c5 co (fun _ => cnt) (fun i j => (gE.cM el cnt i j).val) a wr (fault_none (by omega) (fun _ _ => by omega) fun _ _ => rfl) (by omega) HM13.out HRo.out HAn.out).mono ?_
          rintro e w14 ⟨A14, c14, rfl, hM14, hb14⟩
          have HB14 := Lib.hid (HB13.out.trans (hb14.mono HB13.out.size))
          have HM14 := Lib.hid hM14
          have hfl : faultE cnt (fun _ => cnt) = 0 := fault_none (by omega) (fun _ _ => by omega) fun _ _ => rfl
          have hcn : colsN cnt (fun _ => cnt) = cnt := by unfold colsN; rw [if_neg (by omega)]
          have HFL := Lib.hid hfl; have HCN := Lib.hid hcn
          clear hM14 hb14 HM13 HB13 HRo HO hfl hcn
          go_wp2_with fail
          refine (invE_any A14 cnt c14 (fun _ => cnt) (fun t => gE.cM el cnt (a t)) w14 (by omega) (fun _ _ => by omega) HM14.out).mono ?_
          rintro e w15 ⟨er, X, Av, cv, rfl, hI, hb15, _⟩
          have he : er = 0 := by
            rcases hI with ⟨h, _⟩ | ⟨_, h, _⟩ | ⟨_, _, h, _⟩ | ⟨_, _, h, _⟩
            · exact absurd HFL.out h
            · exact absurd HCN.out h
            · exact absurd HFREE.out h
            · exact h
          subst he
          have HB15 := Lib.hid (HB14.out.trans (hb15.mono HB14.out.size))
          have HM15 := Lib.hid (ME.below HM14.out hb15)
          have CR := Lib.hid (rankE_any A14 cnt c14 (fun _ => cnt) (fun t => gE.cM el cnt (a t)) w15 (by omega) (fun _ _ => by omega) HM15.out)
          rw [HFL.out, HCN.out] at CR
          clear hI hb15 HM14 HM15 HB14
          rw [if_pos rfl]
          go_wp2_with fail
          refine CR.out.mono ?_
          rintro e w16 ⟨st, rfl, hb16, _, hst⟩
          obtain ⟨G', p', hRR⟩ := hst trivial
          have he : st = cnt := (hRR.full_iff (Nat.le_refl _)).2 HFREE.out
          subst he
          have HB16 := Lib.hid (HB15.out.trans (hb16.mono HB15.out.size))
          clear hst hRR hb16 HFREE CR
          go_wp2
          go_ret
          exact ⟨rfl, HB16.out⟩
        · have t4 : ¬ ((i : Int) < (n : Int)) := by omega
          clear hin
          go_wp2_with fail
          refine (rowsE_ok A5 Ao n cnt c5 co (fun _ => cnt) (fun i j => (gE.cM el cnt i j).val) a wr (fault_none (by omega) (fun _ _ => by omega) fun _ _ => rfl) (by omega) HM13.out HRo.out HAn.out).mono ?_
          rintro e w14 ⟨A14, c14, rfl, hM14, hb14⟩
          have HB14 := Lib.hid (HB13.out.trans (hb14.mono HB13.out.size))
          have HM14 := Lib.hid hM14
          have hfl : faultE cnt (fun _ => cnt) = 0 := fault_none (by omega) (fun _ _ => by omega) fun _ _ => rfl
          have hcn : colsN cnt (fun _ => cnt) = cnt := by unfold colsN; rw [if_neg (by omega)]
          have HFL := Lib.hid hfl; have HCN := Lib.hid hcn
          clear hM14 hb14 HM13 HB13 HRo HO hfl hcn
          go_wp2_with fail
          refine (invE_any A14 cnt c14 (fun _ => cnt) (fun t => gE.cM el cnt (a t)) w14 (by omega) (fun _ _ => by omega) HM14.out).mono ?_
          rintro e w15 ⟨er, X, Av, cv, rfl, hI, hb15, _⟩
          have he : er = 0 := by
            rcases hI with ⟨h, _⟩ | ⟨_, h, _⟩ | ⟨_, _, h, _⟩ | ⟨_, _, h, _⟩
            · exact absurd HFL.out h
            · exact absurd HCN.out h
            · exact absurd HFREE.out h
            · exact h
          subst he
          have HB15 := Lib.hid (HB14.out.trans (hb15.mono HB14.out.size))
          have HM15 := Lib.hid (ME.below HM14.out hb15)
          have CR := Lib.hid (rankE_any A14 cnt c14 (fun _ => cnt) (fun t => gE.cM el cnt (a t)) w15 (by omega) (fun _ _ => by omega) HM15.out)
          rw [HFL.out, HCN.out] at CR
          clear hI hb15 HM14 HM15 HB14
          rw [if_pos rfl]
          go_wp2_with fail
          refine CR.out.mono ?_
          rintro e w16 ⟨st, rfl, hb16, _, hst⟩
          obtain ⟨G', p', hRR⟩ := hst trivial
          have he : st = cnt := (hRR.full_iff (Nat.le_refl _)).2 HFREE.out
          subst he
          have HB16 := Lib.hid (HB15.out.trans (hb16.mono HB15.out.size))
          clear hst hRR hb16 HFREE CR
          go_wp2
          go_ret
          exact ⟨rfl, HB16.out⟩
  · have t1 : (0 : Int) < (len : Int) := by omega
    have hlp : 0 < len := by omega
    have HCD := Lib.hid (fun w' (hb : Below w7.heap.size w7 w') => elems_any (some ⟨b7, o7, none⟩) k c6 (fun _ => len) D w' (by omega) (fun _ _ => by omega) (RdM.below HR7.out hb))
    clear hl0
    go_wp2_with fail
    refine (HCD.out w7 (Below.refl _ _)).mono ?_
    rintro e w9 ⟨A9, c9, rfl, hM9, hb9⟩
    have HB9 := Lib.hid hb9
    have HD9 : Hid (ME w9 A9 k (fun _ => len) (fun i j => (el (D i j)).val)) := hM9.congr fun i hi j hj => by show Value.int .u8 ((D i j : Nat) : Int) = Value.int .u8 (((el (D i j)).val : Nat) : Int); rw [el_val (HDA.out i hi j hj)]
    have HM9 := Lib.hid (ME.below HM7.out hb9)
    have HW9 := Lib.hid (RdM.below HW7.out hb9)
    have hE9 := (hb9.cell hlw7).trans HE7.out
    clear hM9 hb9 HM7 HW7 HCD HR7 hx7 HE7
    go_wp2_with fail
    refine (timE A5 A9 n k c5 c9 (fun _ => k) (fun _ => len) (gE.cM el k) (fun i j => el (D i j)) w9 (fault_none (by omega) (fun _ _ => by omega) fun _ _ => rfl) (fault_none (by omega) (fun _ _ => by omega) fun _ _ => rfl) (by unfold colsN; rw [if_neg (by omega)]) HM9.out HD9.out).mono ?_
    rintro e w10 ⟨b10, S10, rfl, hM10, hb10⟩
    have hcl : colsN k (fun _ => len) = len := by unfold colsN; rw [if_neg (by omega)]
    rw [hcl] at hM10
    have HP10 : Hid (ME w10 (some ⟨b10, 0, none⟩) n (fun _ => len) (fun i c => wrd k D i c)) := hM10.rdm
    have HB10 := Lib.hid (HB9.out.trans (hb10.mono HB9.out.size))
    have HM10 := Lib.hid (ME.below HM9.out hb10)
    have HW10 := Lib.hid (RdM.below HW9.out hb10)
    have hl79 := HB9.out.size
    have hE10 := (hb10.cell (show w.heap.size < w9.heap.size by omega)).trans hE9
    clear hM10 hb10 HM9 HW9 HD9 HB9 hcl
    go_wp2_with fail
    refine (elems_any A7 n c7 (fun _ => len) (wrd k D) w10 (by omega) (fun _ _ => by omega) HW10.out).mono ?_
    rintro e w11 ⟨A11, c11, rfl, hM11, hb11⟩
    have HB11 := Lib.hid (HB10.out.trans (hb11.mono HB10.out.size))
    have HM11 := Lib.hid (ME.below HM10.out hb11)
    have HP11 := Lib.hid (ME.below HP10.out hb11)
    have HX11 := Lib.hid hM11
    have hl710 := HB10.out.size
    have hE11 := (hb11.cell (show w.heap.size < w10.heap.size by omega)).trans hE10
    clear hM11 hb11 HM10 HP10 HW10 HB10
    go_wp2_with fail
    refine (equalE_any (some ⟨b10, 0, none⟩) A11 n n c11 (fun _ => len) (wrd k D) w11 (by omega) (fun _ _ => by omega) HP11.out HX11.out).mono ?_
    rintro e w8 ⟨rfl, hd⟩
    have HBX := Lib.hid (HB7.out.trans ((hd.below' HB11.out).mono HB7.out.size))
    have HM8 := Lib.hid (ME.below HM11.out (hd.below _))
    have hE8 := (hd.cell _).trans hE11
    have hl811 := HB11.out.size
    have hlw8 : w.heap.size < w8.heap.size := by have := (hd.below w11.heap.size).size; omega
    have HPW := Lib.hid (HPk.out.below HBX.out)
    clear hd HM11 HP11 HX11 HB11 hE9 hE10 hE11 HDA HB7 hl79 hl710 hl811
    go_wp2_with fail
    refine (places_any Pk np cP n m pi w8 (by omega) (by omega) (by omega) hnp HPW.out).mono ?_
    rintro e w12 ⟨pb, P, rfl, hPb, hcnt, hpb, hb12⟩
    have HB12 := Lib.hid (HBX.out.trans (hb12.mono HBX.out.size))
    have HPB := Lib.hid hPb
    have HM12 := Lib.hid (ME.below HM8.out hb12)
    have HQ : Hid (k ≤ cntB (fun i => !P i) n) := by have := cntB_not P n; show k ≤ _; omega
    have hpl := hPb.lt
    clear hPb hcnt hb12 HBX HM8 HPW hE8
    go_wp2
    go_loopg [12, 14] (n + 1) (fun gk vo v wr => ∃ (i cnt : Nat) (a : Nat → Nat), i ≤ n ∧ gk = n + 1 - i ∧ v = .int .i64 i ∧ Own wr w12.heap.size 3 1 vo cnt (fun t => [.int .i64 (a t : Nat)]) ∧ (cnt = cntB (fun i => !P i) i ∧ cnt ≤ k ∧ (∀ t, t < cnt → a t < i) ∧ ∀ s t, s < t → t < cnt → a s < a t) ∧ Below w12.heap.size w12 wr)
    case atStart => exact ⟨0, 0, fun t => t, Nat.zero_le _, rfl, rfl, Own.nil _ _ _ _ _, ⟨rfl, Nat.zero_le _, fun t ht => absurd ht (by omega), fun s t _ ht => absurd ht (by omega)⟩, Below.refl _ _⟩
    case round =>
      obtain ⟨i, cnt, a, hi, rfl, rfl, hO, ⟨hc, hck, ha, hs⟩, hb⟩ := hrel
      have HO := Lib.hid hO; have HB := Lib.hid hb; have HA' := Lib.hid ha; have HS := Lib.hid hs; have HCC := Lib.hid hc
      have hsz := hb.size
      obtain ⟨Ao, co, rfl, _, _, hRo, _⟩ := hO.rd
      have HRo := Lib.hid hRo
      clear hO hb ha hs hc hRo
      by_cases hgo : i < n ∧ cnt < k
      · obtain ⟨hlt, hlk⟩ := hgo
        have hcp : wr.cell? ⟨pb, i, none⟩ = some (.bool (P i)) := (HB.out.cell (p := ⟨pb, i, none⟩) hpl).trans (HPB.out.cell hlt)
        cases hPi : P i
        · have HC2 : Hid (cnt + 1 = cntB (fun i => !P i) (i + 1)) := by
            show _ = cntB (fun i => !P i) i + (if (!P i) = true then 1 else 0)
            rw [hPi, ← HCC.out]; rfl
          have hownB : Own wr w12.heap.size 3 1 (.slice Ao cnt co) cnt (fun t => [.int .i64 ((if t = cnt then i else a t : Nat) : Int)]) := HO.out.congr fun t ht => by rw [if_neg (by omega)]
          have hu : Hid ((#[Value.int .i64 (i : Nat)] : Array Value).toList = [.int .i64 ((if cnt = cnt then i else a cnt : Nat) : Int)]) := by rw [if_pos rfl]; rfl
          have HOB := Lib.hid hownB
          rw [hPi] at hcp
          clear hPi hownB HRo HO HCC
          go_wp2_with (at_builtin; refine wpList_push _ rfl (.tmp 119) (.tmp 121) 40 rfl w12.heap.size 3 1 8 (.int .i64 0) #[.int .i64 (i : Nat)] Try.underlying40 intInfo rfl (by decide) _ cnt _ rfl HOB.out hsz _ rfl rfl hu.out rfl rfl (by omega) (by omega) ?_)
          intro v' w' hown2 hbel2 _ _
          have HB2 := Lib.hid (HB.out.trans hbel2)
          have HO2 := Lib.hid hown2
          clear hown2 hbel2 HOB hu hcp HB
          go_wp2
          go_roundg (n + 1 - (i + 1))
          case measure => omega
          case rel => exact ⟨i + 1, cnt + 1, _, by omega, rfl, by go_num, HO2.out, ⟨HC2.out, by omega, fun t ht => by
              show (if t = cnt then i else a t) < i + 1
              split
              · omega
              · have := HA'.out t (by omega); omega, fun s t hst ht => by
              show (if s = cnt then i else a s) < (if t = cnt then i else a t)
              rw [if_neg (by omega)]
              split
              · exact HA'.out s (by omega)
              · exact HS.out s t hst (by omega)⟩, HB2.out⟩
        · have HC2 : Hid (cnt = cntB (fun i => !P i) (i + 1)) := by
            show _ = cntB (fun i => !P i) i + (if (!P i) = true then 1 else 0)
            rw [hPi, ← HCC.out]; rfl
          rw [hPi] at hcp
          clear hPi HRo HCC
          go_wp2
          go_roundg (n + 1 - (i + 1))
          case measure => omega
          case rel => exact ⟨i + 1, cnt, a, by omega, rfl, by go_num, HO.out, ⟨HC2.out, hck, fun t ht => by have := HA'.out t ht; omega, HS.out⟩, HB.out⟩
      · have hcnt : cnt = k := by
          rcases Nat.lt_or_ge i n with h | h
          · omega
          · have e : i = n := by omega
            have := HQ.out
            have := HCC.out
            rw [e] at this
            omega
        subst hcnt
        have HAn : Hid (∀ t, t < cnt → a t < n) := fun t ht => by have := HA'.out t ht; omega
        have HINJ : Hid (∀ s t, s < cnt → t < cnt → a s = a t → s = t) := fun s t hs ht e => by
          rcases Nat.lt_trichotomy s t with h | h | h
          · have := HS.out s t h ht; omega
          · exact h
          · have := HS.out t s h hs; omega
        have HFREE : Hid (gE.Free cnt cnt (fun t => gE.cM el cnt (a t))) := Fd.cM_free (n := n) hnk (fun x y hx hy e => el_inj (by omega) (by omega) e) HAn.out HINJ.out
        have HM13 := Lib.hid (ME.below HM12.out HB.out)
        have HB13 := Lib.hid (HB12.out.trans (HB.out.mono HB12.out.size))
        have t3 : decide ((cnt : Int) < (cnt : Int)) = false := by simp
        clear hgo HCC HQ HB HA' HS HINJ HPB hpl HM12 HB12
        by_cases hin : i < n
        · have t4 : (i : Int) < (n : Int) := by omega
          clear hin
          go_wp2_with fail
          refine (rowsE_ok A5 Ao n cnt c5 co (fun _ => cnt) (fun i j => (gE.cM el cnt i j).val) a wr (fault_none (by omega) (fun _ _ => by omega) fun _ _ => rfl) (by omega) HM13.out HRo.out HAn.out).mono ?_
          rintro e w14 ⟨A14, c14, rfl, hM14, hb14⟩
          have HB14 := Lib.hid (HB13.out.trans (hb14.mono HB13.out.size))
          have HM14 := Lib.hid hM14
          have hfl : faultE cnt (fun _ => cnt) = 0 := fault_none (by omega) (fun _ _ => by omega) fun _ _ => rfl
          have hcn : colsN cnt (fun _ => cnt) = cnt := by unfold colsN; rw [if_neg (by omega)]
          have HFL := Lib.hid hfl; have HCN := Lib.hid hcn
          clear hM14 hb14 HM13 HB13 HRo HO hfl hcn
          go_wp2_with fail
          refine (invE_any A14 cnt c14 (fun _ => cnt) (fun t => gE.cM el cnt (a t)) w14 (by omega) (fun _ _ => by omega) HM14.out).mono ?_
          rintro e w15 ⟨er, X, Av, cv, rfl, hI, hb15, _⟩
          have he : er = 0 := by
            rcases hI with ⟨h, _⟩ | ⟨_, h, _⟩ | ⟨_, _, h, _⟩ | ⟨_, _, h, _⟩
            · exact absurd HFL.out h
            · exact absurd HCN.out h
            · exact absurd HFREE.out h
            · exact h
          subst he
          have HB15 := Lib.hid (HB14.out.trans (hb15.mono HB14.out.size))
          have HM15 := Lib.hid (ME.below HM14.out hb15)
          have CR := Lib.hid (rankE_any A14 cnt c14 (fun _ => cnt) (fun t => gE.cM el cnt (a t)) w15 (by omega) (fun _ _ => by omega) HM15.out)
          rw [HFL.out, HCN.out] at CR
          clear hI hb15 HM14 HM15 HB14
          rw [if_pos rfl]
          go_wp2_with fail
          refine CR.out.mono ?_
          rintro e w16 ⟨st, rfl, hb16, _, hst⟩
          obtain ⟨G', p', hRR⟩ := hst trivial
          have he : st = cnt := (hRR.full_iff (Nat.le_refl _)).2 HFREE.out
          subst he
          have HB16 := Lib.hid (HB15.out.trans (hb16.mono HB15.out.size))
          clear hst hRR hb16 HFREE CR
          go_wp2
          go_ret
          exact ⟨rfl, HB16.out⟩
        · have t4 : ¬ ((i : Int) < (n : Int)) := by omega
          clear hin
          go_wp2_with fail
          refine (rowsE_ok A5 Ao n cnt c5 co (fun _ => cnt) (fun i j => (gE.cM el cnt i j).val) a wr (fault_none (by omega) (fun _ _ => by omega) fun _ _ => rfl) (by omega) HM13.out HRo.out HAn.out).mono ?_
          rintro e w14 ⟨A14, c14, rfl, hM14, hb14⟩
          have HB14 := Lib.hid (HB13.out.trans (hb14.mono HB13.out.size))
          have HM14 := Lib.hid hM14
          have hfl : faultE cnt (fun _ => cnt) = 0 := fault_none (by omega) (fun _ _ => by omega) fun _ _ => rfl
          have hcn : colsN cnt (fun _ => cnt) = cnt := by unfold colsN; rw [if_neg (by omega)]
          have HFL := Lib.hid hfl; have HCN := Lib.hid hcn
          clear hM14 hb14 HM13 HB13 HRo HO hfl hcn
          go_wp2_with fail
          refine (invE_any A14 cnt c14 (fun _ => cnt) (fun t => gE.cM el cnt (a t)) w14 (by omega) (fun _ _ => by omega) HM14.out).mono ?_
          rintro e w15 ⟨er, X, Av, cv, rfl, hI, hb15, _⟩
          have he : er = 0 := by
            rcases hI with ⟨h, _⟩ | ⟨_, h, _⟩ | ⟨_, _, h, _⟩ | ⟨_, _, h, _⟩
            · exact absurd HFL.out h
            · exact absurd HCN.out h
            · exact absurd HFREE.out h
            · exact h
          subst he
          have HB15 := Lib.hid (HB14.out.trans (hb15.mono HB14.out.size))
          have HM15 := Lib.hid (ME.below HM14.out hb15)
          have CR := Lib.hid (rankE_any A14 cnt c14 (fun _ => cnt) (fun t => gE.cM el cnt (a t)) w15 (by omega) (fun _ _ => by omega) HM15.out)
          rw [HFL.out, HCN.out] at CR
          clear hI hb15 HM14 HM15 HB14
          rw [if_pos rfl]
          go_wp2_with fail
          refine CR.out.mono ?_
          rintro e w16 ⟨st, rfl, hb16, _, hst⟩
          obtain ⟨G', p', hRR⟩ := hst trivial
          have he : st = cnt := (hRR.full_iff (Nat.le_refl _)).2 HFREE.out
          subst he
          have HB16 := Lib.hid (HB15.out.trans (hb16.mono HB15.out.size))
          clear hst hRR hb16 HFREE CR
          go_wp2
          go_ret
          exact ⟨rfl, HB16.out⟩
theorem lawMtx (K M : Int) (A Pk : Option Addr) (nb cA np cP : Nat) (f : Nat → Nat) (pi : Nat → Int) (w : World)
    (hA : Rd w A nb fun i => .int .u8 (f i : Nat)) (hn : nb ≤ 140737488351232) (hcA : nb ≤ cA) (hf : ∀ i, i < nb → f i < 256) (hP : Rd w Pk np fun i => .int .i64 (pi i)) (hnp : np * 8 ≤ 140737488351232) :
    Calls Try.prog 12 #[.agg #[.int .i64 K, .int .i64 M, .slice A nb cA, .slice Pk np cP]] w fun e w' => e = .returned (.bool true) ∧ Below w.heap.size w w' := by
  by_cases hle : nb ≤ 255 * (1 + pickN K 24)
  · exact lawMtx_a K M A Pk nb cA np cP f pi w hA hn hcA hf hP hnp _ _ rfl rfl hle
  · exact lawMtx_b K M A Pk nb cA np cP f pi w hA hn hcA hf hP hnp _ _ rfl rfl (by omega)
end Go.Proofs.Ythodpgkelmalmaa
