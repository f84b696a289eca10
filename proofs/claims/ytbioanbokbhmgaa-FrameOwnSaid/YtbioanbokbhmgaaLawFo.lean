/- FrameOwn: the law's walk, whatever the bytes. Conditions: bytes that memory bears. -/
import Derived.Test.YtbioanbokbhmgaaFoW
import Derived.Deep.CutRange
namespace Go.Proofs.Ytbioanbokbhmgaa
open Go.RowKit

set_option maxRecDepth 100000 in
set_option maxHeartbeats 16000000 in
theorem lawFo (A : Option Addr) (c : Nat) (b : List Nat) (Ao : Option Addr) (co : Nat) (o : List Nat) (w : World) (hx : ∀ x ∈ b, x < 256) (hbl : b.length ≤ 140737488351232) (hbc : b.length ≤ c) (hc : c ≤ maxLen) (hA : RL w A b) (hxo : ∀ x ∈ o, x < 256) (hol : o.length ≤ 140737488351232) (hoc : o.length ≤ co) (hco : co ≤ maxLen) (hAo : RL w Ao o) :
    Calls Try.prog 13 #[.slice A b.length c, .slice Ao o.length co] w fun e w' => e = .returned (.bool true) ∧ Below w.heap.size w w' := by
  have HX := Lib.hid hx
  have HXo := Lib.hid hxo
  have BA := Lib.hid hA
  have BAo := Lib.hid hAo
  have HF := Lib.hid (Below.refl w.heap.size w)
  obtain ⟨H, hH⟩ : ∃ H, H = rdH b := ⟨_, rfl⟩
  obtain ⟨er, her⟩ : ∃ er, er = headE b := ⟨_, rfl⟩
  obtain ⟨P, hP⟩ : ∃ P, P = prsH b := ⟨_, rfl⟩
  obtain ⟨pe, hpe⟩ : ∃ pe, pe = prsE b := ⟨_, rfl⟩
  obtain ⟨np, hnp⟩ : ∃ np, np = (prsB b).length := ⟨_, rfl⟩
  obtain ⟨ns, hns⟩ : ∃ ns, ns = (sptL b).length := ⟨_, rfl⟩
  obtain ⟨Po, hPo⟩ : ∃ Po, Po = prsH o := ⟨_, rfl⟩
  obtain ⟨peo, hpeo⟩ : ∃ peo, peo = prsE o := ⟨_, rfl⟩
  obtain ⟨npo, hnpo⟩ : ∃ npo, npo = (prsB o).length := ⟨_, rfl⟩
  obtain ⟨ero, hero⟩ : ∃ ero, ero = headE o := ⟨_, rfl⟩
  obtain ⟨nso, hnso⟩ : ∃ nso, nso = (sptL o).length := ⟨_, rfl⟩
  obtain ⟨nz, hnz⟩ : ∃ nz, nz = sizeN P.K P.M P.B P.size := ⟨_, rfl⟩
  have hnp4 : np ≤ 4096 := by rw [hnp]; exact prsB_len b
  have hns4 : ns ≤ 4096 := by rw [hns]; exact sptL_len b
  have hnpo4 : npo ≤ 4096 := by rw [hnpo]; exact prsB_len o
  have hnso4 : nso ≤ 4096 := by rw [hnso]; exact sptL_len o
  have hnz4 : nz ≤ 4096 := by rw [hnz]; exact sizeN_le _ _ _ _
  have HPW := Lib.hid (show HdW P by rw [hP]; exact prsH_wf hx)
  have HPB := Lib.hid (show HdB P by rw [hP]; exact prsH_bytes hx)
  have HHW := Lib.hid (show HdW H by rw [hH]; exact rdH_wf hx)
  have HLB := Lib.hid (fun l (hl : l ∈ prsB b) => Nat.le_trans (prsB_short l hl) hbl)
  obtain ⟨ee, q, hen, hql, hm⟩ := fo_modes hx hbl
  have HEN := Lib.hid (fun e l (hE : EncP P (prsB b) e l) => (show e = ee ∧ l = q from by rw [hP] at hE; exact hen e l hE))
  have HMODE := Lib.hid (show (pe = 0 ∧ er = 0 ∧ H = P ∧ ee = 0 ∧ q = b) ∨ (pe = er ∧ ¬ er = 0 ∧ H = P) ∨ (¬ pe = 0 ∧ er = 0 ∧ ¬ H = P) from by rw [hpe, her, hH, hP]; exact hm)
  obtain ⟨nq, hnq⟩ : ∃ nq, nq = q.length := ⟨_, rfl⟩
  have hnql : nq ≤ 140737488351232 := by rw [hnq]; exact hql
  clear hen hql hm
  have hnn : ∀ x : Int, (x != x) = false := fun x => by simp
  have hpp := hnn pe
  have HP := Lib.hid hP; have HPE := Lib.hid hpe; have HNP := Lib.hid hnp; have HNS := Lib.hid hns; have HH := Lib.hid hH; have HER := Lib.hid her
  have HPo := Lib.hid hPo; have HPEo := Lib.hid hpeo; have HNPo := Lib.hid hnpo; have HNSo := Lib.hid hnso; have HERo := Lib.hid hero; have HNZ := Lib.hid hnz; have HNQ := Lib.hid hnq
  clear hx hxo hA hAo hP hpe hnp hns hH her hPo hpeo hnpo hnso hero hnz hnq hnn
  go_enter Try.func13, Try.ntmps13
  go_wp2_with fail
  refine (awake_any w).mono ?_
  rintro e w1 ⟨rfl, hb⟩
  replace HF := Lib.hid (HF.out.trans (hb.mono HF.out.size))
  have HV1 := Lib.hid hb
  clear hb
  go_wp2_with fail
  refine (lent_any A c b _ hbl (RL.below BA.out HF.out)).mono ?_
  rintro e w2 ⟨Si, Ci, rfl, hO, hb⟩
  replace HF := Lib.hid (HF.out.trans (hb.mono HF.out.size))
  have HV2 := Lib.hid hb
  have HIN := Lib.hid hO
  have hcap : b.length ≤ Ci := by have := lent_cap hO (by rw [mk8_length]; omega); omega
  have hCm : Ci ≤ maxLen := by
    obtain ⟨_, c', e', _, hm, _, _⟩ := hO.rd
    injection e' with _ _ e'
    rw [e']
    exact hm
  have hSi := hO.own.lt Si rfl
  clear hO
  clear hb
  go_wp2_with fail
  refine (prs_named HP.out HPE.out HNP.out HX.out hbl rfl (some ⟨Si, 0, none⟩) Ci w2 hcap hCm (lent_rl HIN.out)).mono ?_
  rintro e w3 ⟨A7, c7, R7, rfl, hO, hl, hR, ha, hn, hb⟩
  replace HF := Lib.hid (HF.out.trans (hb.mono HF.out.size))
  replace HIN := Lib.hid (HIN.out.kept hb)
  have HV3 := Lib.hid hb
  have HO7 := Lib.hid hO
  have HR7 := Lib.hid hR
  have HA7 := Lib.hid ha
  have HT7 := Lib.hid (OwnR.ar hR hl.symm)
  have HL7 := Lib.hid hl
  have HN7 := Lib.hid hn
  clear hO hR ha hl hn
  clear hb
  go_wp2_with (refine wpList_storeNewS rfl (.tmp 7) (.tmp 61) rfl #[.int .u8 P.s0, .int .u8 P.s1, .int .u8 P.s2, .int .u8 P.s3, .int .u8 P.s4, .int .u8 P.s5, .int .u8 P.s6, .int .u8 P.s7, .int .i64 P.K, .int .i64 P.M, .int .i64 P.B, .string P.key, .int .i64 P.size, .int .i64 P.idx, .int .i64 P.ep, .int .i64 P.ct, .slice A7 np c7] rfl rfl rfl rfl rfl ?_; have hbn := (Below.refl w3.heap.size w3).alloc (Nat.le_refl _) (.cells #[.int .u8 P.s0, .int .u8 P.s1, .int .u8 P.s2, .int .u8 P.s3, .int .u8 P.s4, .int .u8 P.s5, .int .u8 P.s6, .int .u8 P.s7, .int .i64 P.K, .int .i64 P.M, .int .i64 P.B, .string P.key, .int .i64 P.size, .int .i64 P.idx, .int .i64 P.ep, .int .i64 P.ct, .slice A7 np c7] 46); replace HF := Lib.hid (HF.out.trans (hbn.mono HF.out.size)); replace HIN := Lib.hid (HIN.out.kept hbn); have HV4 := Lib.hid hbn; have HG7 := Lib.hid ((Array.getElem?_eq_some_iff.1 (heap_alloc_new w3 (.cells #[.int .u8 P.s0, .int .u8 P.s1, .int .u8 P.s2, .int .u8 P.s3, .int .u8 P.s4, .int .u8 P.s5, .int .u8 P.s6, .int .u8 P.s7, .int .i64 P.K, .int .i64 P.M, .int .i64 P.B, .string P.key, .int .i64 P.size, .int .i64 P.idx, .int .i64 P.ep, .int .i64 P.ct, .slice A7 np c7] 46))).1); have HZ7 := Lib.hid (heap_alloc_new w3 (.cells #[.int .u8 P.s0, .int .u8 P.s1, .int .u8 P.s2, .int .u8 P.s3, .int .u8 P.s4, .int .u8 P.s5, .int .u8 P.s6, .int .u8 P.s7, .int .i64 P.K, .int .i64 P.M, .int .i64 P.B, .string P.key, .int .i64 P.size, .int .i64 P.idx, .int .i64 P.ep, .int .i64 P.ct, .slice A7 np c7] 46)); clear hbn; generalize w3.alloc (.cells #[.int .u8 P.s0, .int .u8 P.s1, .int .u8 P.s2, .int .u8 P.s3, .int .u8 P.s4, .int .u8 P.s5, .int .u8 P.s6, .int .u8 P.s7, .int .i64 P.K, .int .i64 P.M, .int .i64 P.B, .string P.key, .int .i64 P.size, .int .i64 P.idx, .int .i64 P.ep, .int .i64 P.ct, .slice A7 np c7] 46) = w4 at *)
  go_wp2_with fail
  refine (prs_named HP.out HPE.out HNP.out HX.out hbl rfl (some ⟨Si, 0, none⟩) Ci w4 hcap hCm (lent_rl HIN.out)).mono ?_
  rintro e w5 ⟨A9, c9, R9, rfl, hO, hl, hR, ha, hn, hb⟩
  replace HF := Lib.hid (HF.out.trans (hb.mono HF.out.size))
  replace HIN := Lib.hid (HIN.out.kept hb)
  have HV5 := Lib.hid hb
  have HO9 := Lib.hid hO
  have HR9 := Lib.hid hR
  have HA9 := Lib.hid ha
  have HT9 := Lib.hid (OwnR.ar hR hl.symm)
  have HL9 := Lib.hid hl
  have HN9 := Lib.hid hn
  clear hO hR ha hl hn
  clear hb
  go_wp2_with (refine wpList_storeNewS rfl (.tmp 9) (.tmp 66) rfl #[.int .u8 P.s0, .int .u8 P.s1, .int .u8 P.s2, .int .u8 P.s3, .int .u8 P.s4, .int .u8 P.s5, .int .u8 P.s6, .int .u8 P.s7, .int .i64 P.K, .int .i64 P.M, .int .i64 P.B, .string P.key, .int .i64 P.size, .int .i64 P.idx, .int .i64 P.ep, .int .i64 P.ct, .slice A9 np c9] rfl rfl rfl rfl rfl ?_; have hbn := (Below.refl w5.heap.size w5).alloc (Nat.le_refl _) (.cells #[.int .u8 P.s0, .int .u8 P.s1, .int .u8 P.s2, .int .u8 P.s3, .int .u8 P.s4, .int .u8 P.s5, .int .u8 P.s6, .int .u8 P.s7, .int .i64 P.K, .int .i64 P.M, .int .i64 P.B, .string P.key, .int .i64 P.size, .int .i64 P.idx, .int .i64 P.ep, .int .i64 P.ct, .slice A9 np c9] 46); replace HF := Lib.hid (HF.out.trans (hbn.mono HF.out.size)); replace HIN := Lib.hid (HIN.out.kept hbn); have HV6 := Lib.hid hbn; have HG9 := Lib.hid ((Array.getElem?_eq_some_iff.1 (heap_alloc_new w5 (.cells #[.int .u8 P.s0, .int .u8 P.s1, .int .u8 P.s2, .int .u8 P.s3, .int .u8 P.s4, .int .u8 P.s5, .int .u8 P.s6, .int .u8 P.s7, .int .i64 P.K, .int .i64 P.M, .int .i64 P.B, .string P.key, .int .i64 P.size, .int .i64 P.idx, .int .i64 P.ep, .int .i64 P.ct, .slice A9 np c9] 46))).1); have HZ9 := Lib.hid (heap_alloc_new w5 (.cells #[.int .u8 P.s0, .int .u8 P.s1, .int .u8 P.s2, .int .u8 P.s3, .int .u8 P.s4, .int .u8 P.s5, .int .u8 P.s6, .int .u8 P.s7, .int .i64 P.K, .int .i64 P.M, .int .i64 P.B, .string P.key, .int .i64 P.size, .int .i64 P.idx, .int .i64 P.ep, .int .i64 P.ct, .slice A9 np c9] 46)); clear hbn; generalize w5.alloc (.cells #[.int .u8 P.s0, .int .u8 P.s1, .int .u8 P.s2, .int .u8 P.s3, .int .u8 P.s4, .int .u8 P.s5, .int .u8 P.s6, .int .u8 P.s7, .int .i64 P.K, .int .i64 P.M, .int .i64 P.B, .string P.key, .int .i64 P.size, .int .i64 P.idx, .int .i64 P.ep, .int .i64 P.ct, .slice A9 np c9] 46) = w6 at *)
  go_wp2_with fail
  refine (prs_named HPo.out HPEo.out HNPo.out HXo.out hol rfl Ao co w6 hoc hco (RL.below BAo.out HF.out)).mono ?_
  rintro e w7 ⟨A11, c11, R11, rfl, hO, hl, hR, ha, hn, hb⟩
  replace HF := Lib.hid (HF.out.trans (hb.mono HF.out.size))
  replace HIN := Lib.hid (HIN.out.kept hb)
  have HV7 := Lib.hid hb
  have HO11 := Lib.hid hO
  have HR11 := Lib.hid hR
  have HA11 := Lib.hid ha
  have HT11 := Lib.hid (OwnR.ar hR hl.symm)
  have HL11 := Lib.hid hl
  have HN11 := Lib.hid hn
  clear hO hR ha hl hn
  clear hb
  go_wp2_with (refine wpList_storeNewS rfl (.tmp 11) (.tmp 71) rfl #[.int .u8 Po.s0, .int .u8 Po.s1, .int .u8 Po.s2, .int .u8 Po.s3, .int .u8 Po.s4, .int .u8 Po.s5, .int .u8 Po.s6, .int .u8 Po.s7, .int .i64 Po.K, .int .i64 Po.M, .int .i64 Po.B, .string Po.key, .int .i64 Po.size, .int .i64 Po.idx, .int .i64 Po.ep, .int .i64 Po.ct, .slice A11 npo c11] rfl rfl rfl rfl rfl ?_; have hbn := (Below.refl w7.heap.size w7).alloc (Nat.le_refl _) (.cells #[.int .u8 Po.s0, .int .u8 Po.s1, .int .u8 Po.s2, .int .u8 Po.s3, .int .u8 Po.s4, .int .u8 Po.s5, .int .u8 Po.s6, .int .u8 Po.s7, .int .i64 Po.K, .int .i64 Po.M, .int .i64 Po.B, .string Po.key, .int .i64 Po.size, .int .i64 Po.idx, .int .i64 Po.ep, .int .i64 Po.ct, .slice A11 npo c11] 46); replace HF := Lib.hid (HF.out.trans (hbn.mono HF.out.size)); replace HIN := Lib.hid (HIN.out.kept hbn); have HV8 := Lib.hid hbn; have HG11 := Lib.hid ((Array.getElem?_eq_some_iff.1 (heap_alloc_new w7 (.cells #[.int .u8 Po.s0, .int .u8 Po.s1, .int .u8 Po.s2, .int .u8 Po.s3, .int .u8 Po.s4, .int .u8 Po.s5, .int .u8 Po.s6, .int .u8 Po.s7, .int .i64 Po.K, .int .i64 Po.M, .int .i64 Po.B, .string Po.key, .int .i64 Po.size, .int .i64 Po.idx, .int .i64 Po.ep, .int .i64 Po.ct, .slice A11 npo c11] 46))).1); have HZ11 := Lib.hid (heap_alloc_new w7 (.cells #[.int .u8 Po.s0, .int .u8 Po.s1, .int .u8 Po.s2, .int .u8 Po.s3, .int .u8 Po.s4, .int .u8 Po.s5, .int .u8 Po.s6, .int .u8 Po.s7, .int .i64 Po.K, .int .i64 Po.M, .int .i64 Po.B, .string Po.key, .int .i64 Po.size, .int .i64 Po.idx, .int .i64 Po.ep, .int .i64 Po.ct, .slice A11 npo c11] 46)); clear hbn; generalize w7.alloc (.cells #[.int .u8 Po.s0, .int .u8 Po.s1, .int .u8 Po.s2, .int .u8 Po.s3, .int .u8 Po.s4, .int .u8 Po.s5, .int .u8 Po.s6, .int .u8 Po.s7, .int .i64 Po.K, .int .i64 Po.M, .int .i64 Po.B, .string Po.key, .int .i64 Po.size, .int .i64 Po.idx, .int .i64 Po.ep, .int .i64 Po.ct, .slice A11 npo c11] 46) = w8 at *)
  go_wp2_with fail
  refine (prs_named HP.out HPE.out HNP.out HX.out hbl rfl (some ⟨Si, 0, none⟩) Ci w8 hcap hCm (lent_rl HIN.out)).mono ?_
  rintro e w9 ⟨A13, c13, R13, rfl, hO, hl, hR, ha, hn, hb⟩
  replace HF := Lib.hid (HF.out.trans (hb.mono HF.out.size))
  replace HIN := Lib.hid (HIN.out.kept hb)
  have HV9 := Lib.hid hb
  have HO13 := Lib.hid hO
  have HR13 := Lib.hid hR
  have HA13 := Lib.hid ha
  have HT13 := Lib.hid (OwnR.ar hR hl.symm)
  have HL13 := Lib.hid hl
  have HN13 := Lib.hid hn
  clear hO hR ha hl hn
  clear hb
  go_wp2_with (refine wpList_storeNewS rfl (.tmp 13) (.tmp 76) rfl #[.int .u8 P.s0, .int .u8 P.s1, .int .u8 P.s2, .int .u8 P.s3, .int .u8 P.s4, .int .u8 P.s5, .int .u8 P.s6, .int .u8 P.s7, .int .i64 P.K, .int .i64 P.M, .int .i64 P.B, .string P.key, .int .i64 P.size, .int .i64 P.idx, .int .i64 P.ep, .int .i64 P.ct, .slice A13 np c13] rfl rfl rfl rfl rfl ?_; have hbn := (Below.refl w9.heap.size w9).alloc (Nat.le_refl _) (.cells #[.int .u8 P.s0, .int .u8 P.s1, .int .u8 P.s2, .int .u8 P.s3, .int .u8 P.s4, .int .u8 P.s5, .int .u8 P.s6, .int .u8 P.s7, .int .i64 P.K, .int .i64 P.M, .int .i64 P.B, .string P.key, .int .i64 P.size, .int .i64 P.idx, .int .i64 P.ep, .int .i64 P.ct, .slice A13 np c13] 46); replace HF := Lib.hid (HF.out.trans (hbn.mono HF.out.size)); replace HIN := Lib.hid (HIN.out.kept hbn); have HV10 := Lib.hid hbn; have HG13 := Lib.hid ((Array.getElem?_eq_some_iff.1 (heap_alloc_new w9 (.cells #[.int .u8 P.s0, .int .u8 P.s1, .int .u8 P.s2, .int .u8 P.s3, .int .u8 P.s4, .int .u8 P.s5, .int .u8 P.s6, .int .u8 P.s7, .int .i64 P.K, .int .i64 P.M, .int .i64 P.B, .string P.key, .int .i64 P.size, .int .i64 P.idx, .int .i64 P.ep, .int .i64 P.ct, .slice A13 np c13] 46))).1); have HZ13 := Lib.hid (heap_alloc_new w9 (.cells #[.int .u8 P.s0, .int .u8 P.s1, .int .u8 P.s2, .int .u8 P.s3, .int .u8 P.s4, .int .u8 P.s5, .int .u8 P.s6, .int .u8 P.s7, .int .i64 P.K, .int .i64 P.M, .int .i64 P.B, .string P.key, .int .i64 P.size, .int .i64 P.idx, .int .i64 P.ep, .int .i64 P.ct, .slice A13 np c13] 46)); clear hbn; generalize w9.alloc (.cells #[.int .u8 P.s0, .int .u8 P.s1, .int .u8 P.s2, .int .u8 P.s3, .int .u8 P.s4, .int .u8 P.s5, .int .u8 P.s6, .int .u8 P.s7, .int .i64 P.K, .int .i64 P.M, .int .i64 P.B, .string P.key, .int .i64 P.size, .int .i64 P.idx, .int .i64 P.ep, .int .i64 P.ct, .slice A13 np c13] 46) = w10 at *)
  go_wp2_with fail
  refine (spt_named HER.out HNS.out HX.out hbl rfl (some ⟨Si, 0, none⟩) Ci w10 hcap hCm (lent_rl HIN.out)).mono ?_
  rintro e w11 ⟨A15, c15, rfl, hO, hb⟩
  replace HF := Lib.hid (HF.out.trans (hb.mono HF.out.size))
  replace HIN := Lib.hid (HIN.out.kept hb)
  have HV11 := Lib.hid hb
  have HI15 := Lib.hid hO
  have HQ15 := Lib.hid (OwnI.ar hO HNS.out)
  clear hO
  clear hb
  go_wp2_with fail
  refine (spt_named HER.out HNS.out HX.out hbl rfl (some ⟨Si, 0, none⟩) Ci w11 hcap hCm (lent_rl HIN.out)).mono ?_
  rintro e w12 ⟨A17, c17, rfl, hO, hb⟩
  replace HF := Lib.hid (HF.out.trans (hb.mono HF.out.size))
  replace HIN := Lib.hid (HIN.out.kept hb)
  have HV12 := Lib.hid hb
  have HI17 := Lib.hid hO
  have HQ17 := Lib.hid (OwnI.ar hO HNS.out)
  clear hO
  clear hb
  go_wp2_with fail
  refine (spt_named HERo.out HNSo.out HXo.out hol rfl Ao co w12 hoc hco (RL.below BAo.out HF.out)).mono ?_
  rintro e w13 ⟨A19, c19, rfl, hO, hb⟩
  replace HF := Lib.hid (HF.out.trans (hb.mono HF.out.size))
  replace HIN := Lib.hid (HIN.out.kept hb)
  have HV13 := Lib.hid hb
  have HI19 := Lib.hid hO
  have HQ19 := Lib.hid (OwnI.ar hO HNSo.out)
  clear hO
  clear hb
  go_wp2_with fail
  refine (spt_named HER.out HNS.out HX.out hbl rfl (some ⟨Si, 0, none⟩) Ci w13 hcap hCm (lent_rl HIN.out)).mono ?_
  rintro e w14 ⟨A21, c21, rfl, hO, hb⟩
  replace HF := Lib.hid (HF.out.trans (hb.mono HF.out.size))
  replace HIN := Lib.hid (HIN.out.kept hb)
  have HV14 := Lib.hid hb
  have HI21 := Lib.hid hO
  have HQ21 := Lib.hid (OwnI.ar hO HNS.out)
  clear hO
  clear hb
  go_wp2_with fail
  refine (ph_named HH.out HER.out HX.out hbl rfl (some ⟨Si, 0, none⟩) Ci w14 hcap hCm (lent_rl HIN.out)).mono ?_
  rintro e w15 ⟨rfl, hb⟩
  replace HF := Lib.hid (HF.out.trans (hb.mono HF.out.size))
  replace HIN := Lib.hid (HIN.out.kept hb)
  have HV15 := Lib.hid hb
  clear hb
  go_upto_region 14 with (refine wpList_storeNewH rfl (.tmp 23) (.tmp 101) rfl #[.int .u8 H.s0, .int .u8 H.s1, .int .u8 H.s2, .int .u8 H.s3, .int .u8 H.s4, .int .u8 H.s5, .int .u8 H.s6, .int .u8 H.s7, .int .i64 H.K, .int .i64 H.M, .int .i64 H.B, .string H.key, .int .i64 H.size, .int .i64 H.idx, .int .i64 H.ep, .int .i64 H.ct] rfl rfl rfl rfl rfl ?_; have hbn := (Below.refl w15.heap.size w15).alloc (Nat.le_refl _) (.cells #[.int .u8 H.s0, .int .u8 H.s1, .int .u8 H.s2, .int .u8 H.s3, .int .u8 H.s4, .int .u8 H.s5, .int .u8 H.s6, .int .u8 H.s7, .int .i64 H.K, .int .i64 H.M, .int .i64 H.B, .string H.key, .int .i64 H.size, .int .i64 H.idx, .int .i64 H.ep, .int .i64 H.ct] 28); replace HF := Lib.hid (HF.out.trans (hbn.mono HF.out.size)); replace HIN := Lib.hid (HIN.out.kept hbn); have HV16 := Lib.hid hbn; have HZ23 := Lib.hid (heap_alloc_new w15 (.cells #[.int .u8 H.s0, .int .u8 H.s1, .int .u8 H.s2, .int .u8 H.s3, .int .u8 H.s4, .int .u8 H.s5, .int .u8 H.s6, .int .u8 H.s7, .int .i64 H.K, .int .i64 H.M, .int .i64 H.B, .string H.key, .int .i64 H.size, .int .i64 H.idx, .int .i64 H.ep, .int .i64 H.ct] 28)); clear hbn; generalize w15.alloc (.cells #[.int .u8 H.s0, .int .u8 H.s1, .int .u8 H.s2, .int .u8 H.s3, .int .u8 H.s4, .int .u8 H.s5, .int .u8 H.s6, .int .u8 H.s7, .int .i64 H.K, .int .i64 H.M, .int .i64 H.B, .string H.key, .int .i64 H.size, .int .i64 H.idx, .int .i64 H.ep, .int .i64 H.ct] 28) = w16 at *)
  go_cut [127] from 103 to 127 (fun sl0 wc0 => sl0 = .bool false ∧ Below w16.heap.size w16 wc0)
  case first =>
    replace HI21 := Lib.hid (HI21.out.kept (HV15.out.trans (HV16.out.mono HV15.out.size)))
    replace HI15 := Lib.hid (HI15.out.kept (HV12.out.trans ((HV13.out.trans ((HV14.out.trans ((HV15.out.trans (HV16.out.mono HV15.out.size)).mono HV14.out.size)).mono HV13.out.size)).mono HV12.out.size)))
    go_wp2_with fail
    refine (sameInts_any A21 A15 ns c21 c15 (fun i => (((sptL b).getD i 0 : Nat) : Int)) w16 (by omega) (OwnI.rdn HI21.out HNS.out) (OwnI.rdn HI15.out HNS.out)).mono ?_
    rintro e w17 ⟨rfl, hd⟩
    have hb := hd.below w16.heap.size
    replace HF := Lib.hid (HF.out.trans (hb.mono HF.out.size))
    replace HIN := Lib.hid (HIN.out.kept hb)
    have HV17 := Lib.hid hb
    clear hb hd
    replace HZ7 := Lib.hid (((HV5.out.trans ((HV6.out.trans ((HV7.out.trans ((HV8.out.trans ((HV9.out.trans ((HV10.out.trans ((HV11.out.trans ((HV12.out.trans ((HV13.out.trans ((HV14.out.trans ((HV15.out.trans ((HV16.out.trans (HV17.out.mono HV16.out.size)).mono HV15.out.size)).mono HV14.out.size)).mono HV13.out.size)).mono HV12.out.size)).mono HV11.out.size)).mono HV10.out.size)).mono HV9.out.size)).mono HV8.out.size)).mono HV7.out.size)).mono HV6.out.size)).mono HV5.out.size)).block _ (Array.getElem?_eq_some_iff.1 HZ7.out).1).trans HZ7.out)
    replace HZ23 := Lib.hid ((HV17.out.block _ (Array.getElem?_eq_some_iff.1 HZ23.out).1).trans HZ23.out)
    have HC := Lib.hid HV17.out
    rcases HMODE.out with ⟨e1, e2, e3, -, -⟩ | ⟨e1, e2, e3⟩ | ⟨e1, e2, e3⟩
    · skip
      subst e1 e2
      replace e3 := e3.symm
      subst e3
      have hEQ := (head_eq HPW.out HPW.out w17).trans (by rw [(hdEq_iff P P).2 rfl])
      go_wp2_with (first | (refine wpList_bare rfl rfl rfl rfl ?_; refine wpList_loadFirst rfl 28 (.tmp 109) rfl (w3.heap.size) rfl #[.int .u8 P.s0, .int .u8 P.s1, .int .u8 P.s2, .int .u8 P.s3, .int .u8 P.s4, .int .u8 P.s5, .int .u8 P.s6, .int .u8 P.s7, .int .i64 P.K, .int .i64 P.M, .int .i64 P.B, .string P.key, .int .i64 P.size, .int .i64 P.idx, .int .i64 P.ep, .int .i64 P.ct] #[.int .u8 P.s0, .int .u8 P.s1, .int .u8 P.s2, .int .u8 P.s3, .int .u8 P.s4, .int .u8 P.s5, .int .u8 P.s6, .int .u8 P.s7, .int .i64 P.K, .int .i64 P.M, .int .i64 P.B, .string P.key, .int .i64 P.size, .int .i64 P.idx, .int .i64 P.ep, .int .i64 P.ct, .slice A7 np c7] 46 _ rfl HZ7.out Try.underlying28 rfl info_H ?_) | (refine wpList_bare rfl rfl rfl rfl ?_; refine wpList_loadH rfl (.tmp 23) rfl (w15.heap.size) rfl #[.int .u8 P.s0, .int .u8 P.s1, .int .u8 P.s2, .int .u8 P.s3, .int .u8 P.s4, .int .u8 P.s5, .int .u8 P.s6, .int .u8 P.s7, .int .i64 P.K, .int .i64 P.M, .int .i64 P.B, .string P.key, .int .i64 P.size, .int .i64 P.idx, .int .i64 P.ep, .int .i64 P.ct] rfl HZ23.out ?_) | (refine wpList_bare rfl rfl rfl rfl ?_; refine wpList_neqAgg rfl 28 (.tmp 108) (.tmp 110) rfl #[.int .u8 P.s0, .int .u8 P.s1, .int .u8 P.s2, .int .u8 P.s3, .int .u8 P.s4, .int .u8 P.s5, .int .u8 P.s6, .int .u8 P.s7, .int .i64 P.K, .int .i64 P.M, .int .i64 P.B, .string P.key, .int .i64 P.size, .int .i64 P.idx, .int .i64 P.ep, .int .i64 P.ct] #[.int .u8 P.s0, .int .u8 P.s1, .int .u8 P.s2, .int .u8 P.s3, .int .u8 P.s4, .int .u8 P.s5, .int .u8 P.s6, .int .u8 P.s7, .int .i64 P.K, .int .i64 P.M, .int .i64 P.B, .string P.key, .int .i64 P.size, .int .i64 P.idx, .int .i64 P.ep, .int .i64 P.ct] rfl rfl guard_H true hEQ ?_))
      clear hEQ
      refine (num_any _ w17).mono ?_
      rintro e wn ⟨rfl, rfl⟩
      go_wp2_with fail
      refine (num_any _ w17).mono ?_
      rintro e wn ⟨rfl, rfl⟩
      go_wp2_with fail
      go_meet
      exact ⟨rfl, HC.out⟩
    · skip
      subst e1
      have hne0 : (pe == 0) = false := by rw [beq_eq_false_iff_ne]; exact e2
      clear e2
      replace e3 := e3.symm
      subst e3
      have hEQ := (head_eq HPW.out HPW.out w17).trans (by rw [(hdEq_iff P P).2 rfl])
      go_wp2_with (first | (refine wpList_bare rfl rfl rfl rfl ?_; refine wpList_loadFirst rfl 28 (.tmp 109) rfl (w3.heap.size) rfl #[.int .u8 P.s0, .int .u8 P.s1, .int .u8 P.s2, .int .u8 P.s3, .int .u8 P.s4, .int .u8 P.s5, .int .u8 P.s6, .int .u8 P.s7, .int .i64 P.K, .int .i64 P.M, .int .i64 P.B, .string P.key, .int .i64 P.size, .int .i64 P.idx, .int .i64 P.ep, .int .i64 P.ct] #[.int .u8 P.s0, .int .u8 P.s1, .int .u8 P.s2, .int .u8 P.s3, .int .u8 P.s4, .int .u8 P.s5, .int .u8 P.s6, .int .u8 P.s7, .int .i64 P.K, .int .i64 P.M, .int .i64 P.B, .string P.key, .int .i64 P.size, .int .i64 P.idx, .int .i64 P.ep, .int .i64 P.ct, .slice A7 np c7] 46 _ rfl HZ7.out Try.underlying28 rfl info_H ?_) | (refine wpList_bare rfl rfl rfl rfl ?_; refine wpList_loadH rfl (.tmp 23) rfl (w15.heap.size) rfl #[.int .u8 P.s0, .int .u8 P.s1, .int .u8 P.s2, .int .u8 P.s3, .int .u8 P.s4, .int .u8 P.s5, .int .u8 P.s6, .int .u8 P.s7, .int .i64 P.K, .int .i64 P.M, .int .i64 P.B, .string P.key, .int .i64 P.size, .int .i64 P.idx, .int .i64 P.ep, .int .i64 P.ct] rfl HZ23.out ?_) | (refine wpList_bare rfl rfl rfl rfl ?_; refine wpList_neqAgg rfl 28 (.tmp 108) (.tmp 110) rfl #[.int .u8 P.s0, .int .u8 P.s1, .int .u8 P.s2, .int .u8 P.s3, .int .u8 P.s4, .int .u8 P.s5, .int .u8 P.s6, .int .u8 P.s7, .int .i64 P.K, .int .i64 P.M, .int .i64 P.B, .string P.key, .int .i64 P.size, .int .i64 P.idx, .int .i64 P.ep, .int .i64 P.ct] #[.int .u8 P.s0, .int .u8 P.s1, .int .u8 P.s2, .int .u8 P.s3, .int .u8 P.s4, .int .u8 P.s5, .int .u8 P.s6, .int .u8 P.s7, .int .i64 P.K, .int .i64 P.M, .int .i64 P.B, .string P.key, .int .i64 P.size, .int .i64 P.idx, .int .i64 P.ep, .int .i64 P.ct] rfl rfl guard_H true hEQ ?_))
      clear hEQ
      refine (num_any _ w17).mono ?_
      rintro e wn ⟨rfl, rfl⟩
      go_wp2_with fail
      go_meet
      exact ⟨rfl, HC.out⟩
    · skip
      subst e2
      have hne0 : (pe == 0) = false := by rw [beq_eq_false_iff_ne]; exact e1
      clear e1
      have hEQ := (head_eq HHW.out HPW.out w17).trans (by rw [show hdEq H P = false from by cases h : hdEq H P with | false => rfl | true => exact absurd ((hdEq_iff H P).1 h) e3])
      clear e3
      go_wp2_with (first | (refine wpList_bare rfl rfl rfl rfl ?_; refine wpList_loadFirst rfl 28 (.tmp 109) rfl (w3.heap.size) rfl #[.int .u8 P.s0, .int .u8 P.s1, .int .u8 P.s2, .int .u8 P.s3, .int .u8 P.s4, .int .u8 P.s5, .int .u8 P.s6, .int .u8 P.s7, .int .i64 P.K, .int .i64 P.M, .int .i64 P.B, .string P.key, .int .i64 P.size, .int .i64 P.idx, .int .i64 P.ep, .int .i64 P.ct] #[.int .u8 P.s0, .int .u8 P.s1, .int .u8 P.s2, .int .u8 P.s3, .int .u8 P.s4, .int .u8 P.s5, .int .u8 P.s6, .int .u8 P.s7, .int .i64 P.K, .int .i64 P.M, .int .i64 P.B, .string P.key, .int .i64 P.size, .int .i64 P.idx, .int .i64 P.ep, .int .i64 P.ct, .slice A7 np c7] 46 _ rfl HZ7.out Try.underlying28 rfl info_H ?_) | (refine wpList_bare rfl rfl rfl rfl ?_; refine wpList_loadH rfl (.tmp 23) rfl (w15.heap.size) rfl #[.int .u8 H.s0, .int .u8 H.s1, .int .u8 H.s2, .int .u8 H.s3, .int .u8 H.s4, .int .u8 H.s5, .int .u8 H.s6, .int .u8 H.s7, .int .i64 H.K, .int .i64 H.M, .int .i64 H.B, .string H.key, .int .i64 H.size, .int .i64 H.idx, .int .i64 H.ep, .int .i64 H.ct] rfl HZ23.out ?_) | (refine wpList_bare rfl rfl rfl rfl ?_; refine wpList_neqAgg rfl 28 (.tmp 108) (.tmp 110) rfl #[.int .u8 H.s0, .int .u8 H.s1, .int .u8 H.s2, .int .u8 H.s3, .int .u8 H.s4, .int .u8 H.s5, .int .u8 H.s6, .int .u8 H.s7, .int .i64 H.K, .int .i64 H.M, .int .i64 H.B, .string H.key, .int .i64 H.size, .int .i64 H.idx, .int .i64 H.ep, .int .i64 H.ct] #[.int .u8 P.s0, .int .u8 P.s1, .int .u8 P.s2, .int .u8 P.s3, .int .u8 P.s4, .int .u8 P.s5, .int .u8 P.s6, .int .u8 P.s7, .int .i64 P.K, .int .i64 P.M, .int .i64 P.B, .string P.key, .int .i64 P.size, .int .i64 P.idx, .int .i64 P.ep, .int .i64 P.ct] rfl rfl guard_H false hEQ ?_))
      clear hEQ
      refine (num_any _ w17).mono ?_
      rintro e wn ⟨rfl, rfl⟩
      go_wp2_with fail
      refine (num_any _ w17).mono ?_
      rintro e wn ⟨rfl, rfl⟩
      go_wp2_with fail
      go_meet
      exact ⟨rfl, HC.out⟩
  case rest =>
  generalize wc = w17 at hcut ⊢
  obtain ⟨hcs, hb⟩ := hcut
  subst hcs
  replace HF := Lib.hid (HF.out.trans (hb.mono HF.out.size))
  replace HIN := Lib.hid (HIN.out.kept hb)
  have HV17 := Lib.hid hb
  clear hb
  replace HO7 := Lib.hid (HO7.out.kept (HV4.out.trans ((HV5.out.trans ((HV6.out.trans ((HV7.out.trans ((HV8.out.trans ((HV9.out.trans ((HV10.out.trans ((HV11.out.trans ((HV12.out.trans ((HV13.out.trans ((HV14.out.trans ((HV15.out.trans ((HV16.out.trans (HV17.out.mono HV16.out.size)).mono HV15.out.size)).mono HV14.out.size)).mono HV13.out.size)).mono HV12.out.size)).mono HV11.out.size)).mono HV10.out.size)).mono HV9.out.size)).mono HV8.out.size)).mono HV7.out.size)).mono HV6.out.size)).mono HV5.out.size)).mono HV4.out.size)))
  replace HO9 := Lib.hid (HO9.out.kept (HV6.out.trans ((HV7.out.trans ((HV8.out.trans ((HV9.out.trans ((HV10.out.trans ((HV11.out.trans ((HV12.out.trans ((HV13.out.trans ((HV14.out.trans ((HV15.out.trans ((HV16.out.trans (HV17.out.mono HV16.out.size)).mono HV15.out.size)).mono HV14.out.size)).mono HV13.out.size)).mono HV12.out.size)).mono HV11.out.size)).mono HV10.out.size)).mono HV9.out.size)).mono HV8.out.size)).mono HV7.out.size)).mono HV6.out.size)))
  replace HZ7 := Lib.hid (((HV5.out.trans ((HV6.out.trans ((HV7.out.trans ((HV8.out.trans ((HV9.out.trans ((HV10.out.trans ((HV11.out.trans ((HV12.out.trans ((HV13.out.trans ((HV14.out.trans ((HV15.out.trans ((HV16.out.trans (HV17.out.mono HV16.out.size)).mono HV15.out.size)).mono HV14.out.size)).mono HV13.out.size)).mono HV12.out.size)).mono HV11.out.size)).mono HV10.out.size)).mono HV9.out.size)).mono HV8.out.size)).mono HV7.out.size)).mono HV6.out.size)).mono HV5.out.size)).block _ (Array.getElem?_eq_some_iff.1 HZ7.out).1).trans HZ7.out)
  replace HZ9 := Lib.hid (((HV7.out.trans ((HV8.out.trans ((HV9.out.trans ((HV10.out.trans ((HV11.out.trans ((HV12.out.trans ((HV13.out.trans ((HV14.out.trans ((HV15.out.trans ((HV16.out.trans (HV17.out.mono HV16.out.size)).mono HV15.out.size)).mono HV14.out.size)).mono HV13.out.size)).mono HV12.out.size)).mono HV11.out.size)).mono HV10.out.size)).mono HV9.out.size)).mono HV8.out.size)).mono HV7.out.size)).block _ (Array.getElem?_eq_some_iff.1 HZ9.out).1).trans HZ9.out)
  go_wp2_with (first | (refine wpList_bare rfl rfl rfl rfl ?_; refine wpList_loadS rfl (.tmp 7) rfl (w3.heap.size) rfl #[.int .u8 P.s0, .int .u8 P.s1, .int .u8 P.s2, .int .u8 P.s3, .int .u8 P.s4, .int .u8 P.s5, .int .u8 P.s6, .int .u8 P.s7, .int .i64 P.K, .int .i64 P.M, .int .i64 P.B, .string P.key, .int .i64 P.size, .int .i64 P.idx, .int .i64 P.ep, .int .i64 P.ct, .slice A7 np c7] rfl HZ7.out ?_) | (refine wpList_bare rfl rfl rfl rfl ?_; refine wpList_loadS rfl (.tmp 9) rfl (w5.heap.size) rfl #[.int .u8 P.s0, .int .u8 P.s1, .int .u8 P.s2, .int .u8 P.s3, .int .u8 P.s4, .int .u8 P.s5, .int .u8 P.s6, .int .u8 P.s7, .int .i64 P.K, .int .i64 P.M, .int .i64 P.B, .string P.key, .int .i64 P.size, .int .i64 P.idx, .int .i64 P.ep, .int .i64 P.ct, .slice A9 np c9] rfl HZ9.out ?_))
  have hS := same_any P P A7 A9 c7 c9 (prsB b) (prsB b) w17 HPW.out HPW.out (Nat.le_trans (prsB_len _) (by decide)) (prsB_lt HX.out) (prsB_lt HX.out) (OwnLL.rll HO7.out) (OwnLL.rll HO9.out) (Nat.le_trans (prsB_len _) (by decide))
  rw [← HNP.out] at hS
  refine (hS).mono ?_
  rintro e w18 ⟨q, rfl, hq, hb⟩
  replace HF := Lib.hid (HF.out.trans (hb.mono HF.out.size))
  replace HIN := Lib.hid (HIN.out.kept hb)
  have HV18 := Lib.hid hb
  obtain rfl : q = true := hq.2 ⟨rfl, rfl⟩
  clear hq
  clear hb
  clear hS
  replace HO7 := Lib.hid (HO7.out.kept HV18.out)
  replace HO13 := Lib.hid (HO13.out.kept (HV10.out.trans ((HV11.out.trans ((HV12.out.trans ((HV13.out.trans ((HV14.out.trans ((HV15.out.trans ((HV16.out.trans ((HV17.out.trans (HV18.out.mono HV17.out.size)).mono HV16.out.size)).mono HV15.out.size)).mono HV14.out.size)).mono HV13.out.size)).mono HV12.out.size)).mono HV11.out.size)).mono HV10.out.size)))
  replace HZ7 := Lib.hid ((HV18.out.block _ (Array.getElem?_eq_some_iff.1 HZ7.out).1).trans HZ7.out)
  replace HZ13 := Lib.hid (((HV11.out.trans ((HV12.out.trans ((HV13.out.trans ((HV14.out.trans ((HV15.out.trans ((HV16.out.trans ((HV17.out.trans (HV18.out.mono HV17.out.size)).mono HV16.out.size)).mono HV15.out.size)).mono HV14.out.size)).mono HV13.out.size)).mono HV12.out.size)).mono HV11.out.size)).block _ (Array.getElem?_eq_some_iff.1 HZ13.out).1).trans HZ13.out)
  go_wp2_with (first | (refine wpList_bare rfl rfl rfl rfl ?_; refine wpList_loadS rfl (.tmp 7) rfl (w3.heap.size) rfl #[.int .u8 P.s0, .int .u8 P.s1, .int .u8 P.s2, .int .u8 P.s3, .int .u8 P.s4, .int .u8 P.s5, .int .u8 P.s6, .int .u8 P.s7, .int .i64 P.K, .int .i64 P.M, .int .i64 P.B, .string P.key, .int .i64 P.size, .int .i64 P.idx, .int .i64 P.ep, .int .i64 P.ct, .slice A7 np c7] rfl HZ7.out ?_) | (refine wpList_bare rfl rfl rfl rfl ?_; refine wpList_loadS rfl (.tmp 13) rfl (w9.heap.size) rfl #[.int .u8 P.s0, .int .u8 P.s1, .int .u8 P.s2, .int .u8 P.s3, .int .u8 P.s4, .int .u8 P.s5, .int .u8 P.s6, .int .u8 P.s7, .int .i64 P.K, .int .i64 P.M, .int .i64 P.B, .string P.key, .int .i64 P.size, .int .i64 P.idx, .int .i64 P.ep, .int .i64 P.ct, .slice A13 np c13] rfl HZ13.out ?_))
  have hS := same_any P P A7 A13 c7 c13 (prsB b) (prsB b) w18 HPW.out HPW.out (Nat.le_trans (prsB_len _) (by decide)) (prsB_lt HX.out) (prsB_lt HX.out) (OwnLL.rll HO7.out) (OwnLL.rll HO13.out) (Nat.le_trans (prsB_len _) (by decide))
  rw [← HNP.out] at hS
  refine (hS).mono ?_
  rintro e w19 ⟨q, rfl, hq, hb⟩
  replace HF := Lib.hid (HF.out.trans (hb.mono HF.out.size))
  replace HIN := Lib.hid (HIN.out.kept hb)
  have HV19 := Lib.hid hb
  obtain rfl : q = true := hq.2 ⟨rfl, rfl⟩
  clear hq
  clear hb
  clear hS
  replace HI15 := Lib.hid (HI15.out.kept (HV12.out.trans ((HV13.out.trans ((HV14.out.trans ((HV15.out.trans ((HV16.out.trans ((HV17.out.trans ((HV18.out.trans (HV19.out.mono HV18.out.size)).mono HV17.out.size)).mono HV16.out.size)).mono HV15.out.size)).mono HV14.out.size)).mono HV13.out.size)).mono HV12.out.size)))
  replace HI17 := Lib.hid (HI17.out.kept (HV13.out.trans ((HV14.out.trans ((HV15.out.trans ((HV16.out.trans ((HV17.out.trans ((HV18.out.trans (HV19.out.mono HV18.out.size)).mono HV17.out.size)).mono HV16.out.size)).mono HV15.out.size)).mono HV14.out.size)).mono HV13.out.size)))
  go_wp2_with fail
  refine (sameInts_any A15 A17 ns c15 c17 (fun i => (((sptL b).getD i 0 : Nat) : Int)) w19 (by omega) (OwnI.rdn HI15.out HNS.out) (OwnI.rdn HI17.out HNS.out)).mono ?_
  rintro e w20 ⟨rfl, hd⟩
  have hb := hd.below w19.heap.size
  replace HF := Lib.hid (HF.out.trans (hb.mono HF.out.size))
  replace HIN := Lib.hid (HIN.out.kept hb)
  have HV20 := Lib.hid hb
  clear hb hd
  go_wp2_with fail
  refine (kept_any Si Ci A c _ b w20 hbl HX.out HIN.out (RL.below BA.out HF.out)).mono ?_
  rintro e wn ⟨rfl, rfl⟩
  replace HZ7 := Lib.hid (((HV19.out.trans (HV20.out.mono HV19.out.size)).block _ (Array.getElem?_eq_some_iff.1 HZ7.out).1).trans HZ7.out)
  replace HO7 := Lib.hid (HO7.out.kept (HV19.out.trans (HV20.out.mono HV19.out.size)))
  replace HI15 := Lib.hid (HI15.out.kept HV20.out)
  go_wp2_with (refine wpList_loadS rfl (.tmp 7) rfl (w3.heap.size) rfl #[.int .u8 P.s0, .int .u8 P.s1, .int .u8 P.s2, .int .u8 P.s3, .int .u8 P.s4, .int .u8 P.s5, .int .u8 P.s6, .int .u8 P.s7, .int .i64 P.K, .int .i64 P.M, .int .i64 P.B, .string P.key, .int .i64 P.size, .int .i64 P.idx, .int .i64 P.ep, .int .i64 P.ct, .slice A7 np c7] rfl HZ7.out ?_)
  have hC := copied_any P A7 c7 (prsB b) w20 (Nat.le_trans (prsB_len _) (by decide)) HLB.out (OwnLL.rll HO7.out)
  rw [← HNP.out] at hC
  refine (hC).mono ?_
  rintro e w21 ⟨u, rfl, hO, hb⟩
  replace HF := Lib.hid (HF.out.trans (hb.mono HF.out.size))
  replace HIN := Lib.hid (HIN.out.kept hb)
  replace HI15 := Lib.hid (HI15.out.kept hb)
  have HV21 := Lib.hid hb
  obtain ⟨A25, c25, ev, _, _⟩ := hO.rd
  rw [← HNP.out] at ev
  subst ev
  have HO25 := Lib.hid hO
  clear hO hC
  clear hb
  go_wp2_with (first | (at_builtin; refine wpList_appI _ rfl (.tmp 157) (.tmp 158) rfl _ rfl rfl rfl HNS.out (OwnI.rdn HI15.out HNS.out) (by omega) ?_) | (refine wpList_storeNewS rfl (.tmp 25) (.tmp 156) rfl #[.int .u8 P.s0, .int .u8 P.s1, .int .u8 P.s2, .int .u8 P.s3, .int .u8 P.s4, .int .u8 P.s5, .int .u8 P.s6, .int .u8 P.s7, .int .i64 P.K, .int .i64 P.M, .int .i64 P.B, .string P.key, .int .i64 P.size, .int .i64 P.idx, .int .i64 P.ep, .int .i64 P.ct, .slice A25 np c25] rfl rfl rfl rfl rfl ?_; have hbn := (Below.refl w21.heap.size w21).alloc (Nat.le_refl _) (.cells #[.int .u8 P.s0, .int .u8 P.s1, .int .u8 P.s2, .int .u8 P.s3, .int .u8 P.s4, .int .u8 P.s5, .int .u8 P.s6, .int .u8 P.s7, .int .i64 P.K, .int .i64 P.M, .int .i64 P.B, .string P.key, .int .i64 P.size, .int .i64 P.idx, .int .i64 P.ep, .int .i64 P.ct, .slice A25 np c25] 46); replace HF := Lib.hid (HF.out.trans (hbn.mono HF.out.size)); replace HIN := Lib.hid (HIN.out.kept hbn); replace HI15 := Lib.hid (HI15.out.kept hbn); have HV22 := Lib.hid hbn; have HG25 := Lib.hid ((Array.getElem?_eq_some_iff.1 (heap_alloc_new w21 (.cells #[.int .u8 P.s0, .int .u8 P.s1, .int .u8 P.s2, .int .u8 P.s3, .int .u8 P.s4, .int .u8 P.s5, .int .u8 P.s6, .int .u8 P.s7, .int .i64 P.K, .int .i64 P.M, .int .i64 P.B, .string P.key, .int .i64 P.size, .int .i64 P.idx, .int .i64 P.ep, .int .i64 P.ct, .slice A25 np c25] 46))).1); have HZ25 := Lib.hid (heap_alloc_new w21 (.cells #[.int .u8 P.s0, .int .u8 P.s1, .int .u8 P.s2, .int .u8 P.s3, .int .u8 P.s4, .int .u8 P.s5, .int .u8 P.s6, .int .u8 P.s7, .int .i64 P.K, .int .i64 P.M, .int .i64 P.B, .string P.key, .int .i64 P.size, .int .i64 P.idx, .int .i64 P.ep, .int .i64 P.ct, .slice A25 np c25] 46)); clear hbn; generalize w21.alloc (.cells #[.int .u8 P.s0, .int .u8 P.s1, .int .u8 P.s2, .int .u8 P.s3, .int .u8 P.s4, .int .u8 P.s5, .int .u8 P.s6, .int .u8 P.s7, .int .i64 P.K, .int .i64 P.M, .int .i64 P.B, .string P.key, .int .i64 P.size, .int .i64 P.idx, .int .i64 P.ep, .int .i64 P.ct, .slice A25 np c25] 46) = w22 at *))
  intro A26 c26 w23 hI hb
  replace HF := Lib.hid (HF.out.trans (hb.mono HF.out.size))
  replace HIN := Lib.hid (HIN.out.kept hb)
  replace HI15 := Lib.hid (HI15.out.kept hb)
  have HV23 := Lib.hid hb
  have HI26 := Lib.hid hI
  clear hb hI
  replace HO25 := Lib.hid (HO25.out.kept (HV22.out.trans (HV23.out.mono HV22.out.size)))
  replace HZ25 := Lib.hid ((HV23.out.block _ (Array.getElem?_eq_some_iff.1 HZ25.out).1).trans HZ25.out)
  have HKQ := Lib.hid (show Kiv w20.heap.size w23.heap.size w23 w23 from ⟨Kp.refl _ _ _, Nat.le_refl _⟩)
  have BO25 := HO25
  have BI26 := HI26
  have BZ25 := HZ25
  replace HZ7 := Lib.hid (((HV21.out.trans ((HV22.out.trans (HV23.out.mono HV22.out.size)).mono HV21.out.size)).block _ (Array.getElem?_eq_some_iff.1 HZ7.out).1).trans HZ7.out)
  replace HO7 := Lib.hid (HO7.out.kept (HV21.out.trans ((HV22.out.trans (HV23.out.mono HV22.out.size)).mono HV21.out.size)))
  go_wp2_with (refine wpList_loadS rfl (.tmp 7) rfl (w3.heap.size) rfl #[.int .u8 P.s0, .int .u8 P.s1, .int .u8 P.s2, .int .u8 P.s3, .int .u8 P.s4, .int .u8 P.s5, .int .u8 P.s6, .int .u8 P.s7, .int .i64 P.K, .int .i64 P.M, .int .i64 P.B, .string P.key, .int .i64 P.size, .int .i64 P.idx, .int .i64 P.ep, .int .i64 P.ct, .slice A7 np c7] rfl HZ7.out ?_)
  have hE := enc_any P A7 c7 (prsB b) w23 HPB.out (prsB_lt HX.out) (Nat.le_trans (prsB_len _) (by decide)) HLB.out (OwnLL.rll HO7.out)
  rw [← HNP.out] at hE
  refine (hE).mono ?_
  rintro e w24 ⟨u27, e27, l27, rfl, hP3, hO, hb⟩
  replace HF := Lib.hid (HF.out.trans (hb.mono HF.out.size))
  replace HIN := Lib.hid (HIN.out.kept hb)
  have HV24 := Lib.hid hb
  obtain ⟨e1, e2⟩ := HEN.out _ _ hP3
  replace e1 := e1.symm
  replace e2 := e2.symm
  subst e1 e2
  obtain ⟨A27, c27, ev, _, _, _, _⟩ := hO.rd
  rw [← HNQ.out] at ev
  subst ev
  have HB27 := Lib.hid hO
  have HAR27 := Lib.hid (OwnB.ar hO HNQ.out)
  clear hO hP3 hE
  clear hb
  replace HZ7 := Lib.hid ((HV24.out.block _ (Array.getElem?_eq_some_iff.1 HZ7.out).1).trans HZ7.out)
  replace HO7 := Lib.hid (HO7.out.kept HV24.out)
  go_wp2_with (refine wpList_loadS rfl (.tmp 7) rfl (w3.heap.size) rfl #[.int .u8 P.s0, .int .u8 P.s1, .int .u8 P.s2, .int .u8 P.s3, .int .u8 P.s4, .int .u8 P.s5, .int .u8 P.s6, .int .u8 P.s7, .int .i64 P.K, .int .i64 P.M, .int .i64 P.B, .string P.key, .int .i64 P.size, .int .i64 P.idx, .int .i64 P.ep, .int .i64 P.ct, .slice A7 np c7] rfl HZ7.out ?_)
  have hE := enc_any P A7 c7 (prsB b) w24 HPB.out (prsB_lt HX.out) (Nat.le_trans (prsB_len _) (by decide)) HLB.out (OwnLL.rll HO7.out)
  rw [← HNP.out] at hE
  refine (hE).mono ?_
  rintro e w25 ⟨u29, e29, l29, rfl, hP3, hO, hb⟩
  replace HF := Lib.hid (HF.out.trans (hb.mono HF.out.size))
  replace HIN := Lib.hid (HIN.out.kept hb)
  have HV25 := Lib.hid hb
  obtain ⟨e1, e2⟩ := HEN.out _ _ hP3
  replace e1 := e1.symm
  replace e2 := e2.symm
  subst e1 e2
  obtain ⟨A29, c29, ev, _, _, _, _⟩ := hO.rd
  rw [← HNQ.out] at ev
  subst ev
  have HB29 := Lib.hid hO
  have HAR29 := Lib.hid (OwnB.ar hO HNQ.out)
  clear hO hP3 hE
  clear hb
  replace HZ7 := Lib.hid ((HV25.out.block _ (Array.getElem?_eq_some_iff.1 HZ7.out).1).trans HZ7.out)
  obtain ⟨z0, z1, z2, z3, z4, z5, z6, z7, z8, z9, z10, z11, z12, z13, z14, z15, z16⟩ := cells_ofS HZ7.out
  go_wp2_with (refine wpList_loadAt rfl 24 (.tmp 172) rfl ⟨w3.heap.size, 8, none⟩ rfl #[.int .i64 P.K, .int .i64 P.M, .int .i64 P.B] _ (shape_at HZ7.out) Try.underlying24 rfl info_Sh ?_)
  clear z0 z1 z2 z3 z4 z5 z6 z7 z8 z9 z10 z11 z12 z13 z14 z15 z16
  have hZ := fsizes_all P.K P.M P.B P.size w25
  rw [← HNZ.out] at hZ
  refine (hZ).mono ?_
  rintro e w26 ⟨u31, rfl, hO, hb⟩
  replace HF := Lib.hid (HF.out.trans (hb.mono HF.out.size))
  replace HIN := Lib.hid (HIN.out.kept hb)
  have HV26 := Lib.hid hb
  obtain ⟨A31, c31, ev, _⟩ := Own.rd (f := fun j => .int .i64 (blen P.K.toNat P.B.toNat P.size.toNat j)) hO
  subst ev
  have HJ31 := Lib.hid hO
  have HQ31 := Lib.hid (AR.one hO hO.lt)
  clear hO hZ
  clear hb
  replace HZ7 := Lib.hid ((HV26.out.block _ (Array.getElem?_eq_some_iff.1 HZ7.out).1).trans HZ7.out)
  obtain ⟨z0, z1, z2, z3, z4, z5, z6, z7, z8, z9, z10, z11, z12, z13, z14, z15, z16⟩ := cells_ofS HZ7.out
  go_wp2_with (refine wpList_loadAt rfl 24 (.tmp 182) rfl ⟨w3.heap.size, 8, none⟩ rfl #[.int .i64 P.K, .int .i64 P.M, .int .i64 P.B] _ (shape_at HZ7.out) Try.underlying24 rfl info_Sh ?_)
  clear z0 z1 z2 z3 z4 z5 z6 z7 z8 z9 z10 z11 z12 z13 z14 z15 z16
  have hZ := fsizes_all P.K P.M P.B P.size w26
  rw [← HNZ.out] at hZ
  refine (hZ).mono ?_
  rintro e w27 ⟨u33, rfl, hO, hb⟩
  replace HF := Lib.hid (HF.out.trans (hb.mono HF.out.size))
  replace HIN := Lib.hid (HIN.out.kept hb)
  have HV27 := Lib.hid hb
  obtain ⟨A33, c33, ev, _⟩ := Own.rd (f := fun j => .int .i64 (blen P.K.toNat P.B.toNat P.size.toNat j)) hO
  subst ev
  have HJ33 := Lib.hid hO
  have HQ33 := Lib.hid (AR.one hO hO.lt)
  clear hO hZ
  clear hb
  go_upto_region 24 with fail
  go_cut [217] from 190 to 217 (fun sl0 wc0 => sl0 = .bool false ∧ Below w27.heap.size w27 wc0)
  case first =>
    replace HB27 := Lib.hid (HB27.out.kept (HV25.out.trans ((HV26.out.trans (HV27.out.mono HV26.out.size)).mono HV25.out.size)))
    replace HB29 := Lib.hid (HB29.out.kept (HV26.out.trans (HV27.out.mono HV26.out.size)))
    replace HJ31 := Lib.hid (HJ31.out.kept HV27.out)
    go_wp2_with fail
    refine (num_any _ w27).mono ?_
    rintro e wn ⟨rfl, rfl⟩
    rcases HMODE.out with ⟨e1, e2, e3, e4, e5⟩ | ⟨e1, e2, e3⟩ | ⟨e1, e2, e3⟩
    · skip
      replace e5 := e5.symm
      subst e1 e4 e5
      clear e2 e3
      go_wp2_with fail
      refine (num_any _ w27).mono ?_
      rintro e wn ⟨rfl, rfl⟩
      have hc1 := conv_strL c27 HX.out (own_rl HB27.out)
      have hc2 := conv_strL c29 HX.out (own_rl HB29.out)
      rw [← HNQ.out] at hc1 hc2
      have hc3 := conv_strL c HX.out (RL.below BA.out HF.out)
      have hss : ((strL b).toList == (strL b).toList) = true := by simp
      go_wp2_with fail
      refine (sameInts_any A31 A33 nz c31 c33 _ w27 (by omega) (Own.rdn HJ31.out) (Own.rdn HJ33.out)).mono ?_
      rintro e w28 ⟨rfl, hd⟩
      have hb := hd.below w27.heap.size
      replace HF := Lib.hid (HF.out.trans (hb.mono HF.out.size))
      replace HIN := Lib.hid (HIN.out.kept hb)
      have HV28 := Lib.hid hb
      clear hb hd
      have HC := Lib.hid HV28.out
      go_wp2_with fail
      go_meet
      exact ⟨rfl, HC.out⟩
    · skip
      have hne0 : (pe == 0) = false := by rw [beq_eq_false_iff_ne, e1]; exact e2
      clear e1 e2 e3
      go_wp2_with fail
      refine (sameInts_any A31 A33 nz c31 c33 _ w27 (by omega) (Own.rdn HJ31.out) (Own.rdn HJ33.out)).mono ?_
      rintro e w28 ⟨rfl, hd⟩
      have hb := hd.below w27.heap.size
      replace HF := Lib.hid (HF.out.trans (hb.mono HF.out.size))
      replace HIN := Lib.hid (HIN.out.kept hb)
      have HV28 := Lib.hid hb
      clear hb hd
      have HC := Lib.hid HV28.out
      go_wp2_with fail
      go_meet
      exact ⟨rfl, HC.out⟩
    · skip
      have hne0 : (pe == 0) = false := by rw [beq_eq_false_iff_ne]; exact e1
      clear e1 e2 e3
      go_wp2_with fail
      refine (sameInts_any A31 A33 nz c31 c33 _ w27 (by omega) (Own.rdn HJ31.out) (Own.rdn HJ33.out)).mono ?_
      rintro e w28 ⟨rfl, hd⟩
      have hb := hd.below w27.heap.size
      replace HF := Lib.hid (HF.out.trans (hb.mono HF.out.size))
      replace HIN := Lib.hid (HIN.out.kept hb)
      have HV28 := Lib.hid hb
      clear hb hd
      have HC := Lib.hid HV28.out
      go_wp2_with fail
      go_meet
      exact ⟨rfl, HC.out⟩
  case rest =>
  generalize wc = w28 at hcut ⊢
  obtain ⟨hcs, hb⟩ := hcut
  subst hcs
  replace HF := Lib.hid (HF.out.trans (hb.mono HF.out.size))
  replace HIN := Lib.hid (HIN.out.kept hb)
  have HV28 := Lib.hid hb
  clear hb
  replace HO7 := Lib.hid (HO7.out.kept (HV25.out.trans ((HV26.out.trans ((HV27.out.trans (HV28.out.mono HV27.out.size)).mono HV26.out.size)).mono HV25.out.size)))
  replace HR7 := Lib.hid (HR7.out.kept (HV4.out.trans ((HV5.out.trans ((HV6.out.trans ((HV7.out.trans ((HV8.out.trans ((HV9.out.trans ((HV10.out.trans ((HV11.out.trans ((HV12.out.trans ((HV13.out.trans ((HV14.out.trans ((HV15.out.trans ((HV16.out.trans ((HV17.out.trans ((HV18.out.trans ((HV19.out.trans ((HV20.out.trans ((HV21.out.trans ((HV22.out.trans ((HV23.out.trans ((HV24.out.trans ((HV25.out.trans ((HV26.out.trans ((HV27.out.trans (HV28.out.mono HV27.out.size)).mono HV26.out.size)).mono HV25.out.size)).mono HV24.out.size)).mono HV23.out.size)).mono HV22.out.size)).mono HV21.out.size)).mono HV20.out.size)).mono HV19.out.size)).mono HV18.out.size)).mono HV17.out.size)).mono HV16.out.size)).mono HV15.out.size)).mono HV14.out.size)).mono HV13.out.size)).mono HV12.out.size)).mono HV11.out.size)).mono HV10.out.size)).mono HV9.out.size)).mono HV8.out.size)).mono HV7.out.size)).mono HV6.out.size)).mono HV5.out.size)).mono HV4.out.size)))
  replace HA7 := Lib.hid (HA7.out.kept (HV4.out.trans ((HV5.out.trans ((HV6.out.trans ((HV7.out.trans ((HV8.out.trans ((HV9.out.trans ((HV10.out.trans ((HV11.out.trans ((HV12.out.trans ((HV13.out.trans ((HV14.out.trans ((HV15.out.trans ((HV16.out.trans ((HV17.out.trans ((HV18.out.trans ((HV19.out.trans ((HV20.out.trans ((HV21.out.trans ((HV22.out.trans ((HV23.out.trans ((HV24.out.trans ((HV25.out.trans ((HV26.out.trans ((HV27.out.trans (HV28.out.mono HV27.out.size)).mono HV26.out.size)).mono HV25.out.size)).mono HV24.out.size)).mono HV23.out.size)).mono HV22.out.size)).mono HV21.out.size)).mono HV20.out.size)).mono HV19.out.size)).mono HV18.out.size)).mono HV17.out.size)).mono HV16.out.size)).mono HV15.out.size)).mono HV14.out.size)).mono HV13.out.size)).mono HV12.out.size)).mono HV11.out.size)).mono HV10.out.size)).mono HV9.out.size)).mono HV8.out.size)).mono HV7.out.size)).mono HV6.out.size)).mono HV5.out.size)).mono HV4.out.size)))
  replace HT7 := Lib.hid (HT7.out.kept (HV4.out.trans ((HV5.out.trans ((HV6.out.trans ((HV7.out.trans ((HV8.out.trans ((HV9.out.trans ((HV10.out.trans ((HV11.out.trans ((HV12.out.trans ((HV13.out.trans ((HV14.out.trans ((HV15.out.trans ((HV16.out.trans ((HV17.out.trans ((HV18.out.trans ((HV19.out.trans ((HV20.out.trans ((HV21.out.trans ((HV22.out.trans ((HV23.out.trans ((HV24.out.trans ((HV25.out.trans ((HV26.out.trans ((HV27.out.trans (HV28.out.mono HV27.out.size)).mono HV26.out.size)).mono HV25.out.size)).mono HV24.out.size)).mono HV23.out.size)).mono HV22.out.size)).mono HV21.out.size)).mono HV20.out.size)).mono HV19.out.size)).mono HV18.out.size)).mono HV17.out.size)).mono HV16.out.size)).mono HV15.out.size)).mono HV14.out.size)).mono HV13.out.size)).mono HV12.out.size)).mono HV11.out.size)).mono HV10.out.size)).mono HV9.out.size)).mono HV8.out.size)).mono HV7.out.size)).mono HV6.out.size)).mono HV5.out.size)).mono HV4.out.size)))
  replace HZ7 := Lib.hid (((HV27.out.trans (HV28.out.mono HV27.out.size)).block _ (Array.getElem?_eq_some_iff.1 HZ7.out).1).trans HZ7.out)
  replace HO9 := Lib.hid (HO9.out.kept (HV18.out.trans ((HV19.out.trans ((HV20.out.trans ((HV21.out.trans ((HV22.out.trans ((HV23.out.trans ((HV24.out.trans ((HV25.out.trans ((HV26.out.trans ((HV27.out.trans (HV28.out.mono HV27.out.size)).mono HV26.out.size)).mono HV25.out.size)).mono HV24.out.size)).mono HV23.out.size)).mono HV22.out.size)).mono HV21.out.size)).mono HV20.out.size)).mono HV19.out.size)).mono HV18.out.size)))
  replace HR9 := Lib.hid (HR9.out.kept (HV6.out.trans ((HV7.out.trans ((HV8.out.trans ((HV9.out.trans ((HV10.out.trans ((HV11.out.trans ((HV12.out.trans ((HV13.out.trans ((HV14.out.trans ((HV15.out.trans ((HV16.out.trans ((HV17.out.trans ((HV18.out.trans ((HV19.out.trans ((HV20.out.trans ((HV21.out.trans ((HV22.out.trans ((HV23.out.trans ((HV24.out.trans ((HV25.out.trans ((HV26.out.trans ((HV27.out.trans (HV28.out.mono HV27.out.size)).mono HV26.out.size)).mono HV25.out.size)).mono HV24.out.size)).mono HV23.out.size)).mono HV22.out.size)).mono HV21.out.size)).mono HV20.out.size)).mono HV19.out.size)).mono HV18.out.size)).mono HV17.out.size)).mono HV16.out.size)).mono HV15.out.size)).mono HV14.out.size)).mono HV13.out.size)).mono HV12.out.size)).mono HV11.out.size)).mono HV10.out.size)).mono HV9.out.size)).mono HV8.out.size)).mono HV7.out.size)).mono HV6.out.size)))
  replace HA9 := Lib.hid (HA9.out.kept (HV6.out.trans ((HV7.out.trans ((HV8.out.trans ((HV9.out.trans ((HV10.out.trans ((HV11.out.trans ((HV12.out.trans ((HV13.out.trans ((HV14.out.trans ((HV15.out.trans ((HV16.out.trans ((HV17.out.trans ((HV18.out.trans ((HV19.out.trans ((HV20.out.trans ((HV21.out.trans ((HV22.out.trans ((HV23.out.trans ((HV24.out.trans ((HV25.out.trans ((HV26.out.trans ((HV27.out.trans (HV28.out.mono HV27.out.size)).mono HV26.out.size)).mono HV25.out.size)).mono HV24.out.size)).mono HV23.out.size)).mono HV22.out.size)).mono HV21.out.size)).mono HV20.out.size)).mono HV19.out.size)).mono HV18.out.size)).mono HV17.out.size)).mono HV16.out.size)).mono HV15.out.size)).mono HV14.out.size)).mono HV13.out.size)).mono HV12.out.size)).mono HV11.out.size)).mono HV10.out.size)).mono HV9.out.size)).mono HV8.out.size)).mono HV7.out.size)).mono HV6.out.size)))
  replace HT9 := Lib.hid (HT9.out.kept (HV6.out.trans ((HV7.out.trans ((HV8.out.trans ((HV9.out.trans ((HV10.out.trans ((HV11.out.trans ((HV12.out.trans ((HV13.out.trans ((HV14.out.trans ((HV15.out.trans ((HV16.out.trans ((HV17.out.trans ((HV18.out.trans ((HV19.out.trans ((HV20.out.trans ((HV21.out.trans ((HV22.out.trans ((HV23.out.trans ((HV24.out.trans ((HV25.out.trans ((HV26.out.trans ((HV27.out.trans (HV28.out.mono HV27.out.size)).mono HV26.out.size)).mono HV25.out.size)).mono HV24.out.size)).mono HV23.out.size)).mono HV22.out.size)).mono HV21.out.size)).mono HV20.out.size)).mono HV19.out.size)).mono HV18.out.size)).mono HV17.out.size)).mono HV16.out.size)).mono HV15.out.size)).mono HV14.out.size)).mono HV13.out.size)).mono HV12.out.size)).mono HV11.out.size)).mono HV10.out.size)).mono HV9.out.size)).mono HV8.out.size)).mono HV7.out.size)).mono HV6.out.size)))
  replace HZ9 := Lib.hid (((HV18.out.trans ((HV19.out.trans ((HV20.out.trans ((HV21.out.trans ((HV22.out.trans ((HV23.out.trans ((HV24.out.trans ((HV25.out.trans ((HV26.out.trans ((HV27.out.trans (HV28.out.mono HV27.out.size)).mono HV26.out.size)).mono HV25.out.size)).mono HV24.out.size)).mono HV23.out.size)).mono HV22.out.size)).mono HV21.out.size)).mono HV20.out.size)).mono HV19.out.size)).mono HV18.out.size)).block _ (Array.getElem?_eq_some_iff.1 HZ9.out).1).trans HZ9.out)
  replace HO11 := Lib.hid (HO11.out.kept (HV8.out.trans ((HV9.out.trans ((HV10.out.trans ((HV11.out.trans ((HV12.out.trans ((HV13.out.trans ((HV14.out.trans ((HV15.out.trans ((HV16.out.trans ((HV17.out.trans ((HV18.out.trans ((HV19.out.trans ((HV20.out.trans ((HV21.out.trans ((HV22.out.trans ((HV23.out.trans ((HV24.out.trans ((HV25.out.trans ((HV26.out.trans ((HV27.out.trans (HV28.out.mono HV27.out.size)).mono HV26.out.size)).mono HV25.out.size)).mono HV24.out.size)).mono HV23.out.size)).mono HV22.out.size)).mono HV21.out.size)).mono HV20.out.size)).mono HV19.out.size)).mono HV18.out.size)).mono HV17.out.size)).mono HV16.out.size)).mono HV15.out.size)).mono HV14.out.size)).mono HV13.out.size)).mono HV12.out.size)).mono HV11.out.size)).mono HV10.out.size)).mono HV9.out.size)).mono HV8.out.size)))
  replace HR11 := Lib.hid (HR11.out.kept (HV8.out.trans ((HV9.out.trans ((HV10.out.trans ((HV11.out.trans ((HV12.out.trans ((HV13.out.trans ((HV14.out.trans ((HV15.out.trans ((HV16.out.trans ((HV17.out.trans ((HV18.out.trans ((HV19.out.trans ((HV20.out.trans ((HV21.out.trans ((HV22.out.trans ((HV23.out.trans ((HV24.out.trans ((HV25.out.trans ((HV26.out.trans ((HV27.out.trans (HV28.out.mono HV27.out.size)).mono HV26.out.size)).mono HV25.out.size)).mono HV24.out.size)).mono HV23.out.size)).mono HV22.out.size)).mono HV21.out.size)).mono HV20.out.size)).mono HV19.out.size)).mono HV18.out.size)).mono HV17.out.size)).mono HV16.out.size)).mono HV15.out.size)).mono HV14.out.size)).mono HV13.out.size)).mono HV12.out.size)).mono HV11.out.size)).mono HV10.out.size)).mono HV9.out.size)).mono HV8.out.size)))
  replace HA11 := Lib.hid (HA11.out.kept (HV8.out.trans ((HV9.out.trans ((HV10.out.trans ((HV11.out.trans ((HV12.out.trans ((HV13.out.trans ((HV14.out.trans ((HV15.out.trans ((HV16.out.trans ((HV17.out.trans ((HV18.out.trans ((HV19.out.trans ((HV20.out.trans ((HV21.out.trans ((HV22.out.trans ((HV23.out.trans ((HV24.out.trans ((HV25.out.trans ((HV26.out.trans ((HV27.out.trans (HV28.out.mono HV27.out.size)).mono HV26.out.size)).mono HV25.out.size)).mono HV24.out.size)).mono HV23.out.size)).mono HV22.out.size)).mono HV21.out.size)).mono HV20.out.size)).mono HV19.out.size)).mono HV18.out.size)).mono HV17.out.size)).mono HV16.out.size)).mono HV15.out.size)).mono HV14.out.size)).mono HV13.out.size)).mono HV12.out.size)).mono HV11.out.size)).mono HV10.out.size)).mono HV9.out.size)).mono HV8.out.size)))
  replace HT11 := Lib.hid (HT11.out.kept (HV8.out.trans ((HV9.out.trans ((HV10.out.trans ((HV11.out.trans ((HV12.out.trans ((HV13.out.trans ((HV14.out.trans ((HV15.out.trans ((HV16.out.trans ((HV17.out.trans ((HV18.out.trans ((HV19.out.trans ((HV20.out.trans ((HV21.out.trans ((HV22.out.trans ((HV23.out.trans ((HV24.out.trans ((HV25.out.trans ((HV26.out.trans ((HV27.out.trans (HV28.out.mono HV27.out.size)).mono HV26.out.size)).mono HV25.out.size)).mono HV24.out.size)).mono HV23.out.size)).mono HV22.out.size)).mono HV21.out.size)).mono HV20.out.size)).mono HV19.out.size)).mono HV18.out.size)).mono HV17.out.size)).mono HV16.out.size)).mono HV15.out.size)).mono HV14.out.size)).mono HV13.out.size)).mono HV12.out.size)).mono HV11.out.size)).mono HV10.out.size)).mono HV9.out.size)).mono HV8.out.size)))
  replace HZ11 := Lib.hid (((HV9.out.trans ((HV10.out.trans ((HV11.out.trans ((HV12.out.trans ((HV13.out.trans ((HV14.out.trans ((HV15.out.trans ((HV16.out.trans ((HV17.out.trans ((HV18.out.trans ((HV19.out.trans ((HV20.out.trans ((HV21.out.trans ((HV22.out.trans ((HV23.out.trans ((HV24.out.trans ((HV25.out.trans ((HV26.out.trans ((HV27.out.trans (HV28.out.mono HV27.out.size)).mono HV26.out.size)).mono HV25.out.size)).mono HV24.out.size)).mono HV23.out.size)).mono HV22.out.size)).mono HV21.out.size)).mono HV20.out.size)).mono HV19.out.size)).mono HV18.out.size)).mono HV17.out.size)).mono HV16.out.size)).mono HV15.out.size)).mono HV14.out.size)).mono HV13.out.size)).mono HV12.out.size)).mono HV11.out.size)).mono HV10.out.size)).mono HV9.out.size)).block _ (Array.getElem?_eq_some_iff.1 HZ11.out).1).trans HZ11.out)
  replace HO13 := Lib.hid (HO13.out.kept (HV19.out.trans ((HV20.out.trans ((HV21.out.trans ((HV22.out.trans ((HV23.out.trans ((HV24.out.trans ((HV25.out.trans ((HV26.out.trans ((HV27.out.trans (HV28.out.mono HV27.out.size)).mono HV26.out.size)).mono HV25.out.size)).mono HV24.out.size)).mono HV23.out.size)).mono HV22.out.size)).mono HV21.out.size)).mono HV20.out.size)).mono HV19.out.size)))
  replace HR13 := Lib.hid (HR13.out.kept (HV10.out.trans ((HV11.out.trans ((HV12.out.trans ((HV13.out.trans ((HV14.out.trans ((HV15.out.trans ((HV16.out.trans ((HV17.out.trans ((HV18.out.trans ((HV19.out.trans ((HV20.out.trans ((HV21.out.trans ((HV22.out.trans ((HV23.out.trans ((HV24.out.trans ((HV25.out.trans ((HV26.out.trans ((HV27.out.trans (HV28.out.mono HV27.out.size)).mono HV26.out.size)).mono HV25.out.size)).mono HV24.out.size)).mono HV23.out.size)).mono HV22.out.size)).mono HV21.out.size)).mono HV20.out.size)).mono HV19.out.size)).mono HV18.out.size)).mono HV17.out.size)).mono HV16.out.size)).mono HV15.out.size)).mono HV14.out.size)).mono HV13.out.size)).mono HV12.out.size)).mono HV11.out.size)).mono HV10.out.size)))
  replace HA13 := Lib.hid (HA13.out.kept (HV10.out.trans ((HV11.out.trans ((HV12.out.trans ((HV13.out.trans ((HV14.out.trans ((HV15.out.trans ((HV16.out.trans ((HV17.out.trans ((HV18.out.trans ((HV19.out.trans ((HV20.out.trans ((HV21.out.trans ((HV22.out.trans ((HV23.out.trans ((HV24.out.trans ((HV25.out.trans ((HV26.out.trans ((HV27.out.trans (HV28.out.mono HV27.out.size)).mono HV26.out.size)).mono HV25.out.size)).mono HV24.out.size)).mono HV23.out.size)).mono HV22.out.size)).mono HV21.out.size)).mono HV20.out.size)).mono HV19.out.size)).mono HV18.out.size)).mono HV17.out.size)).mono HV16.out.size)).mono HV15.out.size)).mono HV14.out.size)).mono HV13.out.size)).mono HV12.out.size)).mono HV11.out.size)).mono HV10.out.size)))
  replace HT13 := Lib.hid (HT13.out.kept (HV10.out.trans ((HV11.out.trans ((HV12.out.trans ((HV13.out.trans ((HV14.out.trans ((HV15.out.trans ((HV16.out.trans ((HV17.out.trans ((HV18.out.trans ((HV19.out.trans ((HV20.out.trans ((HV21.out.trans ((HV22.out.trans ((HV23.out.trans ((HV24.out.trans ((HV25.out.trans ((HV26.out.trans ((HV27.out.trans (HV28.out.mono HV27.out.size)).mono HV26.out.size)).mono HV25.out.size)).mono HV24.out.size)).mono HV23.out.size)).mono HV22.out.size)).mono HV21.out.size)).mono HV20.out.size)).mono HV19.out.size)).mono HV18.out.size)).mono HV17.out.size)).mono HV16.out.size)).mono HV15.out.size)).mono HV14.out.size)).mono HV13.out.size)).mono HV12.out.size)).mono HV11.out.size)).mono HV10.out.size)))
  replace HZ13 := Lib.hid (((HV19.out.trans ((HV20.out.trans ((HV21.out.trans ((HV22.out.trans ((HV23.out.trans ((HV24.out.trans ((HV25.out.trans ((HV26.out.trans ((HV27.out.trans (HV28.out.mono HV27.out.size)).mono HV26.out.size)).mono HV25.out.size)).mono HV24.out.size)).mono HV23.out.size)).mono HV22.out.size)).mono HV21.out.size)).mono HV20.out.size)).mono HV19.out.size)).block _ (Array.getElem?_eq_some_iff.1 HZ13.out).1).trans HZ13.out)
  replace HI15 := Lib.hid (HI15.out.kept (HV24.out.trans ((HV25.out.trans ((HV26.out.trans ((HV27.out.trans (HV28.out.mono HV27.out.size)).mono HV26.out.size)).mono HV25.out.size)).mono HV24.out.size)))
  replace HQ15 := Lib.hid (HQ15.out.kept (HV12.out.trans ((HV13.out.trans ((HV14.out.trans ((HV15.out.trans ((HV16.out.trans ((HV17.out.trans ((HV18.out.trans ((HV19.out.trans ((HV20.out.trans ((HV21.out.trans ((HV22.out.trans ((HV23.out.trans ((HV24.out.trans ((HV25.out.trans ((HV26.out.trans ((HV27.out.trans (HV28.out.mono HV27.out.size)).mono HV26.out.size)).mono HV25.out.size)).mono HV24.out.size)).mono HV23.out.size)).mono HV22.out.size)).mono HV21.out.size)).mono HV20.out.size)).mono HV19.out.size)).mono HV18.out.size)).mono HV17.out.size)).mono HV16.out.size)).mono HV15.out.size)).mono HV14.out.size)).mono HV13.out.size)).mono HV12.out.size)))
  replace HI17 := Lib.hid (HI17.out.kept (HV20.out.trans ((HV21.out.trans ((HV22.out.trans ((HV23.out.trans ((HV24.out.trans ((HV25.out.trans ((HV26.out.trans ((HV27.out.trans (HV28.out.mono HV27.out.size)).mono HV26.out.size)).mono HV25.out.size)).mono HV24.out.size)).mono HV23.out.size)).mono HV22.out.size)).mono HV21.out.size)).mono HV20.out.size)))
  replace HQ17 := Lib.hid (HQ17.out.kept (HV13.out.trans ((HV14.out.trans ((HV15.out.trans ((HV16.out.trans ((HV17.out.trans ((HV18.out.trans ((HV19.out.trans ((HV20.out.trans ((HV21.out.trans ((HV22.out.trans ((HV23.out.trans ((HV24.out.trans ((HV25.out.trans ((HV26.out.trans ((HV27.out.trans (HV28.out.mono HV27.out.size)).mono HV26.out.size)).mono HV25.out.size)).mono HV24.out.size)).mono HV23.out.size)).mono HV22.out.size)).mono HV21.out.size)).mono HV20.out.size)).mono HV19.out.size)).mono HV18.out.size)).mono HV17.out.size)).mono HV16.out.size)).mono HV15.out.size)).mono HV14.out.size)).mono HV13.out.size)))
  replace HI19 := Lib.hid (HI19.out.kept (HV14.out.trans ((HV15.out.trans ((HV16.out.trans ((HV17.out.trans ((HV18.out.trans ((HV19.out.trans ((HV20.out.trans ((HV21.out.trans ((HV22.out.trans ((HV23.out.trans ((HV24.out.trans ((HV25.out.trans ((HV26.out.trans ((HV27.out.trans (HV28.out.mono HV27.out.size)).mono HV26.out.size)).mono HV25.out.size)).mono HV24.out.size)).mono HV23.out.size)).mono HV22.out.size)).mono HV21.out.size)).mono HV20.out.size)).mono HV19.out.size)).mono HV18.out.size)).mono HV17.out.size)).mono HV16.out.size)).mono HV15.out.size)).mono HV14.out.size)))
  replace HQ19 := Lib.hid (HQ19.out.kept (HV14.out.trans ((HV15.out.trans ((HV16.out.trans ((HV17.out.trans ((HV18.out.trans ((HV19.out.trans ((HV20.out.trans ((HV21.out.trans ((HV22.out.trans ((HV23.out.trans ((HV24.out.trans ((HV25.out.trans ((HV26.out.trans ((HV27.out.trans (HV28.out.mono HV27.out.size)).mono HV26.out.size)).mono HV25.out.size)).mono HV24.out.size)).mono HV23.out.size)).mono HV22.out.size)).mono HV21.out.size)).mono HV20.out.size)).mono HV19.out.size)).mono HV18.out.size)).mono HV17.out.size)).mono HV16.out.size)).mono HV15.out.size)).mono HV14.out.size)))
  replace HQ21 := Lib.hid (HQ21.out.kept (HV15.out.trans ((HV16.out.trans ((HV17.out.trans ((HV18.out.trans ((HV19.out.trans ((HV20.out.trans ((HV21.out.trans ((HV22.out.trans ((HV23.out.trans ((HV24.out.trans ((HV25.out.trans ((HV26.out.trans ((HV27.out.trans (HV28.out.mono HV27.out.size)).mono HV26.out.size)).mono HV25.out.size)).mono HV24.out.size)).mono HV23.out.size)).mono HV22.out.size)).mono HV21.out.size)).mono HV20.out.size)).mono HV19.out.size)).mono HV18.out.size)).mono HV17.out.size)).mono HV16.out.size)).mono HV15.out.size)))
  replace HO25 := Lib.hid (HO25.out.kept (HV24.out.trans ((HV25.out.trans ((HV26.out.trans ((HV27.out.trans (HV28.out.mono HV27.out.size)).mono HV26.out.size)).mono HV25.out.size)).mono HV24.out.size)))
  replace HZ25 := Lib.hid (((HV24.out.trans ((HV25.out.trans ((HV26.out.trans ((HV27.out.trans (HV28.out.mono HV27.out.size)).mono HV26.out.size)).mono HV25.out.size)).mono HV24.out.size)).block _ (Array.getElem?_eq_some_iff.1 HZ25.out).1).trans HZ25.out)
  replace HI26 := Lib.hid (HI26.out.kept (HV24.out.trans ((HV25.out.trans ((HV26.out.trans ((HV27.out.trans (HV28.out.mono HV27.out.size)).mono HV26.out.size)).mono HV25.out.size)).mono HV24.out.size)))
  replace HKQ := Lib.hid (HKQ.out.kept (HV24.out.trans ((HV25.out.trans ((HV26.out.trans ((HV27.out.trans (HV28.out.mono HV27.out.size)).mono HV26.out.size)).mono HV25.out.size)).mono HV24.out.size)))
  replace HAR27 := Lib.hid (HAR27.out.kept (HV25.out.trans ((HV26.out.trans ((HV27.out.trans (HV28.out.mono HV27.out.size)).mono HV26.out.size)).mono HV25.out.size)))
  replace HAR29 := Lib.hid (HAR29.out.kept (HV26.out.trans ((HV27.out.trans (HV28.out.mono HV27.out.size)).mono HV26.out.size)))
  replace HQ31 := Lib.hid (HQ31.out.kept (HV27.out.trans (HV28.out.mono HV27.out.size)))
  replace HQ33 := Lib.hid (HQ33.out.kept HV28.out)
  obtain ⟨nL, hnL⟩ : ∃ nL, nL = (b ++ mk8 66).length := ⟨_, rfl⟩
  obtain ⟨LL0, hLL⟩ : ∃ LL0, LL0 = b ++ mk8 66 := ⟨_, rfl⟩
  have hnb : b.length < nL := by rw [hnL, List.length_append, mk8_length]; omega
  have HI0 : Hid (Own w28 w1.heap.size 5 1 (.slice (some ⟨Si, 0, none⟩) nL Ci) nL (fun j => [.int .u8 ((flq LL0 0 j : Nat) : Int)])) := Lib.hid (by
    rw [hnL, hLL]
    exact HIN.out.own.congr fun j _ => by unfold flq; rw [if_neg (Nat.not_lt_zero _)])
  have HLX : Hid (∀ j, j < b.length → LL0.getD j 0 < 256) := Lib.hid fun j hj => by rw [hLL, app_get_l hj]; exact getD_256 HX.out j
  have HLL := Lib.hid hLL; have HNL := Lib.hid hnL
  clear hLL hnL
  go_wp2
  go_loopg [35] b.length (fun gk vi wr => ∃ i : Nat, i ≤ b.length ∧ gk = b.length - i ∧ vi = .int .i64 i ∧ Own wr w1.heap.size 5 1 (.slice (some ⟨Si, 0, none⟩) nL Ci) nL (fun j => [.int .u8 ((flq LL0 i j : Nat) : Int)]) ∧ Only (fun k => k = Si) w28 wr)
  case atStart => exact ⟨0, Nat.zero_le _, rfl, rfl, HI0.out, Only.refl _ _⟩
  case round =>
    clear HI0
    obtain ⟨i, hi, rfl, rfl, hO, ho⟩ := hrel
    by_cases hlt : i < b.length
    · have hcj := hO.cell1 (i := i) (by omega)
      have hfz := own_freeX hO i
      obtain ⟨x, hx⟩ : ∃ x, x = LL0.getD i 0 := ⟨_, rfl⟩
      have hx2 : x < 256 := by rw [hx]; exact HLX.out i hlt
      obtain ⟨y, hy⟩ : ∃ y, y = x ^^^ 1 := ⟨_, rfl⟩
      have hxor : bits .xor .u8 (x : Int) 1 = (y : Int) := by rw [hy]; exact u8_xor_nat x 1 hx2 (by decide)
      rw [show flq LL0 i i = x from by unfold flq; rw [if_neg (Nat.lt_irrefl _), hx]] at hcj
      have HO2 := Lib.hid ((hO.set1 (i := i) (by omega) (.int .u8 (y : Int))).congr (g := fun j => [.int .u8 ((flq LL0 (i + 1) j : Nat) : Int)]) fun j hj => by
        unfold flq
        by_cases e : j = i
        · subst e
          rw [if_pos rfl, if_pos (Nat.lt_succ_self _), hy, hx]
        · rw [if_neg e]
          by_cases e2 : j < i
          · rw [if_pos e2, if_pos (by omega)]
          · rw [if_neg e2, if_neg (by omega)])
      have HON := Lib.hid (ho.setCell (p := ⟨Si, i, none⟩) (.inl rfl) (.int .u8 (y : Int)))
      have hin : (i : Int) < (b.length : Int) := by omega
      clear hO ho hx hy
      go_wp2
      go_roundg (b.length - (i + 1))
      case measure => omega
      case rel => exact ⟨i + 1, by omega, rfl, by go_num, HO2.out, HON.out⟩
    · have hie : i = b.length := by omega
      subst hie
      obtain ⟨w29, hwl⟩ : ∃ w29, w29 = wr := ⟨_, rfl⟩
      rw [← hwl] at hO ho ⊢
      clear hwl
      obtain ⟨b2, hb2⟩ : ∃ b2 : List Nat, b2 = b.map (· ^^^ 1) := ⟨_, rfl⟩
      have HB2 := Lib.hid (show b2.length = b.length by rw [hb2, List.length_map])
      have HX2 := Lib.hid (show ∀ x ∈ b2, x < 256 from by
        intro x hx'
        rw [hb2] at hx'
        obtain ⟨y, hy, rfl⟩ := List.mem_map.1 hx'
        exact Nat.xor_lt_two_pow (n := 8) (HX.out y hy) (by decide))
      have HIN2 : Hid (OwnB w29 w1.heap.size (.slice (some ⟨Si, 0, none⟩) (b2 ++ mk8 66).length Ci) (b2 ++ mk8 66)) := Lib.hid (OwnB.of (by
        have e : (b2 ++ mk8 66).length = nL := by rw [HNL.out, List.length_append, List.length_append, HB2.out]
        rw [e]
        exact hO.congr fun j _ => by rw [HLL.out, hb2, flq_end]))
      have HS29 := Lib.hid ho.size
      have hs29 := ho.size
      have hs1 := HV1.out.size
      have hs2 := HV2.out.size
      have hs3 := HV3.out.size
      have hs4 := HV4.out.size
      have hs5 := HV5.out.size
      have hs6 := HV6.out.size
      have hs7 := HV7.out.size
      have hs8 := HV8.out.size
      have hs9 := HV9.out.size
      have hs10 := HV10.out.size
      have hs11 := HV11.out.size
      have hs12 := HV12.out.size
      have hs13 := HV13.out.size
      have hs14 := HV14.out.size
      have hs15 := HV15.out.size
      have hs16 := HV16.out.size
      have hs17 := HV17.out.size
      have hs18 := HV18.out.size
      have hs19 := HV19.out.size
      have hs20 := HV20.out.size
      have hs21 := HV21.out.size
      have hs22 := HV22.out.size
      have hs23 := HV23.out.size
      have hs24 := HV24.out.size
      have hs25 := HV25.out.size
      have hs26 := HV26.out.size
      have hs27 := HV27.out.size
      have hs28 := HV28.out.size
      replace HF := Lib.hid (HF.out.trans (ho.toBelow (fun k hk => by have : k = Si := hk; omega) (by omega)))
      replace HO7 := Lib.hid (HO7.out.onlyF ho fun k hk => by have : k = Si := hk; omega)
      replace HR7 := Lib.hid (HR7.out.onlyF ho fun k hk => by have : k = Si := hk; omega)
      replace HA7 := Lib.hid (HA7.out.onlyF ho fun k hk => by have : k = Si := hk; omega)
      replace HT7 := Lib.hid (HT7.out.onlyF ho fun k hk => by have : k = Si := hk; omega)
      replace HZ7 := Lib.hid ((ho.block _ (Array.getElem?_eq_some_iff.1 HZ7.out).1 (fun e => by have e : w3.heap.size = Si := e; omega)).trans HZ7.out)
      replace HO9 := Lib.hid (HO9.out.onlyF ho fun k hk => by have : k = Si := hk; omega)
      replace HR9 := Lib.hid (HR9.out.onlyF ho fun k hk => by have : k = Si := hk; omega)
      replace HA9 := Lib.hid (HA9.out.onlyF ho fun k hk => by have : k = Si := hk; omega)
      replace HT9 := Lib.hid (HT9.out.onlyF ho fun k hk => by have : k = Si := hk; omega)
      replace HZ9 := Lib.hid ((ho.block _ (Array.getElem?_eq_some_iff.1 HZ9.out).1 (fun e => by have e : w5.heap.size = Si := e; omega)).trans HZ9.out)
      replace HO11 := Lib.hid (HO11.out.onlyF ho fun k hk => by have : k = Si := hk; omega)
      replace HR11 := Lib.hid (HR11.out.onlyF ho fun k hk => by have : k = Si := hk; omega)
      replace HA11 := Lib.hid (HA11.out.onlyF ho fun k hk => by have : k = Si := hk; omega)
      replace HT11 := Lib.hid (HT11.out.onlyF ho fun k hk => by have : k = Si := hk; omega)
      replace HZ11 := Lib.hid ((ho.block _ (Array.getElem?_eq_some_iff.1 HZ11.out).1 (fun e => by have e : w7.heap.size = Si := e; omega)).trans HZ11.out)
      replace HO13 := Lib.hid (HO13.out.onlyF ho fun k hk => by have : k = Si := hk; omega)
      replace HR13 := Lib.hid (HR13.out.onlyF ho fun k hk => by have : k = Si := hk; omega)
      replace HA13 := Lib.hid (HA13.out.onlyF ho fun k hk => by have : k = Si := hk; omega)
      replace HT13 := Lib.hid (HT13.out.onlyF ho fun k hk => by have : k = Si := hk; omega)
      replace HZ13 := Lib.hid ((ho.block _ (Array.getElem?_eq_some_iff.1 HZ13.out).1 (fun e => by have e : w9.heap.size = Si := e; omega)).trans HZ13.out)
      replace HI15 := Lib.hid (HI15.out.onlyF ho fun k hk => by have : k = Si := hk; omega)
      replace HQ15 := Lib.hid (HQ15.out.onlyF ho fun k hk => by have : k = Si := hk; omega)
      replace HI17 := Lib.hid (HI17.out.onlyF ho fun k hk => by have : k = Si := hk; omega)
      replace HQ17 := Lib.hid (HQ17.out.onlyF ho fun k hk => by have : k = Si := hk; omega)
      replace HI19 := Lib.hid (HI19.out.onlyF ho fun k hk => by have : k = Si := hk; omega)
      replace HQ19 := Lib.hid (HQ19.out.onlyF ho fun k hk => by have : k = Si := hk; omega)
      replace HQ21 := Lib.hid (HQ21.out.onlyF ho fun k hk => by have : k = Si := hk; omega)
      replace HO25 := Lib.hid (HO25.out.onlyF ho fun k hk => by have : k = Si := hk; omega)
      replace HZ25 := Lib.hid ((ho.block _ (Array.getElem?_eq_some_iff.1 HZ25.out).1 (fun e => by have e : w21.heap.size = Si := e; omega)).trans HZ25.out)
      replace HI26 := Lib.hid (HI26.out.onlyF ho fun k hk => by have : k = Si := hk; omega)
      replace HKQ := Lib.hid (HKQ.out.only ho fun k h1 _ e => by have e : k = Si := e; omega)
      replace HAR27 := Lib.hid (HAR27.out.onlyF ho fun k hk => by have : k = Si := hk; omega)
      replace HAR29 := Lib.hid (HAR29.out.onlyF ho fun k hk => by have : k = Si := hk; omega)
      replace HQ31 := Lib.hid (HQ31.out.onlyF ho fun k hk => by have : k = Si := hk; omega)
      replace HQ33 := Lib.hid (HQ33.out.onlyF ho fun k hk => by have : k = Si := hk; omega)
      clear hs1 hs2 hs3 hs4 hs5 hs6 hs7 hs8 hs9 hs10 hs11 hs12 hs13 hs14 hs15 hs16 hs17 hs18 hs19 hs20 hs21 hs22 hs23 hs24 hs25 hs26 hs27 hs28 hs29
      clear hO ho HIN HI21 HJ31 HJ33 HLL HNL HLX hnb hi hlt
      go_wp2_with (first | (refine wpList_loadS rfl (.tmp 7) rfl (w3.heap.size) rfl #[.int .u8 P.s0, .int .u8 P.s1, .int .u8 P.s2, .int .u8 P.s3, .int .u8 P.s4, .int .u8 P.s5, .int .u8 P.s6, .int .u8 P.s7, .int .i64 P.K, .int .i64 P.M, .int .i64 P.B, .string P.key, .int .i64 P.size, .int .i64 P.idx, .int .i64 P.ep, .int .i64 P.ct, .slice A7 np c7] rfl HZ7.out ?_) | (refine wpList_loadS rfl (.tmp 25) rfl (w21.heap.size) rfl #[.int .u8 P.s0, .int .u8 P.s1, .int .u8 P.s2, .int .u8 P.s3, .int .u8 P.s4, .int .u8 P.s5, .int .u8 P.s6, .int .u8 P.s7, .int .i64 P.K, .int .i64 P.M, .int .i64 P.B, .string P.key, .int .i64 P.size, .int .i64 P.idx, .int .i64 P.ep, .int .i64 P.ct, .slice A25 np c25] rfl HZ25.out ?_))
      have hS := same_any P P A7 A25 c7 c25 (prsB b) (prsB b) w29 HPW.out HPW.out (Nat.le_trans (prsB_len _) (by decide)) (prsB_lt HX.out) (prsB_lt HX.out) (OwnLL.rll HO7.out) (OwnLL.rll HO25.out) (Nat.le_trans (prsB_len _) (by decide))
      rw [← HNP.out] at hS
      refine (hS).mono ?_
      rintro e w30 ⟨q, rfl, hq, hb⟩
      replace HF := Lib.hid (HF.out.trans (hb.mono HF.out.size))
      replace HIN2 := Lib.hid (HIN2.out.kept hb)
      have HV30 := Lib.hid hb
      obtain rfl : q = true := hq.2 ⟨rfl, rfl⟩
      clear hq
      clear hb
      clear hS
      replace HO9 := Lib.hid (HO9.out.kept HV30.out)
      replace HO25 := Lib.hid (HO25.out.kept HV30.out)
      replace HZ9 := Lib.hid ((HV30.out.block _ (Array.getElem?_eq_some_iff.1 HZ9.out).1).trans HZ9.out)
      replace HZ25 := Lib.hid ((HV30.out.block _ (Array.getElem?_eq_some_iff.1 HZ25.out).1).trans HZ25.out)
      go_wp2_with (first | (refine wpList_bare rfl rfl rfl rfl ?_; refine wpList_loadS rfl (.tmp 9) rfl (w5.heap.size) rfl #[.int .u8 P.s0, .int .u8 P.s1, .int .u8 P.s2, .int .u8 P.s3, .int .u8 P.s4, .int .u8 P.s5, .int .u8 P.s6, .int .u8 P.s7, .int .i64 P.K, .int .i64 P.M, .int .i64 P.B, .string P.key, .int .i64 P.size, .int .i64 P.idx, .int .i64 P.ep, .int .i64 P.ct, .slice A9 np c9] rfl HZ9.out ?_) | (refine wpList_bare rfl rfl rfl rfl ?_; refine wpList_loadS rfl (.tmp 25) rfl (w21.heap.size) rfl #[.int .u8 P.s0, .int .u8 P.s1, .int .u8 P.s2, .int .u8 P.s3, .int .u8 P.s4, .int .u8 P.s5, .int .u8 P.s6, .int .u8 P.s7, .int .i64 P.K, .int .i64 P.M, .int .i64 P.B, .string P.key, .int .i64 P.size, .int .i64 P.idx, .int .i64 P.ep, .int .i64 P.ct, .slice A25 np c25] rfl HZ25.out ?_))
      have hS := same_any P P A9 A25 c9 c25 (prsB b) (prsB b) w30 HPW.out HPW.out (Nat.le_trans (prsB_len _) (by decide)) (prsB_lt HX.out) (prsB_lt HX.out) (OwnLL.rll HO9.out) (OwnLL.rll HO25.out) (Nat.le_trans (prsB_len _) (by decide))
      rw [← HNP.out] at hS
      refine (hS).mono ?_
      rintro e w31 ⟨q, rfl, hq, hb⟩
      replace HF := Lib.hid (HF.out.trans (hb.mono HF.out.size))
      replace HIN2 := Lib.hid (HIN2.out.kept hb)
      have HV31 := Lib.hid hb
      obtain rfl : q = true := hq.2 ⟨rfl, rfl⟩
      clear hq
      clear hb
      clear hS
      replace HO13 := Lib.hid (HO13.out.kept (HV30.out.trans (HV31.out.mono HV30.out.size)))
      replace HO25 := Lib.hid (HO25.out.kept HV31.out)
      replace HZ13 := Lib.hid (((HV30.out.trans (HV31.out.mono HV30.out.size)).block _ (Array.getElem?_eq_some_iff.1 HZ13.out).1).trans HZ13.out)
      replace HZ25 := Lib.hid ((HV31.out.block _ (Array.getElem?_eq_some_iff.1 HZ25.out).1).trans HZ25.out)
      go_wp2_with (first | (refine wpList_bare rfl rfl rfl rfl ?_; refine wpList_loadS rfl (.tmp 13) rfl (w9.heap.size) rfl #[.int .u8 P.s0, .int .u8 P.s1, .int .u8 P.s2, .int .u8 P.s3, .int .u8 P.s4, .int .u8 P.s5, .int .u8 P.s6, .int .u8 P.s7, .int .i64 P.K, .int .i64 P.M, .int .i64 P.B, .string P.key, .int .i64 P.size, .int .i64 P.idx, .int .i64 P.ep, .int .i64 P.ct, .slice A13 np c13] rfl HZ13.out ?_) | (refine wpList_bare rfl rfl rfl rfl ?_; refine wpList_loadS rfl (.tmp 25) rfl (w21.heap.size) rfl #[.int .u8 P.s0, .int .u8 P.s1, .int .u8 P.s2, .int .u8 P.s3, .int .u8 P.s4, .int .u8 P.s5, .int .u8 P.s6, .int .u8 P.s7, .int .i64 P.K, .int .i64 P.M, .int .i64 P.B, .string P.key, .int .i64 P.size, .int .i64 P.idx, .int .i64 P.ep, .int .i64 P.ct, .slice A25 np c25] rfl HZ25.out ?_))
      have hS := same_any P P A13 A25 c13 c25 (prsB b) (prsB b) w31 HPW.out HPW.out (Nat.le_trans (prsB_len _) (by decide)) (prsB_lt HX.out) (prsB_lt HX.out) (OwnLL.rll HO13.out) (OwnLL.rll HO25.out) (Nat.le_trans (prsB_len _) (by decide))
      rw [← HNP.out] at hS
      refine (hS).mono ?_
      rintro e w32 ⟨q, rfl, hq, hb⟩
      replace HF := Lib.hid (HF.out.trans (hb.mono HF.out.size))
      replace HIN2 := Lib.hid (HIN2.out.kept hb)
      have HV32 := Lib.hid hb
      obtain rfl : q = true := hq.2 ⟨rfl, rfl⟩
      clear hq
      clear hb
      clear hS
      obtain ⟨H2, hH2⟩ : ∃ H2, H2 = rdH b2 := ⟨_, rfl⟩
      obtain ⟨er2, her2⟩ : ∃ er2, er2 = headE b2 := ⟨_, rfl⟩
      obtain ⟨P2, hP2⟩ : ∃ P2, P2 = prsH b2 := ⟨_, rfl⟩
      obtain ⟨pe2, hpe2⟩ : ∃ pe2, pe2 = prsE b2 := ⟨_, rfl⟩
      obtain ⟨np2, hnp2⟩ : ∃ np2, np2 = (prsB b2).length := ⟨_, rfl⟩
      obtain ⟨ns2, hns2⟩ : ∃ ns2, ns2 = (sptL b2).length := ⟨_, rfl⟩
      have hnp24 : np2 ≤ 4096 := by rw [hnp2]; exact prsB_len b2
      have hns24 : ns2 ≤ 4096 := by rw [hns2]; exact sptL_len b2
      have HPW2 := Lib.hid (show HdW P2 by rw [hP2]; exact prsH_wf HX2.out)
      have HHW2 := Lib.hid (show HdW H2 by rw [hH2]; exact rdH_wf HX2.out)
      have hbl2 : b2.length ≤ 140737488351232 := by rw [HB2.out]; exact hbl
      have hpp2 : (pe2 != pe2) = false := by simp
      have hbz : ([] : List Nat).length + b.length ≤ 140737488355328 := by simp; omega
      have hrr2 : (er2 != er2) = false := by simp
      have HP2 := Lib.hid hP2; have HPE2 := Lib.hid hpe2; have HNP2 := Lib.hid hnp2; have HNS2 := Lib.hid hns2; have HH2 := Lib.hid hH2; have HER2 := Lib.hid her2
      clear hP2 hpe2 hnp2 hns2 hH2 her2 hb2
      go_wp2_with fail
      refine (prs_named HP2.out HPE2.out HNP2.out HX2.out hbl2 HB2.out.symm (some ⟨Si, 0, none⟩) Ci w32 hcap hCm (lent_rl HIN2.out)).mono ?_
      rintro e w33 ⟨A36, c36, R36, rfl, hO, _, _, _, _, hb⟩
      replace HF := Lib.hid (HF.out.trans (hb.mono HF.out.size))
      replace HIN2 := Lib.hid (HIN2.out.kept hb)
      have HV33 := Lib.hid hb
      have HO36 := Lib.hid hO
      clear hO
      clear hb
      go_wp2_with (first | (at_builtin; refine wpList_appB rfl (.tmp 254) (.tmp 255) 47 rfl w34.heap.size (.slice (some ⟨w34.heap.size, 0, none⟩) 0 0) [] rfl (OwnB.fresh w34) (by simp) (.slice (some ⟨Si, 0, none⟩) b.length Ci) b.length b2 rfl (in_src (lent_rl HIN2.out) HB2.out.symm) hbz ?_) | (refine wpList_storeNewS rfl (.tmp 36) (.tmp 251) rfl #[.int .u8 P2.s0, .int .u8 P2.s1, .int .u8 P2.s2, .int .u8 P2.s3, .int .u8 P2.s4, .int .u8 P2.s5, .int .u8 P2.s6, .int .u8 P2.s7, .int .i64 P2.K, .int .i64 P2.M, .int .i64 P2.B, .string P2.key, .int .i64 P2.size, .int .i64 P2.idx, .int .i64 P2.ep, .int .i64 P2.ct, .slice A36 np2 c36] rfl rfl rfl rfl rfl ?_; have hbn := (Below.refl w33.heap.size w33).alloc (Nat.le_refl _) (.cells #[.int .u8 P2.s0, .int .u8 P2.s1, .int .u8 P2.s2, .int .u8 P2.s3, .int .u8 P2.s4, .int .u8 P2.s5, .int .u8 P2.s6, .int .u8 P2.s7, .int .i64 P2.K, .int .i64 P2.M, .int .i64 P2.B, .string P2.key, .int .i64 P2.size, .int .i64 P2.idx, .int .i64 P2.ep, .int .i64 P2.ct, .slice A36 np2 c36] 46); replace HF := Lib.hid (HF.out.trans (hbn.mono HF.out.size)); replace HIN2 := Lib.hid (HIN2.out.kept hbn); have HV34 := Lib.hid hbn; have HZ36 := Lib.hid (heap_alloc_new w33 (.cells #[.int .u8 P2.s0, .int .u8 P2.s1, .int .u8 P2.s2, .int .u8 P2.s3, .int .u8 P2.s4, .int .u8 P2.s5, .int .u8 P2.s6, .int .u8 P2.s7, .int .i64 P2.K, .int .i64 P2.M, .int .i64 P2.B, .string P2.key, .int .i64 P2.size, .int .i64 P2.idx, .int .i64 P2.ep, .int .i64 P2.ct, .slice A36 np2 c36] 46)); clear hbn; generalize w33.alloc (.cells #[.int .u8 P2.s0, .int .u8 P2.s1, .int .u8 P2.s2, .int .u8 P2.s3, .int .u8 P2.s4, .int .u8 P2.s5, .int .u8 P2.s6, .int .u8 P2.s7, .int .i64 P2.K, .int .i64 P2.M, .int .i64 P2.B, .string P2.key, .int .i64 P2.size, .int .i64 P2.idx, .int .i64 P2.ep, .int .i64 P2.ct, .slice A36 np2 c36] 46) = w34 at *))
      intro v w35 hO hb0 _
      have hb : Below w34.heap.size w34 w35 := ((Below.refl _ _).alloc (Nat.le_refl _) _).trans hb0
      replace HF := Lib.hid (HF.out.trans (hb.mono HF.out.size))
      replace HIN2 := Lib.hid (HIN2.out.kept hb)
      have HV35 := Lib.hid hb
      replace hO : OwnB w35 w34.heap.size v b2 := hO
      obtain ⟨A255, c255, ev, hq1255, hq2255, hr, _⟩ := hO.rd
      rw [HB2.out] at ev hq1255
      subst ev
      have HC255 := Lib.hid hr
      clear hO hb hb0 hr
      replace HZ36 := Lib.hid ((HV35.out.block _ (Array.getElem?_eq_some_iff.1 HZ36.out).1).trans HZ36.out)
      go_wp2_with fail
      refine (prs_named HP2.out HPE2.out HNP2.out HX2.out hbl2 HB2.out.symm A255 c255 w35 hq1255 hq2255 HC255.out).mono ?_
      rintro e w36 ⟨A38, c38, R38, rfl, hO, _, _, _, _, hb⟩
      replace HF := Lib.hid (HF.out.trans (hb.mono HF.out.size))
      replace HIN2 := Lib.hid (HIN2.out.kept hb)
      replace HZ36 := Lib.hid ((hb.block _ (Array.getElem?_eq_some_iff.1 HZ36.out).1).trans HZ36.out)
      have HV36 := Lib.hid hb
      have HO38 := Lib.hid hO
      clear hO
      clear hb
      go_wp2_with (first | (refine wpList_bare rfl rfl rfl rfl ?_; refine wpList_loadS rfl (.tmp 36) rfl (w33.heap.size) rfl #[.int .u8 P2.s0, .int .u8 P2.s1, .int .u8 P2.s2, .int .u8 P2.s3, .int .u8 P2.s4, .int .u8 P2.s5, .int .u8 P2.s6, .int .u8 P2.s7, .int .i64 P2.K, .int .i64 P2.M, .int .i64 P2.B, .string P2.key, .int .i64 P2.size, .int .i64 P2.idx, .int .i64 P2.ep, .int .i64 P2.ct, .slice A36 np2 c36] rfl HZ36.out ?_) | (refine wpList_bare rfl rfl rfl rfl ?_; refine wpList_loadS rfl (.tmp 38) rfl (w36.heap.size) rfl #[.int .u8 P2.s0, .int .u8 P2.s1, .int .u8 P2.s2, .int .u8 P2.s3, .int .u8 P2.s4, .int .u8 P2.s5, .int .u8 P2.s6, .int .u8 P2.s7, .int .i64 P2.K, .int .i64 P2.M, .int .i64 P2.B, .string P2.key, .int .i64 P2.size, .int .i64 P2.idx, .int .i64 P2.ep, .int .i64 P2.ct, .slice A38 np2 c38] rfl HZ38.out ?_) | (refine wpList_storeNewS rfl (.tmp 38) (.tmp 258) rfl #[.int .u8 P2.s0, .int .u8 P2.s1, .int .u8 P2.s2, .int .u8 P2.s3, .int .u8 P2.s4, .int .u8 P2.s5, .int .u8 P2.s6, .int .u8 P2.s7, .int .i64 P2.K, .int .i64 P2.M, .int .i64 P2.B, .string P2.key, .int .i64 P2.size, .int .i64 P2.idx, .int .i64 P2.ep, .int .i64 P2.ct, .slice A38 np2 c38] rfl rfl rfl rfl rfl ?_; have hbn := (Below.refl w36.heap.size w36).alloc (Nat.le_refl _) (.cells #[.int .u8 P2.s0, .int .u8 P2.s1, .int .u8 P2.s2, .int .u8 P2.s3, .int .u8 P2.s4, .int .u8 P2.s5, .int .u8 P2.s6, .int .u8 P2.s7, .int .i64 P2.K, .int .i64 P2.M, .int .i64 P2.B, .string P2.key, .int .i64 P2.size, .int .i64 P2.idx, .int .i64 P2.ep, .int .i64 P2.ct, .slice A38 np2 c38] 46); replace HF := Lib.hid (HF.out.trans (hbn.mono HF.out.size)); replace HIN2 := Lib.hid (HIN2.out.kept hbn); replace HZ36 := Lib.hid ((hbn.block _ (Array.getElem?_eq_some_iff.1 HZ36.out).1).trans HZ36.out); have HV37 := Lib.hid hbn; have HZ38 := Lib.hid (heap_alloc_new w36 (.cells #[.int .u8 P2.s0, .int .u8 P2.s1, .int .u8 P2.s2, .int .u8 P2.s3, .int .u8 P2.s4, .int .u8 P2.s5, .int .u8 P2.s6, .int .u8 P2.s7, .int .i64 P2.K, .int .i64 P2.M, .int .i64 P2.B, .string P2.key, .int .i64 P2.size, .int .i64 P2.idx, .int .i64 P2.ep, .int .i64 P2.ct, .slice A38 np2 c38] 46)); clear hbn; generalize w36.alloc (.cells #[.int .u8 P2.s0, .int .u8 P2.s1, .int .u8 P2.s2, .int .u8 P2.s3, .int .u8 P2.s4, .int .u8 P2.s5, .int .u8 P2.s6, .int .u8 P2.s7, .int .i64 P2.K, .int .i64 P2.M, .int .i64 P2.B, .string P2.key, .int .i64 P2.size, .int .i64 P2.idx, .int .i64 P2.ep, .int .i64 P2.ct, .slice A38 np2 c38] 46) = w37 at *))
      replace HO36 := Lib.hid (HO36.out.kept (HV34.out.trans ((HV35.out.trans ((HV36.out.trans (HV37.out.mono HV36.out.size)).mono HV35.out.size)).mono HV34.out.size)))
      replace HO38 := Lib.hid (HO38.out.kept HV37.out)
      have hS := same_any P2 P2 A36 A38 c36 c38 (prsB b2) (prsB b2) w37 HPW2.out HPW2.out (Nat.le_trans (prsB_len _) (by decide)) (prsB_lt HX2.out) (prsB_lt HX2.out) (OwnLL.rll HO36.out) (OwnLL.rll HO38.out) (Nat.le_trans (prsB_len _) (by decide))
      rw [← HNP2.out] at hS
      refine (hS).mono ?_
      rintro e w38 ⟨q, rfl, hq, hb⟩
      replace HF := Lib.hid (HF.out.trans (hb.mono HF.out.size))
      replace HIN2 := Lib.hid (HIN2.out.kept hb)
      replace HZ36 := Lib.hid ((hb.block _ (Array.getElem?_eq_some_iff.1 HZ36.out).1).trans HZ36.out)
      have HV38 := Lib.hid hb
      obtain rfl : q = true := hq.2 ⟨rfl, rfl⟩
      clear hq
      clear hb
      clear hS
      clear HO36 HO38 HZ36 HZ38
      clear HC255
      go_wp2_with fail
      refine (spt_named HER2.out HNS2.out HX2.out hbl2 HB2.out.symm (some ⟨Si, 0, none⟩) Ci w38 hcap hCm (lent_rl HIN2.out)).mono ?_
      rintro e w39 ⟨A40, c40, rfl, hO, hb⟩
      replace HF := Lib.hid (HF.out.trans (hb.mono HF.out.size))
      replace HIN2 := Lib.hid (HIN2.out.kept hb)
      have HV39 := Lib.hid hb
      have HI40 := Lib.hid hO
      have HQ40 := Lib.hid (OwnI.ar hO HNS2.out)
      clear hO
      clear hb
      go_wp2_with (at_builtin; refine wpList_appB rfl (.tmp 275) (.tmp 276) 47 rfl w39.heap.size (.slice (some ⟨w39.heap.size, 0, none⟩) 0 0) [] rfl (OwnB.fresh w39) (by simp) (.slice (some ⟨Si, 0, none⟩) b.length Ci) b.length b2 rfl (in_src (lent_rl HIN2.out) HB2.out.symm) hbz ?_)
      intro v w40 hO hb0 _
      have hb : Below w39.heap.size w39 w40 := ((Below.refl _ _).alloc (Nat.le_refl _) _).trans hb0
      replace HF := Lib.hid (HF.out.trans (hb.mono HF.out.size))
      replace HIN2 := Lib.hid (HIN2.out.kept hb)
      have HV40 := Lib.hid hb
      replace hO : OwnB w40 w39.heap.size v b2 := hO
      obtain ⟨A276, c276, ev, hq1276, hq2276, hr, _⟩ := hO.rd
      rw [HB2.out] at ev hq1276
      subst ev
      have HC276 := Lib.hid hr
      clear hO hb hb0 hr
      go_wp2_with fail
      refine (spt_named HER2.out HNS2.out HX2.out hbl2 HB2.out.symm A276 c276 w40 hq1276 hq2276 HC276.out).mono ?_
      rintro e w41 ⟨A42, c42, rfl, hO, hb⟩
      replace HF := Lib.hid (HF.out.trans (hb.mono HF.out.size))
      replace HIN2 := Lib.hid (HIN2.out.kept hb)
      have HV41 := Lib.hid hb
      have HI42 := Lib.hid hO
      have HQ42 := Lib.hid (OwnI.ar hO HNS2.out)
      clear hO
      clear hb
      clear HC276
      go_wp2_with fail
      refine (ph_named HH2.out HER2.out HX2.out hbl2 HB2.out.symm (some ⟨Si, 0, none⟩) Ci w41 hcap hCm (lent_rl HIN2.out)).mono ?_
      rintro e w42 ⟨rfl, hb⟩
      replace HF := Lib.hid (HF.out.trans (hb.mono HF.out.size))
      replace HIN2 := Lib.hid (HIN2.out.kept hb)
      have HV42 := Lib.hid hb
      clear hb
      go_wp2_with (first | (at_builtin; refine wpList_appB rfl (.tmp 287) (.tmp 288) 47 rfl w43.heap.size (.slice (some ⟨w43.heap.size, 0, none⟩) 0 0) [] rfl (OwnB.fresh w43) (by simp) (.slice (some ⟨Si, 0, none⟩) b.length Ci) b.length b2 rfl (in_src (lent_rl HIN2.out) HB2.out.symm) hbz ?_) | (refine wpList_storeNewH rfl (.tmp 44) (.tmp 284) rfl #[.int .u8 H2.s0, .int .u8 H2.s1, .int .u8 H2.s2, .int .u8 H2.s3, .int .u8 H2.s4, .int .u8 H2.s5, .int .u8 H2.s6, .int .u8 H2.s7, .int .i64 H2.K, .int .i64 H2.M, .int .i64 H2.B, .string H2.key, .int .i64 H2.size, .int .i64 H2.idx, .int .i64 H2.ep, .int .i64 H2.ct] rfl rfl rfl rfl rfl ?_; have hbn := (Below.refl w42.heap.size w42).alloc (Nat.le_refl _) (.cells #[.int .u8 H2.s0, .int .u8 H2.s1, .int .u8 H2.s2, .int .u8 H2.s3, .int .u8 H2.s4, .int .u8 H2.s5, .int .u8 H2.s6, .int .u8 H2.s7, .int .i64 H2.K, .int .i64 H2.M, .int .i64 H2.B, .string H2.key, .int .i64 H2.size, .int .i64 H2.idx, .int .i64 H2.ep, .int .i64 H2.ct] 28); replace HF := Lib.hid (HF.out.trans (hbn.mono HF.out.size)); replace HIN2 := Lib.hid (HIN2.out.kept hbn); have HV43 := Lib.hid hbn; have HZ44 := Lib.hid (heap_alloc_new w42 (.cells #[.int .u8 H2.s0, .int .u8 H2.s1, .int .u8 H2.s2, .int .u8 H2.s3, .int .u8 H2.s4, .int .u8 H2.s5, .int .u8 H2.s6, .int .u8 H2.s7, .int .i64 H2.K, .int .i64 H2.M, .int .i64 H2.B, .string H2.key, .int .i64 H2.size, .int .i64 H2.idx, .int .i64 H2.ep, .int .i64 H2.ct] 28)); clear hbn; generalize w42.alloc (.cells #[.int .u8 H2.s0, .int .u8 H2.s1, .int .u8 H2.s2, .int .u8 H2.s3, .int .u8 H2.s4, .int .u8 H2.s5, .int .u8 H2.s6, .int .u8 H2.s7, .int .i64 H2.K, .int .i64 H2.M, .int .i64 H2.B, .string H2.key, .int .i64 H2.size, .int .i64 H2.idx, .int .i64 H2.ep, .int .i64 H2.ct] 28) = w43 at *))
      intro v w44 hO hb0 _
      have hb : Below w43.heap.size w43 w44 := ((Below.refl _ _).alloc (Nat.le_refl _) _).trans hb0
      replace HF := Lib.hid (HF.out.trans (hb.mono HF.out.size))
      replace HIN2 := Lib.hid (HIN2.out.kept hb)
      have HV44 := Lib.hid hb
      replace hO : OwnB w44 w43.heap.size v b2 := hO
      obtain ⟨A288, c288, ev, hq1288, hq2288, hr, _⟩ := hO.rd
      rw [HB2.out] at ev hq1288
      subst ev
      have HC288 := Lib.hid hr
      clear hO hb hb0 hr
      go_wp2_with fail
      refine (ph_named HH2.out HER2.out HX2.out hbl2 HB2.out.symm A288 c288 w44 hq1288 hq2288 HC288.out).mono ?_
      rintro e w45 ⟨rfl, hb⟩
      replace HF := Lib.hid (HF.out.trans (hb.mono HF.out.size))
      replace HIN2 := Lib.hid (HIN2.out.kept hb)
      have HV45 := Lib.hid hb
      clear hb
      clear HC288
      go_wp2_with (refine wpList_storeNewH rfl (.tmp 46) (.tmp 291) rfl #[.int .u8 H2.s0, .int .u8 H2.s1, .int .u8 H2.s2, .int .u8 H2.s3, .int .u8 H2.s4, .int .u8 H2.s5, .int .u8 H2.s6, .int .u8 H2.s7, .int .i64 H2.K, .int .i64 H2.M, .int .i64 H2.B, .string H2.key, .int .i64 H2.size, .int .i64 H2.idx, .int .i64 H2.ep, .int .i64 H2.ct] rfl rfl rfl rfl rfl ?_; have hbn := (Below.refl w45.heap.size w45).alloc (Nat.le_refl _) (.cells #[.int .u8 H2.s0, .int .u8 H2.s1, .int .u8 H2.s2, .int .u8 H2.s3, .int .u8 H2.s4, .int .u8 H2.s5, .int .u8 H2.s6, .int .u8 H2.s7, .int .i64 H2.K, .int .i64 H2.M, .int .i64 H2.B, .string H2.key, .int .i64 H2.size, .int .i64 H2.idx, .int .i64 H2.ep, .int .i64 H2.ct] 28); replace HF := Lib.hid (HF.out.trans (hbn.mono HF.out.size)); replace HIN2 := Lib.hid (HIN2.out.kept hbn); have HV46 := Lib.hid hbn; have HZ46 := Lib.hid (heap_alloc_new w45 (.cells #[.int .u8 H2.s0, .int .u8 H2.s1, .int .u8 H2.s2, .int .u8 H2.s3, .int .u8 H2.s4, .int .u8 H2.s5, .int .u8 H2.s6, .int .u8 H2.s7, .int .i64 H2.K, .int .i64 H2.M, .int .i64 H2.B, .string H2.key, .int .i64 H2.size, .int .i64 H2.idx, .int .i64 H2.ep, .int .i64 H2.ct] 28)); clear hbn; generalize w45.alloc (.cells #[.int .u8 H2.s0, .int .u8 H2.s1, .int .u8 H2.s2, .int .u8 H2.s3, .int .u8 H2.s4, .int .u8 H2.s5, .int .u8 H2.s6, .int .u8 H2.s7, .int .i64 H2.K, .int .i64 H2.M, .int .i64 H2.B, .string H2.key, .int .i64 H2.size, .int .i64 H2.idx, .int .i64 H2.ep, .int .i64 H2.ct] 28) = w46 at *)
      replace HI40 := Lib.hid (HI40.out.kept (HV40.out.trans ((HV41.out.trans ((HV42.out.trans ((HV43.out.trans ((HV44.out.trans ((HV45.out.trans (HV46.out.mono HV45.out.size)).mono HV44.out.size)).mono HV43.out.size)).mono HV42.out.size)).mono HV41.out.size)).mono HV40.out.size)))
      replace HI42 := Lib.hid (HI42.out.kept (HV42.out.trans ((HV43.out.trans ((HV44.out.trans ((HV45.out.trans (HV46.out.mono HV45.out.size)).mono HV44.out.size)).mono HV43.out.size)).mono HV42.out.size)))
      go_wp2_with fail
      refine (sameInts_any A40 A42 ns2 c40 c42 (fun i => (((sptL b2).getD i 0 : Nat) : Int)) w46 (by omega) (OwnI.rdn HI40.out HNS2.out) (OwnI.rdn HI42.out HNS2.out)).mono ?_
      rintro e w47 ⟨rfl, hd⟩
      have hb := hd.below w46.heap.size
      replace HF := Lib.hid (HF.out.trans (hb.mono HF.out.size))
      replace HIN2 := Lib.hid (HIN2.out.kept hb)
      have HV47 := Lib.hid hb
      clear hb hd
      have hEQ := (head_eq HHW2.out HHW2.out w47).trans (by rw [(hdEq_iff H2 H2).2 rfl])
      replace HR7 := Lib.hid (HR7.out.kept (HV30.out.trans ((HV31.out.trans ((HV32.out.trans ((HV33.out.trans ((HV34.out.trans ((HV35.out.trans ((HV36.out.trans ((HV37.out.trans ((HV38.out.trans ((HV39.out.trans ((HV40.out.trans ((HV41.out.trans ((HV42.out.trans ((HV43.out.trans ((HV44.out.trans ((HV45.out.trans ((HV46.out.trans (HV47.out.mono HV46.out.size)).mono HV45.out.size)).mono HV44.out.size)).mono HV43.out.size)).mono HV42.out.size)).mono HV41.out.size)).mono HV40.out.size)).mono HV39.out.size)).mono HV38.out.size)).mono HV37.out.size)).mono HV36.out.size)).mono HV35.out.size)).mono HV34.out.size)).mono HV33.out.size)).mono HV32.out.size)).mono HV31.out.size)).mono HV30.out.size)))
      replace HA7 := Lib.hid (HA7.out.kept (HV30.out.trans ((HV31.out.trans ((HV32.out.trans ((HV33.out.trans ((HV34.out.trans ((HV35.out.trans ((HV36.out.trans ((HV37.out.trans ((HV38.out.trans ((HV39.out.trans ((HV40.out.trans ((HV41.out.trans ((HV42.out.trans ((HV43.out.trans ((HV44.out.trans ((HV45.out.trans ((HV46.out.trans (HV47.out.mono HV46.out.size)).mono HV45.out.size)).mono HV44.out.size)).mono HV43.out.size)).mono HV42.out.size)).mono HV41.out.size)).mono HV40.out.size)).mono HV39.out.size)).mono HV38.out.size)).mono HV37.out.size)).mono HV36.out.size)).mono HV35.out.size)).mono HV34.out.size)).mono HV33.out.size)).mono HV32.out.size)).mono HV31.out.size)).mono HV30.out.size)))
      replace HT7 := Lib.hid (HT7.out.kept (HV30.out.trans ((HV31.out.trans ((HV32.out.trans ((HV33.out.trans ((HV34.out.trans ((HV35.out.trans ((HV36.out.trans ((HV37.out.trans ((HV38.out.trans ((HV39.out.trans ((HV40.out.trans ((HV41.out.trans ((HV42.out.trans ((HV43.out.trans ((HV44.out.trans ((HV45.out.trans ((HV46.out.trans (HV47.out.mono HV46.out.size)).mono HV45.out.size)).mono HV44.out.size)).mono HV43.out.size)).mono HV42.out.size)).mono HV41.out.size)).mono HV40.out.size)).mono HV39.out.size)).mono HV38.out.size)).mono HV37.out.size)).mono HV36.out.size)).mono HV35.out.size)).mono HV34.out.size)).mono HV33.out.size)).mono HV32.out.size)).mono HV31.out.size)).mono HV30.out.size)))
      replace HZ7 := Lib.hid (((HV30.out.trans ((HV31.out.trans ((HV32.out.trans ((HV33.out.trans ((HV34.out.trans ((HV35.out.trans ((HV36.out.trans ((HV37.out.trans ((HV38.out.trans ((HV39.out.trans ((HV40.out.trans ((HV41.out.trans ((HV42.out.trans ((HV43.out.trans ((HV44.out.trans ((HV45.out.trans ((HV46.out.trans (HV47.out.mono HV46.out.size)).mono HV45.out.size)).mono HV44.out.size)).mono HV43.out.size)).mono HV42.out.size)).mono HV41.out.size)).mono HV40.out.size)).mono HV39.out.size)).mono HV38.out.size)).mono HV37.out.size)).mono HV36.out.size)).mono HV35.out.size)).mono HV34.out.size)).mono HV33.out.size)).mono HV32.out.size)).mono HV31.out.size)).mono HV30.out.size)).block _ (Array.getElem?_eq_some_iff.1 HZ7.out).1).trans HZ7.out)
      replace HR9 := Lib.hid (HR9.out.kept (HV30.out.trans ((HV31.out.trans ((HV32.out.trans ((HV33.out.trans ((HV34.out.trans ((HV35.out.trans ((HV36.out.trans ((HV37.out.trans ((HV38.out.trans ((HV39.out.trans ((HV40.out.trans ((HV41.out.trans ((HV42.out.trans ((HV43.out.trans ((HV44.out.trans ((HV45.out.trans ((HV46.out.trans (HV47.out.mono HV46.out.size)).mono HV45.out.size)).mono HV44.out.size)).mono HV43.out.size)).mono HV42.out.size)).mono HV41.out.size)).mono HV40.out.size)).mono HV39.out.size)).mono HV38.out.size)).mono HV37.out.size)).mono HV36.out.size)).mono HV35.out.size)).mono HV34.out.size)).mono HV33.out.size)).mono HV32.out.size)).mono HV31.out.size)).mono HV30.out.size)))
      replace HA9 := Lib.hid (HA9.out.kept (HV30.out.trans ((HV31.out.trans ((HV32.out.trans ((HV33.out.trans ((HV34.out.trans ((HV35.out.trans ((HV36.out.trans ((HV37.out.trans ((HV38.out.trans ((HV39.out.trans ((HV40.out.trans ((HV41.out.trans ((HV42.out.trans ((HV43.out.trans ((HV44.out.trans ((HV45.out.trans ((HV46.out.trans (HV47.out.mono HV46.out.size)).mono HV45.out.size)).mono HV44.out.size)).mono HV43.out.size)).mono HV42.out.size)).mono HV41.out.size)).mono HV40.out.size)).mono HV39.out.size)).mono HV38.out.size)).mono HV37.out.size)).mono HV36.out.size)).mono HV35.out.size)).mono HV34.out.size)).mono HV33.out.size)).mono HV32.out.size)).mono HV31.out.size)).mono HV30.out.size)))
      replace HT9 := Lib.hid (HT9.out.kept (HV30.out.trans ((HV31.out.trans ((HV32.out.trans ((HV33.out.trans ((HV34.out.trans ((HV35.out.trans ((HV36.out.trans ((HV37.out.trans ((HV38.out.trans ((HV39.out.trans ((HV40.out.trans ((HV41.out.trans ((HV42.out.trans ((HV43.out.trans ((HV44.out.trans ((HV45.out.trans ((HV46.out.trans (HV47.out.mono HV46.out.size)).mono HV45.out.size)).mono HV44.out.size)).mono HV43.out.size)).mono HV42.out.size)).mono HV41.out.size)).mono HV40.out.size)).mono HV39.out.size)).mono HV38.out.size)).mono HV37.out.size)).mono HV36.out.size)).mono HV35.out.size)).mono HV34.out.size)).mono HV33.out.size)).mono HV32.out.size)).mono HV31.out.size)).mono HV30.out.size)))
      replace HZ9 := Lib.hid (((HV31.out.trans ((HV32.out.trans ((HV33.out.trans ((HV34.out.trans ((HV35.out.trans ((HV36.out.trans ((HV37.out.trans ((HV38.out.trans ((HV39.out.trans ((HV40.out.trans ((HV41.out.trans ((HV42.out.trans ((HV43.out.trans ((HV44.out.trans ((HV45.out.trans ((HV46.out.trans (HV47.out.mono HV46.out.size)).mono HV45.out.size)).mono HV44.out.size)).mono HV43.out.size)).mono HV42.out.size)).mono HV41.out.size)).mono HV40.out.size)).mono HV39.out.size)).mono HV38.out.size)).mono HV37.out.size)).mono HV36.out.size)).mono HV35.out.size)).mono HV34.out.size)).mono HV33.out.size)).mono HV32.out.size)).mono HV31.out.size)).block _ (Array.getElem?_eq_some_iff.1 HZ9.out).1).trans HZ9.out)
      replace HR11 := Lib.hid (HR11.out.kept (HV30.out.trans ((HV31.out.trans ((HV32.out.trans ((HV33.out.trans ((HV34.out.trans ((HV35.out.trans ((HV36.out.trans ((HV37.out.trans ((HV38.out.trans ((HV39.out.trans ((HV40.out.trans ((HV41.out.trans ((HV42.out.trans ((HV43.out.trans ((HV44.out.trans ((HV45.out.trans ((HV46.out.trans (HV47.out.mono HV46.out.size)).mono HV45.out.size)).mono HV44.out.size)).mono HV43.out.size)).mono HV42.out.size)).mono HV41.out.size)).mono HV40.out.size)).mono HV39.out.size)).mono HV38.out.size)).mono HV37.out.size)).mono HV36.out.size)).mono HV35.out.size)).mono HV34.out.size)).mono HV33.out.size)).mono HV32.out.size)).mono HV31.out.size)).mono HV30.out.size)))
      replace HA11 := Lib.hid (HA11.out.kept (HV30.out.trans ((HV31.out.trans ((HV32.out.trans ((HV33.out.trans ((HV34.out.trans ((HV35.out.trans ((HV36.out.trans ((HV37.out.trans ((HV38.out.trans ((HV39.out.trans ((HV40.out.trans ((HV41.out.trans ((HV42.out.trans ((HV43.out.trans ((HV44.out.trans ((HV45.out.trans ((HV46.out.trans (HV47.out.mono HV46.out.size)).mono HV45.out.size)).mono HV44.out.size)).mono HV43.out.size)).mono HV42.out.size)).mono HV41.out.size)).mono HV40.out.size)).mono HV39.out.size)).mono HV38.out.size)).mono HV37.out.size)).mono HV36.out.size)).mono HV35.out.size)).mono HV34.out.size)).mono HV33.out.size)).mono HV32.out.size)).mono HV31.out.size)).mono HV30.out.size)))
      replace HT11 := Lib.hid (HT11.out.kept (HV30.out.trans ((HV31.out.trans ((HV32.out.trans ((HV33.out.trans ((HV34.out.trans ((HV35.out.trans ((HV36.out.trans ((HV37.out.trans ((HV38.out.trans ((HV39.out.trans ((HV40.out.trans ((HV41.out.trans ((HV42.out.trans ((HV43.out.trans ((HV44.out.trans ((HV45.out.trans ((HV46.out.trans (HV47.out.mono HV46.out.size)).mono HV45.out.size)).mono HV44.out.size)).mono HV43.out.size)).mono HV42.out.size)).mono HV41.out.size)).mono HV40.out.size)).mono HV39.out.size)).mono HV38.out.size)).mono HV37.out.size)).mono HV36.out.size)).mono HV35.out.size)).mono HV34.out.size)).mono HV33.out.size)).mono HV32.out.size)).mono HV31.out.size)).mono HV30.out.size)))
      replace HZ11 := Lib.hid (((HV30.out.trans ((HV31.out.trans ((HV32.out.trans ((HV33.out.trans ((HV34.out.trans ((HV35.out.trans ((HV36.out.trans ((HV37.out.trans ((HV38.out.trans ((HV39.out.trans ((HV40.out.trans ((HV41.out.trans ((HV42.out.trans ((HV43.out.trans ((HV44.out.trans ((HV45.out.trans ((HV46.out.trans (HV47.out.mono HV46.out.size)).mono HV45.out.size)).mono HV44.out.size)).mono HV43.out.size)).mono HV42.out.size)).mono HV41.out.size)).mono HV40.out.size)).mono HV39.out.size)).mono HV38.out.size)).mono HV37.out.size)).mono HV36.out.size)).mono HV35.out.size)).mono HV34.out.size)).mono HV33.out.size)).mono HV32.out.size)).mono HV31.out.size)).mono HV30.out.size)).block _ (Array.getElem?_eq_some_iff.1 HZ11.out).1).trans HZ11.out)
      replace HR13 := Lib.hid (HR13.out.kept (HV30.out.trans ((HV31.out.trans ((HV32.out.trans ((HV33.out.trans ((HV34.out.trans ((HV35.out.trans ((HV36.out.trans ((HV37.out.trans ((HV38.out.trans ((HV39.out.trans ((HV40.out.trans ((HV41.out.trans ((HV42.out.trans ((HV43.out.trans ((HV44.out.trans ((HV45.out.trans ((HV46.out.trans (HV47.out.mono HV46.out.size)).mono HV45.out.size)).mono HV44.out.size)).mono HV43.out.size)).mono HV42.out.size)).mono HV41.out.size)).mono HV40.out.size)).mono HV39.out.size)).mono HV38.out.size)).mono HV37.out.size)).mono HV36.out.size)).mono HV35.out.size)).mono HV34.out.size)).mono HV33.out.size)).mono HV32.out.size)).mono HV31.out.size)).mono HV30.out.size)))
      replace HA13 := Lib.hid (HA13.out.kept (HV30.out.trans ((HV31.out.trans ((HV32.out.trans ((HV33.out.trans ((HV34.out.trans ((HV35.out.trans ((HV36.out.trans ((HV37.out.trans ((HV38.out.trans ((HV39.out.trans ((HV40.out.trans ((HV41.out.trans ((HV42.out.trans ((HV43.out.trans ((HV44.out.trans ((HV45.out.trans ((HV46.out.trans (HV47.out.mono HV46.out.size)).mono HV45.out.size)).mono HV44.out.size)).mono HV43.out.size)).mono HV42.out.size)).mono HV41.out.size)).mono HV40.out.size)).mono HV39.out.size)).mono HV38.out.size)).mono HV37.out.size)).mono HV36.out.size)).mono HV35.out.size)).mono HV34.out.size)).mono HV33.out.size)).mono HV32.out.size)).mono HV31.out.size)).mono HV30.out.size)))
      replace HT13 := Lib.hid (HT13.out.kept (HV30.out.trans ((HV31.out.trans ((HV32.out.trans ((HV33.out.trans ((HV34.out.trans ((HV35.out.trans ((HV36.out.trans ((HV37.out.trans ((HV38.out.trans ((HV39.out.trans ((HV40.out.trans ((HV41.out.trans ((HV42.out.trans ((HV43.out.trans ((HV44.out.trans ((HV45.out.trans ((HV46.out.trans (HV47.out.mono HV46.out.size)).mono HV45.out.size)).mono HV44.out.size)).mono HV43.out.size)).mono HV42.out.size)).mono HV41.out.size)).mono HV40.out.size)).mono HV39.out.size)).mono HV38.out.size)).mono HV37.out.size)).mono HV36.out.size)).mono HV35.out.size)).mono HV34.out.size)).mono HV33.out.size)).mono HV32.out.size)).mono HV31.out.size)).mono HV30.out.size)))
      replace HZ13 := Lib.hid (((HV32.out.trans ((HV33.out.trans ((HV34.out.trans ((HV35.out.trans ((HV36.out.trans ((HV37.out.trans ((HV38.out.trans ((HV39.out.trans ((HV40.out.trans ((HV41.out.trans ((HV42.out.trans ((HV43.out.trans ((HV44.out.trans ((HV45.out.trans ((HV46.out.trans (HV47.out.mono HV46.out.size)).mono HV45.out.size)).mono HV44.out.size)).mono HV43.out.size)).mono HV42.out.size)).mono HV41.out.size)).mono HV40.out.size)).mono HV39.out.size)).mono HV38.out.size)).mono HV37.out.size)).mono HV36.out.size)).mono HV35.out.size)).mono HV34.out.size)).mono HV33.out.size)).mono HV32.out.size)).block _ (Array.getElem?_eq_some_iff.1 HZ13.out).1).trans HZ13.out)
      replace HQ15 := Lib.hid (HQ15.out.kept (HV30.out.trans ((HV31.out.trans ((HV32.out.trans ((HV33.out.trans ((HV34.out.trans ((HV35.out.trans ((HV36.out.trans ((HV37.out.trans ((HV38.out.trans ((HV39.out.trans ((HV40.out.trans ((HV41.out.trans ((HV42.out.trans ((HV43.out.trans ((HV44.out.trans ((HV45.out.trans ((HV46.out.trans (HV47.out.mono HV46.out.size)).mono HV45.out.size)).mono HV44.out.size)).mono HV43.out.size)).mono HV42.out.size)).mono HV41.out.size)).mono HV40.out.size)).mono HV39.out.size)).mono HV38.out.size)).mono HV37.out.size)).mono HV36.out.size)).mono HV35.out.size)).mono HV34.out.size)).mono HV33.out.size)).mono HV32.out.size)).mono HV31.out.size)).mono HV30.out.size)))
      replace HQ17 := Lib.hid (HQ17.out.kept (HV30.out.trans ((HV31.out.trans ((HV32.out.trans ((HV33.out.trans ((HV34.out.trans ((HV35.out.trans ((HV36.out.trans ((HV37.out.trans ((HV38.out.trans ((HV39.out.trans ((HV40.out.trans ((HV41.out.trans ((HV42.out.trans ((HV43.out.trans ((HV44.out.trans ((HV45.out.trans ((HV46.out.trans (HV47.out.mono HV46.out.size)).mono HV45.out.size)).mono HV44.out.size)).mono HV43.out.size)).mono HV42.out.size)).mono HV41.out.size)).mono HV40.out.size)).mono HV39.out.size)).mono HV38.out.size)).mono HV37.out.size)).mono HV36.out.size)).mono HV35.out.size)).mono HV34.out.size)).mono HV33.out.size)).mono HV32.out.size)).mono HV31.out.size)).mono HV30.out.size)))
      replace HQ19 := Lib.hid (HQ19.out.kept (HV30.out.trans ((HV31.out.trans ((HV32.out.trans ((HV33.out.trans ((HV34.out.trans ((HV35.out.trans ((HV36.out.trans ((HV37.out.trans ((HV38.out.trans ((HV39.out.trans ((HV40.out.trans ((HV41.out.trans ((HV42.out.trans ((HV43.out.trans ((HV44.out.trans ((HV45.out.trans ((HV46.out.trans (HV47.out.mono HV46.out.size)).mono HV45.out.size)).mono HV44.out.size)).mono HV43.out.size)).mono HV42.out.size)).mono HV41.out.size)).mono HV40.out.size)).mono HV39.out.size)).mono HV38.out.size)).mono HV37.out.size)).mono HV36.out.size)).mono HV35.out.size)).mono HV34.out.size)).mono HV33.out.size)).mono HV32.out.size)).mono HV31.out.size)).mono HV30.out.size)))
      replace HQ21 := Lib.hid (HQ21.out.kept (HV30.out.trans ((HV31.out.trans ((HV32.out.trans ((HV33.out.trans ((HV34.out.trans ((HV35.out.trans ((HV36.out.trans ((HV37.out.trans ((HV38.out.trans ((HV39.out.trans ((HV40.out.trans ((HV41.out.trans ((HV42.out.trans ((HV43.out.trans ((HV44.out.trans ((HV45.out.trans ((HV46.out.trans (HV47.out.mono HV46.out.size)).mono HV45.out.size)).mono HV44.out.size)).mono HV43.out.size)).mono HV42.out.size)).mono HV41.out.size)).mono HV40.out.size)).mono HV39.out.size)).mono HV38.out.size)).mono HV37.out.size)).mono HV36.out.size)).mono HV35.out.size)).mono HV34.out.size)).mono HV33.out.size)).mono HV32.out.size)).mono HV31.out.size)).mono HV30.out.size)))
      replace HKQ := Lib.hid (HKQ.out.kept (HV30.out.trans ((HV31.out.trans ((HV32.out.trans ((HV33.out.trans ((HV34.out.trans ((HV35.out.trans ((HV36.out.trans ((HV37.out.trans ((HV38.out.trans ((HV39.out.trans ((HV40.out.trans ((HV41.out.trans ((HV42.out.trans ((HV43.out.trans ((HV44.out.trans ((HV45.out.trans ((HV46.out.trans (HV47.out.mono HV46.out.size)).mono HV45.out.size)).mono HV44.out.size)).mono HV43.out.size)).mono HV42.out.size)).mono HV41.out.size)).mono HV40.out.size)).mono HV39.out.size)).mono HV38.out.size)).mono HV37.out.size)).mono HV36.out.size)).mono HV35.out.size)).mono HV34.out.size)).mono HV33.out.size)).mono HV32.out.size)).mono HV31.out.size)).mono HV30.out.size)))
      replace HAR27 := Lib.hid (HAR27.out.kept (HV30.out.trans ((HV31.out.trans ((HV32.out.trans ((HV33.out.trans ((HV34.out.trans ((HV35.out.trans ((HV36.out.trans ((HV37.out.trans ((HV38.out.trans ((HV39.out.trans ((HV40.out.trans ((HV41.out.trans ((HV42.out.trans ((HV43.out.trans ((HV44.out.trans ((HV45.out.trans ((HV46.out.trans (HV47.out.mono HV46.out.size)).mono HV45.out.size)).mono HV44.out.size)).mono HV43.out.size)).mono HV42.out.size)).mono HV41.out.size)).mono HV40.out.size)).mono HV39.out.size)).mono HV38.out.size)).mono HV37.out.size)).mono HV36.out.size)).mono HV35.out.size)).mono HV34.out.size)).mono HV33.out.size)).mono HV32.out.size)).mono HV31.out.size)).mono HV30.out.size)))
      replace HAR29 := Lib.hid (HAR29.out.kept (HV30.out.trans ((HV31.out.trans ((HV32.out.trans ((HV33.out.trans ((HV34.out.trans ((HV35.out.trans ((HV36.out.trans ((HV37.out.trans ((HV38.out.trans ((HV39.out.trans ((HV40.out.trans ((HV41.out.trans ((HV42.out.trans ((HV43.out.trans ((HV44.out.trans ((HV45.out.trans ((HV46.out.trans (HV47.out.mono HV46.out.size)).mono HV45.out.size)).mono HV44.out.size)).mono HV43.out.size)).mono HV42.out.size)).mono HV41.out.size)).mono HV40.out.size)).mono HV39.out.size)).mono HV38.out.size)).mono HV37.out.size)).mono HV36.out.size)).mono HV35.out.size)).mono HV34.out.size)).mono HV33.out.size)).mono HV32.out.size)).mono HV31.out.size)).mono HV30.out.size)))
      replace HQ31 := Lib.hid (HQ31.out.kept (HV30.out.trans ((HV31.out.trans ((HV32.out.trans ((HV33.out.trans ((HV34.out.trans ((HV35.out.trans ((HV36.out.trans ((HV37.out.trans ((HV38.out.trans ((HV39.out.trans ((HV40.out.trans ((HV41.out.trans ((HV42.out.trans ((HV43.out.trans ((HV44.out.trans ((HV45.out.trans ((HV46.out.trans (HV47.out.mono HV46.out.size)).mono HV45.out.size)).mono HV44.out.size)).mono HV43.out.size)).mono HV42.out.size)).mono HV41.out.size)).mono HV40.out.size)).mono HV39.out.size)).mono HV38.out.size)).mono HV37.out.size)).mono HV36.out.size)).mono HV35.out.size)).mono HV34.out.size)).mono HV33.out.size)).mono HV32.out.size)).mono HV31.out.size)).mono HV30.out.size)))
      replace HQ33 := Lib.hid (HQ33.out.kept (HV30.out.trans ((HV31.out.trans ((HV32.out.trans ((HV33.out.trans ((HV34.out.trans ((HV35.out.trans ((HV36.out.trans ((HV37.out.trans ((HV38.out.trans ((HV39.out.trans ((HV40.out.trans ((HV41.out.trans ((HV42.out.trans ((HV43.out.trans ((HV44.out.trans ((HV45.out.trans ((HV46.out.trans (HV47.out.mono HV46.out.size)).mono HV45.out.size)).mono HV44.out.size)).mono HV43.out.size)).mono HV42.out.size)).mono HV41.out.size)).mono HV40.out.size)).mono HV39.out.size)).mono HV38.out.size)).mono HV37.out.size)).mono HV36.out.size)).mono HV35.out.size)).mono HV34.out.size)).mono HV33.out.size)).mono HV32.out.size)).mono HV31.out.size)).mono HV30.out.size)))
      replace HQ40 := Lib.hid (HQ40.out.kept (HV40.out.trans ((HV41.out.trans ((HV42.out.trans ((HV43.out.trans ((HV44.out.trans ((HV45.out.trans ((HV46.out.trans (HV47.out.mono HV46.out.size)).mono HV45.out.size)).mono HV44.out.size)).mono HV43.out.size)).mono HV42.out.size)).mono HV41.out.size)).mono HV40.out.size)))
      replace HQ42 := Lib.hid (HQ42.out.kept (HV42.out.trans ((HV43.out.trans ((HV44.out.trans ((HV45.out.trans ((HV46.out.trans (HV47.out.mono HV46.out.size)).mono HV45.out.size)).mono HV44.out.size)).mono HV43.out.size)).mono HV42.out.size)))
      replace HZ44 := Lib.hid (((HV44.out.trans ((HV45.out.trans ((HV46.out.trans (HV47.out.mono HV46.out.size)).mono HV45.out.size)).mono HV44.out.size)).block _ (Array.getElem?_eq_some_iff.1 HZ44.out).1).trans HZ44.out)
      replace HZ46 := Lib.hid ((HV47.out.block _ (Array.getElem?_eq_some_iff.1 HZ46.out).1).trans HZ46.out)
      obtain ⟨RP0, hRP0⟩ : ∃ RP0, RP0 = ([⟨A27, nq, c27, fun q0 => .int .u8 ((q.getD q0 0 : Nat) : Int)⟩] ++ [⟨A29, nq, c29, fun q0 => .int .u8 ((q.getD q0 0 : Nat) : Int)⟩] : List Rw) := ⟨_, rfl⟩
      have hMD := OwnR.made w47 47 #[.slice A27 nq c27, .slice A29 nq c29] 2 ([⟨A27, nq, c27, fun q0 => .int .u8 ((q.getD q0 0 : Nat) : Int)⟩] ++ [⟨A29, nq, c29, fun q0 => .int .u8 ((q.getD q0 0 : Nat) : Int)⟩] : List Rw) rfl rfl (by show 2 ≤ maxLen; decide)
      rw [← hRP0] at hMD
      have HLP0 := Lib.hid (show RP0.length = 2 from by rw [hRP0]; rfl)
      have HRP0 := Lib.hid hRP0
      clear hRP0
      have hRD := Rd.below (OwnR.rdn HR7.out) ((Below.refl w47.heap.size w47).alloc (Nat.le_refl _) (.cells #[.slice A27 nq c27, .slice A29 nq c29] 47))
      have hz16 : (w47.alloc (.cells #[.slice A27 nq c27, .slice A29 nq c29] 47)).cell? ⟨w3.heap.size, 16, none⟩ = some (.slice A7 np c7) := by
        rw [Below.cell ((Below.refl w47.heap.size w47).alloc (Nat.le_refl _) (.cells #[.slice A27 nq c27, .slice A29 nq c29] 47)) (by exact (Array.getElem?_eq_some_iff.1 HZ7.out).1)]
        obtain ⟨_, _, _, _, _, _, _, _, _, _, _, _, _, _, _, _, z⟩ := cells_ofS HZ7.out
        exact z
      have HMD := Lib.hid hMD; have HRD := Lib.hid hRD
      have hlt7 : w3.heap.size < w47.heap.size := (Array.getElem?_eq_some_iff.1 HZ7.out).1
      have hne7 : ¬ w3.heap.size = w47.heap.size := by omega
      clear hMD hRD
      obtain ⟨z0, z1, z2, z3, z4, z5, z6, z7, z8, z9, z10, z11, z12, z13, z14, z15, z16⟩ := cells_ofS HZ7.out
      go_wp2_with (first | (at_builtin; go_loud (refine wpList_appR (A := A7) (c := c7) rfl (.tmp 315) (.tmp 317) 44 rfl w47.heap.size 47 Try.underlying44 ap8BB (.slice (some ⟨w47.heap.size, 0, none⟩) 2 2) RP0 R7 rfl HMD.out (by simp) (by rw [HL7.out]; rfl) HRD.out (by rw [HL7.out, HLP0.out]; omega) ?_)) | (refine wpList_bare rfl rfl rfl rfl ?_; refine wpList_loadH rfl (.tmp 44) rfl w42.heap.size rfl #[.int .u8 H2.s0, .int .u8 H2.s1, .int .u8 H2.s2, .int .u8 H2.s3, .int .u8 H2.s4, .int .u8 H2.s5, .int .u8 H2.s6, .int .u8 H2.s7, .int .i64 H2.K, .int .i64 H2.M, .int .i64 H2.B, .string H2.key, .int .i64 H2.size, .int .i64 H2.idx, .int .i64 H2.ep, .int .i64 H2.ct] rfl HZ44.out ?_) | (refine wpList_bare rfl rfl rfl rfl ?_; refine wpList_loadH rfl (.tmp 46) rfl w45.heap.size rfl #[.int .u8 H2.s0, .int .u8 H2.s1, .int .u8 H2.s2, .int .u8 H2.s3, .int .u8 H2.s4, .int .u8 H2.s5, .int .u8 H2.s6, .int .u8 H2.s7, .int .i64 H2.K, .int .i64 H2.M, .int .i64 H2.B, .string H2.key, .int .i64 H2.size, .int .i64 H2.idx, .int .i64 H2.ep, .int .i64 H2.ct] rfl HZ46.out ?_) | (refine wpList_bare rfl rfl rfl rfl ?_; refine wpList_neqAgg rfl 28 (.tmp 308) (.tmp 309) rfl #[.int .u8 H2.s0, .int .u8 H2.s1, .int .u8 H2.s2, .int .u8 H2.s3, .int .u8 H2.s4, .int .u8 H2.s5, .int .u8 H2.s6, .int .u8 H2.s7, .int .i64 H2.K, .int .i64 H2.M, .int .i64 H2.B, .string H2.key, .int .i64 H2.size, .int .i64 H2.idx, .int .i64 H2.ep, .int .i64 H2.ct] #[.int .u8 H2.s0, .int .u8 H2.s1, .int .u8 H2.s2, .int .u8 H2.s3, .int .u8 H2.s4, .int .u8 H2.s5, .int .u8 H2.s6, .int .u8 H2.s7, .int .i64 H2.K, .int .i64 H2.M, .int .i64 H2.B, .string H2.key, .int .i64 H2.size, .int .i64 H2.idx, .int .i64 H2.ep, .int .i64 H2.ct] rfl rfl guard_H true hEQ ?_))
      intro v43 w48 hown hb0 _
      have HBQ := Lib.hid (show Below w47.heap.size w47 w48 from ((Below.refl _ _).alloc (Nat.le_refl _) _).trans hb0)
      obtain ⟨RP1, hRP⟩ : ∃ RP1, RP1 = RP0 ++ R7 := ⟨_, rfl⟩
      rw [← hRP] at hown
      have HLP1 := Lib.hid (show RP1.length = 2 + np from by rw [hRP, List.length_append, HLP0.out, HL7.out])
      have HRP1 := Lib.hid hRP
      have HOF := Lib.hid hown
      clear hown hb0 hRP hz16 HMD HRD hEQ hlt7 hne7 z0 z1 z2 z3 z4 z5 z6 z7 z8 z9 z10 z11 z12 z13 z14 z15 z16
      have HZT := Lib.hid ((HBQ.out.block _ (Array.getElem?_eq_some_iff.1 HZ9.out).1).trans HZ9.out)
      obtain ⟨z0, z1, z2, z3, z4, z5, z6, z7, z8, z9, z10, z11, z12, z13, z14, z15, z16⟩ := cells_ofS HZT.out
      have HRD := Lib.hid (OwnR.rdn (HR9.out.kept HBQ.out))
      have hHW := HBQ.out.size
      go_wp2_with (at_builtin; go_loud (refine wpList_appR (A := A9) (c := c9) rfl (.tmp 319) (.tmp 321) 44 rfl w47.heap.size 47 Try.underlying44 ap8BB v43 RP1 R9 rfl HOF.out hHW (by rw [HL9.out]; rfl) HRD.out (by rw [HL9.out, HLP1.out]; omega) ?_))
      intro v44 w49 hown hb0 _
      replace HBQ := Lib.hid (HBQ.out.trans hb0)
      clear HOF
      obtain ⟨RP2, hRP⟩ : ∃ RP2, RP2 = RP1 ++ R9 := ⟨_, rfl⟩
      rw [← hRP] at hown
      have HLP2 := Lib.hid (show RP2.length = 2 + np + np from by rw [hRP, List.length_append, HLP1.out, HL9.out])
      have HRP2 := Lib.hid hRP
      have HOF := Lib.hid hown
      clear hown hb0 hRP HRD hHW HZT z0 z1 z2 z3 z4 z5 z6 z7 z8 z9 z10 z11 z12 z13 z14 z15 z16
      have HZT := Lib.hid ((HBQ.out.block _ (Array.getElem?_eq_some_iff.1 HZ13.out).1).trans HZ13.out)
      obtain ⟨z0, z1, z2, z3, z4, z5, z6, z7, z8, z9, z10, z11, z12, z13, z14, z15, z16⟩ := cells_ofS HZT.out
      have HRD := Lib.hid (OwnR.rdn (HR13.out.kept HBQ.out))
      have hHW := HBQ.out.size
      go_wp2_with (at_builtin; go_loud (refine wpList_appR (A := A13) (c := c13) rfl (.tmp 323) (.tmp 325) 44 rfl w47.heap.size 47 Try.underlying44 ap8BB v44 RP2 R13 rfl HOF.out hHW (by rw [HL13.out]; rfl) HRD.out (by rw [HL13.out, HLP2.out]; omega) ?_))
      intro v45 w50 hown hb0 _
      replace HBQ := Lib.hid (HBQ.out.trans hb0)
      clear HOF
      obtain ⟨RP3, hRP⟩ : ∃ RP3, RP3 = RP2 ++ R13 := ⟨_, rfl⟩
      rw [← hRP] at hown
      have HLP3 := Lib.hid (show RP3.length = 2 + np + np + np from by rw [hRP, List.length_append, HLP2.out, HL13.out])
      have HRP3 := Lib.hid hRP
      have HOF := Lib.hid hown
      clear hown hb0 hRP HRD hHW HZT z0 z1 z2 z3 z4 z5 z6 z7 z8 z9 z10 z11 z12 z13 z14 z15 z16
      have HZT := Lib.hid ((HBQ.out.block _ (Array.getElem?_eq_some_iff.1 HZ11.out).1).trans HZ11.out)
      obtain ⟨z0, z1, z2, z3, z4, z5, z6, z7, z8, z9, z10, z11, z12, z13, z14, z15, z16⟩ := cells_ofS HZT.out
      have HRD := Lib.hid (OwnR.rdn (HR11.out.kept HBQ.out))
      have hHW := HBQ.out.size
      go_wp2_with (at_builtin; go_loud (refine wpList_appR (A := A11) (c := c11) rfl (.tmp 327) (.tmp 329) 44 rfl w47.heap.size 47 Try.underlying44 ap8BB v45 RP3 R11 rfl HOF.out hHW (by rw [HL11.out]; rfl) HRD.out (by rw [HL11.out, HLP3.out]; omega) ?_))
      intro v46 w51 hown hb0 _
      replace HBQ := Lib.hid (HBQ.out.trans hb0)
      clear HOF
      obtain ⟨RP4, hRP⟩ : ∃ RP4, RP4 = RP3 ++ R11 := ⟨_, rfl⟩
      rw [← hRP] at hown
      have HLP4 := Lib.hid (show RP4.length = 2 + np + np + np + npo from by rw [hRP, List.length_append, HLP3.out, HL11.out])
      have HRP4 := Lib.hid hRP
      have HOF := Lib.hid hown
      clear hown hb0 hRP HRD hHW HZT z0 z1 z2 z3 z4 z5 z6 z7 z8 z9 z10 z11 z12 z13 z14 z15 z16
      have hb := HBQ.out
      replace HF := Lib.hid (HF.out.trans (hb.mono HF.out.size))
      replace HR7 := Lib.hid (HR7.out.kept hb)
      replace HA7 := Lib.hid (HA7.out.kept hb)
      replace HT7 := Lib.hid (HT7.out.kept hb)
      replace HZ7 := Lib.hid ((hb.block _ (Array.getElem?_eq_some_iff.1 HZ7.out).1).trans HZ7.out)
      replace HR9 := Lib.hid (HR9.out.kept hb)
      replace HA9 := Lib.hid (HA9.out.kept hb)
      replace HT9 := Lib.hid (HT9.out.kept hb)
      replace HZ9 := Lib.hid ((hb.block _ (Array.getElem?_eq_some_iff.1 HZ9.out).1).trans HZ9.out)
      replace HR11 := Lib.hid (HR11.out.kept hb)
      replace HA11 := Lib.hid (HA11.out.kept hb)
      replace HT11 := Lib.hid (HT11.out.kept hb)
      replace HZ11 := Lib.hid ((hb.block _ (Array.getElem?_eq_some_iff.1 HZ11.out).1).trans HZ11.out)
      replace HR13 := Lib.hid (HR13.out.kept hb)
      replace HA13 := Lib.hid (HA13.out.kept hb)
      replace HT13 := Lib.hid (HT13.out.kept hb)
      replace HZ13 := Lib.hid ((hb.block _ (Array.getElem?_eq_some_iff.1 HZ13.out).1).trans HZ13.out)
      replace HQ15 := Lib.hid (HQ15.out.kept hb)
      replace HQ17 := Lib.hid (HQ17.out.kept hb)
      replace HQ19 := Lib.hid (HQ19.out.kept hb)
      replace HQ21 := Lib.hid (HQ21.out.kept hb)
      replace HKQ := Lib.hid (HKQ.out.kept hb)
      replace HAR27 := Lib.hid (HAR27.out.kept hb)
      replace HAR29 := Lib.hid (HAR29.out.kept hb)
      replace HQ31 := Lib.hid (HQ31.out.kept hb)
      replace HQ33 := Lib.hid (HQ33.out.kept hb)
      replace HQ40 := Lib.hid (HQ40.out.kept hb)
      replace HQ42 := Lib.hid (HQ42.out.kept hb)
      have HSq := Lib.hid hb.size
      clear hb HBQ HIN2 HZ44 HZ46
      obtain ⟨RF, hRFe⟩ : ∃ RF : List Rw, RF = RP4 := ⟨_, rfl⟩
      have hRF : RF = ((((([⟨A27, nq, c27, fun q0 => .int .u8 ((q.getD q0 0 : Nat) : Int)⟩] ++ [⟨A29, nq, c29, fun q0 => .int .u8 ((q.getD q0 0 : Nat) : Int)⟩] : List Rw) ++ R7) ++ R9) ++ R13) ++ R11) := by rw [hRFe, HRP4.out, HRP3.out, HRP2.out, HRP1.out, HRP0.out]
      have HOF1 := HOF.out
      rw [← hRFe] at HOF1
      obtain ⟨Af, cf, ev, hcf, hcg, _, _⟩ := Own.rd (f := fun j => (RF.getD j rw0).v) HOF1.own
      subst ev
      have hlF : RF.length ≤ 1000000 := by rw [hRFe, HLP4.out]; omega
      have hnR : ∀ r ∈ RF, r.n ≤ 140737488351232 := by
        intro r hr
        rw [hRF] at hr
        simp only [List.mem_append, List.mem_cons, List.not_mem_nil, or_false] at hr
        rcases hr with ((((rfl | rfl) | hr) | hr) | hr) | hr
        · exact hnql
        · exact hnql
        · exact HN7.out r hr
        · exact HN9.out r hr
        · exact HN13.out r hr
        · exact HN11.out r hr
      have HOF2 := Lib.hid (show OwnR w51 w47.heap.size 47 (.slice Af RF.length cf) RF from HOF1)
      clear HOF1 hRFe
      have hs1 := HV1.out.size
      have hs2 := HV2.out.size
      have hs3 := HV3.out.size
      have hs4 := HV4.out.size
      have hs5 := HV5.out.size
      have hs6 := HV6.out.size
      have hs7 := HV7.out.size
      have hs8 := HV8.out.size
      have hs9 := HV9.out.size
      have hs10 := HV10.out.size
      have hs11 := HV11.out.size
      have hs12 := HV12.out.size
      have hs13 := HV13.out.size
      have hs14 := HV14.out.size
      have hs15 := HV15.out.size
      have hs16 := HV16.out.size
      have hs17 := HV17.out.size
      have hs18 := HV18.out.size
      have hs19 := HV19.out.size
      have hs20 := HV20.out.size
      have hs21 := HV21.out.size
      have hs22 := HV22.out.size
      have hs23 := HV23.out.size
      have hs24 := HV24.out.size
      have hs25 := HV25.out.size
      have hs26 := HV26.out.size
      have hs27 := HV27.out.size
      have hs28 := HV28.out.size
      have hs29 := HS29.out
      have hs30 := HV30.out.size
      have hs31 := HV31.out.size
      have hs32 := HV32.out.size
      have hs33 := HV33.out.size
      have hs34 := HV34.out.size
      have hs35 := HV35.out.size
      have hs36 := HV36.out.size
      have hs37 := HV37.out.size
      have hs38 := HV38.out.size
      have hs39 := HV39.out.size
      have hs40 := HV40.out.size
      have hs41 := HV41.out.size
      have hs42 := HV42.out.size
      have hs43 := HV43.out.size
      have hs44 := HV44.out.size
      have hs45 := HV45.out.size
      have hs46 := HV46.out.size
      have hs47 := HV47.out.size
      have hsq := HSq.out
      have har := ((((((HAR27.out.monoB (B' := w1.heap.size) (by omega)).app2 (HAR29.out.monoB (B' := w1.heap.size) (by omega)) (fun k h1 h2 => by (try dsimp only at h1 h2); omega)).app2 (HA7.out.monoB (B' := w1.heap.size) (by omega)) (fun k h1 h2 => by (try dsimp only at h1 h2); omega)).app2 (HA9.out.monoB (B' := w1.heap.size) (by omega)) (fun k h1 h2 => by (try dsimp only at h1 h2); omega)).app2 (HA13.out.monoB (B' := w1.heap.size) (by omega)) (fun k h1 h2 => by (try dsimp only at h1 h2); omega)).app2 (HA11.out.monoB (B' := w1.heap.size) (by omega)) (fun k h1 h2 => by (try dsimp only at h1 h2); omega))
      rw [← hRF] at har
      have HARF := Lib.hid har
      have hbF : w1.heap.size ≤ w51.heap.size := by omega
      clear har hRF
      clear hs1 hs2 hs3 hs4 hs5 hs6 hs7 hs8 hs9 hs10 hs11 hs12 hs13 hs14 hs15 hs16 hs17 hs18 hs19 hs20 hs21 hs22 hs23 hs24 hs25 hs26 hs27 hs28 hs29 hs30 hs31 hs32 hs33 hs34 hs35 hs36 hs37 hs38 hs39 hs40 hs41 hs42 hs43 hs44 hs45 hs46 hs47
      clear hsq
      go_wp2_with fail
      refine (apB hlF hnR HOF2.out rfl HARF.out hbF).mono ?_
      rintro e w52 ⟨rfl, X, ho, hXU, hpast⟩
      have hs1 := HV1.out.size
      have hs2 := HV2.out.size
      have hs3 := HV3.out.size
      have hs4 := HV4.out.size
      have hs5 := HV5.out.size
      have hs6 := HV6.out.size
      have hs7 := HV7.out.size
      have hs8 := HV8.out.size
      have hs9 := HV9.out.size
      have hs10 := HV10.out.size
      have hs11 := HV11.out.size
      have hs12 := HV12.out.size
      have hs13 := HV13.out.size
      have hs14 := HV14.out.size
      have hs15 := HV15.out.size
      have hs16 := HV16.out.size
      have hs17 := HV17.out.size
      have hs18 := HV18.out.size
      have hs19 := HV19.out.size
      have hs20 := HV20.out.size
      have hs21 := HV21.out.size
      have hs22 := HV22.out.size
      have hs23 := HV23.out.size
      have hs24 := HV24.out.size
      have hs25 := HV25.out.size
      have hs26 := HV26.out.size
      have hs27 := HV27.out.size
      have hs28 := HV28.out.size
      have hs29 := HS29.out
      have hs30 := HV30.out.size
      have hs31 := HV31.out.size
      have hs32 := HV32.out.size
      have hs33 := HV33.out.size
      have hs34 := HV34.out.size
      have hs35 := HV35.out.size
      have hs36 := HV36.out.size
      have hs37 := HV37.out.size
      have hs38 := HV38.out.size
      have hs39 := HV39.out.size
      have hs40 := HV40.out.size
      have hs41 := HV41.out.size
      have hs42 := HV42.out.size
      have hs43 := HV43.out.size
      have hs44 := HV44.out.size
      have hs45 := HV45.out.size
      have hs46 := HV46.out.size
      have hs47 := HV47.out.size
      have hsq := HSq.out
      replace HF := Lib.hid (HF.out.trans (ho.toBelow (fun k hk => by have := hXU k hk; (try dsimp only at this); omega) (by omega)))
      have hg7 := HG7.out
      have hg9 := HG9.out
      have hg13 := HG13.out
      have hg11 := HG11.out
      replace HZ7 := Lib.hid ((ho.block _ (Array.getElem?_eq_some_iff.1 HZ7.out).1 (fun e => by have := hXU _ e; (try dsimp only at this); omega)).trans HZ7.out)
      replace HZ9 := Lib.hid ((ho.block _ (Array.getElem?_eq_some_iff.1 HZ9.out).1 (fun e => by have := hXU _ e; (try dsimp only at this); omega)).trans HZ9.out)
      replace HZ13 := Lib.hid ((ho.block _ (Array.getElem?_eq_some_iff.1 HZ13.out).1 (fun e => by have := hXU _ e; (try dsimp only at this); omega)).trans HZ13.out)
      replace HZ11 := Lib.hid ((ho.block _ (Array.getElem?_eq_some_iff.1 HZ11.out).1 (fun e => by have := hXU _ e; (try dsimp only at this); omega)).trans HZ11.out)
      replace HKQ := Lib.hid (HKQ.out.only ho fun k h1 h2 e => by have := hXU _ e; (try dsimp only at this); omega)
      replace HT7 := Lib.hid (HT7.out.pastX fun h => hpast h (by decide))
      replace HT9 := Lib.hid (HT9.out.pastX fun h => hpast h (by decide))
      replace HT13 := Lib.hid (HT13.out.pastX fun h => hpast h (by decide))
      replace HT11 := Lib.hid (HT11.out.pastX fun h => hpast h (by decide))
      replace HQ15 := Lib.hid (HQ15.out.pastX fun h => hpast h (by decide))
      replace HQ17 := Lib.hid (HQ17.out.pastX fun h => hpast h (by decide))
      replace HQ19 := Lib.hid (HQ19.out.pastX fun h => hpast h (by decide))
      replace HQ21 := Lib.hid (HQ21.out.pastX fun h => hpast h (by decide))
      replace HQ31 := Lib.hid (HQ31.out.pastX fun h => hpast h (by decide))
      replace HQ33 := Lib.hid (HQ33.out.pastX fun h => hpast h (by decide))
      replace HQ40 := Lib.hid (HQ40.out.pastX fun h => hpast h (by decide))
      replace HQ42 := Lib.hid (HQ42.out.pastX fun h => hpast h (by decide))
      clear hg7 HG7
      clear hg9 HG9
      clear hg13 HG13
      clear hg11 HG11
      replace HSq := Lib.hid (Nat.le_trans hsq ho.size)
      clear hs1 hs2 hs3 hs4 hs5 hs6 hs7 hs8 hs9 hs10 hs11 hs12 hs13 hs14 hs15 hs16 hs17 hs18 hs19 hs20 hs21 hs22 hs23 hs24 hs25 hs26 hs27 hs28 hs29 hs30 hs31 hs32 hs33 hs34 hs35 hs36 hs37 hs38 hs39 hs40 hs41 hs42 hs43 hs44 hs45 hs46 hs47
      clear hsq ho hXU hpast HOF HOF2 HARF hbF hnR hlF HAR27 HAR29 HR7 HR9 HR13 HR11 HA7 HA9 HA13 HA11 HO7 HO9 HO13 HO11
      obtain ⟨y7_0, y7_1, y7_2, y7_3, y7_4, y7_5, y7_6, y7_7, y7_8, y7_9, y7_10, y7_11, y7_12, y7_13, y7_14, y7_15, y7_16⟩ := cells_ofS HZ7.out
      obtain ⟨y9_0, y9_1, y9_2, y9_3, y9_4, y9_5, y9_6, y9_7, y9_8, y9_9, y9_10, y9_11, y9_12, y9_13, y9_14, y9_15, y9_16⟩ := cells_ofS HZ9.out
      obtain ⟨y13_0, y13_1, y13_2, y13_3, y13_4, y13_5, y13_6, y13_7, y13_8, y13_9, y13_10, y13_11, y13_12, y13_13, y13_14, y13_15, y13_16⟩ := cells_ofS HZ13.out
      obtain ⟨y11_0, y11_1, y11_2, y11_3, y11_4, y11_5, y11_6, y11_7, y11_8, y11_9, y11_10, y11_11, y11_12, y11_13, y11_14, y11_15, y11_16⟩ := cells_ofS HZ11.out
      go_wp2_with fail
      clear y7_0 y7_1 y7_2 y7_3 y7_4 y7_5 y7_6 y7_7 y7_8 y7_9 y7_10 y7_11 y7_12 y7_13 y7_14 y7_15 y7_16
      clear y9_0 y9_1 y9_2 y9_3 y9_4 y9_5 y9_6 y9_7 y9_8 y9_9 y9_10 y9_11 y9_12 y9_13 y9_14 y9_15 y9_16
      clear y13_0 y13_1 y13_2 y13_3 y13_4 y13_5 y13_6 y13_7 y13_8 y13_9 y13_10 y13_11 y13_12 y13_13 y13_14 y13_15 y13_16
      clear y11_0 y11_1 y11_2 y11_3 y11_4 y11_5 y11_6 y11_7 y11_8 y11_9 y11_10 y11_11 y11_12 y11_13 y11_14 y11_15 y11_16
      obtain ⟨RT4, hRT4⟩ : ∃ RT4, RT4 = ([⟨A7, np, c7, fun q0 => (R7.getD q0 rw0).v⟩] ++ [⟨A9, np, c9, fun q0 => (R9.getD q0 rw0).v⟩] ++ [⟨A13, np, c13, fun q0 => (R13.getD q0 rw0).v⟩] ++ [⟨A11, npo, c11, fun q0 => (R11.getD q0 rw0).v⟩] : List Rw) := ⟨_, rfl⟩
      have HLT4 := Lib.hid (show RT4.length = 4 from by rw [hRT4]; rfl)
      have HCT4 := Lib.hid (show (#[.slice A7 np c7, .slice A9 np c9, .slice A13 np c13, .slice A11 npo c11] : Array Value).toList = RT4.map Rw.v from by rw [hRT4]; rfl)
      have HNT4 := Lib.hid (show ∀ r ∈ RT4, r.n ≤ 1000000000 from by
        intro r hr
        rw [hRT4] at hr
        simp only [List.mem_append, List.mem_cons, List.not_mem_nil, or_false] at hr
        rcases hr with ((rfl | rfl) | rfl) | rfl <;> dsimp only <;> omega)
      have HRT4 := Lib.hid hRT4
      clear hRT4
      have hbn := (Below.refl w52.heap.size w52).alloc (Nat.le_refl _) (.cells #[.slice A7 np c7, .slice A9 np c9, .slice A13 np c13, .slice A11 npo c11] 44)
      replace HF := Lib.hid (HF.out.trans (hbn.mono HF.out.size))
      replace HT7 := Lib.hid (HT7.out.kept hbn)
      replace HZ7 := Lib.hid ((hbn.block _ (Array.getElem?_eq_some_iff.1 HZ7.out).1).trans HZ7.out)
      replace HT9 := Lib.hid (HT9.out.kept hbn)
      replace HZ9 := Lib.hid ((hbn.block _ (Array.getElem?_eq_some_iff.1 HZ9.out).1).trans HZ9.out)
      replace HT11 := Lib.hid (HT11.out.kept hbn)
      replace HZ11 := Lib.hid ((hbn.block _ (Array.getElem?_eq_some_iff.1 HZ11.out).1).trans HZ11.out)
      replace HT13 := Lib.hid (HT13.out.kept hbn)
      replace HZ13 := Lib.hid ((hbn.block _ (Array.getElem?_eq_some_iff.1 HZ13.out).1).trans HZ13.out)
      replace HQ15 := Lib.hid (HQ15.out.kept hbn)
      replace HQ17 := Lib.hid (HQ17.out.kept hbn)
      replace HQ19 := Lib.hid (HQ19.out.kept hbn)
      replace HQ21 := Lib.hid (HQ21.out.kept hbn)
      replace HKQ := Lib.hid (HKQ.out.kept hbn)
      replace HQ31 := Lib.hid (HQ31.out.kept hbn)
      replace HQ33 := Lib.hid (HQ33.out.kept hbn)
      replace HQ40 := Lib.hid (HQ40.out.kept hbn)
      replace HQ42 := Lib.hid (HQ42.out.kept hbn)
      have HV53 := Lib.hid hbn
      have HMD := Lib.hid (OwnR.made w52 44 #[.slice A7 np c7, .slice A9 np c9, .slice A13 np c13, .slice A11 npo c11] 4 RT4 HCT4.out HLT4.out.symm (by rw [HLT4.out]; decide))
      replace HSq := Lib.hid (Nat.le_trans HSq.out hbn.size)
      clear hbn
      generalize w52.alloc (.cells #[.slice A7 np c7, .slice A9 np c9, .slice A13 np c13, .slice A11 npo c11] 44) = w53 at *
      have hs1 := HV1.out.size
      have hs2 := HV2.out.size
      have hs3 := HV3.out.size
      have hs4 := HV4.out.size
      have hs5 := HV5.out.size
      have hs6 := HV6.out.size
      have hs7 := HV7.out.size
      have hs8 := HV8.out.size
      have hs9 := HV9.out.size
      have hs10 := HV10.out.size
      have hs11 := HV11.out.size
      have hs12 := HV12.out.size
      have hs13 := HV13.out.size
      have hs14 := HV14.out.size
      have hs15 := HV15.out.size
      have hs16 := HV16.out.size
      have hs17 := HV17.out.size
      have hs18 := HV18.out.size
      have hs19 := HV19.out.size
      have hs20 := HV20.out.size
      have hs21 := HV21.out.size
      have hs22 := HV22.out.size
      have hs23 := HV23.out.size
      have hs24 := HV24.out.size
      have hs25 := HV25.out.size
      have hs26 := HV26.out.size
      have hs27 := HV27.out.size
      have hs28 := HV28.out.size
      have hs29 := HS29.out
      have hs30 := HV30.out.size
      have hs31 := HV31.out.size
      have hs32 := HV32.out.size
      have hs33 := HV33.out.size
      have hs34 := HV34.out.size
      have hs35 := HV35.out.size
      have hs36 := HV36.out.size
      have hs37 := HV37.out.size
      have hs38 := HV38.out.size
      have hs39 := HV39.out.size
      have hs40 := HV40.out.size
      have hs41 := HV41.out.size
      have hs42 := HV42.out.size
      have hs43 := HV43.out.size
      have hs44 := HV44.out.size
      have hs45 := HV45.out.size
      have hs46 := HV46.out.size
      have hs47 := HV47.out.size
      have hsq := HSq.out
      have har := (((HT7.out.monoB (B' := w1.heap.size) (by omega)).app2 (HT9.out.monoB (B' := w1.heap.size) (by omega)) (fun k h1 h2 => by (try dsimp only at h1 h2); omega)).app2 (HT13.out.monoB (B' := w1.heap.size) (by omega)) (fun k h1 h2 => by (try dsimp only at h1 h2); omega)).app2 (HT11.out.monoB (B' := w1.heap.size) (by omega)) (fun k h1 h2 => by (try dsimp only at h1 h2); omega)
      rw [← HRT4.out] at har
      have HARF := Lib.hid har
      have hbF : w1.heap.size ≤ w53.heap.size := by omega
      clear har
      clear hs1 hs2 hs3 hs4 hs5 hs6 hs7 hs8 hs9 hs10 hs11 hs12 hs13 hs14 hs15 hs16 hs17 hs18 hs19 hs20 hs21 hs22 hs23 hs24 hs25 hs26 hs27 hs28 hs29 hs30 hs31 hs32 hs33 hs34 hs35 hs36 hs37 hs38 hs39 hs40 hs41 hs42 hs43 hs44 hs45 hs46 hs47
      clear hsq
      refine (apR (by rw [HLT4.out]; decide) HNT4.out HMD.out HLT4.out.symm HARF.out hbF).mono ?_
      rintro e w54 ⟨rfl, X, ho, hXU, hpast⟩
      have hs1 := HV1.out.size
      have hs2 := HV2.out.size
      have hs3 := HV3.out.size
      have hs4 := HV4.out.size
      have hs5 := HV5.out.size
      have hs6 := HV6.out.size
      have hs7 := HV7.out.size
      have hs8 := HV8.out.size
      have hs9 := HV9.out.size
      have hs10 := HV10.out.size
      have hs11 := HV11.out.size
      have hs12 := HV12.out.size
      have hs13 := HV13.out.size
      have hs14 := HV14.out.size
      have hs15 := HV15.out.size
      have hs16 := HV16.out.size
      have hs17 := HV17.out.size
      have hs18 := HV18.out.size
      have hs19 := HV19.out.size
      have hs20 := HV20.out.size
      have hs21 := HV21.out.size
      have hs22 := HV22.out.size
      have hs23 := HV23.out.size
      have hs24 := HV24.out.size
      have hs25 := HV25.out.size
      have hs26 := HV26.out.size
      have hs27 := HV27.out.size
      have hs28 := HV28.out.size
      have hs29 := HS29.out
      have hs30 := HV30.out.size
      have hs31 := HV31.out.size
      have hs32 := HV32.out.size
      have hs33 := HV33.out.size
      have hs34 := HV34.out.size
      have hs35 := HV35.out.size
      have hs36 := HV36.out.size
      have hs37 := HV37.out.size
      have hs38 := HV38.out.size
      have hs39 := HV39.out.size
      have hs40 := HV40.out.size
      have hs41 := HV41.out.size
      have hs42 := HV42.out.size
      have hs43 := HV43.out.size
      have hs44 := HV44.out.size
      have hs45 := HV45.out.size
      have hs46 := HV46.out.size
      have hs47 := HV47.out.size
      have hsq := HSq.out
      replace HF := Lib.hid (HF.out.trans (ho.toBelow (fun k hk => by have := hXU k hk; (try dsimp only at this); omega) (by omega)))
      replace HKQ := Lib.hid (HKQ.out.only ho fun k h1 h2 e => by have := hXU _ e; (try dsimp only at this); omega)
      replace HQ15 := Lib.hid (HQ15.out.pastX fun h => hpast h (by decide))
      replace HQ17 := Lib.hid (HQ17.out.pastX fun h => hpast h (by decide))
      replace HQ19 := Lib.hid (HQ19.out.pastX fun h => hpast h (by decide))
      replace HQ21 := Lib.hid (HQ21.out.pastX fun h => hpast h (by decide))
      replace HQ31 := Lib.hid (HQ31.out.pastX fun h => hpast h (by decide))
      replace HQ33 := Lib.hid (HQ33.out.pastX fun h => hpast h (by decide))
      replace HQ40 := Lib.hid (HQ40.out.pastX fun h => hpast h (by decide))
      replace HQ42 := Lib.hid (HQ42.out.pastX fun h => hpast h (by decide))
      replace HSq := Lib.hid (Nat.le_trans hsq ho.size)
      clear hs1 hs2 hs3 hs4 hs5 hs6 hs7 hs8 hs9 hs10 hs11 hs12 hs13 hs14 hs15 hs16 hs17 hs18 hs19 hs20 hs21 hs22 hs23 hs24 hs25 hs26 hs27 hs28 hs29 hs30 hs31 hs32 hs33 hs34 hs35 hs36 hs37 hs38 hs39 hs40 hs41 hs42 hs43 hs44 hs45 hs46 hs47
      clear hsq ho hXU hpast HMD HARF hbF HT7 HT9 HT13 HT11 HZ7 HZ9 HZ13 HZ11
      go_wp2_with fail
      obtain ⟨RI8, hRI8⟩ : ∃ RI8, RI8 = ([⟨A15, ns, c15, (fun q0 => .int .i64 (((sptL b).getD q0 0 : Nat) : Int))⟩] ++ [⟨A17, ns, c17, (fun q0 => .int .i64 (((sptL b).getD q0 0 : Nat) : Int))⟩] ++ [⟨A19, nso, c19, (fun q0 => .int .i64 (((sptL o).getD q0 0 : Nat) : Int))⟩] ++ [⟨A21, ns, c21, (fun q0 => .int .i64 (((sptL b).getD q0 0 : Nat) : Int))⟩] ++ [⟨A31, nz, c31, (fun j => .int .i64 (blen P.K.toNat P.B.toNat P.size.toNat j))⟩] ++ [⟨A33, nz, c33, (fun j => .int .i64 (blen P.K.toNat P.B.toNat P.size.toNat j))⟩] ++ [⟨A40, ns2, c40, (fun q0 => .int .i64 (((sptL b2).getD q0 0 : Nat) : Int))⟩] ++ [⟨A42, ns2, c42, (fun q0 => .int .i64 (((sptL b2).getD q0 0 : Nat) : Int))⟩] : List Rw) := ⟨_, rfl⟩
      have HLI8 := Lib.hid (show RI8.length = 8 from by rw [hRI8]; rfl)
      have HCI8 := Lib.hid (show (#[.slice A15 ns c15, .slice A17 ns c17, .slice A19 nso c19, .slice A21 ns c21, .slice A31 nz c31, .slice A33 nz c33, .slice A40 ns2 c40, .slice A42 ns2 c42] : Array Value).toList = RI8.map Rw.v from by rw [hRI8]; rfl)
      have HNI8 := Lib.hid (show ∀ r ∈ RI8, r.n ≤ 1000000000 from by
        intro r hr
        rw [hRI8] at hr
        simp only [List.mem_append, List.mem_cons, List.not_mem_nil, or_false] at hr
        rcases hr with ((((((rfl | rfl) | rfl) | rfl) | rfl) | rfl) | rfl) | rfl <;> dsimp only <;> omega)
      have HRI8 := Lib.hid hRI8
      clear hRI8
      have hbn := (Below.refl w54.heap.size w54).alloc (Nat.le_refl _) (.cells #[.slice A15 ns c15, .slice A17 ns c17, .slice A19 nso c19, .slice A21 ns c21, .slice A31 nz c31, .slice A33 nz c33, .slice A40 ns2 c40, .slice A42 ns2 c42] 30)
      replace HF := Lib.hid (HF.out.trans (hbn.mono HF.out.size))
      replace HQ15 := Lib.hid (HQ15.out.kept hbn)
      replace HQ17 := Lib.hid (HQ17.out.kept hbn)
      replace HQ19 := Lib.hid (HQ19.out.kept hbn)
      replace HQ21 := Lib.hid (HQ21.out.kept hbn)
      replace HKQ := Lib.hid (HKQ.out.kept hbn)
      replace HQ31 := Lib.hid (HQ31.out.kept hbn)
      replace HQ33 := Lib.hid (HQ33.out.kept hbn)
      replace HQ40 := Lib.hid (HQ40.out.kept hbn)
      replace HQ42 := Lib.hid (HQ42.out.kept hbn)
      have HV55 := Lib.hid hbn
      have HMD := Lib.hid (OwnR.made w54 30 #[.slice A15 ns c15, .slice A17 ns c17, .slice A19 nso c19, .slice A21 ns c21, .slice A31 nz c31, .slice A33 nz c33, .slice A40 ns2 c40, .slice A42 ns2 c42] 8 RI8 HCI8.out HLI8.out.symm (by rw [HLI8.out]; decide))
      replace HSq := Lib.hid (Nat.le_trans HSq.out hbn.size)
      clear hbn
      generalize w54.alloc (.cells #[.slice A15 ns c15, .slice A17 ns c17, .slice A19 nso c19, .slice A21 ns c21, .slice A31 nz c31, .slice A33 nz c33, .slice A40 ns2 c40, .slice A42 ns2 c42] 30) = w55 at *
      have hs1 := HV1.out.size
      have hs2 := HV2.out.size
      have hs3 := HV3.out.size
      have hs4 := HV4.out.size
      have hs5 := HV5.out.size
      have hs6 := HV6.out.size
      have hs7 := HV7.out.size
      have hs8 := HV8.out.size
      have hs9 := HV9.out.size
      have hs10 := HV10.out.size
      have hs11 := HV11.out.size
      have hs12 := HV12.out.size
      have hs13 := HV13.out.size
      have hs14 := HV14.out.size
      have hs15 := HV15.out.size
      have hs16 := HV16.out.size
      have hs17 := HV17.out.size
      have hs18 := HV18.out.size
      have hs19 := HV19.out.size
      have hs20 := HV20.out.size
      have hs21 := HV21.out.size
      have hs22 := HV22.out.size
      have hs23 := HV23.out.size
      have hs24 := HV24.out.size
      have hs25 := HV25.out.size
      have hs26 := HV26.out.size
      have hs27 := HV27.out.size
      have hs28 := HV28.out.size
      have hs29 := HS29.out
      have hs30 := HV30.out.size
      have hs31 := HV31.out.size
      have hs32 := HV32.out.size
      have hs33 := HV33.out.size
      have hs34 := HV34.out.size
      have hs35 := HV35.out.size
      have hs36 := HV36.out.size
      have hs37 := HV37.out.size
      have hs38 := HV38.out.size
      have hs39 := HV39.out.size
      have hs40 := HV40.out.size
      have hs41 := HV41.out.size
      have hs42 := HV42.out.size
      have hs43 := HV43.out.size
      have hs44 := HV44.out.size
      have hs45 := HV45.out.size
      have hs46 := HV46.out.size
      have hs47 := HV47.out.size
      have hsq := HSq.out
      have har := ((((((((HQ15.out.monoB (B' := w1.heap.size) (by omega)).app2 (HQ17.out.monoB (B' := w1.heap.size) (by omega)) (fun k h1 h2 => by (try dsimp only at h1 h2); omega)).app2 (HQ19.out.monoB (B' := w1.heap.size) (by omega)) (fun k h1 h2 => by (try dsimp only at h1 h2); omega)).app2 (HQ21.out.monoB (B' := w1.heap.size) (by omega)) (fun k h1 h2 => by (try dsimp only at h1 h2); omega)).app2 (HQ31.out.monoB (B' := w1.heap.size) (by omega)) (fun k h1 h2 => by (try dsimp only at h1 h2); omega)).app2 (HQ33.out.monoB (B' := w1.heap.size) (by omega)) (fun k h1 h2 => by (try dsimp only at h1 h2); omega)).app2 (HQ40.out.monoB (B' := w1.heap.size) (by omega)) (fun k h1 h2 => by (try dsimp only at h1 h2); omega)).app2 (HQ42.out.monoB (B' := w1.heap.size) (by omega)) (fun k h1 h2 => by (try dsimp only at h1 h2); omega))
      rw [← HRI8.out] at har
      have HARF := Lib.hid har
      have hbF : w1.heap.size ≤ w55.heap.size := by omega
      clear har
      clear hs1 hs2 hs3 hs4 hs5 hs6 hs7 hs8 hs9 hs10 hs11 hs12 hs13 hs14 hs15 hs16 hs17 hs18 hs19 hs20 hs21 hs22 hs23 hs24 hs25 hs26 hs27 hs28 hs29 hs30 hs31 hs32 hs33 hs34 hs35 hs36 hs37 hs38 hs39 hs40 hs41 hs42 hs43 hs44 hs45 hs46 hs47
      clear hsq
      refine (apN (by rw [HLI8.out]; decide) HNI8.out HMD.out HLI8.out.symm HARF.out hbF).mono ?_
      rintro e w56 ⟨rfl, X, ho, hXU⟩
      have hs1 := HV1.out.size
      have hs2 := HV2.out.size
      have hs3 := HV3.out.size
      have hs4 := HV4.out.size
      have hs5 := HV5.out.size
      have hs6 := HV6.out.size
      have hs7 := HV7.out.size
      have hs8 := HV8.out.size
      have hs9 := HV9.out.size
      have hs10 := HV10.out.size
      have hs11 := HV11.out.size
      have hs12 := HV12.out.size
      have hs13 := HV13.out.size
      have hs14 := HV14.out.size
      have hs15 := HV15.out.size
      have hs16 := HV16.out.size
      have hs17 := HV17.out.size
      have hs18 := HV18.out.size
      have hs19 := HV19.out.size
      have hs20 := HV20.out.size
      have hs21 := HV21.out.size
      have hs22 := HV22.out.size
      have hs23 := HV23.out.size
      have hs24 := HV24.out.size
      have hs25 := HV25.out.size
      have hs26 := HV26.out.size
      have hs27 := HV27.out.size
      have hs28 := HV28.out.size
      have hs29 := HS29.out
      have hs30 := HV30.out.size
      have hs31 := HV31.out.size
      have hs32 := HV32.out.size
      have hs33 := HV33.out.size
      have hs34 := HV34.out.size
      have hs35 := HV35.out.size
      have hs36 := HV36.out.size
      have hs37 := HV37.out.size
      have hs38 := HV38.out.size
      have hs39 := HV39.out.size
      have hs40 := HV40.out.size
      have hs41 := HV41.out.size
      have hs42 := HV42.out.size
      have hs43 := HV43.out.size
      have hs44 := HV44.out.size
      have hs45 := HV45.out.size
      have hs46 := HV46.out.size
      have hs47 := HV47.out.size
      have hsq := HSq.out
      replace HF := Lib.hid (HF.out.trans (ho.toBelow (fun k hk => by have := hXU k hk; (try dsimp only at this); omega) (by omega)))
      replace HKQ := Lib.hid (HKQ.out.only ho fun k h1 h2 e => by have := hXU _ e; (try dsimp only at this); omega)
      replace HSq := Lib.hid (Nat.le_trans hsq ho.size)
      have hg25 := HG25.out
      have hWA : w20.heap.size ≤ w23.heap.size := by omega
      have HO25 := Lib.hid (HKQ.out.1.ll (BO25.out) (Nat.le_refl _) (Nat.le_refl _))
      have HI26 := Lib.hid (show OwnI w56 _ _ _ from HKQ.out.1.own BI26.out (by omega) (Nat.le_refl _))
      have HZ25 := Lib.hid ((HKQ.out.1 w21.heap.size (by omega) (by omega)).trans BZ25.out)
      clear hs1 hs2 hs3 hs4 hs5 hs6 hs7 hs8 hs9 hs10 hs11 hs12 hs13 hs14 hs15 hs16 hs17 hs18 hs19 hs20 hs21 hs22 hs23 hs24 hs25 hs26 hs27 hs28 hs29 hs30 hs31 hs32 hs33 hs34 hs35 hs36 hs37 hs38 hs39 hs40 hs41 hs42 hs43 hs44 hs45 hs46 hs47
      clear hsq ho hXU HMD HARF hbF HKQ hWA hg25 HG25 BO25 BI26 BZ25 HQ15 HQ17 HQ19 HQ21 HQ31 HQ33 HQ40 HQ42
      go_wp2_with fail
      refine (prs_named HP.out HPE.out HNP.out HX.out hbl rfl A c w56 hbc hc (RL.below BA.out HF.out)).mono ?_
      rintro e w57 ⟨A49, c49, R49, rfl, hO, _, _, _, _, hb⟩
      replace HF := Lib.hid (HF.out.trans (hb.mono HF.out.size))
      replace HO25 := Lib.hid (HO25.out.kept hb)
      replace HI26 := Lib.hid (HI26.out.kept hb)
      replace HZ25 := Lib.hid ((hb.block _ (Array.getElem?_eq_some_iff.1 HZ25.out).1).trans HZ25.out)
      have HV57 := Lib.hid hb
      have HO49 := Lib.hid hO
      clear hO
      clear hb
      go_wp2_with (refine wpList_storeNewS rfl (.tmp 49) (.tmp 363) rfl #[.int .u8 P.s0, .int .u8 P.s1, .int .u8 P.s2, .int .u8 P.s3, .int .u8 P.s4, .int .u8 P.s5, .int .u8 P.s6, .int .u8 P.s7, .int .i64 P.K, .int .i64 P.M, .int .i64 P.B, .string P.key, .int .i64 P.size, .int .i64 P.idx, .int .i64 P.ep, .int .i64 P.ct, .slice A49 np c49] rfl rfl rfl rfl rfl ?_; have hbn := (Below.refl w57.heap.size w57).alloc (Nat.le_refl _) (.cells #[.int .u8 P.s0, .int .u8 P.s1, .int .u8 P.s2, .int .u8 P.s3, .int .u8 P.s4, .int .u8 P.s5, .int .u8 P.s6, .int .u8 P.s7, .int .i64 P.K, .int .i64 P.M, .int .i64 P.B, .string P.key, .int .i64 P.size, .int .i64 P.idx, .int .i64 P.ep, .int .i64 P.ct, .slice A49 np c49] 46); replace HF := Lib.hid (HF.out.trans (hbn.mono HF.out.size)); replace HO25 := Lib.hid (HO25.out.kept hbn); replace HI26 := Lib.hid (HI26.out.kept hbn); replace HZ25 := Lib.hid ((hbn.block _ (Array.getElem?_eq_some_iff.1 HZ25.out).1).trans HZ25.out); have HV58 := Lib.hid hbn; have HZ49 := Lib.hid (heap_alloc_new w57 (.cells #[.int .u8 P.s0, .int .u8 P.s1, .int .u8 P.s2, .int .u8 P.s3, .int .u8 P.s4, .int .u8 P.s5, .int .u8 P.s6, .int .u8 P.s7, .int .i64 P.K, .int .i64 P.M, .int .i64 P.B, .string P.key, .int .i64 P.size, .int .i64 P.idx, .int .i64 P.ep, .int .i64 P.ct, .slice A49 np c49] 46)); clear hbn; generalize w57.alloc (.cells #[.int .u8 P.s0, .int .u8 P.s1, .int .u8 P.s2, .int .u8 P.s3, .int .u8 P.s4, .int .u8 P.s5, .int .u8 P.s6, .int .u8 P.s7, .int .i64 P.K, .int .i64 P.M, .int .i64 P.B, .string P.key, .int .i64 P.size, .int .i64 P.idx, .int .i64 P.ep, .int .i64 P.ct, .slice A49 np c49] 46) = w58 at *)
      go_wp2_with fail
      refine (spt_named HER.out HNS.out HX.out hbl rfl A c w58 hbc hc (RL.below BA.out HF.out)).mono ?_
      rintro e w59 ⟨A51, c51, rfl, hO, hb⟩
      replace HF := Lib.hid (HF.out.trans (hb.mono HF.out.size))
      replace HO25 := Lib.hid (HO25.out.kept hb)
      replace HI26 := Lib.hid (HI26.out.kept hb)
      replace HZ25 := Lib.hid ((hb.block _ (Array.getElem?_eq_some_iff.1 HZ25.out).1).trans HZ25.out)
      have HV59 := Lib.hid hb
      have HI51 := Lib.hid hO
      clear hO
      clear hb
      replace HO49 := Lib.hid (HO49.out.kept (HV58.out.trans (HV59.out.mono HV58.out.size)))
      replace HZ49 := Lib.hid ((HV59.out.block _ (Array.getElem?_eq_some_iff.1 HZ49.out).1).trans HZ49.out)
      have hee : ∀ x : Int, (x == x) = true := fun x => by simp
      have he1 := hee pe
      have he2 := hee er
      clear hee
      go_wp2_with (first | (refine wpList_bare rfl rfl rfl rfl ?_; refine wpList_loadS rfl (.tmp 49) rfl (w57.heap.size) rfl #[.int .u8 P.s0, .int .u8 P.s1, .int .u8 P.s2, .int .u8 P.s3, .int .u8 P.s4, .int .u8 P.s5, .int .u8 P.s6, .int .u8 P.s7, .int .i64 P.K, .int .i64 P.M, .int .i64 P.B, .string P.key, .int .i64 P.size, .int .i64 P.idx, .int .i64 P.ep, .int .i64 P.ct, .slice A49 np c49] rfl HZ49.out ?_) | (refine wpList_bare rfl rfl rfl rfl ?_; refine wpList_loadS rfl (.tmp 25) rfl (w21.heap.size) rfl #[.int .u8 P.s0, .int .u8 P.s1, .int .u8 P.s2, .int .u8 P.s3, .int .u8 P.s4, .int .u8 P.s5, .int .u8 P.s6, .int .u8 P.s7, .int .i64 P.K, .int .i64 P.M, .int .i64 P.B, .string P.key, .int .i64 P.size, .int .i64 P.idx, .int .i64 P.ep, .int .i64 P.ct, .slice A25 np c25] rfl HZ25.out ?_))
      have hS := same_any P P A49 A25 c49 c25 (prsB b) (prsB b) w59 HPW.out HPW.out (Nat.le_trans (prsB_len _) (by decide)) (prsB_lt HX.out) (prsB_lt HX.out) (OwnLL.rll HO49.out) (OwnLL.rll HO25.out) (Nat.le_trans (prsB_len _) (by decide))
      rw [← HNP.out] at hS
      refine (hS).mono ?_
      rintro e w60 ⟨q, rfl, hq, hb⟩
      replace HF := Lib.hid (HF.out.trans (hb.mono HF.out.size))
      replace HO25 := Lib.hid (HO25.out.kept hb)
      replace HI26 := Lib.hid (HI26.out.kept hb)
      replace HZ25 := Lib.hid ((hb.block _ (Array.getElem?_eq_some_iff.1 HZ25.out).1).trans HZ25.out)
      have HV60 := Lib.hid hb
      obtain rfl : q = true := hq.2 ⟨rfl, rfl⟩
      clear hq
      clear hb
      clear hS
      replace HI51 := Lib.hid (HI51.out.kept HV60.out)
      go_wp2_with fail
      refine (sameInts_any A51 A26 ns c51 c26 (fun i => (((sptL b).getD i 0 : Nat) : Int)) w60 (by omega) (OwnI.rdn HI51.out HNS.out) (OwnI.rdn HI26.out HNS.out)).mono ?_
      rintro e w61 ⟨rfl, hd⟩
      have hb := hd.below w60.heap.size
      replace HF := Lib.hid (HF.out.trans (hb.mono HF.out.size))
      replace HO25 := Lib.hid (HO25.out.kept hb)
      replace HI26 := Lib.hid (HI26.out.kept hb)
      replace HZ25 := Lib.hid ((hb.block _ (Array.getElem?_eq_some_iff.1 HZ25.out).1).trans HZ25.out)
      have HV61 := Lib.hid hb
      clear hb hd
      go_wp2
      go_ret
      exact ⟨rfl, HF.out⟩
end Go.Proofs.Ytbioanbokbhmgaa
