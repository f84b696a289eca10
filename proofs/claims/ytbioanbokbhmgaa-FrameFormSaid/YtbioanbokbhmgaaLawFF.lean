/- FrameForm: the law's walk. Conditions: bytes that memory bears. -/
import Derived.Test.YtbioanbokbhmgaaWk8
namespace Go.Proofs.Ytbioanbokbhmgaa
open Go.RowKit

set_option maxRecDepth 100000 in
set_option maxHeartbeats 8000000 in
theorem lawFF (A : Option Addr) (c : Nat) (b : List Nat) (w : World) (hx : ∀ x ∈ b, x < 256) (hbl : b.length ≤ 140737488351232) (hbc : b.length ≤ c) (hc : c ≤ maxLen) (hA : RL w A b) :
    Calls Try.prog 12 #[.slice A b.length c] w fun e w' => e = .returned (.bool true) ∧ Below w.heap.size w w' := by
  have HX := Lib.hid hx
  have HA := Lib.hid hA
  have HF := Lib.hid (Below.refl w.heap.size w)
  have hnp4 := prsB_len b
  have hns4 := sptL_len b
  obtain ⟨H, hH⟩ : ∃ H, H = rdH b := ⟨_, rfl⟩
  obtain ⟨er, her⟩ : ∃ er, er = headE b := ⟨_, rfl⟩
  obtain ⟨P, hP⟩ : ∃ P, P = prsH b := ⟨_, rfl⟩
  obtain ⟨pe, hpe⟩ : ∃ pe, pe = prsE b := ⟨_, rfl⟩
  obtain ⟨np, hnp⟩ : ∃ np, np = (prsB b).length := ⟨_, rfl⟩
  obtain ⟨ns, hns⟩ : ∃ ns, ns = (sptL b).length := ⟨_, rfl⟩
  rw [← hnp] at hnp4
  rw [← hns] at hns4
  have HP := Lib.hid (fun w' (h : RL w' A b) => show Calls Try.prog 31 #[.slice A b.length c] w' fun e w'' => ∃ v, e = .returned (.tuple #[.agg #[.int .u8 P.s0, .int .u8 P.s1, .int .u8 P.s2, .int .u8 P.s3, .int .u8 P.s4, .int .u8 P.s5, .int .u8 P.s6, .int .u8 P.s7, .int .i64 P.K, .int .i64 P.M, .int .i64 P.B, .string P.key, .int .i64 P.size, .int .i64 P.idx, .int .i64 P.ep, .int .i64 P.ct, v], .int .i64 pe]) ∧ OwnLL w'' w'.heap.size v (prsB b) ∧ Below w'.heap.size w' w'' by
    rw [hP, hpe]; exact prs_any opn_all A c b w' hx (by omega) hbc hc h)
  have HPH := Lib.hid (fun w' (h : RL w' A b) => show Calls Try.prog 30 #[.slice A b.length c] w' fun e w'' => e = .returned (.tuple #[HdV H, .int .i64 er]) ∧ Below w'.heap.size w' w'' by
    rw [hH, her]; exact ph_any opn_all A c b w' hx (by omega) hbc hc h)
  have HSP := Lib.hid (fun w' (h : RL w' A b) => show Calls Try.prog 32 #[.slice A b.length c] w' fun e w'' => ∃ v, e = .returned (.tuple #[v, .int .i64 er]) ∧ OwnI w'' w'.heap.size v (sptL b) ∧ Below w'.heap.size w' w'' by
    rw [her]; exact spt_any opn_all A c b w' hx (by omega) hbc hc h)
  have HH := Lib.hid hH; have HER := Lib.hid her; have HPP := Lib.hid hP; have HPE := Lib.hid hpe; have HNP := Lib.hid hnp; have HNS := Lib.hid hns
  clear hx hA hH her hP hpe hnp hns
  go_enter Try.func12, Try.ntmps12
  go_wp2_with fail
  refine (awake_any w).mono ?_
  rintro e w1 ⟨rfl, hb⟩
  replace HF := Lib.hid (HF.out.trans (hb.mono HF.out.size))
  replace HA := Lib.hid (RL.below HA.out hb)
  clear hb
  go_wp2_with fail
  refine (HP.out _ HA.out).mono ?_
  rintro e w2 ⟨vv, rfl, hO, hb⟩
  replace HF := Lib.hid (HF.out.trans (hb.mono HF.out.size))
  replace HA := Lib.hid (RL.below HA.out hb)
  obtain ⟨A2, c2, ev, _, hr⟩ := hO.rd
  rw [← HNP.out] at ev
  subst ev
  have HR2 := Lib.hid hr
  clear hO hr
  clear hb
  go_wp2_with (refine wpList_storeNewS rfl (.tmp 4) (.tmp 21) rfl #[.int .u8 P.s0, .int .u8 P.s1, .int .u8 P.s2, .int .u8 P.s3, .int .u8 P.s4, .int .u8 P.s5, .int .u8 P.s6, .int .u8 P.s7, .int .i64 P.K, .int .i64 P.M, .int .i64 P.B, .string P.key, .int .i64 P.size, .int .i64 P.idx, .int .i64 P.ep, .int .i64 P.ct, .slice A2 np c2] rfl rfl rfl rfl rfl ?_)
  have hbn := (Below.refl w2.heap.size w2).alloc (Nat.le_refl _) (.cells #[.int .u8 P.s0, .int .u8 P.s1, .int .u8 P.s2, .int .u8 P.s3, .int .u8 P.s4, .int .u8 P.s5, .int .u8 P.s6, .int .u8 P.s7, .int .i64 P.K, .int .i64 P.M, .int .i64 P.B, .string P.key, .int .i64 P.size, .int .i64 P.idx, .int .i64 P.ep, .int .i64 P.ct, .slice A2 np c2] 46)
  replace HF := Lib.hid (HF.out.trans (hbn.mono HF.out.size))
  replace HA := Lib.hid (RL.below HA.out hbn)
  replace HR2 := Lib.hid (RLL.below HR2.out hbn)
  have HZ4 := Lib.hid (heap_alloc_new w2 (.cells #[.int .u8 P.s0, .int .u8 P.s1, .int .u8 P.s2, .int .u8 P.s3, .int .u8 P.s4, .int .u8 P.s5, .int .u8 P.s6, .int .u8 P.s7, .int .i64 P.K, .int .i64 P.M, .int .i64 P.B, .string P.key, .int .i64 P.size, .int .i64 P.idx, .int .i64 P.ep, .int .i64 P.ct, .slice A2 np c2] 46))
  obtain ⟨bHZ4, hbk⟩ : ∃ bHZ4, bHZ4 = w2.heap.size := ⟨_, rfl⟩
  rw [← hbk] at HZ4 ⊢
  clear hbk
  clear hbn
  generalize w2.alloc (.cells #[.int .u8 P.s0, .int .u8 P.s1, .int .u8 P.s2, .int .u8 P.s3, .int .u8 P.s4, .int .u8 P.s5, .int .u8 P.s6, .int .u8 P.s7, .int .i64 P.K, .int .i64 P.M, .int .i64 P.B, .string P.key, .int .i64 P.size, .int .i64 P.idx, .int .i64 P.ep, .int .i64 P.ct, .slice A2 np c2] 46) = w3 at *
  go_wp2_with fail
  refine (HPH.out _ HA.out).mono ?_
  rintro e w4 ⟨rfl, hb⟩
  replace HF := Lib.hid (HF.out.trans (hb.mono HF.out.size))
  replace HA := Lib.hid (RL.below HA.out hb)
  replace HR2 := Lib.hid (RLL.below HR2.out hb)
  replace HZ4 := Lib.hid ((hb.block _ (Array.getElem?_eq_some_iff.1 HZ4.out).1).trans HZ4.out)
  clear hb
  go_wp2_with (refine wpList_storeNewH rfl (.tmp 6) (.tmp 26) rfl #[.int .u8 H.s0, .int .u8 H.s1, .int .u8 H.s2, .int .u8 H.s3, .int .u8 H.s4, .int .u8 H.s5, .int .u8 H.s6, .int .u8 H.s7, .int .i64 H.K, .int .i64 H.M, .int .i64 H.B, .string H.key, .int .i64 H.size, .int .i64 H.idx, .int .i64 H.ep, .int .i64 H.ct] rfl rfl rfl rfl rfl ?_)
  have hbn := (Below.refl w4.heap.size w4).alloc (Nat.le_refl _) (.cells #[.int .u8 H.s0, .int .u8 H.s1, .int .u8 H.s2, .int .u8 H.s3, .int .u8 H.s4, .int .u8 H.s5, .int .u8 H.s6, .int .u8 H.s7, .int .i64 H.K, .int .i64 H.M, .int .i64 H.B, .string H.key, .int .i64 H.size, .int .i64 H.idx, .int .i64 H.ep, .int .i64 H.ct] 28)
  replace HF := Lib.hid (HF.out.trans (hbn.mono HF.out.size))
  replace HA := Lib.hid (RL.below HA.out hbn)
  replace HR2 := Lib.hid (RLL.below HR2.out hbn)
  replace HZ4 := Lib.hid ((hbn.block _ (Array.getElem?_eq_some_iff.1 HZ4.out).1).trans HZ4.out)
  have HZ6 := Lib.hid (heap_alloc_new w4 (.cells #[.int .u8 H.s0, .int .u8 H.s1, .int .u8 H.s2, .int .u8 H.s3, .int .u8 H.s4, .int .u8 H.s5, .int .u8 H.s6, .int .u8 H.s7, .int .i64 H.K, .int .i64 H.M, .int .i64 H.B, .string H.key, .int .i64 H.size, .int .i64 H.idx, .int .i64 H.ep, .int .i64 H.ct] 28))
  obtain ⟨bHZ6, hbk⟩ : ∃ bHZ6, bHZ6 = w4.heap.size := ⟨_, rfl⟩
  rw [← hbk] at HZ6 ⊢
  clear hbk
  clear hbn
  generalize w4.alloc (.cells #[.int .u8 H.s0, .int .u8 H.s1, .int .u8 H.s2, .int .u8 H.s3, .int .u8 H.s4, .int .u8 H.s5, .int .u8 H.s6, .int .u8 H.s7, .int .i64 H.K, .int .i64 H.M, .int .i64 H.B, .string H.key, .int .i64 H.size, .int .i64 H.idx, .int .i64 H.ep, .int .i64 H.ct] 28) = w5 at *
  go_wp2_with fail
  refine (HSP.out _ HA.out).mono ?_
  rintro e w6 ⟨vv, rfl, hO, hb⟩
  replace HF := Lib.hid (HF.out.trans (hb.mono HF.out.size))
  replace HA := Lib.hid (RL.below HA.out hb)
  replace HR2 := Lib.hid (RLL.below HR2.out hb)
  replace HZ4 := Lib.hid ((hb.block _ (Array.getElem?_eq_some_iff.1 HZ4.out).1).trans HZ4.out)
  replace HZ6 := Lib.hid ((hb.block _ (Array.getElem?_eq_some_iff.1 HZ6.out).1).trans HZ6.out)
  obtain ⟨A7, c7, ev, _⟩ := Own.rd hO
  rw [← HNS.out] at ev
  subst ev
  clear hO
  clear hb
  clear HP HPH HSP
  go_wp2_with fail
  refine (num_any pe w6).mono ?_
  rintro e wn ⟨rfl, rfl⟩
  by_cases h0 : pe = 0
  · skip
    have hne : (pe != 0) = false := by simp [h0]
    obtain ⟨t1, t2, t3, t4, t5⟩ := prs_take HX.out (HPE.out.symm.trans h0)
    obtain rfl : er = 0 := HER.out.trans t1
    obtain rfl : P = H := (HH.out.trans (t2.trans HPP.out.symm)).symm
    obtain rfl : ns = 0 := by rw [HNS.out, t3]; rfl
    obtain rfl : pe = 0 := h0
    rw [← HPP.out] at t4 t5
    have HEN := Lib.hid t5
    have HCK := Lib.hid t4
    have HPB := Lib.hid (show HdB P by rw [HPP.out]; exact prsH_bytes HX.out)
    have HPW := Lib.hid (show HdW P by rw [HPP.out]; exact prsH_wf HX.out)
    clear t1 t2 t3 t4 t5
    go_wp2_with (refine wpList_loadS rfl (.tmp 4) rfl bHZ4 rfl #[.int .u8 P.s0, .int .u8 P.s1, .int .u8 P.s2, .int .u8 P.s3, .int .u8 P.s4, .int .u8 P.s5, .int .u8 P.s6, .int .u8 P.s7, .int .i64 P.K, .int .i64 P.M, .int .i64 P.B, .string P.key, .int .i64 P.size, .int .i64 P.idx, .int .i64 P.ep, .int .i64 P.ct, .slice A2 np c2] rfl HZ4.out ?_)
    have hE := enc_any P A2 c2 (prsB b) w6 HPB.out (prsB_lt HX.out) (by rw [← HNP.out]; omega) (fun l hl => by have := prsB_short l hl; omega) HR2.out
    rw [← HNP.out] at hE
    refine (hE).mono ?_
    rintro e w7 ⟨o, e3, l3, rfl, hP3, hO, hb⟩
    replace HF := Lib.hid (HF.out.trans (hb.mono HF.out.size))
    replace HA := Lib.hid (RL.below HA.out hb)
    replace HR2 := Lib.hid (RLL.below HR2.out hb)
    replace HZ4 := Lib.hid ((hb.block _ (Array.getElem?_eq_some_iff.1 HZ4.out).1).trans HZ4.out)
    replace HZ6 := Lib.hid ((hb.block _ (Array.getElem?_eq_some_iff.1 HZ6.out).1).trans HZ6.out)
    obtain ⟨rfl, rfl⟩ := HEN.out _ _ hP3
    obtain ⟨A8, c8, ev, -, -, hr, -⟩ := hO.rd
    subst ev
    have HR8 := Lib.hid hr
    clear hO hr hP3
    clear hb
    clear hE
    go_wp2_with fail
    refine (num_any 0 w7).mono ?_
    rintro e wn ⟨rfl, rfl⟩
    have hc1 := conv_strL c8 HX.out HR8.out
    have hc2 := conv_strL c HX.out HA.out
    go_wp2_with fail
    clear hc1 hc2
    refine (num_any 0 w7).mono ?_
    rintro e wn ⟨rfl, rfl⟩
    as_aux_lemma =>
      have hEQ := (head_eq HPW.out HPW.out w7).trans (by rw [(hdEq_iff P P).2 rfl])
      go_wp2_with (first | (refine wpList_bare rfl rfl rfl rfl ?_; refine wpList_loadFirst rfl 28 (.tmp 133) rfl bHZ4 rfl #[.int .u8 P.s0, .int .u8 P.s1, .int .u8 P.s2, .int .u8 P.s3, .int .u8 P.s4, .int .u8 P.s5, .int .u8 P.s6, .int .u8 P.s7, .int .i64 P.K, .int .i64 P.M, .int .i64 P.B, .string P.key, .int .i64 P.size, .int .i64 P.idx, .int .i64 P.ep, .int .i64 P.ct] #[.int .u8 P.s0, .int .u8 P.s1, .int .u8 P.s2, .int .u8 P.s3, .int .u8 P.s4, .int .u8 P.s5, .int .u8 P.s6, .int .u8 P.s7, .int .i64 P.K, .int .i64 P.M, .int .i64 P.B, .string P.key, .int .i64 P.size, .int .i64 P.idx, .int .i64 P.ep, .int .i64 P.ct, .slice A2 np c2] 46 _ rfl HZ4.out Try.underlying28 rfl info_H ?_) | (refine wpList_bare rfl rfl rfl rfl ?_; refine wpList_loadH rfl (.tmp 6) rfl bHZ6 rfl #[.int .u8 P.s0, .int .u8 P.s1, .int .u8 P.s2, .int .u8 P.s3, .int .u8 P.s4, .int .u8 P.s5, .int .u8 P.s6, .int .u8 P.s7, .int .i64 P.K, .int .i64 P.M, .int .i64 P.B, .string P.key, .int .i64 P.size, .int .i64 P.idx, .int .i64 P.ep, .int .i64 P.ct] rfl HZ6.out ?_) | (refine wpList_bare rfl rfl rfl rfl ?_; refine wpList_eqlAgg rfl 28 (.tmp 132) (.tmp 134) rfl #[.int .u8 P.s0, .int .u8 P.s1, .int .u8 P.s2, .int .u8 P.s3, .int .u8 P.s4, .int .u8 P.s5, .int .u8 P.s6, .int .u8 P.s7, .int .i64 P.K, .int .i64 P.M, .int .i64 P.B, .string P.key, .int .i64 P.size, .int .i64 P.idx, .int .i64 P.ep, .int .i64 P.ct] #[.int .u8 P.s0, .int .u8 P.s1, .int .u8 P.s2, .int .u8 P.s3, .int .u8 P.s4, .int .u8 P.s5, .int .u8 P.s6, .int .u8 P.s7, .int .i64 P.K, .int .i64 P.M, .int .i64 P.B, .string P.key, .int .i64 P.size, .int .i64 P.idx, .int .i64 P.ep, .int .i64 P.ct] rfl rfl guard_H true hEQ ?_))
      refine (num_any 0 w7).mono ?_
      rintro e wn ⟨rfl, rfl⟩
      go_wp2_with (refine wpList_bare rfl rfl rfl rfl ?_; refine wpList_loadH rfl (.tmp 6) rfl bHZ6 rfl #[.int .u8 P.s0, .int .u8 P.s1, .int .u8 P.s2, .int .u8 P.s3, .int .u8 P.s4, .int .u8 P.s5, .int .u8 P.s6, .int .u8 P.s7, .int .i64 P.K, .int .i64 P.M, .int .i64 P.B, .string P.key, .int .i64 P.size, .int .i64 P.idx, .int .i64 P.ep, .int .i64 P.ct] rfl HZ6.out ?_)
      have hC := fcheck_any P w7
      rw [HCK.out] at hC
      refine (hC).mono ?_
      rintro e w8 ⟨rfl, hb⟩
      replace HF := Lib.hid (HF.out.trans (hb.mono HF.out.size))
      replace HA := Lib.hid (RL.below HA.out hb)
      replace HR2 := Lib.hid (RLL.below HR2.out hb)
      replace HZ4 := Lib.hid ((hb.block _ (Array.getElem?_eq_some_iff.1 HZ4.out).1).trans HZ4.out)
      replace HZ6 := Lib.hid ((hb.block _ (Array.getElem?_eq_some_iff.1 HZ6.out).1).trans HZ6.out)
      replace HR8 := Lib.hid (RL.below HR8.out hb)
      clear hb
      clear hC
      go_wp2_with fail
      refine (num_any 0 w8).mono ?_
      rintro e wn ⟨rfl, rfl⟩
      go_wp2
      go_ret
      exact ⟨rfl, HF.out⟩
  · skip
    have hne : (pe != 0) = true := by simp [h0]
    obtain ⟨t1, t2⟩ := prs_refuse (b := b) (by rw [← HPE.out]; exact h0)
    obtain rfl : P = zeroHd := HPP.out.trans t1
    obtain rfl : np = 0 := by rw [HNP.out, t2]; rfl
    clear t1 t2
    have HZ4 := Lib.hid (show w6.heap[bHZ4]? = some (.cells #[.int .u8 0, .int .u8 0, .int .u8 0, .int .u8 0, .int .u8 0, .int .u8 0, .int .u8 0, .int .u8 0, .int .i64 0, .int .i64 0, .int .i64 0, .string ⟨#[]⟩, .int .i64 0, .int .i64 0, .int .i64 0, .int .i64 0, .slice A2 0 c2] 46 (0, 0)) from HZ4.out)
    go_wp2_with (refine wpList_loadS rfl (.tmp 4) rfl bHZ4 rfl #[.int .u8 0, .int .u8 0, .int .u8 0, .int .u8 0, .int .u8 0, .int .u8 0, .int .u8 0, .int .u8 0, .int .i64 0, .int .i64 0, .int .i64 0, .string ⟨#[]⟩, .int .i64 0, .int .i64 0, .int .i64 0, .int .i64 0, .slice A2 0 c2] rfl HZ4.out ?_)
    have hS := same_any zeroHd zeroHd A2 none c2 0 [] [] w6 zeroHd_wf zeroHd_wf (by decide) (by simp) (by simp) (RLL.nil _ _) (RLL.nil _ _) (by decide)
    refine (hS).mono ?_
    rintro e w7 ⟨q, rfl, hq, hb⟩
    replace HF := Lib.hid (HF.out.trans (hb.mono HF.out.size))
    replace HA := Lib.hid (RL.below HA.out hb)
    replace HR2 := Lib.hid (RLL.below HR2.out hb)
    replace HZ4 := Lib.hid ((hb.block _ (Array.getElem?_eq_some_iff.1 HZ4.out).1).trans HZ4.out)
    replace HZ6 := Lib.hid ((hb.block _ (Array.getElem?_eq_some_iff.1 HZ6.out).1).trans HZ6.out)
    obtain rfl : q = true := hq.2 ⟨rfl, rfl⟩
    clear hb
    clear hS hq
    go_wp2_with fail
    refine (num_any er w7).mono ?_
    rintro e wn ⟨rfl, rfl⟩
    go_wp2_with fail
    refine (num_any er w7).mono ?_
    rintro e wn ⟨rfl, rfl⟩
    have hee : (er == er) = true := by simp
    go_wp2_with fail
    clear hee
    refine (num_any er w7).mono ?_
    rintro e wn ⟨rfl, rfl⟩
    by_cases hE : er = 0
    · skip
      obtain rfl := hE
      obtain ⟨t1, t2, t3⟩ := prs_which (b := b) (by rw [← HPE.out]; exact h0) HER.out.symm
      have hb1 : checkE H = 0 := by rw [HH.out, t1]; exact (headE_facts HER.out.symm).2.2.2.2.2
      rw [← t1, ← HH.out, ← HPE.out, ← HNS.out] at t3
      rw [← t1, ← HH.out] at t2
      obtain ⟨n, hn⟩ : ∃ n, n = lenE H := ⟨_, rfl⟩
      rw [← hn] at t2 t3
      have HN := Lib.hid hn
      have HT3 := Lib.hid t3
      clear hn t1 t3
      go_wp2_with (refine wpList_loadH rfl (.tmp 6) rfl bHZ6 rfl #[.int .u8 H.s0, .int .u8 H.s1, .int .u8 H.s2, .int .u8 H.s3, .int .u8 H.s4, .int .u8 H.s5, .int .u8 H.s6, .int .u8 H.s7, .int .i64 H.K, .int .i64 H.M, .int .i64 H.B, .string H.key, .int .i64 H.size, .int .i64 H.idx, .int .i64 H.ep, .int .i64 H.ct] rfl HZ6.out ?_)
      have hL := flength_any H w7
      rw [← HN.out, hb1] at hL
      refine (hL).mono ?_
      rintro e w8 ⟨rfl, hb⟩
      replace HF := Lib.hid (HF.out.trans (hb.mono HF.out.size))
      replace HA := Lib.hid (RL.below HA.out hb)
      replace HR2 := Lib.hid (RLL.below HR2.out hb)
      replace HZ4 := Lib.hid ((hb.block _ (Array.getElem?_eq_some_iff.1 HZ4.out).1).trans HZ4.out)
      replace HZ6 := Lib.hid ((hb.block _ (Array.getElem?_eq_some_iff.1 HZ6.out).1).trans HZ6.out)
      clear hb
      clear hL t2 hb1
      rcases HT3.out with ⟨e1, e2⟩ | ⟨e1, e2⟩ | ⟨e1, e2, e3⟩
      · skip
        have h1 : pe = 70 := e1
        subst h1
        go_wp2_with fail
        refine (num_any _ w8).mono ?_
        rintro e wn ⟨rfl, rfl⟩
        go_wp2
        go_ret
        exact ⟨rfl, HF.out⟩
      · skip
        have h1 : pe = 72 := e1
        subst h1
        go_wp2_with fail
        refine (num_any _ w8).mono ?_
        rintro e wn ⟨rfl, rfl⟩
        go_wp2_with fail
        refine (num_any _ w8).mono ?_
        rintro e wn ⟨rfl, rfl⟩
        go_wp2
        go_ret
        exact ⟨rfl, HF.out⟩
      · skip
        have h1 : pe = 82 := e1
        subst h1
        have he1 : ((b.length : Int) == n) = true := by simpa using e2
        go_wp2_with fail
        refine (num_any _ w8).mono ?_
        rintro e wn ⟨rfl, rfl⟩
        go_wp2_with fail
        refine (num_any _ w8).mono ?_
        rintro e wn ⟨rfl, rfl⟩
        go_wp2_with fail
        refine (num_any _ w8).mono ?_
        rintro e wn ⟨rfl, rfl⟩
        have h5 : (0 : Int) < (ns : Int) := by omega
        go_wp2
        go_ret
        exact ⟨rfl, HF.out⟩
    · skip
      obtain ⟨t1, t2, t3⟩ := prs_head (b := b) (by rw [← HER.out]; exact hE)
      obtain rfl : H = zeroHd := HH.out.trans t2
      obtain rfl : ns = 0 := by rw [HNS.out, t3]; rfl
      obtain rfl : pe = er := HPE.out.trans (t1.trans HER.out.symm)
      clear t1 t2 t3
      have hEQ := (head_eq zeroHd_wf zeroHd_wf w7).trans (by rw [(hdEq_iff zeroHd zeroHd).2 rfl])
      have HZ6 := Lib.hid (show w7.heap[bHZ6]? = some (.cells #[.int .u8 0, .int .u8 0, .int .u8 0, .int .u8 0, .int .u8 0, .int .u8 0, .int .u8 0, .int .u8 0, .int .i64 0, .int .i64 0, .int .i64 0, .string ⟨#[]⟩, .int .i64 0, .int .i64 0, .int .i64 0, .int .i64 0] 28 (0, 0)) from HZ6.out)
      go_wp2_with (first | (refine wpList_bare rfl rfl rfl rfl ?_; refine wpList_loadH rfl (.tmp 6) rfl bHZ6 rfl #[.int .u8 0, .int .u8 0, .int .u8 0, .int .u8 0, .int .u8 0, .int .u8 0, .int .u8 0, .int .u8 0, .int .i64 0, .int .i64 0, .int .i64 0, .string ⟨#[]⟩, .int .i64 0, .int .i64 0, .int .i64 0, .int .i64 0] rfl HZ6.out ?_) | (refine wpList_bare rfl rfl rfl rfl ?_; refine wpList_eqlAgg rfl 28 (.tmp 51) (.tmp 52) rfl #[.int .u8 0, .int .u8 0, .int .u8 0, .int .u8 0, .int .u8 0, .int .u8 0, .int .u8 0, .int .u8 0, .int .i64 0, .int .i64 0, .int .i64 0, .string ⟨#[]⟩, .int .i64 0, .int .i64 0, .int .i64 0, .int .i64 0] #[.int .u8 0, .int .u8 0, .int .u8 0, .int .u8 0, .int .u8 0, .int .u8 0, .int .u8 0, .int .u8 0, .int .i64 0, .int .i64 0, .int .i64 0, .string ⟨#[]⟩, .int .i64 0, .int .i64 0, .int .i64 0, .int .i64 0] rfl rfl guard_H true hEQ ?_))
      refine (num_any _ w7).mono ?_
      rintro e wn ⟨rfl, rfl⟩
      go_wp2_with fail
      refine (num_any _ w7).mono ?_
      rintro e wn ⟨rfl, rfl⟩
      have hee : (pe == pe) = true := by simp
      go_wp2
      go_ret
      exact ⟨rfl, HF.out⟩
end Go.Proofs.Ytbioanbokbhmgaa
