/- FrameBack: the law's walk. Conditions: a shard and bytes that memory bears. -/
import Derived.Test.YtbioanbokbhmgaaCm8
namespace Go.Proofs.Ytbioanbokbhmgaa
open Go.RowKit

set_option maxRecDepth 100000 in
set_option maxHeartbeats 8000000 in
theorem lawBk (h : Hd) (A T : Option Addr) (c cT : Nat) (BL : List (List Nat)) (tl : List Nat) (C : Int) (w : World) (hw : HdW h) (hB : HdB h) (hBL : ∀ l ∈ BL, ∀ x ∈ l, x < 256) (hn : BL.length ≤ 140737488351232) (hln : ∀ l ∈ BL, l.length ≤ 140737488351232) (hA : RLL w A BL) (hTl : RL w T tl) (hTx : ∀ x ∈ tl, x < 256) (_hTn : tl.length ≤ 140737488351232) :
    Calls Try.prog 11 #[.agg #[.int .u8 h.s0, .int .u8 h.s1, .int .u8 h.s2, .int .u8 h.s3, .int .u8 h.s4, .int .u8 h.s5, .int .u8 h.s6, .int .u8 h.s7, .int .i64 h.K, .int .i64 h.M, .int .i64 h.B, .string h.key, .int .i64 h.size, .int .i64 h.idx, .int .i64 h.ep, .int .i64 h.ct, .slice A BL.length c], .slice T tl.length cT, .int .i64 C] w fun e w' => e = .returned (.bool true) ∧ Below w.heap.size w w' := by
  have HA := Lib.hid hA
  have HBD := Lib.hid hB; have HBL := Lib.hid hBL; have HLN := Lib.hid hln; have HW := Lib.hid hw
  have HF := Lib.hid (Below.refl w.heap.size w)
  clear hA hB hBL hln hw
  have HTL := Lib.hid hTl; have HTX := Lib.hid hTx
  clear hTl hTx
  go_enter Try.func11, Try.ntmps11
  go_wp2_with fail
  have hbn := (Below.refl w.heap.size w).alloc (Nat.le_refl _) (.cells #[.int .u8 h.s0, .int .u8 h.s1, .int .u8 h.s2, .int .u8 h.s3, .int .u8 h.s4, .int .u8 h.s5, .int .u8 h.s6, .int .u8 h.s7, .int .i64 h.K, .int .i64 h.M, .int .i64 h.B, .string h.key, .int .i64 h.size, .int .i64 h.idx, .int .i64 h.ep, .int .i64 h.ct, .slice A BL.length c] 46)
  replace HF := Lib.hid (HF.out.trans (hbn.mono HF.out.size))
  replace HA := Lib.hid (RLL.below HA.out hbn)
  replace HTL := Lib.hid (RL.below HTL.out hbn)
  have HZ3 := Lib.hid (heap_alloc_new w (.cells #[.int .u8 h.s0, .int .u8 h.s1, .int .u8 h.s2, .int .u8 h.s3, .int .u8 h.s4, .int .u8 h.s5, .int .u8 h.s6, .int .u8 h.s7, .int .i64 h.K, .int .i64 h.M, .int .i64 h.B, .string h.key, .int .i64 h.size, .int .i64 h.idx, .int .i64 h.ep, .int .i64 h.ct, .slice A BL.length c] 46))
  obtain ⟨bHZ3, hbk⟩ : ∃ bHZ3, bHZ3 = w.heap.size := ⟨_, rfl⟩
  rw [← hbk] at HZ3 ⊢
  clear hbk
  clear hbn
  generalize w.alloc (.cells #[.int .u8 h.s0, .int .u8 h.s1, .int .u8 h.s2, .int .u8 h.s3, .int .u8 h.s4, .int .u8 h.s5, .int .u8 h.s6, .int .u8 h.s7, .int .i64 h.K, .int .i64 h.M, .int .i64 h.B, .string h.key, .int .i64 h.size, .int .i64 h.idx, .int .i64 h.ep, .int .i64 h.ct, .slice A BL.length c] 46) = w1 at *
  refine (awake_any _).mono ?_
  rintro e w2 ⟨rfl, hb⟩
  replace HF := Lib.hid (HF.out.trans (hb.mono HF.out.size))
  replace HA := Lib.hid (RLL.below HA.out hb)
  replace HTL := Lib.hid (RL.below HTL.out hb)
  replace HZ3 := Lib.hid ((hb.block _ (Array.getElem?_eq_some_iff.1 HZ3.out).1).trans HZ3.out)
  clear hb
  go_wp2_with (refine wpList_loadS rfl (.tmp 3) rfl bHZ3 rfl #[.int .u8 h.s0, .int .u8 h.s1, .int .u8 h.s2, .int .u8 h.s3, .int .u8 h.s4, .int .u8 h.s5, .int .u8 h.s6, .int .u8 h.s7, .int .i64 h.K, .int .i64 h.M, .int .i64 h.B, .string h.key, .int .i64 h.size, .int .i64 h.idx, .int .i64 h.ep, .int .i64 h.ct, .slice A BL.length c] rfl HZ3.out ?_)
  refine (fit_any h A c BL _ hn HLN.out HA.out).mono ?_
  rintro e w3 ⟨F1, n1, d1, rfl, hO, hb⟩
  replace HF := Lib.hid (HF.out.trans (hb.mono HF.out.size))
  replace HA := Lib.hid (RLL.below HA.out hb)
  replace HTL := Lib.hid (RL.below HTL.out hb)
  replace HZ3 := Lib.hid ((hb.block _ (Array.getElem?_eq_some_iff.1 HZ3.out).1).trans HZ3.out)
  have HO1 := Lib.hid hO
  obtain ⟨q1, hq⟩ : ∃ q, q = decide (checkE h = 0) := ⟨_, rfl⟩
  rw [← hq]
  have HQ1 := Lib.hid hq
  clear hq hO
  clear hb
  by_cases hqt : q1 = false
  · subst hqt
    have hE := of_decide_eq_false HQ1.out.symm
    obtain ⟨ce, hce⟩ : ∃ ce, ce = checkE h := ⟨_, rfl⟩
    rw [← hce] at hE
    have hne : (ce != 0) = true := by simp [hE]
    have HCE := Lib.hid hce
    clear hce
    go_wp2_with (first | (refine wpList_storeNewS rfl (.tmp 8) (.tmp 35) rfl #[.int .u8 h.s0, .int .u8 h.s1, .int .u8 h.s2, .int .u8 h.s3, .int .u8 h.s4, .int .u8 h.s5, .int .u8 h.s6, .int .u8 h.s7, .int .i64 h.K, .int .i64 h.M, .int .i64 h.B, .string h.key, .int .i64 h.size, .int .i64 h.idx, .int .i64 h.ep, .int .i64 h.ct, .slice F1 n1 d1] rfl rfl rfl rfl rfl ?_; have hbn := (Below.refl w3.heap.size w3).alloc (Nat.le_refl _) (.cells #[.int .u8 h.s0, .int .u8 h.s1, .int .u8 h.s2, .int .u8 h.s3, .int .u8 h.s4, .int .u8 h.s5, .int .u8 h.s6, .int .u8 h.s7, .int .i64 h.K, .int .i64 h.M, .int .i64 h.B, .string h.key, .int .i64 h.size, .int .i64 h.idx, .int .i64 h.ep, .int .i64 h.ct, .slice F1 n1 d1] 46); replace HF := Lib.hid (HF.out.trans (hbn.mono HF.out.size)); replace HA := Lib.hid (RLL.below HA.out hbn); replace HTL := Lib.hid (RL.below HTL.out hbn); replace HZ3 := Lib.hid ((hbn.block _ (Array.getElem?_eq_some_iff.1 HZ3.out).1).trans HZ3.out); replace HO1 := Lib.hid ((fun z => (HO1.out z).kept hbn)); have HZ8 := Lib.hid (heap_alloc_new w3 (.cells #[.int .u8 h.s0, .int .u8 h.s1, .int .u8 h.s2, .int .u8 h.s3, .int .u8 h.s4, .int .u8 h.s5, .int .u8 h.s6, .int .u8 h.s7, .int .i64 h.K, .int .i64 h.M, .int .i64 h.B, .string h.key, .int .i64 h.size, .int .i64 h.idx, .int .i64 h.ep, .int .i64 h.ct, .slice F1 n1 d1] 46)); clear hbn; generalize w3.alloc (.cells #[.int .u8 h.s0, .int .u8 h.s1, .int .u8 h.s2, .int .u8 h.s3, .int .u8 h.s4, .int .u8 h.s5, .int .u8 h.s6, .int .u8 h.s7, .int .i64 h.K, .int .i64 h.M, .int .i64 h.B, .string h.key, .int .i64 h.size, .int .i64 h.idx, .int .i64 h.ep, .int .i64 h.ct, .slice F1 n1 d1] 46) = w4 at *) | (refine wpList_loadS rfl (.tmp 3) rfl bHZ3 rfl #[.int .u8 h.s0, .int .u8 h.s1, .int .u8 h.s2, .int .u8 h.s3, .int .u8 h.s4, .int .u8 h.s5, .int .u8 h.s6, .int .u8 h.s7, .int .i64 h.K, .int .i64 h.M, .int .i64 h.B, .string h.key, .int .i64 h.size, .int .i64 h.idx, .int .i64 h.ep, .int .i64 h.ct, .slice A BL.length c] rfl HZ3.out ?_))
    refine (enc_any h A c BL _ HBD.out HBL.out hn HLN.out HA.out).mono ?_
    rintro e w5 ⟨o, er, l, rfl, hP, hO, hb⟩
    replace HF := Lib.hid (HF.out.trans (hb.mono HF.out.size))
    replace HA := Lib.hid (RLL.below HA.out hb)
    replace HTL := Lib.hid (RL.below HTL.out hb)
    replace HZ3 := Lib.hid ((hb.block _ (Array.getElem?_eq_some_iff.1 HZ3.out).1).trans HZ3.out)
    replace HO1 := Lib.hid ((fun z => (HO1.out z).kept hb))
    replace HZ8 := Lib.hid ((hb.block _ (Array.getElem?_eq_some_iff.1 HZ8.out).1).trans HZ8.out)
    obtain rfl : er = ce := by
      rcases hP with ⟨_, h1, _⟩ | ⟨h1, _⟩ | ⟨h1, _⟩
      · exact h1.trans HCE.out.symm
      · exact absurd (HCE.out.trans h1) hE
      · exact absurd (HCE.out.trans h1) hE
    obtain ⟨A8, c8, ev, -, -, -, -⟩ := hO.rd
    subst ev
    clear hP hO
    clear hb
    go_wp2_with (refine wpList_loadFirst rfl 28 (.tmp 45) rfl (bHZ3) rfl #[.int .u8 h.s0, .int .u8 h.s1, .int .u8 h.s2, .int .u8 h.s3, .int .u8 h.s4, .int .u8 h.s5, .int .u8 h.s6, .int .u8 h.s7, .int .i64 h.K, .int .i64 h.M, .int .i64 h.B, .string h.key, .int .i64 h.size, .int .i64 h.idx, .int .i64 h.ep, .int .i64 h.ct] #[.int .u8 h.s0, .int .u8 h.s1, .int .u8 h.s2, .int .u8 h.s3, .int .u8 h.s4, .int .u8 h.s5, .int .u8 h.s6, .int .u8 h.s7, .int .i64 h.K, .int .i64 h.M, .int .i64 h.B, .string h.key, .int .i64 h.size, .int .i64 h.idx, .int .i64 h.ep, .int .i64 h.ct, .slice A BL.length c] 46 _ rfl HZ3.out Try.underlying28 rfl info_H ?_)
    have hL := flength_any h w5
    rw [← HCE.out] at hL
    refine (hL).mono ?_
    rintro e w6 ⟨rfl, hb⟩
    replace HF := Lib.hid (HF.out.trans (hb.mono HF.out.size))
    replace HA := Lib.hid (RLL.below HA.out hb)
    replace HTL := Lib.hid (RL.below HTL.out hb)
    replace HZ3 := Lib.hid ((hb.block _ (Array.getElem?_eq_some_iff.1 HZ3.out).1).trans HZ3.out)
    replace HO1 := Lib.hid ((fun z => (HO1.out z).kept hb))
    replace HZ8 := Lib.hid ((hb.block _ (Array.getElem?_eq_some_iff.1 HZ8.out).1).trans HZ8.out)
    clear hb
    clear hL
    go_wp2_with fail
    refine (num_any _ w6).mono ?_
    rintro e wn ⟨rfl, rfl⟩
    go_wp2_with fail
    refine (num_any _ w6).mono ?_
    rintro e wn ⟨rfl, rfl⟩
    go_wp2_with (refine wpList_bare rfl rfl rfl rfl ?_; refine wpList_loadFirst rfl 28 (.tmp 59) rfl (bHZ3) rfl #[.int .u8 h.s0, .int .u8 h.s1, .int .u8 h.s2, .int .u8 h.s3, .int .u8 h.s4, .int .u8 h.s5, .int .u8 h.s6, .int .u8 h.s7, .int .i64 h.K, .int .i64 h.M, .int .i64 h.B, .string h.key, .int .i64 h.size, .int .i64 h.idx, .int .i64 h.ep, .int .i64 h.ct] #[.int .u8 h.s0, .int .u8 h.s1, .int .u8 h.s2, .int .u8 h.s3, .int .u8 h.s4, .int .u8 h.s5, .int .u8 h.s6, .int .u8 h.s7, .int .i64 h.K, .int .i64 h.M, .int .i64 h.B, .string h.key, .int .i64 h.size, .int .i64 h.idx, .int .i64 h.ep, .int .i64 h.ct, .slice A BL.length c] 46 _ rfl HZ3.out Try.underlying28 rfl info_H ?_)
    have hC := fcheck_any h w6
    rw [← HCE.out] at hC
    refine (hC).mono ?_
    rintro e w7 ⟨rfl, hb⟩
    replace HF := Lib.hid (HF.out.trans (hb.mono HF.out.size))
    replace HA := Lib.hid (RLL.below HA.out hb)
    replace HTL := Lib.hid (RL.below HTL.out hb)
    replace HZ3 := Lib.hid ((hb.block _ (Array.getElem?_eq_some_iff.1 HZ3.out).1).trans HZ3.out)
    replace HO1 := Lib.hid ((fun z => (HO1.out z).kept hb))
    replace HZ8 := Lib.hid ((hb.block _ (Array.getElem?_eq_some_iff.1 HZ8.out).1).trans HZ8.out)
    clear hb
    clear hC
    go_wp2_with fail
    refine (num_any _ w7).mono ?_
    rintro e wn ⟨rfl, rfl⟩
    go_wp2
    go_ret
    exact ⟨rfl, HF.out⟩
  · skip
    obtain rfl : q1 = true := eq_true_of_ne_false hqt
    clear hqt
    have HE1 := Lib.hid (of_decide_eq_true HQ1.out.symm)
    have hO := HO1.out HE1.out
    obtain ⟨FL1, hFL⟩ : ∃ FL, FL = fitL h BL := ⟨_, rfl⟩
    rw [← hFL] at hO
    have HFF1 := Lib.hid (show fitsB h FL1 from hFL ▸ fitL_fits h BL)
    have HX1 := Lib.hid (show ∀ l ∈ FL1, ∀ x ∈ l, x < 256 from hFL ▸ fitL_lt (h := h) HBL.out)
    obtain ⟨Ax, cx, ev, _, hr⟩ := hO.ll.rd
    injection ev with e1 e2 e3
    subst e1 e2 e3
    have HR1 := Lib.hid hr
    have HOO1 := Lib.hid hO
    have hfl := fits_len HE1.out HFF1.out
    have HM1 := Lib.hid (show FL1.length ≤ 140737488351232 ∧ (∀ l ∈ FL1, l.length ≤ 140737488351232) from ⟨by omega, fun l hl => by have := hfl.2 l hl; omega⟩)
    have hm1 : FL1.length ≤ 4096 := hfl.1
    clear hO hr hfl hFL HO1 HQ1
    go_wp2_with (first | (refine wpList_storeNewS rfl (.tmp 8) (.tmp 35) rfl #[.int .u8 h.s0, .int .u8 h.s1, .int .u8 h.s2, .int .u8 h.s3, .int .u8 h.s4, .int .u8 h.s5, .int .u8 h.s6, .int .u8 h.s7, .int .i64 h.K, .int .i64 h.M, .int .i64 h.B, .string h.key, .int .i64 h.size, .int .i64 h.idx, .int .i64 h.ep, .int .i64 h.ct, .slice F1 FL1.length d1] rfl rfl rfl rfl rfl ?_; have hbn := (Below.refl w3.heap.size w3).alloc (Nat.le_refl _) (.cells #[.int .u8 h.s0, .int .u8 h.s1, .int .u8 h.s2, .int .u8 h.s3, .int .u8 h.s4, .int .u8 h.s5, .int .u8 h.s6, .int .u8 h.s7, .int .i64 h.K, .int .i64 h.M, .int .i64 h.B, .string h.key, .int .i64 h.size, .int .i64 h.idx, .int .i64 h.ep, .int .i64 h.ct, .slice F1 FL1.length d1] 46); replace HF := Lib.hid (HF.out.trans (hbn.mono HF.out.size)); replace HA := Lib.hid (RLL.below HA.out hbn); replace HTL := Lib.hid (RL.below HTL.out hbn); replace HZ3 := Lib.hid ((hbn.block _ (Array.getElem?_eq_some_iff.1 HZ3.out).1).trans HZ3.out); replace HR1 := Lib.hid (RLL.below HR1.out hbn); replace HOO1 := Lib.hid (HOO1.out.kept hbn); have HZ8 := Lib.hid (heap_alloc_new w3 (.cells #[.int .u8 h.s0, .int .u8 h.s1, .int .u8 h.s2, .int .u8 h.s3, .int .u8 h.s4, .int .u8 h.s5, .int .u8 h.s6, .int .u8 h.s7, .int .i64 h.K, .int .i64 h.M, .int .i64 h.B, .string h.key, .int .i64 h.size, .int .i64 h.idx, .int .i64 h.ep, .int .i64 h.ct, .slice F1 FL1.length d1] 46)); clear hbn; generalize w3.alloc (.cells #[.int .u8 h.s0, .int .u8 h.s1, .int .u8 h.s2, .int .u8 h.s3, .int .u8 h.s4, .int .u8 h.s5, .int .u8 h.s6, .int .u8 h.s7, .int .i64 h.K, .int .i64 h.M, .int .i64 h.B, .string h.key, .int .i64 h.size, .int .i64 h.idx, .int .i64 h.ep, .int .i64 h.ct, .slice F1 FL1.length d1] 46) = w4 at *) | (refine wpList_loadS rfl (.tmp 8) rfl (w3.heap.size) rfl #[.int .u8 h.s0, .int .u8 h.s1, .int .u8 h.s2, .int .u8 h.s3, .int .u8 h.s4, .int .u8 h.s5, .int .u8 h.s6, .int .u8 h.s7, .int .i64 h.K, .int .i64 h.M, .int .i64 h.B, .string h.key, .int .i64 h.size, .int .i64 h.idx, .int .i64 h.ep, .int .i64 h.ct, .slice F1 FL1.length d1] rfl HZ8.out ?_))
    refine (enc_any h F1 d1 FL1 _ HBD.out HX1.out HM1.out.1 HM1.out.2 HR1.out).mono ?_
    rintro e w5 ⟨o, e1, l1, rfl, hP, hO, hb⟩
    replace HF := Lib.hid (HF.out.trans (hb.mono HF.out.size))
    replace HA := Lib.hid (RLL.below HA.out hb)
    replace HTL := Lib.hid (RL.below HTL.out hb)
    replace HZ3 := Lib.hid ((hb.block _ (Array.getElem?_eq_some_iff.1 HZ3.out).1).trans HZ3.out)
    replace HR1 := Lib.hid (RLL.below HR1.out hb)
    replace HOO1 := Lib.hid (HOO1.out.kept hb)
    replace HZ8 := Lib.hid ((hb.block _ (Array.getElem?_eq_some_iff.1 HZ8.out).1).trans HZ8.out)
    obtain ⟨rfl, hl⟩ := enc_fit hP HE1.out HFF1.out
    have HL1 := Lib.hid hl
    have HB1 := Lib.hid (hP.lt HBD.out HX1.out)
    have hlen1 := hP.len
    obtain ⟨E1, x1, hcap1, hBg1, hgl1, hcm1, rfl⟩ := own_at hO (by rw [hl]; have := form_pos HE1.out HFF1.out; omega)
    have OB1 := Lib.hid hO
    have hpos1 : 40 ≤ l1.length := by rw [hl]; have := form_pos HE1.out HFF1.out; omega
    clear hO hP hl
    clear hb
    have HLE := Lib.hid (show lenE h = (l1.length : Int) by
      have h1 := form_len HE1.out HFF1.out
      have h2 : 0 ≤ lenE h := by unfold lenE; split <;> omega
      rw [HL1.out, h1]; omega)
    go_wp2_with (refine wpList_loadFirst rfl 28 (.tmp 71) rfl (w3.heap.size) rfl #[.int .u8 h.s0, .int .u8 h.s1, .int .u8 h.s2, .int .u8 h.s3, .int .u8 h.s4, .int .u8 h.s5, .int .u8 h.s6, .int .u8 h.s7, .int .i64 h.K, .int .i64 h.M, .int .i64 h.B, .string h.key, .int .i64 h.size, .int .i64 h.idx, .int .i64 h.ep, .int .i64 h.ct] #[.int .u8 h.s0, .int .u8 h.s1, .int .u8 h.s2, .int .u8 h.s3, .int .u8 h.s4, .int .u8 h.s5, .int .u8 h.s6, .int .u8 h.s7, .int .i64 h.K, .int .i64 h.M, .int .i64 h.B, .string h.key, .int .i64 h.size, .int .i64 h.idx, .int .i64 h.ep, .int .i64 h.ct, .slice F1 FL1.length d1] 46 _ rfl HZ8.out Try.underlying28 rfl info_H ?_)
    have hL := flength_any h w5
    rw [HLE.out, HE1.out] at hL
    refine (hL).mono ?_
    rintro e w6 ⟨rfl, hb⟩
    replace HF := Lib.hid (HF.out.trans (hb.mono HF.out.size))
    replace HA := Lib.hid (RLL.below HA.out hb)
    replace HTL := Lib.hid (RL.below HTL.out hb)
    replace HZ3 := Lib.hid ((hb.block _ (Array.getElem?_eq_some_iff.1 HZ3.out).1).trans HZ3.out)
    replace HR1 := Lib.hid (RLL.below HR1.out hb)
    replace HOO1 := Lib.hid (HOO1.out.kept hb)
    replace HZ8 := Lib.hid ((hb.block _ (Array.getElem?_eq_some_iff.1 HZ8.out).1).trans HZ8.out)
    replace OB1 := Lib.hid (OB1.out.kept hb)
    clear hb
    clear hL
    go_wp2_with fail
    refine (num_any 0 w6).mono ?_
    rintro e wn ⟨rfl, rfl⟩
    go_wp2_with fail
    refine (num_any 0 w6).mono ?_
    rintro e wn ⟨rfl, rfl⟩
    have hll : ((l1.length : Int) != (l1.length : Int)) = false := by simp
    go_wp2_with (refine wpList_bare rfl rfl rfl rfl ?_; refine wpList_loadFirst rfl 28 (.tmp 91) rfl (w3.heap.size) rfl #[.int .u8 h.s0, .int .u8 h.s1, .int .u8 h.s2, .int .u8 h.s3, .int .u8 h.s4, .int .u8 h.s5, .int .u8 h.s6, .int .u8 h.s7, .int .i64 h.K, .int .i64 h.M, .int .i64 h.B, .string h.key, .int .i64 h.size, .int .i64 h.idx, .int .i64 h.ep, .int .i64 h.ct] #[.int .u8 h.s0, .int .u8 h.s1, .int .u8 h.s2, .int .u8 h.s3, .int .u8 h.s4, .int .u8 h.s5, .int .u8 h.s6, .int .u8 h.s7, .int .i64 h.K, .int .i64 h.M, .int .i64 h.B, .string h.key, .int .i64 h.size, .int .i64 h.idx, .int .i64 h.ep, .int .i64 h.ct, .slice F1 FL1.length d1] 46 _ rfl HZ8.out Try.underlying28 rfl info_H ?_)
    have hC := fcheck_any h w6
    rw [HE1.out] at hC
    refine (hC).mono ?_
    rintro e w7 ⟨rfl, hb⟩
    replace HF := Lib.hid (HF.out.trans (hb.mono HF.out.size))
    replace HA := Lib.hid (RLL.below HA.out hb)
    replace HTL := Lib.hid (RL.below HTL.out hb)
    replace HZ3 := Lib.hid ((hb.block _ (Array.getElem?_eq_some_iff.1 HZ3.out).1).trans HZ3.out)
    replace HR1 := Lib.hid (RLL.below HR1.out hb)
    replace HOO1 := Lib.hid (HOO1.out.kept hb)
    replace HZ8 := Lib.hid ((hb.block _ (Array.getElem?_eq_some_iff.1 HZ8.out).1).trans HZ8.out)
    replace OB1 := Lib.hid (OB1.out.kept hb)
    clear hb
    clear hC hll
    go_wp2_with fail
    refine (num_any 0 w7).mono ?_
    rintro e wn ⟨rfl, rfl⟩
    go_wp2_with fail
    have HP1 := Lib.hid (show prsE l1 = 0 ∧ prsH l1 = h ∧ prsB l1 = FL1 by
      obtain ⟨p1, p2⟩ := prs_form HBD.out HE1.out HFF1.out HX1.out
      have p3 := blks_form HBD.out HE1.out HFF1.out FL1.length (Nat.le_refl _)
      rw [List.take_length] at p3
      rw [HL1.out]
      refine ⟨p1, by unfold prsH; rw [if_pos p1, p2], ?_⟩
      unfold prsB; rw [if_pos p1, p2, ← HFF1.out.1, p3])
    have hP := prs_any opn_all (some ⟨E1, 0, none⟩) x1 l1 w7 HB1.out (by omega) hcap1 hcm1 (own_rl OB1.out)
    unfold PrsPost at hP
    rw [HP1.out.1, HP1.out.2.1, HP1.out.2.2] at hP
    refine (hP).mono ?_
    rintro e w8 ⟨v, rfl, hO, hb⟩
    replace HF := Lib.hid (HF.out.trans (hb.mono HF.out.size))
    replace HA := Lib.hid (RLL.below HA.out hb)
    replace HTL := Lib.hid (RL.below HTL.out hb)
    replace HZ3 := Lib.hid ((hb.block _ (Array.getElem?_eq_some_iff.1 HZ3.out).1).trans HZ3.out)
    replace HR1 := Lib.hid (RLL.below HR1.out hb)
    replace HOO1 := Lib.hid (HOO1.out.kept hb)
    replace HZ8 := Lib.hid ((hb.block _ (Array.getElem?_eq_some_iff.1 HZ8.out).1).trans HZ8.out)
    replace OB1 := Lib.hid (OB1.out.kept hb)
    obtain ⟨A5, c5, ev, _, hr⟩ := hO.rd
    subst ev
    have HR5 := Lib.hid hr
    clear hO hr hP
    clear hb
    go_wp2_with (refine wpList_storeNewS rfl (.tmp 18) (.tmp 100) rfl #[.int .u8 h.s0, .int .u8 h.s1, .int .u8 h.s2, .int .u8 h.s3, .int .u8 h.s4, .int .u8 h.s5, .int .u8 h.s6, .int .u8 h.s7, .int .i64 h.K, .int .i64 h.M, .int .i64 h.B, .string h.key, .int .i64 h.size, .int .i64 h.idx, .int .i64 h.ep, .int .i64 h.ct, .slice A5 FL1.length c5] rfl rfl rfl rfl rfl ?_; have hbn := (Below.refl w8.heap.size w8).alloc (Nat.le_refl _) (.cells #[.int .u8 h.s0, .int .u8 h.s1, .int .u8 h.s2, .int .u8 h.s3, .int .u8 h.s4, .int .u8 h.s5, .int .u8 h.s6, .int .u8 h.s7, .int .i64 h.K, .int .i64 h.M, .int .i64 h.B, .string h.key, .int .i64 h.size, .int .i64 h.idx, .int .i64 h.ep, .int .i64 h.ct, .slice A5 FL1.length c5] 46); replace HF := Lib.hid (HF.out.trans (hbn.mono HF.out.size)); replace HA := Lib.hid (RLL.below HA.out hbn); replace HTL := Lib.hid (RL.below HTL.out hbn); replace HZ3 := Lib.hid ((hbn.block _ (Array.getElem?_eq_some_iff.1 HZ3.out).1).trans HZ3.out); replace HR1 := Lib.hid (RLL.below HR1.out hbn); replace HOO1 := Lib.hid (HOO1.out.kept hbn); replace HZ8 := Lib.hid ((hbn.block _ (Array.getElem?_eq_some_iff.1 HZ8.out).1).trans HZ8.out); replace OB1 := Lib.hid (OB1.out.kept hbn); replace HR5 := Lib.hid (RLL.below HR5.out hbn); have HZ18 := Lib.hid (heap_alloc_new w8 (.cells #[.int .u8 h.s0, .int .u8 h.s1, .int .u8 h.s2, .int .u8 h.s3, .int .u8 h.s4, .int .u8 h.s5, .int .u8 h.s6, .int .u8 h.s7, .int .i64 h.K, .int .i64 h.M, .int .i64 h.B, .string h.key, .int .i64 h.size, .int .i64 h.idx, .int .i64 h.ep, .int .i64 h.ct, .slice A5 FL1.length c5] 46)); clear hbn; generalize w8.alloc (.cells #[.int .u8 h.s0, .int .u8 h.s1, .int .u8 h.s2, .int .u8 h.s3, .int .u8 h.s4, .int .u8 h.s5, .int .u8 h.s6, .int .u8 h.s7, .int .i64 h.K, .int .i64 h.M, .int .i64 h.B, .string h.key, .int .i64 h.size, .int .i64 h.idx, .int .i64 h.ep, .int .i64 h.ct, .slice A5 FL1.length c5] 46) = w9 at *)
    refine (num_any 0 w9).mono ?_
    rintro e wn ⟨rfl, rfl⟩
    go_wp2_with (first | (refine wpList_bare rfl rfl rfl rfl ?_; refine wpList_loadS rfl (.tmp 18) rfl (w8.heap.size) rfl #[.int .u8 h.s0, .int .u8 h.s1, .int .u8 h.s2, .int .u8 h.s3, .int .u8 h.s4, .int .u8 h.s5, .int .u8 h.s6, .int .u8 h.s7, .int .i64 h.K, .int .i64 h.M, .int .i64 h.B, .string h.key, .int .i64 h.size, .int .i64 h.idx, .int .i64 h.ep, .int .i64 h.ct, .slice A5 FL1.length c5] rfl HZ18.out ?_) | (refine wpList_bare rfl rfl rfl rfl ?_; refine wpList_loadS rfl (.tmp 8) rfl (w3.heap.size) rfl #[.int .u8 h.s0, .int .u8 h.s1, .int .u8 h.s2, .int .u8 h.s3, .int .u8 h.s4, .int .u8 h.s5, .int .u8 h.s6, .int .u8 h.s7, .int .i64 h.K, .int .i64 h.M, .int .i64 h.B, .string h.key, .int .i64 h.size, .int .i64 h.idx, .int .i64 h.ep, .int .i64 h.ct, .slice F1 FL1.length d1] rfl HZ8.out ?_))
    refine (same_any h h A5 F1 c5 d1 FL1 FL1 _ HW.out HW.out (by omega) HX1.out HX1.out HR5.out HR1.out (by omega)).mono ?_
    rintro e w10 ⟨q, rfl, hq, hb⟩
    replace HF := Lib.hid (HF.out.trans (hb.mono HF.out.size))
    replace HA := Lib.hid (RLL.below HA.out hb)
    replace HTL := Lib.hid (RL.below HTL.out hb)
    replace HZ3 := Lib.hid ((hb.block _ (Array.getElem?_eq_some_iff.1 HZ3.out).1).trans HZ3.out)
    replace HR1 := Lib.hid (RLL.below HR1.out hb)
    replace HOO1 := Lib.hid (HOO1.out.kept hb)
    replace HZ8 := Lib.hid ((hb.block _ (Array.getElem?_eq_some_iff.1 HZ8.out).1).trans HZ8.out)
    replace OB1 := Lib.hid (OB1.out.kept hb)
    replace HR5 := Lib.hid (RLL.below HR5.out hb)
    replace HZ18 := Lib.hid ((hb.block _ (Array.getElem?_eq_some_iff.1 HZ18.out).1).trans HZ18.out)
    obtain rfl : q = true := hq.2 ⟨rfl, rfl⟩
    clear hq
    clear hb
    have HS0 := Lib.hid ((own_rl OB1.out).below ((Below.refl w10.heap.size w10).alloc (Nat.le_refl _) (.cells #[] 5)) |>.src x1)
    have HO0 := Lib.hid (OwnB.fresh w10)
    have HBE := Lib.hid ((Below.refl w10.heap.size w10).alloc (Nat.le_refl _) (.cells #[] 5))
    go_wp2_with (at_builtin; refine wpList_appB rfl (.tmp 111) (.tmp 112) 47 rfl w10.heap.size _ [] rfl HO0.out (by simp) _ l1.length l1 rfl HS0.out (by simp; omega) ?_)
    intro v6 wx hO6 hb6 _
    have HO6 := Lib.hid (show OwnB wx _ v6 l1 from hO6)
    have HB6 := Lib.hid (HBE.out.trans hb6)
    have HST := Lib.hid ((HTL.out.below HB6.out).src cT)
    have hsx := HB6.out.size
    clear hO6 hb6 HO0 HBE HS0
    go_wp2_with (at_builtin; refine wpList_appW rfl (.tmp 113) (.tmp 114) 47 rfl w10.heap.size _ l1 rfl HO6.out hsx _ tl.length tl rfl HST.out (by omega) ?_)
    intro v7 wy hO7 hb7 _
    have HO7 := Lib.hid hO7
    have hb := HB6.out.trans hb7
    clear hO7 hb7 HB6 HST hsx HO6
    replace HF := Lib.hid (HF.out.trans (hb.mono HF.out.size))
    replace HA := Lib.hid (RLL.below HA.out hb)
    replace HTL := Lib.hid (RL.below HTL.out hb)
    replace HZ3 := Lib.hid ((hb.block _ (Array.getElem?_eq_some_iff.1 HZ3.out).1).trans HZ3.out)
    replace HR1 := Lib.hid (RLL.below HR1.out hb)
    replace HOO1 := Lib.hid (HOO1.out.kept hb)
    replace HZ8 := Lib.hid ((hb.block _ (Array.getElem?_eq_some_iff.1 HZ8.out).1).trans HZ8.out)
    replace OB1 := Lib.hid (OB1.out.kept hb)
    replace HR5 := Lib.hid (RLL.below HR5.out hb)
    replace HZ18 := Lib.hid ((hb.block _ (Array.getElem?_eq_some_iff.1 HZ18.out).1).trans HZ18.out)
    clear hb
    obtain ⟨mo, hmo⟩ : ∃ mo, mo = l1 ++ tl := ⟨_, rfl⟩
    rw [← hmo] at HO7
    have hml : mo.length = l1.length + tl.length := by rw [hmo, List.length_append]
    have hmb : mo.length ≤ 150000000000000 := by omega
    have hm0 : 0 < mo.length := by omega
    clear hml
    have HMO := Lib.hid (show mo = formL h FL1 ++ tl by rw [hmo, HL1.out])
    have HMX := Lib.hid (show ∀ x ∈ mo, x < 256 from hmo ▸ le_app_lt HB1.out HTX.out)
    obtain ⟨E7, x7, hcap7, _, _, hcm7, rfl⟩ := own_at HO7.out (by omega)
    obtain ⟨m1, m2, m3, m4⟩ := more_form (t := tl) HBD.out HE1.out HFF1.out HX1.out
    rw [← HMO.out] at m1 m2 m3 m4
    have M1 := Lib.hid m1; have M2 := Lib.hid m2
    have M3 := Lib.hid (show sptL mo = [] by unfold sptL; rw [if_pos m1, m2, m3])
    have M4 := Lib.hid m4
    have M5 := Lib.hid (show rdH mo = h by unfold rdH; rw [if_pos m1, m2])
    clear m1 m2 m3 m4 hmo
    go_wp2_with fail
    have hP := ph_any opn_all (some ⟨E7, 0, none⟩) x7 mo wy HMX.out (by omega) hcap7 hcm7 (own_rl HO7.out)
    unfold RphPost at hP
    rw [M1.out, M5.out] at hP
    refine (hP).mono ?_
    rintro e w11 ⟨rfl, hb⟩
    replace HF := Lib.hid (HF.out.trans (hb.mono HF.out.size))
    replace HA := Lib.hid (RLL.below HA.out hb)
    replace HTL := Lib.hid (RL.below HTL.out hb)
    replace HZ3 := Lib.hid ((hb.block _ (Array.getElem?_eq_some_iff.1 HZ3.out).1).trans HZ3.out)
    replace HR1 := Lib.hid (RLL.below HR1.out hb)
    replace HOO1 := Lib.hid (HOO1.out.kept hb)
    replace HZ8 := Lib.hid ((hb.block _ (Array.getElem?_eq_some_iff.1 HZ8.out).1).trans HZ8.out)
    replace OB1 := Lib.hid (OB1.out.kept hb)
    replace HR5 := Lib.hid (RLL.below HR5.out hb)
    replace HZ18 := Lib.hid ((hb.block _ (Array.getElem?_eq_some_iff.1 HZ18.out).1).trans HZ18.out)
    replace HO7 := Lib.hid (HO7.out.kept hb)
    clear hP
    clear hb
    go_wp2_with (refine wpList_storeNewH rfl (.tmp 21) (.tmp 119) rfl #[.int .u8 h.s0, .int .u8 h.s1, .int .u8 h.s2, .int .u8 h.s3, .int .u8 h.s4, .int .u8 h.s5, .int .u8 h.s6, .int .u8 h.s7, .int .i64 h.K, .int .i64 h.M, .int .i64 h.B, .string h.key, .int .i64 h.size, .int .i64 h.idx, .int .i64 h.ep, .int .i64 h.ct] rfl rfl rfl rfl rfl ?_; have hbn := (Below.refl w11.heap.size w11).alloc (Nat.le_refl _) (.cells #[.int .u8 h.s0, .int .u8 h.s1, .int .u8 h.s2, .int .u8 h.s3, .int .u8 h.s4, .int .u8 h.s5, .int .u8 h.s6, .int .u8 h.s7, .int .i64 h.K, .int .i64 h.M, .int .i64 h.B, .string h.key, .int .i64 h.size, .int .i64 h.idx, .int .i64 h.ep, .int .i64 h.ct] 28); replace HF := Lib.hid (HF.out.trans (hbn.mono HF.out.size)); replace HA := Lib.hid (RLL.below HA.out hbn); replace HTL := Lib.hid (RL.below HTL.out hbn); replace HZ3 := Lib.hid ((hbn.block _ (Array.getElem?_eq_some_iff.1 HZ3.out).1).trans HZ3.out); replace HR1 := Lib.hid (RLL.below HR1.out hbn); replace HOO1 := Lib.hid (HOO1.out.kept hbn); replace HZ8 := Lib.hid ((hbn.block _ (Array.getElem?_eq_some_iff.1 HZ8.out).1).trans HZ8.out); replace OB1 := Lib.hid (OB1.out.kept hbn); replace HR5 := Lib.hid (RLL.below HR5.out hbn); replace HZ18 := Lib.hid ((hbn.block _ (Array.getElem?_eq_some_iff.1 HZ18.out).1).trans HZ18.out); replace HO7 := Lib.hid (HO7.out.kept hbn); have HZ21 := Lib.hid (heap_alloc_new w11 (.cells #[.int .u8 h.s0, .int .u8 h.s1, .int .u8 h.s2, .int .u8 h.s3, .int .u8 h.s4, .int .u8 h.s5, .int .u8 h.s6, .int .u8 h.s7, .int .i64 h.K, .int .i64 h.M, .int .i64 h.B, .string h.key, .int .i64 h.size, .int .i64 h.idx, .int .i64 h.ep, .int .i64 h.ct] 28)); clear hbn; generalize w11.alloc (.cells #[.int .u8 h.s0, .int .u8 h.s1, .int .u8 h.s2, .int .u8 h.s3, .int .u8 h.s4, .int .u8 h.s5, .int .u8 h.s6, .int .u8 h.s7, .int .i64 h.K, .int .i64 h.M, .int .i64 h.B, .string h.key, .int .i64 h.size, .int .i64 h.idx, .int .i64 h.ep, .int .i64 h.ct] 28) = w12 at *)
    have hP := spt_any opn_all (some ⟨E7, 0, none⟩) x7 mo w12 HMX.out (by omega) hcap7 hcm7 (own_rl HO7.out)
    unfold SptPost at hP
    rw [M1.out, M3.out] at hP
    refine (hP).mono ?_
    rintro e w13 ⟨v, rfl, hO, hb⟩
    replace HF := Lib.hid (HF.out.trans (hb.mono HF.out.size))
    replace HA := Lib.hid (RLL.below HA.out hb)
    replace HTL := Lib.hid (RL.below HTL.out hb)
    replace HZ3 := Lib.hid ((hb.block _ (Array.getElem?_eq_some_iff.1 HZ3.out).1).trans HZ3.out)
    replace HR1 := Lib.hid (RLL.below HR1.out hb)
    replace HOO1 := Lib.hid (HOO1.out.kept hb)
    replace HZ8 := Lib.hid ((hb.block _ (Array.getElem?_eq_some_iff.1 HZ8.out).1).trans HZ8.out)
    replace OB1 := Lib.hid (OB1.out.kept hb)
    replace HR5 := Lib.hid (RLL.below HR5.out hb)
    replace HZ18 := Lib.hid ((hb.block _ (Array.getElem?_eq_some_iff.1 HZ18.out).1).trans HZ18.out)
    replace HO7 := Lib.hid (HO7.out.kept hb)
    replace HZ21 := Lib.hid ((hb.block _ (Array.getElem?_eq_some_iff.1 HZ21.out).1).trans HZ21.out)
    obtain ⟨A8, c8, ev, _⟩ := Own.rd hO
    subst ev
    clear hP hO
    clear hb
    go_wp2_with fail
    refine (num_any 0 w13).mono ?_
    rintro e wn ⟨rfl, rfl⟩
    have hEQ := (head_eq HW.out HW.out w13).trans (by rw [(hdEq_iff h h).2 rfl])
    go_wp2_with (first | (refine wpList_bare rfl rfl rfl rfl ?_; refine wpList_loadH rfl (.tmp 21) rfl (w11.heap.size) rfl #[.int .u8 h.s0, .int .u8 h.s1, .int .u8 h.s2, .int .u8 h.s3, .int .u8 h.s4, .int .u8 h.s5, .int .u8 h.s6, .int .u8 h.s7, .int .i64 h.K, .int .i64 h.M, .int .i64 h.B, .string h.key, .int .i64 h.size, .int .i64 h.idx, .int .i64 h.ep, .int .i64 h.ct] rfl HZ21.out ?_) | (refine wpList_bare rfl rfl rfl rfl ?_; refine wpList_loadFirst rfl 28 (.tmp 131) rfl (w3.heap.size) rfl #[.int .u8 h.s0, .int .u8 h.s1, .int .u8 h.s2, .int .u8 h.s3, .int .u8 h.s4, .int .u8 h.s5, .int .u8 h.s6, .int .u8 h.s7, .int .i64 h.K, .int .i64 h.M, .int .i64 h.B, .string h.key, .int .i64 h.size, .int .i64 h.idx, .int .i64 h.ep, .int .i64 h.ct] #[.int .u8 h.s0, .int .u8 h.s1, .int .u8 h.s2, .int .u8 h.s3, .int .u8 h.s4, .int .u8 h.s5, .int .u8 h.s6, .int .u8 h.s7, .int .i64 h.K, .int .i64 h.M, .int .i64 h.B, .string h.key, .int .i64 h.size, .int .i64 h.idx, .int .i64 h.ep, .int .i64 h.ct, .slice F1 FL1.length d1] 46 _ rfl HZ8.out Try.underlying28 rfl info_H ?_) | (refine wpList_bare rfl rfl rfl rfl ?_; refine wpList_neqAgg rfl 28 (.tmp 130) (.tmp 132) rfl #[.int .u8 h.s0, .int .u8 h.s1, .int .u8 h.s2, .int .u8 h.s3, .int .u8 h.s4, .int .u8 h.s5, .int .u8 h.s6, .int .u8 h.s7, .int .i64 h.K, .int .i64 h.M, .int .i64 h.B, .string h.key, .int .i64 h.size, .int .i64 h.idx, .int .i64 h.ep, .int .i64 h.ct] #[.int .u8 h.s0, .int .u8 h.s1, .int .u8 h.s2, .int .u8 h.s3, .int .u8 h.s4, .int .u8 h.s5, .int .u8 h.s6, .int .u8 h.s7, .int .i64 h.K, .int .i64 h.M, .int .i64 h.B, .string h.key, .int .i64 h.size, .int .i64 h.idx, .int .i64 h.ep, .int .i64 h.ct] rfl rfl guard_H true hEQ ?_))
    refine (num_any 0 w13).mono ?_
    rintro e wn ⟨rfl, rfl⟩
    clear hEQ
    go_wp2_with fail
    obtain ⟨pe, hpe⟩ : ∃ pe, pe = prsE mo := ⟨_, rfl⟩
    obtain ⟨np, hnp⟩ : ∃ np, np = (prsB mo).length := ⟨_, rfl⟩
    obtain ⟨P, hPp⟩ : ∃ P, P = prsH mo := ⟨_, rfl⟩
    have HPE := Lib.hid hpe; have HNP := Lib.hid hnp; have HPP := Lib.hid hPp
    clear hpe hnp hPp
    have hP := prs_any opn_all (some ⟨E7, 0, none⟩) x7 mo w13 HMX.out (by omega) hcap7 hcm7 (own_rl HO7.out)
    unfold PrsPost at hP
    rw [← HPE.out, ← HPP.out] at hP
    refine (hP).mono ?_
    rintro e w14 ⟨v, rfl, hO, hb⟩
    replace HF := Lib.hid (HF.out.trans (hb.mono HF.out.size))
    replace HA := Lib.hid (RLL.below HA.out hb)
    replace HTL := Lib.hid (RL.below HTL.out hb)
    replace HZ3 := Lib.hid ((hb.block _ (Array.getElem?_eq_some_iff.1 HZ3.out).1).trans HZ3.out)
    replace HR1 := Lib.hid (RLL.below HR1.out hb)
    replace HOO1 := Lib.hid (HOO1.out.kept hb)
    replace HZ8 := Lib.hid ((hb.block _ (Array.getElem?_eq_some_iff.1 HZ8.out).1).trans HZ8.out)
    replace OB1 := Lib.hid (OB1.out.kept hb)
    replace HR5 := Lib.hid (RLL.below HR5.out hb)
    replace HZ18 := Lib.hid ((hb.block _ (Array.getElem?_eq_some_iff.1 HZ18.out).1).trans HZ18.out)
    replace HO7 := Lib.hid (HO7.out.kept hb)
    replace HZ21 := Lib.hid ((hb.block _ (Array.getElem?_eq_some_iff.1 HZ21.out).1).trans HZ21.out)
    obtain ⟨A9, c9, ev, _⟩ := hO.rd
    rw [← HNP.out] at ev
    subst ev
    clear hP hO
    clear hb
    have H72 := Lib.hid (show ¬ tl.length = 0 → pe = 72 from fun ht => HPE.out.trans (M4.out (by omega)))
    obtain ⟨tn, htn⟩ : ∃ tn, tn = tl.length := ⟨_, rfl⟩
    rw [← htn] at H72 ⊢
    have HTN := Lib.hid htn
    clear htn
    obtain ⟨cu, hcu⟩ : ∃ cu : Nat, cu = (if C < 0 ∨ (l1.length : Int) ≤ C then l1.length - 1 else C.toNat) := ⟨_, rfl⟩
    have hcl : cu < l1.length := by rw [hcu]; split <;> omega
    have HCU := Lib.hid hcu
    have hs0 : (0 : Int) ≤ (cu : Int) := by omega
    have hs1 : (cu : Int) ≤ (x1 : Int) := by omega
    have HPC := Lib.hid (show prsE (l1.take cu) = 70 by rw [HL1.out]; exact prs_cut HBD.out HE1.out HFF1.out (by rw [← HL1.out]; exact hcl))
    have HTA := Lib.hid (show RL w14 (some ⟨E1, 0, none⟩) (l1.take cu) by rw [take_sl]; exact sl_rl0 (own_rl OB1.out) (by omega))
    have hpl := Lib.hid (show (l1.take cu).length = cu by rw [List.length_take]; omega)
    clear hcu
    by_cases ht : tn = 0
    · subst ht
      by_cases hc0 : C < 0
      · skip
        have he := HCU.out
        rw [if_pos (.inl hc0)] at he
        have hw : IntKind.i64.wrap ((l1.length : Int) - 1) = (cu : Int) := by rw [IntKind.wrap_i64]; omega
        clear he
        go_wp2_with (refine wpList_storeNewS rfl (.tmp 25) (.tmp 148) rfl #[.int .u8 P.s0, .int .u8 P.s1, .int .u8 P.s2, .int .u8 P.s3, .int .u8 P.s4, .int .u8 P.s5, .int .u8 P.s6, .int .u8 P.s7, .int .i64 P.K, .int .i64 P.M, .int .i64 P.B, .string P.key, .int .i64 P.size, .int .i64 P.idx, .int .i64 P.ep, .int .i64 P.ct, .slice A9 np c9] rfl rfl rfl rfl rfl ?_; have hbn := (Below.refl w14.heap.size w14).alloc (Nat.le_refl _) (.cells #[.int .u8 P.s0, .int .u8 P.s1, .int .u8 P.s2, .int .u8 P.s3, .int .u8 P.s4, .int .u8 P.s5, .int .u8 P.s6, .int .u8 P.s7, .int .i64 P.K, .int .i64 P.M, .int .i64 P.B, .string P.key, .int .i64 P.size, .int .i64 P.idx, .int .i64 P.ep, .int .i64 P.ct, .slice A9 np c9] 46); replace HF := Lib.hid (HF.out.trans (hbn.mono HF.out.size)); replace HA := Lib.hid (RLL.below HA.out hbn); replace HTL := Lib.hid (RL.below HTL.out hbn); replace HZ3 := Lib.hid ((hbn.block _ (Array.getElem?_eq_some_iff.1 HZ3.out).1).trans HZ3.out); replace HR1 := Lib.hid (RLL.below HR1.out hbn); replace HOO1 := Lib.hid (HOO1.out.kept hbn); replace HZ8 := Lib.hid ((hbn.block _ (Array.getElem?_eq_some_iff.1 HZ8.out).1).trans HZ8.out); replace OB1 := Lib.hid (OB1.out.kept hbn); replace HR5 := Lib.hid (RLL.below HR5.out hbn); replace HZ18 := Lib.hid ((hbn.block _ (Array.getElem?_eq_some_iff.1 HZ18.out).1).trans HZ18.out); replace HO7 := Lib.hid (HO7.out.kept hbn); replace HZ21 := Lib.hid ((hbn.block _ (Array.getElem?_eq_some_iff.1 HZ21.out).1).trans HZ21.out); replace HTA := Lib.hid (RL.below HTA.out hbn); have HZ25 := Lib.hid (heap_alloc_new w14 (.cells #[.int .u8 P.s0, .int .u8 P.s1, .int .u8 P.s2, .int .u8 P.s3, .int .u8 P.s4, .int .u8 P.s5, .int .u8 P.s6, .int .u8 P.s7, .int .i64 P.K, .int .i64 P.M, .int .i64 P.B, .string P.key, .int .i64 P.size, .int .i64 P.idx, .int .i64 P.ep, .int .i64 P.ct, .slice A9 np c9] 46)); clear hbn; generalize w14.alloc (.cells #[.int .u8 P.s0, .int .u8 P.s1, .int .u8 P.s2, .int .u8 P.s3, .int .u8 P.s4, .int .u8 P.s5, .int .u8 P.s6, .int .u8 P.s7, .int .i64 P.K, .int .i64 P.M, .int .i64 P.B, .string P.key, .int .i64 P.size, .int .i64 P.idx, .int .i64 P.ep, .int .i64 P.ct, .slice A9 np c9] 46) = w15 at *)
        have hP := prs_any opn_all (some ⟨E1, 0, none⟩) x1 (l1.take cu) w15 (fun x hx => HB1.out x (List.mem_of_mem_take hx)) (by rw [hpl.out]; omega) (by rw [hpl.out]; omega) hcm1 HTA.out
        unfold PrsPost at hP
        rw [HPC.out, (prs_none HPC.out (by decide)).1, (prs_none HPC.out (by decide)).2, hpl.out] at hP
        refine (hP).mono ?_
        rintro e w16 ⟨v, rfl, hO, hb⟩
        replace HF := Lib.hid (HF.out.trans (hb.mono HF.out.size))
        replace HA := Lib.hid (RLL.below HA.out hb)
        replace HTL := Lib.hid (RL.below HTL.out hb)
        replace HZ3 := Lib.hid ((hb.block _ (Array.getElem?_eq_some_iff.1 HZ3.out).1).trans HZ3.out)
        replace HR1 := Lib.hid (RLL.below HR1.out hb)
        replace HOO1 := Lib.hid (HOO1.out.kept hb)
        replace HZ8 := Lib.hid ((hb.block _ (Array.getElem?_eq_some_iff.1 HZ8.out).1).trans HZ8.out)
        replace OB1 := Lib.hid (OB1.out.kept hb)
        replace HR5 := Lib.hid (RLL.below HR5.out hb)
        replace HZ18 := Lib.hid ((hb.block _ (Array.getElem?_eq_some_iff.1 HZ18.out).1).trans HZ18.out)
        replace HO7 := Lib.hid (HO7.out.kept hb)
        replace HZ21 := Lib.hid ((hb.block _ (Array.getElem?_eq_some_iff.1 HZ21.out).1).trans HZ21.out)
        replace HTA := Lib.hid (RL.below HTA.out hb)
        replace HZ25 := Lib.hid ((hb.block _ (Array.getElem?_eq_some_iff.1 HZ25.out).1).trans HZ25.out)
        obtain ⟨AA, cA, ev, _⟩ := hO.rd
        subst ev
        clear hP hO
        clear hb
        go_wp2_with (refine wpList_storeNewS rfl (.tmp 27) (.tmp 172) rfl #[.int .u8 0, .int .u8 0, .int .u8 0, .int .u8 0, .int .u8 0, .int .u8 0, .int .u8 0, .int .u8 0, .int .i64 0, .int .i64 0, .int .i64 0, .string ⟨#[]⟩, .int .i64 0, .int .i64 0, .int .i64 0, .int .i64 0, .slice AA 0 cA] rfl rfl rfl rfl rfl ?_; have hbn := (Below.refl w16.heap.size w16).alloc (Nat.le_refl _) (.cells #[.int .u8 0, .int .u8 0, .int .u8 0, .int .u8 0, .int .u8 0, .int .u8 0, .int .u8 0, .int .u8 0, .int .i64 0, .int .i64 0, .int .i64 0, .string ⟨#[]⟩, .int .i64 0, .int .i64 0, .int .i64 0, .int .i64 0, .slice AA 0 cA] 46); replace HF := Lib.hid (HF.out.trans (hbn.mono HF.out.size)); replace HA := Lib.hid (RLL.below HA.out hbn); replace HTL := Lib.hid (RL.below HTL.out hbn); replace HZ3 := Lib.hid ((hbn.block _ (Array.getElem?_eq_some_iff.1 HZ3.out).1).trans HZ3.out); replace HR1 := Lib.hid (RLL.below HR1.out hbn); replace HOO1 := Lib.hid (HOO1.out.kept hbn); replace HZ8 := Lib.hid ((hbn.block _ (Array.getElem?_eq_some_iff.1 HZ8.out).1).trans HZ8.out); replace OB1 := Lib.hid (OB1.out.kept hbn); replace HR5 := Lib.hid (RLL.below HR5.out hbn); replace HZ18 := Lib.hid ((hbn.block _ (Array.getElem?_eq_some_iff.1 HZ18.out).1).trans HZ18.out); replace HO7 := Lib.hid (HO7.out.kept hbn); replace HZ21 := Lib.hid ((hbn.block _ (Array.getElem?_eq_some_iff.1 HZ21.out).1).trans HZ21.out); replace HTA := Lib.hid (RL.below HTA.out hbn); replace HZ25 := Lib.hid ((hbn.block _ (Array.getElem?_eq_some_iff.1 HZ25.out).1).trans HZ25.out); have HZ27 := Lib.hid (heap_alloc_new w16 (.cells #[.int .u8 0, .int .u8 0, .int .u8 0, .int .u8 0, .int .u8 0, .int .u8 0, .int .u8 0, .int .u8 0, .int .i64 0, .int .i64 0, .int .i64 0, .string ⟨#[]⟩, .int .i64 0, .int .i64 0, .int .i64 0, .int .i64 0, .slice AA 0 cA] 46)); clear hbn; generalize w16.alloc (.cells #[.int .u8 0, .int .u8 0, .int .u8 0, .int .u8 0, .int .u8 0, .int .u8 0, .int .u8 0, .int .u8 0, .int .i64 0, .int .i64 0, .int .i64 0, .string ⟨#[]⟩, .int .i64 0, .int .i64 0, .int .i64 0, .int .i64 0, .slice AA 0 cA] 46) = w17 at *)
        refine (num_any 70 w17).mono ?_
        rintro e wn ⟨rfl, rfl⟩
        go_wp2
        go_ret
        exact ⟨rfl, HF.out⟩
      by_cases hc1 : (l1.length : Int) ≤ C
      · skip
        have he := HCU.out
        rw [if_pos (.inr hc1)] at he
        have hw : IntKind.i64.wrap ((l1.length : Int) - 1) = (cu : Int) := by rw [IntKind.wrap_i64]; omega
        clear he
        go_wp2_with (refine wpList_storeNewS rfl (.tmp 25) (.tmp 148) rfl #[.int .u8 P.s0, .int .u8 P.s1, .int .u8 P.s2, .int .u8 P.s3, .int .u8 P.s4, .int .u8 P.s5, .int .u8 P.s6, .int .u8 P.s7, .int .i64 P.K, .int .i64 P.M, .int .i64 P.B, .string P.key, .int .i64 P.size, .int .i64 P.idx, .int .i64 P.ep, .int .i64 P.ct, .slice A9 np c9] rfl rfl rfl rfl rfl ?_; have hbn := (Below.refl w14.heap.size w14).alloc (Nat.le_refl _) (.cells #[.int .u8 P.s0, .int .u8 P.s1, .int .u8 P.s2, .int .u8 P.s3, .int .u8 P.s4, .int .u8 P.s5, .int .u8 P.s6, .int .u8 P.s7, .int .i64 P.K, .int .i64 P.M, .int .i64 P.B, .string P.key, .int .i64 P.size, .int .i64 P.idx, .int .i64 P.ep, .int .i64 P.ct, .slice A9 np c9] 46); replace HF := Lib.hid (HF.out.trans (hbn.mono HF.out.size)); replace HA := Lib.hid (RLL.below HA.out hbn); replace HTL := Lib.hid (RL.below HTL.out hbn); replace HZ3 := Lib.hid ((hbn.block _ (Array.getElem?_eq_some_iff.1 HZ3.out).1).trans HZ3.out); replace HR1 := Lib.hid (RLL.below HR1.out hbn); replace HOO1 := Lib.hid (HOO1.out.kept hbn); replace HZ8 := Lib.hid ((hbn.block _ (Array.getElem?_eq_some_iff.1 HZ8.out).1).trans HZ8.out); replace OB1 := Lib.hid (OB1.out.kept hbn); replace HR5 := Lib.hid (RLL.below HR5.out hbn); replace HZ18 := Lib.hid ((hbn.block _ (Array.getElem?_eq_some_iff.1 HZ18.out).1).trans HZ18.out); replace HO7 := Lib.hid (HO7.out.kept hbn); replace HZ21 := Lib.hid ((hbn.block _ (Array.getElem?_eq_some_iff.1 HZ21.out).1).trans HZ21.out); replace HTA := Lib.hid (RL.below HTA.out hbn); have HZ25 := Lib.hid (heap_alloc_new w14 (.cells #[.int .u8 P.s0, .int .u8 P.s1, .int .u8 P.s2, .int .u8 P.s3, .int .u8 P.s4, .int .u8 P.s5, .int .u8 P.s6, .int .u8 P.s7, .int .i64 P.K, .int .i64 P.M, .int .i64 P.B, .string P.key, .int .i64 P.size, .int .i64 P.idx, .int .i64 P.ep, .int .i64 P.ct, .slice A9 np c9] 46)); clear hbn; generalize w14.alloc (.cells #[.int .u8 P.s0, .int .u8 P.s1, .int .u8 P.s2, .int .u8 P.s3, .int .u8 P.s4, .int .u8 P.s5, .int .u8 P.s6, .int .u8 P.s7, .int .i64 P.K, .int .i64 P.M, .int .i64 P.B, .string P.key, .int .i64 P.size, .int .i64 P.idx, .int .i64 P.ep, .int .i64 P.ct, .slice A9 np c9] 46) = w15 at *)
        have hP := prs_any opn_all (some ⟨E1, 0, none⟩) x1 (l1.take cu) w15 (fun x hx => HB1.out x (List.mem_of_mem_take hx)) (by rw [hpl.out]; omega) (by rw [hpl.out]; omega) hcm1 HTA.out
        unfold PrsPost at hP
        rw [HPC.out, (prs_none HPC.out (by decide)).1, (prs_none HPC.out (by decide)).2, hpl.out] at hP
        refine (hP).mono ?_
        rintro e w16 ⟨v, rfl, hO, hb⟩
        replace HF := Lib.hid (HF.out.trans (hb.mono HF.out.size))
        replace HA := Lib.hid (RLL.below HA.out hb)
        replace HTL := Lib.hid (RL.below HTL.out hb)
        replace HZ3 := Lib.hid ((hb.block _ (Array.getElem?_eq_some_iff.1 HZ3.out).1).trans HZ3.out)
        replace HR1 := Lib.hid (RLL.below HR1.out hb)
        replace HOO1 := Lib.hid (HOO1.out.kept hb)
        replace HZ8 := Lib.hid ((hb.block _ (Array.getElem?_eq_some_iff.1 HZ8.out).1).trans HZ8.out)
        replace OB1 := Lib.hid (OB1.out.kept hb)
        replace HR5 := Lib.hid (RLL.below HR5.out hb)
        replace HZ18 := Lib.hid ((hb.block _ (Array.getElem?_eq_some_iff.1 HZ18.out).1).trans HZ18.out)
        replace HO7 := Lib.hid (HO7.out.kept hb)
        replace HZ21 := Lib.hid ((hb.block _ (Array.getElem?_eq_some_iff.1 HZ21.out).1).trans HZ21.out)
        replace HTA := Lib.hid (RL.below HTA.out hb)
        replace HZ25 := Lib.hid ((hb.block _ (Array.getElem?_eq_some_iff.1 HZ25.out).1).trans HZ25.out)
        obtain ⟨AA, cA, ev, _⟩ := hO.rd
        subst ev
        clear hP hO
        clear hb
        go_wp2_with (refine wpList_storeNewS rfl (.tmp 27) (.tmp 172) rfl #[.int .u8 0, .int .u8 0, .int .u8 0, .int .u8 0, .int .u8 0, .int .u8 0, .int .u8 0, .int .u8 0, .int .i64 0, .int .i64 0, .int .i64 0, .string ⟨#[]⟩, .int .i64 0, .int .i64 0, .int .i64 0, .int .i64 0, .slice AA 0 cA] rfl rfl rfl rfl rfl ?_; have hbn := (Below.refl w16.heap.size w16).alloc (Nat.le_refl _) (.cells #[.int .u8 0, .int .u8 0, .int .u8 0, .int .u8 0, .int .u8 0, .int .u8 0, .int .u8 0, .int .u8 0, .int .i64 0, .int .i64 0, .int .i64 0, .string ⟨#[]⟩, .int .i64 0, .int .i64 0, .int .i64 0, .int .i64 0, .slice AA 0 cA] 46); replace HF := Lib.hid (HF.out.trans (hbn.mono HF.out.size)); replace HA := Lib.hid (RLL.below HA.out hbn); replace HTL := Lib.hid (RL.below HTL.out hbn); replace HZ3 := Lib.hid ((hbn.block _ (Array.getElem?_eq_some_iff.1 HZ3.out).1).trans HZ3.out); replace HR1 := Lib.hid (RLL.below HR1.out hbn); replace HOO1 := Lib.hid (HOO1.out.kept hbn); replace HZ8 := Lib.hid ((hbn.block _ (Array.getElem?_eq_some_iff.1 HZ8.out).1).trans HZ8.out); replace OB1 := Lib.hid (OB1.out.kept hbn); replace HR5 := Lib.hid (RLL.below HR5.out hbn); replace HZ18 := Lib.hid ((hbn.block _ (Array.getElem?_eq_some_iff.1 HZ18.out).1).trans HZ18.out); replace HO7 := Lib.hid (HO7.out.kept hbn); replace HZ21 := Lib.hid ((hbn.block _ (Array.getElem?_eq_some_iff.1 HZ21.out).1).trans HZ21.out); replace HTA := Lib.hid (RL.below HTA.out hbn); replace HZ25 := Lib.hid ((hbn.block _ (Array.getElem?_eq_some_iff.1 HZ25.out).1).trans HZ25.out); have HZ27 := Lib.hid (heap_alloc_new w16 (.cells #[.int .u8 0, .int .u8 0, .int .u8 0, .int .u8 0, .int .u8 0, .int .u8 0, .int .u8 0, .int .u8 0, .int .i64 0, .int .i64 0, .int .i64 0, .string ⟨#[]⟩, .int .i64 0, .int .i64 0, .int .i64 0, .int .i64 0, .slice AA 0 cA] 46)); clear hbn; generalize w16.alloc (.cells #[.int .u8 0, .int .u8 0, .int .u8 0, .int .u8 0, .int .u8 0, .int .u8 0, .int .u8 0, .int .u8 0, .int .i64 0, .int .i64 0, .int .i64 0, .string ⟨#[]⟩, .int .i64 0, .int .i64 0, .int .i64 0, .int .i64 0, .slice AA 0 cA] 46) = w17 at *)
        refine (num_any 70 w17).mono ?_
        rintro e wn ⟨rfl, rfl⟩
        go_wp2
        go_ret
        exact ⟨rfl, HF.out⟩
      · skip
        have he := HCU.out
        rw [if_neg (by omega)] at he
        obtain rfl : C = (cu : Int) := by omega
        clear he
        go_wp2_with (refine wpList_storeNewS rfl (.tmp 25) (.tmp 148) rfl #[.int .u8 P.s0, .int .u8 P.s1, .int .u8 P.s2, .int .u8 P.s3, .int .u8 P.s4, .int .u8 P.s5, .int .u8 P.s6, .int .u8 P.s7, .int .i64 P.K, .int .i64 P.M, .int .i64 P.B, .string P.key, .int .i64 P.size, .int .i64 P.idx, .int .i64 P.ep, .int .i64 P.ct, .slice A9 np c9] rfl rfl rfl rfl rfl ?_; have hbn := (Below.refl w14.heap.size w14).alloc (Nat.le_refl _) (.cells #[.int .u8 P.s0, .int .u8 P.s1, .int .u8 P.s2, .int .u8 P.s3, .int .u8 P.s4, .int .u8 P.s5, .int .u8 P.s6, .int .u8 P.s7, .int .i64 P.K, .int .i64 P.M, .int .i64 P.B, .string P.key, .int .i64 P.size, .int .i64 P.idx, .int .i64 P.ep, .int .i64 P.ct, .slice A9 np c9] 46); replace HF := Lib.hid (HF.out.trans (hbn.mono HF.out.size)); replace HA := Lib.hid (RLL.below HA.out hbn); replace HTL := Lib.hid (RL.below HTL.out hbn); replace HZ3 := Lib.hid ((hbn.block _ (Array.getElem?_eq_some_iff.1 HZ3.out).1).trans HZ3.out); replace HR1 := Lib.hid (RLL.below HR1.out hbn); replace HOO1 := Lib.hid (HOO1.out.kept hbn); replace HZ8 := Lib.hid ((hbn.block _ (Array.getElem?_eq_some_iff.1 HZ8.out).1).trans HZ8.out); replace OB1 := Lib.hid (OB1.out.kept hbn); replace HR5 := Lib.hid (RLL.below HR5.out hbn); replace HZ18 := Lib.hid ((hbn.block _ (Array.getElem?_eq_some_iff.1 HZ18.out).1).trans HZ18.out); replace HO7 := Lib.hid (HO7.out.kept hbn); replace HZ21 := Lib.hid ((hbn.block _ (Array.getElem?_eq_some_iff.1 HZ21.out).1).trans HZ21.out); replace HTA := Lib.hid (RL.below HTA.out hbn); have HZ25 := Lib.hid (heap_alloc_new w14 (.cells #[.int .u8 P.s0, .int .u8 P.s1, .int .u8 P.s2, .int .u8 P.s3, .int .u8 P.s4, .int .u8 P.s5, .int .u8 P.s6, .int .u8 P.s7, .int .i64 P.K, .int .i64 P.M, .int .i64 P.B, .string P.key, .int .i64 P.size, .int .i64 P.idx, .int .i64 P.ep, .int .i64 P.ct, .slice A9 np c9] 46)); clear hbn; generalize w14.alloc (.cells #[.int .u8 P.s0, .int .u8 P.s1, .int .u8 P.s2, .int .u8 P.s3, .int .u8 P.s4, .int .u8 P.s5, .int .u8 P.s6, .int .u8 P.s7, .int .i64 P.K, .int .i64 P.M, .int .i64 P.B, .string P.key, .int .i64 P.size, .int .i64 P.idx, .int .i64 P.ep, .int .i64 P.ct, .slice A9 np c9] 46) = w15 at *)
        have hP := prs_any opn_all (some ⟨E1, 0, none⟩) x1 (l1.take cu) w15 (fun x hx => HB1.out x (List.mem_of_mem_take hx)) (by rw [hpl.out]; omega) (by rw [hpl.out]; omega) hcm1 HTA.out
        unfold PrsPost at hP
        rw [HPC.out, (prs_none HPC.out (by decide)).1, (prs_none HPC.out (by decide)).2, hpl.out] at hP
        refine (hP).mono ?_
        rintro e w16 ⟨v, rfl, hO, hb⟩
        replace HF := Lib.hid (HF.out.trans (hb.mono HF.out.size))
        replace HA := Lib.hid (RLL.below HA.out hb)
        replace HTL := Lib.hid (RL.below HTL.out hb)
        replace HZ3 := Lib.hid ((hb.block _ (Array.getElem?_eq_some_iff.1 HZ3.out).1).trans HZ3.out)
        replace HR1 := Lib.hid (RLL.below HR1.out hb)
        replace HOO1 := Lib.hid (HOO1.out.kept hb)
        replace HZ8 := Lib.hid ((hb.block _ (Array.getElem?_eq_some_iff.1 HZ8.out).1).trans HZ8.out)
        replace OB1 := Lib.hid (OB1.out.kept hb)
        replace HR5 := Lib.hid (RLL.below HR5.out hb)
        replace HZ18 := Lib.hid ((hb.block _ (Array.getElem?_eq_some_iff.1 HZ18.out).1).trans HZ18.out)
        replace HO7 := Lib.hid (HO7.out.kept hb)
        replace HZ21 := Lib.hid ((hb.block _ (Array.getElem?_eq_some_iff.1 HZ21.out).1).trans HZ21.out)
        replace HTA := Lib.hid (RL.below HTA.out hb)
        replace HZ25 := Lib.hid ((hb.block _ (Array.getElem?_eq_some_iff.1 HZ25.out).1).trans HZ25.out)
        obtain ⟨AA, cA, ev, _⟩ := hO.rd
        subst ev
        clear hP hO
        clear hb
        go_wp2_with (refine wpList_storeNewS rfl (.tmp 27) (.tmp 172) rfl #[.int .u8 0, .int .u8 0, .int .u8 0, .int .u8 0, .int .u8 0, .int .u8 0, .int .u8 0, .int .u8 0, .int .i64 0, .int .i64 0, .int .i64 0, .string ⟨#[]⟩, .int .i64 0, .int .i64 0, .int .i64 0, .int .i64 0, .slice AA 0 cA] rfl rfl rfl rfl rfl ?_; have hbn := (Below.refl w16.heap.size w16).alloc (Nat.le_refl _) (.cells #[.int .u8 0, .int .u8 0, .int .u8 0, .int .u8 0, .int .u8 0, .int .u8 0, .int .u8 0, .int .u8 0, .int .i64 0, .int .i64 0, .int .i64 0, .string ⟨#[]⟩, .int .i64 0, .int .i64 0, .int .i64 0, .int .i64 0, .slice AA 0 cA] 46); replace HF := Lib.hid (HF.out.trans (hbn.mono HF.out.size)); replace HA := Lib.hid (RLL.below HA.out hbn); replace HTL := Lib.hid (RL.below HTL.out hbn); replace HZ3 := Lib.hid ((hbn.block _ (Array.getElem?_eq_some_iff.1 HZ3.out).1).trans HZ3.out); replace HR1 := Lib.hid (RLL.below HR1.out hbn); replace HOO1 := Lib.hid (HOO1.out.kept hbn); replace HZ8 := Lib.hid ((hbn.block _ (Array.getElem?_eq_some_iff.1 HZ8.out).1).trans HZ8.out); replace OB1 := Lib.hid (OB1.out.kept hbn); replace HR5 := Lib.hid (RLL.below HR5.out hbn); replace HZ18 := Lib.hid ((hbn.block _ (Array.getElem?_eq_some_iff.1 HZ18.out).1).trans HZ18.out); replace HO7 := Lib.hid (HO7.out.kept hbn); replace HZ21 := Lib.hid ((hbn.block _ (Array.getElem?_eq_some_iff.1 HZ21.out).1).trans HZ21.out); replace HTA := Lib.hid (RL.below HTA.out hbn); replace HZ25 := Lib.hid ((hbn.block _ (Array.getElem?_eq_some_iff.1 HZ25.out).1).trans HZ25.out); have HZ27 := Lib.hid (heap_alloc_new w16 (.cells #[.int .u8 0, .int .u8 0, .int .u8 0, .int .u8 0, .int .u8 0, .int .u8 0, .int .u8 0, .int .u8 0, .int .i64 0, .int .i64 0, .int .i64 0, .string ⟨#[]⟩, .int .i64 0, .int .i64 0, .int .i64 0, .int .i64 0, .slice AA 0 cA] 46)); clear hbn; generalize w16.alloc (.cells #[.int .u8 0, .int .u8 0, .int .u8 0, .int .u8 0, .int .u8 0, .int .u8 0, .int .u8 0, .int .u8 0, .int .i64 0, .int .i64 0, .int .i64 0, .string ⟨#[]⟩, .int .i64 0, .int .i64 0, .int .i64 0, .int .i64 0, .slice AA 0 cA] 46) = w17 at *)
        refine (num_any 70 w17).mono ?_
        rintro e wn ⟨rfl, rfl⟩
        go_wp2
        go_ret
        exact ⟨rfl, HF.out⟩
    · skip
      obtain rfl : pe = 72 := H72.out ht
      have ht2 : (0 : Int) < (tn : Int) := by omega
      by_cases hc0 : C < 0
      · skip
        have he := HCU.out
        rw [if_pos (.inl hc0)] at he
        have hw : IntKind.i64.wrap ((l1.length : Int) - 1) = (cu : Int) := by rw [IntKind.wrap_i64]; omega
        clear he
        go_wp2_with (refine wpList_storeNewS rfl (.tmp 25) (.tmp 148) rfl #[.int .u8 P.s0, .int .u8 P.s1, .int .u8 P.s2, .int .u8 P.s3, .int .u8 P.s4, .int .u8 P.s5, .int .u8 P.s6, .int .u8 P.s7, .int .i64 P.K, .int .i64 P.M, .int .i64 P.B, .string P.key, .int .i64 P.size, .int .i64 P.idx, .int .i64 P.ep, .int .i64 P.ct, .slice A9 np c9] rfl rfl rfl rfl rfl ?_; have hbn := (Below.refl w14.heap.size w14).alloc (Nat.le_refl _) (.cells #[.int .u8 P.s0, .int .u8 P.s1, .int .u8 P.s2, .int .u8 P.s3, .int .u8 P.s4, .int .u8 P.s5, .int .u8 P.s6, .int .u8 P.s7, .int .i64 P.K, .int .i64 P.M, .int .i64 P.B, .string P.key, .int .i64 P.size, .int .i64 P.idx, .int .i64 P.ep, .int .i64 P.ct, .slice A9 np c9] 46); replace HF := Lib.hid (HF.out.trans (hbn.mono HF.out.size)); replace HA := Lib.hid (RLL.below HA.out hbn); replace HTL := Lib.hid (RL.below HTL.out hbn); replace HZ3 := Lib.hid ((hbn.block _ (Array.getElem?_eq_some_iff.1 HZ3.out).1).trans HZ3.out); replace HR1 := Lib.hid (RLL.below HR1.out hbn); replace HOO1 := Lib.hid (HOO1.out.kept hbn); replace HZ8 := Lib.hid ((hbn.block _ (Array.getElem?_eq_some_iff.1 HZ8.out).1).trans HZ8.out); replace OB1 := Lib.hid (OB1.out.kept hbn); replace HR5 := Lib.hid (RLL.below HR5.out hbn); replace HZ18 := Lib.hid ((hbn.block _ (Array.getElem?_eq_some_iff.1 HZ18.out).1).trans HZ18.out); replace HO7 := Lib.hid (HO7.out.kept hbn); replace HZ21 := Lib.hid ((hbn.block _ (Array.getElem?_eq_some_iff.1 HZ21.out).1).trans HZ21.out); replace HTA := Lib.hid (RL.below HTA.out hbn); have HZ25 := Lib.hid (heap_alloc_new w14 (.cells #[.int .u8 P.s0, .int .u8 P.s1, .int .u8 P.s2, .int .u8 P.s3, .int .u8 P.s4, .int .u8 P.s5, .int .u8 P.s6, .int .u8 P.s7, .int .i64 P.K, .int .i64 P.M, .int .i64 P.B, .string P.key, .int .i64 P.size, .int .i64 P.idx, .int .i64 P.ep, .int .i64 P.ct, .slice A9 np c9] 46)); clear hbn; generalize w14.alloc (.cells #[.int .u8 P.s0, .int .u8 P.s1, .int .u8 P.s2, .int .u8 P.s3, .int .u8 P.s4, .int .u8 P.s5, .int .u8 P.s6, .int .u8 P.s7, .int .i64 P.K, .int .i64 P.M, .int .i64 P.B, .string P.key, .int .i64 P.size, .int .i64 P.idx, .int .i64 P.ep, .int .i64 P.ct, .slice A9 np c9] 46) = w15 at *)
        refine (num_any 72 w15).mono ?_
        rintro e wn ⟨rfl, rfl⟩
        go_wp2_with fail
        have hP := prs_any opn_all (some ⟨E1, 0, none⟩) x1 (l1.take cu) w15 (fun x hx => HB1.out x (List.mem_of_mem_take hx)) (by rw [hpl.out]; omega) (by rw [hpl.out]; omega) hcm1 HTA.out
        unfold PrsPost at hP
        rw [HPC.out, (prs_none HPC.out (by decide)).1, (prs_none HPC.out (by decide)).2, hpl.out] at hP
        refine (hP).mono ?_
        rintro e w16 ⟨v, rfl, hO, hb⟩
        replace HF := Lib.hid (HF.out.trans (hb.mono HF.out.size))
        replace HA := Lib.hid (RLL.below HA.out hb)
        replace HTL := Lib.hid (RL.below HTL.out hb)
        replace HZ3 := Lib.hid ((hb.block _ (Array.getElem?_eq_some_iff.1 HZ3.out).1).trans HZ3.out)
        replace HR1 := Lib.hid (RLL.below HR1.out hb)
        replace HOO1 := Lib.hid (HOO1.out.kept hb)
        replace HZ8 := Lib.hid ((hb.block _ (Array.getElem?_eq_some_iff.1 HZ8.out).1).trans HZ8.out)
        replace OB1 := Lib.hid (OB1.out.kept hb)
        replace HR5 := Lib.hid (RLL.below HR5.out hb)
        replace HZ18 := Lib.hid ((hb.block _ (Array.getElem?_eq_some_iff.1 HZ18.out).1).trans HZ18.out)
        replace HO7 := Lib.hid (HO7.out.kept hb)
        replace HZ21 := Lib.hid ((hb.block _ (Array.getElem?_eq_some_iff.1 HZ21.out).1).trans HZ21.out)
        replace HTA := Lib.hid (RL.below HTA.out hb)
        replace HZ25 := Lib.hid ((hb.block _ (Array.getElem?_eq_some_iff.1 HZ25.out).1).trans HZ25.out)
        obtain ⟨AA, cA, ev, _⟩ := hO.rd
        subst ev
        clear hP hO
        clear hb
        go_wp2_with (refine wpList_storeNewS rfl (.tmp 27) (.tmp 172) rfl #[.int .u8 0, .int .u8 0, .int .u8 0, .int .u8 0, .int .u8 0, .int .u8 0, .int .u8 0, .int .u8 0, .int .i64 0, .int .i64 0, .int .i64 0, .string ⟨#[]⟩, .int .i64 0, .int .i64 0, .int .i64 0, .int .i64 0, .slice AA 0 cA] rfl rfl rfl rfl rfl ?_; have hbn := (Below.refl w16.heap.size w16).alloc (Nat.le_refl _) (.cells #[.int .u8 0, .int .u8 0, .int .u8 0, .int .u8 0, .int .u8 0, .int .u8 0, .int .u8 0, .int .u8 0, .int .i64 0, .int .i64 0, .int .i64 0, .string ⟨#[]⟩, .int .i64 0, .int .i64 0, .int .i64 0, .int .i64 0, .slice AA 0 cA] 46); replace HF := Lib.hid (HF.out.trans (hbn.mono HF.out.size)); replace HA := Lib.hid (RLL.below HA.out hbn); replace HTL := Lib.hid (RL.below HTL.out hbn); replace HZ3 := Lib.hid ((hbn.block _ (Array.getElem?_eq_some_iff.1 HZ3.out).1).trans HZ3.out); replace HR1 := Lib.hid (RLL.below HR1.out hbn); replace HOO1 := Lib.hid (HOO1.out.kept hbn); replace HZ8 := Lib.hid ((hbn.block _ (Array.getElem?_eq_some_iff.1 HZ8.out).1).trans HZ8.out); replace OB1 := Lib.hid (OB1.out.kept hbn); replace HR5 := Lib.hid (RLL.below HR5.out hbn); replace HZ18 := Lib.hid ((hbn.block _ (Array.getElem?_eq_some_iff.1 HZ18.out).1).trans HZ18.out); replace HO7 := Lib.hid (HO7.out.kept hbn); replace HZ21 := Lib.hid ((hbn.block _ (Array.getElem?_eq_some_iff.1 HZ21.out).1).trans HZ21.out); replace HTA := Lib.hid (RL.below HTA.out hbn); replace HZ25 := Lib.hid ((hbn.block _ (Array.getElem?_eq_some_iff.1 HZ25.out).1).trans HZ25.out); have HZ27 := Lib.hid (heap_alloc_new w16 (.cells #[.int .u8 0, .int .u8 0, .int .u8 0, .int .u8 0, .int .u8 0, .int .u8 0, .int .u8 0, .int .u8 0, .int .i64 0, .int .i64 0, .int .i64 0, .string ⟨#[]⟩, .int .i64 0, .int .i64 0, .int .i64 0, .int .i64 0, .slice AA 0 cA] 46)); clear hbn; generalize w16.alloc (.cells #[.int .u8 0, .int .u8 0, .int .u8 0, .int .u8 0, .int .u8 0, .int .u8 0, .int .u8 0, .int .u8 0, .int .i64 0, .int .i64 0, .int .i64 0, .string ⟨#[]⟩, .int .i64 0, .int .i64 0, .int .i64 0, .int .i64 0, .slice AA 0 cA] 46) = w17 at *)
        refine (num_any 70 w17).mono ?_
        rintro e wn ⟨rfl, rfl⟩
        go_wp2
        go_ret
        exact ⟨rfl, HF.out⟩
      by_cases hc1 : (l1.length : Int) ≤ C
      · skip
        have he := HCU.out
        rw [if_pos (.inr hc1)] at he
        have hw : IntKind.i64.wrap ((l1.length : Int) - 1) = (cu : Int) := by rw [IntKind.wrap_i64]; omega
        clear he
        go_wp2_with (refine wpList_storeNewS rfl (.tmp 25) (.tmp 148) rfl #[.int .u8 P.s0, .int .u8 P.s1, .int .u8 P.s2, .int .u8 P.s3, .int .u8 P.s4, .int .u8 P.s5, .int .u8 P.s6, .int .u8 P.s7, .int .i64 P.K, .int .i64 P.M, .int .i64 P.B, .string P.key, .int .i64 P.size, .int .i64 P.idx, .int .i64 P.ep, .int .i64 P.ct, .slice A9 np c9] rfl rfl rfl rfl rfl ?_; have hbn := (Below.refl w14.heap.size w14).alloc (Nat.le_refl _) (.cells #[.int .u8 P.s0, .int .u8 P.s1, .int .u8 P.s2, .int .u8 P.s3, .int .u8 P.s4, .int .u8 P.s5, .int .u8 P.s6, .int .u8 P.s7, .int .i64 P.K, .int .i64 P.M, .int .i64 P.B, .string P.key, .int .i64 P.size, .int .i64 P.idx, .int .i64 P.ep, .int .i64 P.ct, .slice A9 np c9] 46); replace HF := Lib.hid (HF.out.trans (hbn.mono HF.out.size)); replace HA := Lib.hid (RLL.below HA.out hbn); replace HTL := Lib.hid (RL.below HTL.out hbn); replace HZ3 := Lib.hid ((hbn.block _ (Array.getElem?_eq_some_iff.1 HZ3.out).1).trans HZ3.out); replace HR1 := Lib.hid (RLL.below HR1.out hbn); replace HOO1 := Lib.hid (HOO1.out.kept hbn); replace HZ8 := Lib.hid ((hbn.block _ (Array.getElem?_eq_some_iff.1 HZ8.out).1).trans HZ8.out); replace OB1 := Lib.hid (OB1.out.kept hbn); replace HR5 := Lib.hid (RLL.below HR5.out hbn); replace HZ18 := Lib.hid ((hbn.block _ (Array.getElem?_eq_some_iff.1 HZ18.out).1).trans HZ18.out); replace HO7 := Lib.hid (HO7.out.kept hbn); replace HZ21 := Lib.hid ((hbn.block _ (Array.getElem?_eq_some_iff.1 HZ21.out).1).trans HZ21.out); replace HTA := Lib.hid (RL.below HTA.out hbn); have HZ25 := Lib.hid (heap_alloc_new w14 (.cells #[.int .u8 P.s0, .int .u8 P.s1, .int .u8 P.s2, .int .u8 P.s3, .int .u8 P.s4, .int .u8 P.s5, .int .u8 P.s6, .int .u8 P.s7, .int .i64 P.K, .int .i64 P.M, .int .i64 P.B, .string P.key, .int .i64 P.size, .int .i64 P.idx, .int .i64 P.ep, .int .i64 P.ct, .slice A9 np c9] 46)); clear hbn; generalize w14.alloc (.cells #[.int .u8 P.s0, .int .u8 P.s1, .int .u8 P.s2, .int .u8 P.s3, .int .u8 P.s4, .int .u8 P.s5, .int .u8 P.s6, .int .u8 P.s7, .int .i64 P.K, .int .i64 P.M, .int .i64 P.B, .string P.key, .int .i64 P.size, .int .i64 P.idx, .int .i64 P.ep, .int .i64 P.ct, .slice A9 np c9] 46) = w15 at *)
        refine (num_any 72 w15).mono ?_
        rintro e wn ⟨rfl, rfl⟩
        go_wp2_with fail
        have hP := prs_any opn_all (some ⟨E1, 0, none⟩) x1 (l1.take cu) w15 (fun x hx => HB1.out x (List.mem_of_mem_take hx)) (by rw [hpl.out]; omega) (by rw [hpl.out]; omega) hcm1 HTA.out
        unfold PrsPost at hP
        rw [HPC.out, (prs_none HPC.out (by decide)).1, (prs_none HPC.out (by decide)).2, hpl.out] at hP
        refine (hP).mono ?_
        rintro e w16 ⟨v, rfl, hO, hb⟩
        replace HF := Lib.hid (HF.out.trans (hb.mono HF.out.size))
        replace HA := Lib.hid (RLL.below HA.out hb)
        replace HTL := Lib.hid (RL.below HTL.out hb)
        replace HZ3 := Lib.hid ((hb.block _ (Array.getElem?_eq_some_iff.1 HZ3.out).1).trans HZ3.out)
        replace HR1 := Lib.hid (RLL.below HR1.out hb)
        replace HOO1 := Lib.hid (HOO1.out.kept hb)
        replace HZ8 := Lib.hid ((hb.block _ (Array.getElem?_eq_some_iff.1 HZ8.out).1).trans HZ8.out)
        replace OB1 := Lib.hid (OB1.out.kept hb)
        replace HR5 := Lib.hid (RLL.below HR5.out hb)
        replace HZ18 := Lib.hid ((hb.block _ (Array.getElem?_eq_some_iff.1 HZ18.out).1).trans HZ18.out)
        replace HO7 := Lib.hid (HO7.out.kept hb)
        replace HZ21 := Lib.hid ((hb.block _ (Array.getElem?_eq_some_iff.1 HZ21.out).1).trans HZ21.out)
        replace HTA := Lib.hid (RL.below HTA.out hb)
        replace HZ25 := Lib.hid ((hb.block _ (Array.getElem?_eq_some_iff.1 HZ25.out).1).trans HZ25.out)
        obtain ⟨AA, cA, ev, _⟩ := hO.rd
        subst ev
        clear hP hO
        clear hb
        go_wp2_with (refine wpList_storeNewS rfl (.tmp 27) (.tmp 172) rfl #[.int .u8 0, .int .u8 0, .int .u8 0, .int .u8 0, .int .u8 0, .int .u8 0, .int .u8 0, .int .u8 0, .int .i64 0, .int .i64 0, .int .i64 0, .string ⟨#[]⟩, .int .i64 0, .int .i64 0, .int .i64 0, .int .i64 0, .slice AA 0 cA] rfl rfl rfl rfl rfl ?_; have hbn := (Below.refl w16.heap.size w16).alloc (Nat.le_refl _) (.cells #[.int .u8 0, .int .u8 0, .int .u8 0, .int .u8 0, .int .u8 0, .int .u8 0, .int .u8 0, .int .u8 0, .int .i64 0, .int .i64 0, .int .i64 0, .string ⟨#[]⟩, .int .i64 0, .int .i64 0, .int .i64 0, .int .i64 0, .slice AA 0 cA] 46); replace HF := Lib.hid (HF.out.trans (hbn.mono HF.out.size)); replace HA := Lib.hid (RLL.below HA.out hbn); replace HTL := Lib.hid (RL.below HTL.out hbn); replace HZ3 := Lib.hid ((hbn.block _ (Array.getElem?_eq_some_iff.1 HZ3.out).1).trans HZ3.out); replace HR1 := Lib.hid (RLL.below HR1.out hbn); replace HOO1 := Lib.hid (HOO1.out.kept hbn); replace HZ8 := Lib.hid ((hbn.block _ (Array.getElem?_eq_some_iff.1 HZ8.out).1).trans HZ8.out); replace OB1 := Lib.hid (OB1.out.kept hbn); replace HR5 := Lib.hid (RLL.below HR5.out hbn); replace HZ18 := Lib.hid ((hbn.block _ (Array.getElem?_eq_some_iff.1 HZ18.out).1).trans HZ18.out); replace HO7 := Lib.hid (HO7.out.kept hbn); replace HZ21 := Lib.hid ((hbn.block _ (Array.getElem?_eq_some_iff.1 HZ21.out).1).trans HZ21.out); replace HTA := Lib.hid (RL.below HTA.out hbn); replace HZ25 := Lib.hid ((hbn.block _ (Array.getElem?_eq_some_iff.1 HZ25.out).1).trans HZ25.out); have HZ27 := Lib.hid (heap_alloc_new w16 (.cells #[.int .u8 0, .int .u8 0, .int .u8 0, .int .u8 0, .int .u8 0, .int .u8 0, .int .u8 0, .int .u8 0, .int .i64 0, .int .i64 0, .int .i64 0, .string ⟨#[]⟩, .int .i64 0, .int .i64 0, .int .i64 0, .int .i64 0, .slice AA 0 cA] 46)); clear hbn; generalize w16.alloc (.cells #[.int .u8 0, .int .u8 0, .int .u8 0, .int .u8 0, .int .u8 0, .int .u8 0, .int .u8 0, .int .u8 0, .int .i64 0, .int .i64 0, .int .i64 0, .string ⟨#[]⟩, .int .i64 0, .int .i64 0, .int .i64 0, .int .i64 0, .slice AA 0 cA] 46) = w17 at *)
        refine (num_any 70 w17).mono ?_
        rintro e wn ⟨rfl, rfl⟩
        go_wp2
        go_ret
        exact ⟨rfl, HF.out⟩
      · skip
        have he := HCU.out
        rw [if_neg (by omega)] at he
        obtain rfl : C = (cu : Int) := by omega
        clear he
        go_wp2_with (refine wpList_storeNewS rfl (.tmp 25) (.tmp 148) rfl #[.int .u8 P.s0, .int .u8 P.s1, .int .u8 P.s2, .int .u8 P.s3, .int .u8 P.s4, .int .u8 P.s5, .int .u8 P.s6, .int .u8 P.s7, .int .i64 P.K, .int .i64 P.M, .int .i64 P.B, .string P.key, .int .i64 P.size, .int .i64 P.idx, .int .i64 P.ep, .int .i64 P.ct, .slice A9 np c9] rfl rfl rfl rfl rfl ?_; have hbn := (Below.refl w14.heap.size w14).alloc (Nat.le_refl _) (.cells #[.int .u8 P.s0, .int .u8 P.s1, .int .u8 P.s2, .int .u8 P.s3, .int .u8 P.s4, .int .u8 P.s5, .int .u8 P.s6, .int .u8 P.s7, .int .i64 P.K, .int .i64 P.M, .int .i64 P.B, .string P.key, .int .i64 P.size, .int .i64 P.idx, .int .i64 P.ep, .int .i64 P.ct, .slice A9 np c9] 46); replace HF := Lib.hid (HF.out.trans (hbn.mono HF.out.size)); replace HA := Lib.hid (RLL.below HA.out hbn); replace HTL := Lib.hid (RL.below HTL.out hbn); replace HZ3 := Lib.hid ((hbn.block _ (Array.getElem?_eq_some_iff.1 HZ3.out).1).trans HZ3.out); replace HR1 := Lib.hid (RLL.below HR1.out hbn); replace HOO1 := Lib.hid (HOO1.out.kept hbn); replace HZ8 := Lib.hid ((hbn.block _ (Array.getElem?_eq_some_iff.1 HZ8.out).1).trans HZ8.out); replace OB1 := Lib.hid (OB1.out.kept hbn); replace HR5 := Lib.hid (RLL.below HR5.out hbn); replace HZ18 := Lib.hid ((hbn.block _ (Array.getElem?_eq_some_iff.1 HZ18.out).1).trans HZ18.out); replace HO7 := Lib.hid (HO7.out.kept hbn); replace HZ21 := Lib.hid ((hbn.block _ (Array.getElem?_eq_some_iff.1 HZ21.out).1).trans HZ21.out); replace HTA := Lib.hid (RL.below HTA.out hbn); have HZ25 := Lib.hid (heap_alloc_new w14 (.cells #[.int .u8 P.s0, .int .u8 P.s1, .int .u8 P.s2, .int .u8 P.s3, .int .u8 P.s4, .int .u8 P.s5, .int .u8 P.s6, .int .u8 P.s7, .int .i64 P.K, .int .i64 P.M, .int .i64 P.B, .string P.key, .int .i64 P.size, .int .i64 P.idx, .int .i64 P.ep, .int .i64 P.ct, .slice A9 np c9] 46)); clear hbn; generalize w14.alloc (.cells #[.int .u8 P.s0, .int .u8 P.s1, .int .u8 P.s2, .int .u8 P.s3, .int .u8 P.s4, .int .u8 P.s5, .int .u8 P.s6, .int .u8 P.s7, .int .i64 P.K, .int .i64 P.M, .int .i64 P.B, .string P.key, .int .i64 P.size, .int .i64 P.idx, .int .i64 P.ep, .int .i64 P.ct, .slice A9 np c9] 46) = w15 at *)
        refine (num_any 72 w15).mono ?_
        rintro e wn ⟨rfl, rfl⟩
        go_wp2_with fail
        have hP := prs_any opn_all (some ⟨E1, 0, none⟩) x1 (l1.take cu) w15 (fun x hx => HB1.out x (List.mem_of_mem_take hx)) (by rw [hpl.out]; omega) (by rw [hpl.out]; omega) hcm1 HTA.out
        unfold PrsPost at hP
        rw [HPC.out, (prs_none HPC.out (by decide)).1, (prs_none HPC.out (by decide)).2, hpl.out] at hP
        refine (hP).mono ?_
        rintro e w16 ⟨v, rfl, hO, hb⟩
        replace HF := Lib.hid (HF.out.trans (hb.mono HF.out.size))
        replace HA := Lib.hid (RLL.below HA.out hb)
        replace HTL := Lib.hid (RL.below HTL.out hb)
        replace HZ3 := Lib.hid ((hb.block _ (Array.getElem?_eq_some_iff.1 HZ3.out).1).trans HZ3.out)
        replace HR1 := Lib.hid (RLL.below HR1.out hb)
        replace HOO1 := Lib.hid (HOO1.out.kept hb)
        replace HZ8 := Lib.hid ((hb.block _ (Array.getElem?_eq_some_iff.1 HZ8.out).1).trans HZ8.out)
        replace OB1 := Lib.hid (OB1.out.kept hb)
        replace HR5 := Lib.hid (RLL.below HR5.out hb)
        replace HZ18 := Lib.hid ((hb.block _ (Array.getElem?_eq_some_iff.1 HZ18.out).1).trans HZ18.out)
        replace HO7 := Lib.hid (HO7.out.kept hb)
        replace HZ21 := Lib.hid ((hb.block _ (Array.getElem?_eq_some_iff.1 HZ21.out).1).trans HZ21.out)
        replace HTA := Lib.hid (RL.below HTA.out hb)
        replace HZ25 := Lib.hid ((hb.block _ (Array.getElem?_eq_some_iff.1 HZ25.out).1).trans HZ25.out)
        obtain ⟨AA, cA, ev, _⟩ := hO.rd
        subst ev
        clear hP hO
        clear hb
        go_wp2_with (refine wpList_storeNewS rfl (.tmp 27) (.tmp 172) rfl #[.int .u8 0, .int .u8 0, .int .u8 0, .int .u8 0, .int .u8 0, .int .u8 0, .int .u8 0, .int .u8 0, .int .i64 0, .int .i64 0, .int .i64 0, .string ⟨#[]⟩, .int .i64 0, .int .i64 0, .int .i64 0, .int .i64 0, .slice AA 0 cA] rfl rfl rfl rfl rfl ?_; have hbn := (Below.refl w16.heap.size w16).alloc (Nat.le_refl _) (.cells #[.int .u8 0, .int .u8 0, .int .u8 0, .int .u8 0, .int .u8 0, .int .u8 0, .int .u8 0, .int .u8 0, .int .i64 0, .int .i64 0, .int .i64 0, .string ⟨#[]⟩, .int .i64 0, .int .i64 0, .int .i64 0, .int .i64 0, .slice AA 0 cA] 46); replace HF := Lib.hid (HF.out.trans (hbn.mono HF.out.size)); replace HA := Lib.hid (RLL.below HA.out hbn); replace HTL := Lib.hid (RL.below HTL.out hbn); replace HZ3 := Lib.hid ((hbn.block _ (Array.getElem?_eq_some_iff.1 HZ3.out).1).trans HZ3.out); replace HR1 := Lib.hid (RLL.below HR1.out hbn); replace HOO1 := Lib.hid (HOO1.out.kept hbn); replace HZ8 := Lib.hid ((hbn.block _ (Array.getElem?_eq_some_iff.1 HZ8.out).1).trans HZ8.out); replace OB1 := Lib.hid (OB1.out.kept hbn); replace HR5 := Lib.hid (RLL.below HR5.out hbn); replace HZ18 := Lib.hid ((hbn.block _ (Array.getElem?_eq_some_iff.1 HZ18.out).1).trans HZ18.out); replace HO7 := Lib.hid (HO7.out.kept hbn); replace HZ21 := Lib.hid ((hbn.block _ (Array.getElem?_eq_some_iff.1 HZ21.out).1).trans HZ21.out); replace HTA := Lib.hid (RL.below HTA.out hbn); replace HZ25 := Lib.hid ((hbn.block _ (Array.getElem?_eq_some_iff.1 HZ25.out).1).trans HZ25.out); have HZ27 := Lib.hid (heap_alloc_new w16 (.cells #[.int .u8 0, .int .u8 0, .int .u8 0, .int .u8 0, .int .u8 0, .int .u8 0, .int .u8 0, .int .u8 0, .int .i64 0, .int .i64 0, .int .i64 0, .string ⟨#[]⟩, .int .i64 0, .int .i64 0, .int .i64 0, .int .i64 0, .slice AA 0 cA] 46)); clear hbn; generalize w16.alloc (.cells #[.int .u8 0, .int .u8 0, .int .u8 0, .int .u8 0, .int .u8 0, .int .u8 0, .int .u8 0, .int .u8 0, .int .i64 0, .int .i64 0, .int .i64 0, .string ⟨#[]⟩, .int .i64 0, .int .i64 0, .int .i64 0, .int .i64 0, .slice AA 0 cA] 46) = w17 at *)
        refine (num_any 70 w17).mono ?_
        rintro e wn ⟨rfl, rfl⟩
        go_wp2
        go_ret
        exact ⟨rfl, HF.out⟩
end Go.Proofs.Ytbioanbokbhmgaa
