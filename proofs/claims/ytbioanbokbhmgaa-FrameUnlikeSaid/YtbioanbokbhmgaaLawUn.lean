/- FrameUnlike: the law's walk. Conditions: shards that memory bears. -/
import Derived.Test.YtbioanbokbhmgaaCm8
namespace Go.Proofs.Ytbioanbokbhmgaa
open Go.RowKit

set_option maxRecDepth 100000 in
set_option maxHeartbeats 8000000 in
theorem lawUn (h g : Hd) (A A' : Option Addr) (c c' : Nat) (BL CL : List (List Nat)) (w : World) (hw : HdW h) (gw : HdW g) (hB : HdB h) (gB : HdB g) (hBL : ∀ l ∈ BL, ∀ x ∈ l, x < 256) (hCL : ∀ l ∈ CL, ∀ x ∈ l, x < 256) (hn : BL.length ≤ 140737488351232) (hm : CL.length ≤ 140737488351232) (hln : ∀ l ∈ BL, l.length ≤ 140737488351232) (hlm : ∀ l ∈ CL, l.length ≤ 140737488351232) (hA : RLL w A BL) (hA' : RLL w A' CL) :
    Calls Try.prog 8 #[.agg #[.int .u8 h.s0, .int .u8 h.s1, .int .u8 h.s2, .int .u8 h.s3, .int .u8 h.s4, .int .u8 h.s5, .int .u8 h.s6, .int .u8 h.s7, .int .i64 h.K, .int .i64 h.M, .int .i64 h.B, .string h.key, .int .i64 h.size, .int .i64 h.idx, .int .i64 h.ep, .int .i64 h.ct, .slice A BL.length c], .agg #[.int .u8 g.s0, .int .u8 g.s1, .int .u8 g.s2, .int .u8 g.s3, .int .u8 g.s4, .int .u8 g.s5, .int .u8 g.s6, .int .u8 g.s7, .int .i64 g.K, .int .i64 g.M, .int .i64 g.B, .string g.key, .int .i64 g.size, .int .i64 g.idx, .int .i64 g.ep, .int .i64 g.ct, .slice A' CL.length c']] w fun e w' => e = .returned (.bool true) ∧ Below w.heap.size w w' := by
  have HA := Lib.hid hA
  have HA2 := Lib.hid hA'
  have HBD := Lib.hid hB; have HGB := Lib.hid gB; have HBL := Lib.hid hBL; have HCL := Lib.hid hCL; have HLN := Lib.hid hln; have HLM := Lib.hid hlm
  have HW := Lib.hid hw; have GW := Lib.hid gw
  have HF := Lib.hid (Below.refl w.heap.size w)
  clear hA hA' hB gB hBL hCL hln hlm hw gw
  go_enter Try.func8, Try.ntmps8
  go_wp2_with fail
  have hsz1 : (w.alloc (.cells #[.int .u8 h.s0, .int .u8 h.s1, .int .u8 h.s2, .int .u8 h.s3, .int .u8 h.s4, .int .u8 h.s5, .int .u8 h.s6, .int .u8 h.s7, .int .i64 h.K, .int .i64 h.M, .int .i64 h.B, .string h.key, .int .i64 h.size, .int .i64 h.idx, .int .i64 h.ep, .int .i64 h.ct, .slice A BL.length c] 46)).heap.size = w.heap.size + 1 := by simp
  have hbn := (Below.refl w.heap.size w).alloc (Nat.le_refl _) (.cells #[.int .u8 h.s0, .int .u8 h.s1, .int .u8 h.s2, .int .u8 h.s3, .int .u8 h.s4, .int .u8 h.s5, .int .u8 h.s6, .int .u8 h.s7, .int .i64 h.K, .int .i64 h.M, .int .i64 h.B, .string h.key, .int .i64 h.size, .int .i64 h.idx, .int .i64 h.ep, .int .i64 h.ct, .slice A BL.length c] 46)
  replace HF := Lib.hid (HF.out.trans (hbn.mono HF.out.size))
  replace HA := Lib.hid (RLL.below HA.out hbn)
  replace HA2 := Lib.hid (RLL.below HA2.out hbn)
  have HZ2 := Lib.hid (heap_alloc_new w (.cells #[.int .u8 h.s0, .int .u8 h.s1, .int .u8 h.s2, .int .u8 h.s3, .int .u8 h.s4, .int .u8 h.s5, .int .u8 h.s6, .int .u8 h.s7, .int .i64 h.K, .int .i64 h.M, .int .i64 h.B, .string h.key, .int .i64 h.size, .int .i64 h.idx, .int .i64 h.ep, .int .i64 h.ct, .slice A BL.length c] 46))
  obtain ⟨bHZ2, hbk⟩ : ∃ bHZ2, bHZ2 = w.heap.size := ⟨_, rfl⟩
  rw [← hbk] at HZ2 hsz1 ⊢
  clear hbk
  clear hbn
  generalize w.alloc (.cells #[.int .u8 h.s0, .int .u8 h.s1, .int .u8 h.s2, .int .u8 h.s3, .int .u8 h.s4, .int .u8 h.s5, .int .u8 h.s6, .int .u8 h.s7, .int .i64 h.K, .int .i64 h.M, .int .i64 h.B, .string h.key, .int .i64 h.size, .int .i64 h.idx, .int .i64 h.ep, .int .i64 h.ct, .slice A BL.length c] 46) = w1 at *
  rw [← hsz1]
  clear hsz1
  have hbn := (Below.refl w1.heap.size w1).alloc (Nat.le_refl _) (.cells #[.int .u8 g.s0, .int .u8 g.s1, .int .u8 g.s2, .int .u8 g.s3, .int .u8 g.s4, .int .u8 g.s5, .int .u8 g.s6, .int .u8 g.s7, .int .i64 g.K, .int .i64 g.M, .int .i64 g.B, .string g.key, .int .i64 g.size, .int .i64 g.idx, .int .i64 g.ep, .int .i64 g.ct, .slice A' CL.length c'] 46)
  replace HF := Lib.hid (HF.out.trans (hbn.mono HF.out.size))
  replace HA := Lib.hid (RLL.below HA.out hbn)
  replace HA2 := Lib.hid (RLL.below HA2.out hbn)
  replace HZ2 := Lib.hid ((hbn.block _ (Array.getElem?_eq_some_iff.1 HZ2.out).1).trans HZ2.out)
  have HZ3 := Lib.hid (heap_alloc_new w1 (.cells #[.int .u8 g.s0, .int .u8 g.s1, .int .u8 g.s2, .int .u8 g.s3, .int .u8 g.s4, .int .u8 g.s5, .int .u8 g.s6, .int .u8 g.s7, .int .i64 g.K, .int .i64 g.M, .int .i64 g.B, .string g.key, .int .i64 g.size, .int .i64 g.idx, .int .i64 g.ep, .int .i64 g.ct, .slice A' CL.length c'] 46))
  obtain ⟨bHZ3, hbk⟩ : ∃ bHZ3, bHZ3 = w1.heap.size := ⟨_, rfl⟩
  rw [← hbk] at HZ3 ⊢
  clear hbk
  clear hbn
  generalize w1.alloc (.cells #[.int .u8 g.s0, .int .u8 g.s1, .int .u8 g.s2, .int .u8 g.s3, .int .u8 g.s4, .int .u8 g.s5, .int .u8 g.s6, .int .u8 g.s7, .int .i64 g.K, .int .i64 g.M, .int .i64 g.B, .string g.key, .int .i64 g.size, .int .i64 g.idx, .int .i64 g.ep, .int .i64 g.ct, .slice A' CL.length c'] 46) = w2 at *
  refine (awake_any _).mono ?_
  rintro e w3 ⟨rfl, hb⟩
  replace HF := Lib.hid (HF.out.trans (hb.mono HF.out.size))
  replace HA := Lib.hid (RLL.below HA.out hb)
  replace HA2 := Lib.hid (RLL.below HA2.out hb)
  replace HZ2 := Lib.hid ((hb.block _ (Array.getElem?_eq_some_iff.1 HZ2.out).1).trans HZ2.out)
  replace HZ3 := Lib.hid ((hb.block _ (Array.getElem?_eq_some_iff.1 HZ3.out).1).trans HZ3.out)
  clear hb
  go_wp2_with (refine wpList_loadS rfl (.tmp 2) rfl bHZ2 rfl #[.int .u8 h.s0, .int .u8 h.s1, .int .u8 h.s2, .int .u8 h.s3, .int .u8 h.s4, .int .u8 h.s5, .int .u8 h.s6, .int .u8 h.s7, .int .i64 h.K, .int .i64 h.M, .int .i64 h.B, .string h.key, .int .i64 h.size, .int .i64 h.idx, .int .i64 h.ep, .int .i64 h.ct, .slice A BL.length c] rfl HZ2.out ?_)
  refine (fit_any h A c BL _ hn HLN.out HA.out).mono ?_
  rintro e w4 ⟨F1, n1, d1, rfl, hO, hb⟩
  replace HF := Lib.hid (HF.out.trans (hb.mono HF.out.size))
  replace HA := Lib.hid (RLL.below HA.out hb)
  replace HA2 := Lib.hid (RLL.below HA2.out hb)
  replace HZ2 := Lib.hid ((hb.block _ (Array.getElem?_eq_some_iff.1 HZ2.out).1).trans HZ2.out)
  replace HZ3 := Lib.hid ((hb.block _ (Array.getElem?_eq_some_iff.1 HZ3.out).1).trans HZ3.out)
  have HO1 := Lib.hid hO
  obtain ⟨q1, hq⟩ : ∃ q, q = decide (checkE h = 0) := ⟨_, rfl⟩
  rw [← hq]
  have HQ1 := Lib.hid hq
  clear hq hO
  clear hb
  by_cases hqt : q1 = false
  · subst hqt
    go_wp2_with (first | (refine wpList_storeNewS rfl (.tmp 6) (.tmp 20) rfl #[.int .u8 h.s0, .int .u8 h.s1, .int .u8 h.s2, .int .u8 h.s3, .int .u8 h.s4, .int .u8 h.s5, .int .u8 h.s6, .int .u8 h.s7, .int .i64 h.K, .int .i64 h.M, .int .i64 h.B, .string h.key, .int .i64 h.size, .int .i64 h.idx, .int .i64 h.ep, .int .i64 h.ct, .slice F1 n1 d1] rfl rfl rfl rfl rfl ?_; have hbn := (Below.refl w4.heap.size w4).alloc (Nat.le_refl _) (.cells #[.int .u8 h.s0, .int .u8 h.s1, .int .u8 h.s2, .int .u8 h.s3, .int .u8 h.s4, .int .u8 h.s5, .int .u8 h.s6, .int .u8 h.s7, .int .i64 h.K, .int .i64 h.M, .int .i64 h.B, .string h.key, .int .i64 h.size, .int .i64 h.idx, .int .i64 h.ep, .int .i64 h.ct, .slice F1 n1 d1] 46); replace HF := Lib.hid (HF.out.trans (hbn.mono HF.out.size)); replace HA := Lib.hid (RLL.below HA.out hbn); replace HA2 := Lib.hid (RLL.below HA2.out hbn); replace HZ2 := Lib.hid ((hbn.block _ (Array.getElem?_eq_some_iff.1 HZ2.out).1).trans HZ2.out); replace HZ3 := Lib.hid ((hbn.block _ (Array.getElem?_eq_some_iff.1 HZ3.out).1).trans HZ3.out); replace HO1 := Lib.hid ((fun z => (HO1.out z).kept hbn)); have HZ6 := Lib.hid (heap_alloc_new w4 (.cells #[.int .u8 h.s0, .int .u8 h.s1, .int .u8 h.s2, .int .u8 h.s3, .int .u8 h.s4, .int .u8 h.s5, .int .u8 h.s6, .int .u8 h.s7, .int .i64 h.K, .int .i64 h.M, .int .i64 h.B, .string h.key, .int .i64 h.size, .int .i64 h.idx, .int .i64 h.ep, .int .i64 h.ct, .slice F1 n1 d1] 46)); clear hbn; generalize w4.alloc (.cells #[.int .u8 h.s0, .int .u8 h.s1, .int .u8 h.s2, .int .u8 h.s3, .int .u8 h.s4, .int .u8 h.s5, .int .u8 h.s6, .int .u8 h.s7, .int .i64 h.K, .int .i64 h.M, .int .i64 h.B, .string h.key, .int .i64 h.size, .int .i64 h.idx, .int .i64 h.ep, .int .i64 h.ct, .slice F1 n1 d1] 46) = w5 at *) | (refine wpList_loadS rfl (.tmp 3) rfl bHZ3 rfl #[.int .u8 g.s0, .int .u8 g.s1, .int .u8 g.s2, .int .u8 g.s3, .int .u8 g.s4, .int .u8 g.s5, .int .u8 g.s6, .int .u8 g.s7, .int .i64 g.K, .int .i64 g.M, .int .i64 g.B, .string g.key, .int .i64 g.size, .int .i64 g.idx, .int .i64 g.ep, .int .i64 g.ct, .slice A' CL.length c'] rfl HZ3.out ?_))
    refine (fit_any g A' c' CL _ hm HLM.out HA2.out).mono ?_
    rintro e w6 ⟨F2, n2, d2, rfl, hO, hb⟩
    replace HF := Lib.hid (HF.out.trans (hb.mono HF.out.size))
    replace HA := Lib.hid (RLL.below HA.out hb)
    replace HA2 := Lib.hid (RLL.below HA2.out hb)
    replace HZ2 := Lib.hid ((hb.block _ (Array.getElem?_eq_some_iff.1 HZ2.out).1).trans HZ2.out)
    replace HZ3 := Lib.hid ((hb.block _ (Array.getElem?_eq_some_iff.1 HZ3.out).1).trans HZ3.out)
    replace HO1 := Lib.hid ((fun z => (HO1.out z).kept hb))
    replace HZ6 := Lib.hid ((hb.block _ (Array.getElem?_eq_some_iff.1 HZ6.out).1).trans HZ6.out)
    have HO2 := Lib.hid hO
    obtain ⟨q2, hq⟩ : ∃ q, q = decide (checkE g = 0) := ⟨_, rfl⟩
    rw [← hq]
    have HQ2 := Lib.hid hq
    clear hq hO
    clear hb
    go_wp2_with (refine wpList_storeNewS rfl (.tmp 8) (.tmp 25) rfl #[.int .u8 g.s0, .int .u8 g.s1, .int .u8 g.s2, .int .u8 g.s3, .int .u8 g.s4, .int .u8 g.s5, .int .u8 g.s6, .int .u8 g.s7, .int .i64 g.K, .int .i64 g.M, .int .i64 g.B, .string g.key, .int .i64 g.size, .int .i64 g.idx, .int .i64 g.ep, .int .i64 g.ct, .slice F2 n2 d2] rfl rfl rfl rfl rfl ?_; have hbn := (Below.refl w6.heap.size w6).alloc (Nat.le_refl _) (.cells #[.int .u8 g.s0, .int .u8 g.s1, .int .u8 g.s2, .int .u8 g.s3, .int .u8 g.s4, .int .u8 g.s5, .int .u8 g.s6, .int .u8 g.s7, .int .i64 g.K, .int .i64 g.M, .int .i64 g.B, .string g.key, .int .i64 g.size, .int .i64 g.idx, .int .i64 g.ep, .int .i64 g.ct, .slice F2 n2 d2] 46); replace HF := Lib.hid (HF.out.trans (hbn.mono HF.out.size)); replace HA := Lib.hid (RLL.below HA.out hbn); replace HA2 := Lib.hid (RLL.below HA2.out hbn); replace HZ2 := Lib.hid ((hbn.block _ (Array.getElem?_eq_some_iff.1 HZ2.out).1).trans HZ2.out); replace HZ3 := Lib.hid ((hbn.block _ (Array.getElem?_eq_some_iff.1 HZ3.out).1).trans HZ3.out); replace HO1 := Lib.hid ((fun z => (HO1.out z).kept hbn)); replace HZ6 := Lib.hid ((hbn.block _ (Array.getElem?_eq_some_iff.1 HZ6.out).1).trans HZ6.out); replace HO2 := Lib.hid ((fun z => (HO2.out z).kept hbn)); have HZ8 := Lib.hid (heap_alloc_new w6 (.cells #[.int .u8 g.s0, .int .u8 g.s1, .int .u8 g.s2, .int .u8 g.s3, .int .u8 g.s4, .int .u8 g.s5, .int .u8 g.s6, .int .u8 g.s7, .int .i64 g.K, .int .i64 g.M, .int .i64 g.B, .string g.key, .int .i64 g.size, .int .i64 g.idx, .int .i64 g.ep, .int .i64 g.ct, .slice F2 n2 d2] 46)); clear hbn; generalize w6.alloc (.cells #[.int .u8 g.s0, .int .u8 g.s1, .int .u8 g.s2, .int .u8 g.s3, .int .u8 g.s4, .int .u8 g.s5, .int .u8 g.s6, .int .u8 g.s7, .int .i64 g.K, .int .i64 g.M, .int .i64 g.B, .string g.key, .int .i64 g.size, .int .i64 g.idx, .int .i64 g.ep, .int .i64 g.ct, .slice F2 n2 d2] 46) = w7 at *)
    go_ret
    exact ⟨rfl, HF.out⟩
  obtain rfl : q1 = true := eq_true_of_ne_false hqt
  clear hqt
  have HE1 := Lib.hid (of_decide_eq_true HQ1.out.symm)
  have hO := HO1.out HE1.out
  obtain ⟨FL1, hFL⟩ : ∃ FL, FL = fitL h BL := ⟨_, rfl⟩
  rw [← hFL] at hO
  have HFF1 := Lib.hid (show fitsB h FL1 from hFL ▸ fitL_fits h BL)
  have HX1 := Lib.hid (show ∀ l ∈ FL1, ∀ x ∈ l, x < 256 from hFL ▸ fitL_lt (h := h) HBL.out)
  obtain ⟨Ax, cx, ev, _, hr⟩ := hO.ll.rd
  injection ev with e1 e2 e3
  subst e1 e2 e3
  have HR1 := Lib.hid hr
  have HOO1 := Lib.hid hO
  have hfl := fits_len HE1.out HFF1.out
  have HM1 := Lib.hid (show FL1.length ≤ 140737488351232 ∧ (∀ l ∈ FL1, l.length ≤ 140737488351232) from ⟨by omega, fun l hl => by have := hfl.2 l hl; omega⟩)
  have hm1 : FL1.length ≤ 4096 := hfl.1
  clear hO hr hfl hFL HO1 HQ1
  go_wp2_with (first | (refine wpList_storeNewS rfl (.tmp 6) (.tmp 20) rfl #[.int .u8 h.s0, .int .u8 h.s1, .int .u8 h.s2, .int .u8 h.s3, .int .u8 h.s4, .int .u8 h.s5, .int .u8 h.s6, .int .u8 h.s7, .int .i64 h.K, .int .i64 h.M, .int .i64 h.B, .string h.key, .int .i64 h.size, .int .i64 h.idx, .int .i64 h.ep, .int .i64 h.ct, .slice F1 FL1.length d1] rfl rfl rfl rfl rfl ?_; have hbn := (Below.refl w4.heap.size w4).alloc (Nat.le_refl _) (.cells #[.int .u8 h.s0, .int .u8 h.s1, .int .u8 h.s2, .int .u8 h.s3, .int .u8 h.s4, .int .u8 h.s5, .int .u8 h.s6, .int .u8 h.s7, .int .i64 h.K, .int .i64 h.M, .int .i64 h.B, .string h.key, .int .i64 h.size, .int .i64 h.idx, .int .i64 h.ep, .int .i64 h.ct, .slice F1 FL1.length d1] 46); replace HF := Lib.hid (HF.out.trans (hbn.mono HF.out.size)); replace HA := Lib.hid (RLL.below HA.out hbn); replace HA2 := Lib.hid (RLL.below HA2.out hbn); replace HZ2 := Lib.hid ((hbn.block _ (Array.getElem?_eq_some_iff.1 HZ2.out).1).trans HZ2.out); replace HZ3 := Lib.hid ((hbn.block _ (Array.getElem?_eq_some_iff.1 HZ3.out).1).trans HZ3.out); replace HR1 := Lib.hid (RLL.below HR1.out hbn); replace HOO1 := Lib.hid (HOO1.out.kept hbn); have HZ6 := Lib.hid (heap_alloc_new w4 (.cells #[.int .u8 h.s0, .int .u8 h.s1, .int .u8 h.s2, .int .u8 h.s3, .int .u8 h.s4, .int .u8 h.s5, .int .u8 h.s6, .int .u8 h.s7, .int .i64 h.K, .int .i64 h.M, .int .i64 h.B, .string h.key, .int .i64 h.size, .int .i64 h.idx, .int .i64 h.ep, .int .i64 h.ct, .slice F1 FL1.length d1] 46)); clear hbn; generalize w4.alloc (.cells #[.int .u8 h.s0, .int .u8 h.s1, .int .u8 h.s2, .int .u8 h.s3, .int .u8 h.s4, .int .u8 h.s5, .int .u8 h.s6, .int .u8 h.s7, .int .i64 h.K, .int .i64 h.M, .int .i64 h.B, .string h.key, .int .i64 h.size, .int .i64 h.idx, .int .i64 h.ep, .int .i64 h.ct, .slice F1 FL1.length d1] 46) = w5 at *) | (refine wpList_loadS rfl (.tmp 3) rfl bHZ3 rfl #[.int .u8 g.s0, .int .u8 g.s1, .int .u8 g.s2, .int .u8 g.s3, .int .u8 g.s4, .int .u8 g.s5, .int .u8 g.s6, .int .u8 g.s7, .int .i64 g.K, .int .i64 g.M, .int .i64 g.B, .string g.key, .int .i64 g.size, .int .i64 g.idx, .int .i64 g.ep, .int .i64 g.ct, .slice A' CL.length c'] rfl HZ3.out ?_))
  refine (fit_any g A' c' CL _ hm HLM.out HA2.out).mono ?_
  rintro e w6 ⟨F2, n2, d2, rfl, hO, hb⟩
  replace HF := Lib.hid (HF.out.trans (hb.mono HF.out.size))
  replace HA := Lib.hid (RLL.below HA.out hb)
  replace HA2 := Lib.hid (RLL.below HA2.out hb)
  replace HZ2 := Lib.hid ((hb.block _ (Array.getElem?_eq_some_iff.1 HZ2.out).1).trans HZ2.out)
  replace HZ3 := Lib.hid ((hb.block _ (Array.getElem?_eq_some_iff.1 HZ3.out).1).trans HZ3.out)
  replace HR1 := Lib.hid (RLL.below HR1.out hb)
  replace HOO1 := Lib.hid (HOO1.out.kept hb)
  replace HZ6 := Lib.hid ((hb.block _ (Array.getElem?_eq_some_iff.1 HZ6.out).1).trans HZ6.out)
  have HO2 := Lib.hid hO
  obtain ⟨q2, hq⟩ : ∃ q, q = decide (checkE g = 0) := ⟨_, rfl⟩
  rw [← hq]
  have HQ2 := Lib.hid hq
  clear hq hO
  clear hb
  by_cases hqt : q2 = false
  · subst hqt
    go_wp2_with (refine wpList_storeNewS rfl (.tmp 8) (.tmp 25) rfl #[.int .u8 g.s0, .int .u8 g.s1, .int .u8 g.s2, .int .u8 g.s3, .int .u8 g.s4, .int .u8 g.s5, .int .u8 g.s6, .int .u8 g.s7, .int .i64 g.K, .int .i64 g.M, .int .i64 g.B, .string g.key, .int .i64 g.size, .int .i64 g.idx, .int .i64 g.ep, .int .i64 g.ct, .slice F2 n2 d2] rfl rfl rfl rfl rfl ?_; have hbn := (Below.refl w6.heap.size w6).alloc (Nat.le_refl _) (.cells #[.int .u8 g.s0, .int .u8 g.s1, .int .u8 g.s2, .int .u8 g.s3, .int .u8 g.s4, .int .u8 g.s5, .int .u8 g.s6, .int .u8 g.s7, .int .i64 g.K, .int .i64 g.M, .int .i64 g.B, .string g.key, .int .i64 g.size, .int .i64 g.idx, .int .i64 g.ep, .int .i64 g.ct, .slice F2 n2 d2] 46); replace HF := Lib.hid (HF.out.trans (hbn.mono HF.out.size)); replace HA := Lib.hid (RLL.below HA.out hbn); replace HA2 := Lib.hid (RLL.below HA2.out hbn); replace HZ2 := Lib.hid ((hbn.block _ (Array.getElem?_eq_some_iff.1 HZ2.out).1).trans HZ2.out); replace HZ3 := Lib.hid ((hbn.block _ (Array.getElem?_eq_some_iff.1 HZ3.out).1).trans HZ3.out); replace HR1 := Lib.hid (RLL.below HR1.out hbn); replace HOO1 := Lib.hid (HOO1.out.kept hbn); replace HZ6 := Lib.hid ((hbn.block _ (Array.getElem?_eq_some_iff.1 HZ6.out).1).trans HZ6.out); replace HO2 := Lib.hid ((fun z => (HO2.out z).kept hbn)); have HZ8 := Lib.hid (heap_alloc_new w6 (.cells #[.int .u8 g.s0, .int .u8 g.s1, .int .u8 g.s2, .int .u8 g.s3, .int .u8 g.s4, .int .u8 g.s5, .int .u8 g.s6, .int .u8 g.s7, .int .i64 g.K, .int .i64 g.M, .int .i64 g.B, .string g.key, .int .i64 g.size, .int .i64 g.idx, .int .i64 g.ep, .int .i64 g.ct, .slice F2 n2 d2] 46)); clear hbn; generalize w6.alloc (.cells #[.int .u8 g.s0, .int .u8 g.s1, .int .u8 g.s2, .int .u8 g.s3, .int .u8 g.s4, .int .u8 g.s5, .int .u8 g.s6, .int .u8 g.s7, .int .i64 g.K, .int .i64 g.M, .int .i64 g.B, .string g.key, .int .i64 g.size, .int .i64 g.idx, .int .i64 g.ep, .int .i64 g.ct, .slice F2 n2 d2] 46) = w7 at *)
    go_ret
    exact ⟨rfl, HF.out⟩
  obtain rfl : q2 = true := eq_true_of_ne_false hqt
  clear hqt
  have HE2 := Lib.hid (of_decide_eq_true HQ2.out.symm)
  have hO := HO2.out HE2.out
  obtain ⟨FL2, hFL⟩ : ∃ FL, FL = fitL g CL := ⟨_, rfl⟩
  rw [← hFL] at hO
  have HFF2 := Lib.hid (show fitsB g FL2 from hFL ▸ fitL_fits g CL)
  have HX2 := Lib.hid (show ∀ l ∈ FL2, ∀ x ∈ l, x < 256 from hFL ▸ fitL_lt (h := g) HCL.out)
  obtain ⟨Ax, cx, ev, _, hr⟩ := hO.ll.rd
  injection ev with e1 e2 e3
  subst e1 e2 e3
  have HR2 := Lib.hid hr
  have HOO2 := Lib.hid hO
  have hfl := fits_len HE2.out HFF2.out
  have HM2 := Lib.hid (show FL2.length ≤ 140737488351232 ∧ (∀ l ∈ FL2, l.length ≤ 140737488351232) from ⟨by omega, fun l hl => by have := hfl.2 l hl; omega⟩)
  have hm2 : FL2.length ≤ 4096 := hfl.1
  clear hO hr hfl hFL HO2 HQ2
  go_wp2_with (first | (refine wpList_storeNewS rfl (.tmp 8) (.tmp 25) rfl #[.int .u8 g.s0, .int .u8 g.s1, .int .u8 g.s2, .int .u8 g.s3, .int .u8 g.s4, .int .u8 g.s5, .int .u8 g.s6, .int .u8 g.s7, .int .i64 g.K, .int .i64 g.M, .int .i64 g.B, .string g.key, .int .i64 g.size, .int .i64 g.idx, .int .i64 g.ep, .int .i64 g.ct, .slice F2 FL2.length d2] rfl rfl rfl rfl rfl ?_; have hbn := (Below.refl w6.heap.size w6).alloc (Nat.le_refl _) (.cells #[.int .u8 g.s0, .int .u8 g.s1, .int .u8 g.s2, .int .u8 g.s3, .int .u8 g.s4, .int .u8 g.s5, .int .u8 g.s6, .int .u8 g.s7, .int .i64 g.K, .int .i64 g.M, .int .i64 g.B, .string g.key, .int .i64 g.size, .int .i64 g.idx, .int .i64 g.ep, .int .i64 g.ct, .slice F2 FL2.length d2] 46); replace HF := Lib.hid (HF.out.trans (hbn.mono HF.out.size)); replace HA := Lib.hid (RLL.below HA.out hbn); replace HA2 := Lib.hid (RLL.below HA2.out hbn); replace HZ2 := Lib.hid ((hbn.block _ (Array.getElem?_eq_some_iff.1 HZ2.out).1).trans HZ2.out); replace HZ3 := Lib.hid ((hbn.block _ (Array.getElem?_eq_some_iff.1 HZ3.out).1).trans HZ3.out); replace HR1 := Lib.hid (RLL.below HR1.out hbn); replace HOO1 := Lib.hid (HOO1.out.kept hbn); replace HZ6 := Lib.hid ((hbn.block _ (Array.getElem?_eq_some_iff.1 HZ6.out).1).trans HZ6.out); replace HR2 := Lib.hid (RLL.below HR2.out hbn); replace HOO2 := Lib.hid (HOO2.out.kept hbn); have HZ8 := Lib.hid (heap_alloc_new w6 (.cells #[.int .u8 g.s0, .int .u8 g.s1, .int .u8 g.s2, .int .u8 g.s3, .int .u8 g.s4, .int .u8 g.s5, .int .u8 g.s6, .int .u8 g.s7, .int .i64 g.K, .int .i64 g.M, .int .i64 g.B, .string g.key, .int .i64 g.size, .int .i64 g.idx, .int .i64 g.ep, .int .i64 g.ct, .slice F2 FL2.length d2] 46)); clear hbn; generalize w6.alloc (.cells #[.int .u8 g.s0, .int .u8 g.s1, .int .u8 g.s2, .int .u8 g.s3, .int .u8 g.s4, .int .u8 g.s5, .int .u8 g.s6, .int .u8 g.s7, .int .i64 g.K, .int .i64 g.M, .int .i64 g.B, .string g.key, .int .i64 g.size, .int .i64 g.idx, .int .i64 g.ep, .int .i64 g.ct, .slice F2 FL2.length d2] 46) = w7 at *) | (refine wpList_loadS rfl (.tmp 6) rfl (w4.heap.size) rfl #[.int .u8 h.s0, .int .u8 h.s1, .int .u8 h.s2, .int .u8 h.s3, .int .u8 h.s4, .int .u8 h.s5, .int .u8 h.s6, .int .u8 h.s7, .int .i64 h.K, .int .i64 h.M, .int .i64 h.B, .string h.key, .int .i64 h.size, .int .i64 h.idx, .int .i64 h.ep, .int .i64 h.ct, .slice F1 FL1.length d1] rfl HZ6.out ?_))
  refine (enc_any h F1 d1 FL1 _ HBD.out HX1.out HM1.out.1 HM1.out.2 HR1.out).mono ?_
  rintro e w8 ⟨o, e1, l1, rfl, hP, hO, hb⟩
  replace HF := Lib.hid (HF.out.trans (hb.mono HF.out.size))
  replace HA := Lib.hid (RLL.below HA.out hb)
  replace HA2 := Lib.hid (RLL.below HA2.out hb)
  replace HZ2 := Lib.hid ((hb.block _ (Array.getElem?_eq_some_iff.1 HZ2.out).1).trans HZ2.out)
  replace HZ3 := Lib.hid ((hb.block _ (Array.getElem?_eq_some_iff.1 HZ3.out).1).trans HZ3.out)
  replace HR1 := Lib.hid (RLL.below HR1.out hb)
  replace HOO1 := Lib.hid (HOO1.out.kept hb)
  replace HZ6 := Lib.hid ((hb.block _ (Array.getElem?_eq_some_iff.1 HZ6.out).1).trans HZ6.out)
  replace HR2 := Lib.hid (RLL.below HR2.out hb)
  replace HOO2 := Lib.hid (HOO2.out.kept hb)
  replace HZ8 := Lib.hid ((hb.block _ (Array.getElem?_eq_some_iff.1 HZ8.out).1).trans HZ8.out)
  obtain ⟨rfl, hl⟩ := enc_fit hP HE1.out HFF1.out
  have HL1 := Lib.hid hl
  have HB1 := Lib.hid (hP.lt HBD.out HX1.out)
  have hlen1 := hP.len
  obtain ⟨E1, x1, hcap1, hBg1, hgl1, hcm1, rfl⟩ := own_at hO (by rw [hl]; have := form_pos HE1.out HFF1.out; omega)
  have OB1 := Lib.hid hO
  have hpos1 : 40 ≤ l1.length := by rw [hl]; have := form_pos HE1.out HFF1.out; omega
  clear hO hP hl
  clear hb
  go_wp2_with (refine wpList_loadS rfl (.tmp 8) rfl (w6.heap.size) rfl #[.int .u8 g.s0, .int .u8 g.s1, .int .u8 g.s2, .int .u8 g.s3, .int .u8 g.s4, .int .u8 g.s5, .int .u8 g.s6, .int .u8 g.s7, .int .i64 g.K, .int .i64 g.M, .int .i64 g.B, .string g.key, .int .i64 g.size, .int .i64 g.idx, .int .i64 g.ep, .int .i64 g.ct, .slice F2 FL2.length d2] rfl HZ8.out ?_)
  refine (enc_any g F2 d2 FL2 _ HGB.out HX2.out HM2.out.1 HM2.out.2 HR2.out).mono ?_
  rintro e w9 ⟨o, e2, l2, rfl, hP, hO, hb⟩
  replace HF := Lib.hid (HF.out.trans (hb.mono HF.out.size))
  replace HA := Lib.hid (RLL.below HA.out hb)
  replace HA2 := Lib.hid (RLL.below HA2.out hb)
  replace HZ2 := Lib.hid ((hb.block _ (Array.getElem?_eq_some_iff.1 HZ2.out).1).trans HZ2.out)
  replace HZ3 := Lib.hid ((hb.block _ (Array.getElem?_eq_some_iff.1 HZ3.out).1).trans HZ3.out)
  replace HR1 := Lib.hid (RLL.below HR1.out hb)
  replace HOO1 := Lib.hid (HOO1.out.kept hb)
  replace HZ6 := Lib.hid ((hb.block _ (Array.getElem?_eq_some_iff.1 HZ6.out).1).trans HZ6.out)
  replace HR2 := Lib.hid (RLL.below HR2.out hb)
  replace HOO2 := Lib.hid (HOO2.out.kept hb)
  replace HZ8 := Lib.hid ((hb.block _ (Array.getElem?_eq_some_iff.1 HZ8.out).1).trans HZ8.out)
  replace OB1 := Lib.hid (OB1.out.kept hb)
  obtain ⟨rfl, hl⟩ := enc_fit hP HE2.out HFF2.out
  have HL2 := Lib.hid hl
  have HB2 := Lib.hid (hP.lt HGB.out HX2.out)
  have hlen2 := hP.len
  obtain ⟨E2, x2, hcap2, hBg2, hgl2, hcm2, rfl⟩ := own_at hO (by rw [hl]; have := form_pos HE2.out HFF2.out; omega)
  have OB2 := Lib.hid hO
  have hpos2 : 40 ≤ l2.length := by rw [hl]; have := form_pos HE2.out HFF2.out; omega
  clear hO hP hl
  clear hb
  have hz6 := HZ6.out; have hz8 := HZ8.out; have hs1 := own_rl OB1.out; have hs2 := own_rl OB2.out; have hr1 := HR1.out; have hr2 := HR2.out
  have KZ6 := Lib.hid (fun (w' : World) (h : Below w9.heap.size w9 w') => (h.block (w4.heap.size) (Array.getElem?_eq_some_iff.1 hz6).1).trans hz6)
  have KZ8 := Lib.hid (fun (w' : World) (h : Below w9.heap.size w9 w') => (h.block (w6.heap.size) (Array.getElem?_eq_some_iff.1 hz8).1).trans hz8)
  have KS1 := Lib.hid (fun (w' : World) (h : Below w9.heap.size w9 w') => RL.below hs1 h)
  have KS2 := Lib.hid (fun (w' : World) (h : Below w9.heap.size w9 w') => RL.below hs2 h)
  have KR1 := Lib.hid (fun (w' : World) (h : Below w9.heap.size w9 w') => RLL.below hr1 h)
  have KR2 := Lib.hid (fun (w' : World) (h : Below w9.heap.size w9 w') => RLL.below hr2 h)
  have hinj : l1 = l2 ↔ h = g ∧ FL1 = FL2 := by
    rw [HL1.out, HL2.out]
    exact ⟨fun e => form_inj HBD.out HGB.out HE1.out HE2.out HFF1.out HFF2.out e, fun ⟨e1, e2⟩ => by rw [e1, e2]⟩
  have HJ := Lib.hid hinj
  clear hz6 hz8 hs1 hs2 hr1 hr2 hinj
  go_wp2_with fail
  have HT1 := Lib.hid (show FL1.length ≤ 1000000000000 by have := (fits_len HE1.out HFF1.out).1; omega)
  have HT2 := Lib.hid (show FL2.length ≤ 1000000000000 by have := (fits_len HE2.out HFF2.out).1; omega)
  refine wp_region_factsG [.is (.int .i64 0), .is (.int .i64 0), .is (.bool true), .is (.bool true), .is (.int .i64 0), .is (.int .i64 0), .is (.bool true), .is (.bool true), .is (.bool true), .is (.slice (some ⟨E1, 0, none⟩) l1.length x1), .is (.string (strL l1)), .is (.slice (some ⟨E2, 0, none⟩) l2.length x2), .is (.string (strL l2)), .is (.bool (decide (l1 = l2))), .is (.agg #[.int .u8 h.s0, .int .u8 h.s1, .int .u8 h.s2, .int .u8 h.s3, .int .u8 h.s4, .int .u8 h.s5, .int .u8 h.s6, .int .u8 h.s7, .int .i64 h.K, .int .i64 h.M, .int .i64 h.B, .string h.key, .int .i64 h.size, .int .i64 h.idx, .int .i64 h.ep, .int .i64 h.ct, .slice F1 FL1.length d1]), .is (.agg #[.int .u8 g.s0, .int .u8 g.s1, .int .u8 g.s2, .int .u8 g.s3, .int .u8 g.s4, .int .u8 g.s5, .int .u8 g.s6, .int .u8 g.s7, .int .i64 g.K, .int .i64 g.M, .int .i64 g.B, .string g.key, .int .i64 g.size, .int .i64 g.idx, .int .i64 g.ep, .int .i64 g.ct, .slice F2 FL2.length d2]), .is (.bool (decide (l1 = l2))), .is (.bool true), .is (.bool true), .is (.bool true)] mixed (by kernel_rfl) (fun hdr => ⟨?_, ?_, ?_, ?_, ?_, ?_, ?_, ?_, ?_, ?_, ?_, ?_, ?_, ?_, ?_, ?_, ?_, ?_, ?_, ?_, trivial⟩) (fun wE hbE => ?_)
  · intro a w2 hb hs K hK
    repeat (intro _)
    refine ⟨?_⟩
    have h11 : a.tmps[11]?.getD undef = .int .i64 0 := hs 11 (by kernel_rfl)
    rw [if_pos (by rfl)]
    go_simp
    exact hK.out _ _ (Below.refl _ _) rfl
  · intro a w2 hb hs K hK
    repeat (intro _)
    refine ⟨?_⟩
    have h43 : a.tmps[43]?.getD undef = .int .i64 0 := by assumption
    rw [if_pos (by rfl)]
    go_simp
    refine (num_any 0 w2).mono ?_
    rintro e w3 ⟨rfl, rfl⟩
    exact hK.out _ _ (Below.refl _ _) rfl
  · intro a w2 hb hs K hK
    repeat (intro _)
    refine ⟨?_⟩
    have h44 : a.tmps[44]?.getD undef = .int .i64 0 := by assumption
    rw [if_pos (by rfl)]
    go_simp
    exact hK.out _ _ (Below.refl _ _) rfl
  · intro a w2 hb hs K hK
    repeat (intro _)
    refine ⟨?_⟩
    have h45 : a.tmps[45]?.getD undef = .bool true := by assumption
    rw [if_pos (by rfl)]
    go_simp
    exact hK.out _ _ (Below.refl _ _) rfl
  · intro a w2 hb hs K hK
    repeat (intro _)
    refine ⟨?_⟩
    have h13 : a.tmps[13]?.getD undef = .int .i64 0 := hs 13 (by kernel_rfl)
    have hgd : a.tmps[46]?.getD undef = .bool true := by assumption
    rw [if_pos (wanted_yes (j := 3) (b := true) rfl rfl rfl hgd)]
    go_simp
    exact hK.out _ _ (Below.refl _ _) rfl
  · intro a w2 hb hs K hK
    repeat (intro _)
    refine ⟨?_⟩
    have h47 : a.tmps[47]?.getD undef = .int .i64 0 := by assumption
    have hgd : a.tmps[46]?.getD undef = .bool true := by assumption
    rw [if_pos (wanted_yes (j := 3) (b := true) rfl rfl rfl hgd)]
    go_simp
    refine (num_any 0 w2).mono ?_
    rintro e w3 ⟨rfl, rfl⟩
    exact hK.out _ _ (Below.refl _ _) rfl
  · intro a w2 hb hs K hK
    repeat (intro _)
    refine ⟨?_⟩
    have h48 : a.tmps[48]?.getD undef = .int .i64 0 := by assumption
    have hgd : a.tmps[46]?.getD undef = .bool true := by assumption
    rw [if_pos (wanted_yes (j := 3) (b := true) rfl rfl rfl hgd)]
    go_simp
    exact hK.out _ _ (Below.refl _ _) rfl
  · intro a w2 hb hs K hK
    repeat (intro _)
    refine ⟨?_⟩
    have h46 : a.tmps[46]?.getD undef = .bool true := by assumption
    have h49 : a.tmps[49]?.getD undef = .bool true := by assumption
    rw [if_pos (by rfl)]
    go_simp
    exact hK.out _ _ (Below.refl _ _) rfl
  · intro a w2 hb hs K hK
    repeat (intro _)
    refine ⟨?_⟩
    have h50 : a.tmps[50]?.getD undef = .bool true := by assumption
    rw [if_pos (by rfl)]
    go_simp
    exact hK.out _ _ (Below.refl _ _) rfl
  · intro a w2 hb hs K hK
    repeat (intro _)
    refine ⟨?_⟩
    have h10 : a.tmps[10]?.getD undef = .slice (some ⟨E1, 0, none⟩) l1.length x1 := hs 10 (by kernel_rfl)
    have hgd : a.tmps[51]?.getD undef = .bool true := by assumption
    rw [if_pos (wanted_yes (j := 8) (b := true) rfl rfl rfl hgd)]
    go_simp
    exact hK.out _ _ (Below.refl _ _) rfl
  · intro a w2 hb hs K hK
    repeat (intro _)
    refine ⟨?_⟩
    have h52 : a.tmps[52]?.getD undef = .slice (some ⟨E1, 0, none⟩) l1.length x1 := by assumption
    have hgd : a.tmps[51]?.getD undef = .bool true := by assumption
    rw [if_pos (wanted_yes (j := 8) (b := true) rfl rfl rfl hgd)]
    have hc := conv_strL x1 HB1.out (KS1.out w2 (hdr.out.trans (hb.mono hdr.out.size)))
    exact wp_conv _ _ _ rfl _ _ ((slot_eval a 52).trans h52) hc (hK.out _ _ (Below.refl _ _) rfl)
  · intro a w2 hb hs K hK
    repeat (intro _)
    refine ⟨?_⟩
    have h12 : a.tmps[12]?.getD undef = .slice (some ⟨E2, 0, none⟩) l2.length x2 := hs 12 (by kernel_rfl)
    have hgd : a.tmps[51]?.getD undef = .bool true := by assumption
    rw [if_pos (wanted_yes (j := 8) (b := true) rfl rfl rfl hgd)]
    go_simp
    exact hK.out _ _ (Below.refl _ _) rfl
  · intro a w2 hb hs K hK
    repeat (intro _)
    refine ⟨?_⟩
    have h54 : a.tmps[54]?.getD undef = .slice (some ⟨E2, 0, none⟩) l2.length x2 := by assumption
    have hgd : a.tmps[51]?.getD undef = .bool true := by assumption
    rw [if_pos (wanted_yes (j := 8) (b := true) rfl rfl rfl hgd)]
    have hc := conv_strL x2 HB2.out (KS2.out w2 (hdr.out.trans (hb.mono hdr.out.size)))
    exact wp_conv _ _ _ rfl _ _ ((slot_eval a 54).trans h54) hc (hK.out _ _ (Below.refl _ _) rfl)
  · intro a w2 hb hs K hK
    repeat (intro _)
    refine ⟨?_⟩
    have h53 : a.tmps[53]?.getD undef = .string (strL l1) := by assumption
    have h55 : a.tmps[55]?.getD undef = .string (strL l2) := by assumption
    have hgd : a.tmps[51]?.getD undef = .bool true := by assumption
    rw [if_pos (wanted_yes (j := 8) (b := true) rfl rfl rfl hgd)]
    go_simp
    exact hK.out _ _ (Below.refl _ _) (congrArg Value.bool (strL_eqb HB1.out HB2.out))
  · intro a w2 hb hs K hK
    repeat (intro _)
    refine ⟨?_⟩
    have h6 : a.tmps[6]?.getD undef = .pointer (some ⟨(w4.heap.size), 0, none⟩) := hs 6 (by kernel_rfl)
    have hgd : a.tmps[51]?.getD undef = .bool true := by assumption
    rw [if_pos (wanted_yes (j := 8) (b := true) rfl rfl rfl hgd)]
    have hz := KZ6.out w2 (hdr.out.trans (hb.mono hdr.out.size))
    obtain ⟨c0, c1, c2, c3, c4, c5, c6, c7, c8, c9, c10, c11, c12, c13, c14, c15, c16⟩ := cells_ofS hz
    go_simp
    exact hK.out _ _ (Below.refl _ _) rfl
  · intro a w2 hb hs K hK
    repeat (intro _)
    refine ⟨?_⟩
    have h8 : a.tmps[8]?.getD undef = .pointer (some ⟨(w6.heap.size), 0, none⟩) := hs 8 (by kernel_rfl)
    have hgd : a.tmps[51]?.getD undef = .bool true := by assumption
    rw [if_pos (wanted_yes (j := 8) (b := true) rfl rfl rfl hgd)]
    have hz := KZ8.out w2 (hdr.out.trans (hb.mono hdr.out.size))
    obtain ⟨c0, c1, c2, c3, c4, c5, c6, c7, c8, c9, c10, c11, c12, c13, c14, c15, c16⟩ := cells_ofS hz
    go_simp
    exact hK.out _ _ (Below.refl _ _) rfl
  · intro a w2 hb hs K hK
    repeat (intro _)
    refine ⟨?_⟩
    have h57 : a.tmps[57]?.getD undef = .agg #[.int .u8 h.s0, .int .u8 h.s1, .int .u8 h.s2, .int .u8 h.s3, .int .u8 h.s4, .int .u8 h.s5, .int .u8 h.s6, .int .u8 h.s7, .int .i64 h.K, .int .i64 h.M, .int .i64 h.B, .string h.key, .int .i64 h.size, .int .i64 h.idx, .int .i64 h.ep, .int .i64 h.ct, .slice F1 FL1.length d1] := by assumption
    have h58 : a.tmps[58]?.getD undef = .agg #[.int .u8 g.s0, .int .u8 g.s1, .int .u8 g.s2, .int .u8 g.s3, .int .u8 g.s4, .int .u8 g.s5, .int .u8 g.s6, .int .u8 g.s7, .int .i64 g.K, .int .i64 g.M, .int .i64 g.B, .string g.key, .int .i64 g.size, .int .i64 g.idx, .int .i64 g.ep, .int .i64 g.ct, .slice F2 FL2.length d2] := by assumption
    have hgd : a.tmps[51]?.getD undef = .bool true := by assumption
    rw [if_pos (wanted_yes (j := 8) (b := true) rfl rfl rfl hgd)]
    go_simp
    refine (same_any h g F1 F2 d1 d2 FL1 FL2 w2 HW.out GW.out HT1.out HX1.out HX2.out (KR1.out w2 (hdr.out.trans (hb.mono hdr.out.size))) (KR2.out w2 (hdr.out.trans (hb.mono hdr.out.size))) HT2.out).mono ?_
    rintro e w3 ⟨q, rfl, hq, hb3⟩
    obtain rfl : q = decide (l1 = l2) := by rw [Bool.eq_iff_iff, hq, decide_eq_true_iff]; exact HJ.out.symm
    exact hK.out _ _ hb3 rfl
  · intro a w2 hb hs K hK
    repeat (intro _)
    refine ⟨?_⟩
    have h56 : a.tmps[56]?.getD undef = .bool (decide (l1 = l2)) := by assumption
    have h59 : a.tmps[59]?.getD undef = .bool (decide (l1 = l2)) := by assumption
    have hgd : a.tmps[51]?.getD undef = .bool true := by assumption
    rw [if_pos (wanted_yes (j := 8) (b := true) rfl rfl rfl hgd)]
    go_simp
    exact hK.out _ _ (Below.refl _ _) rfl
  · intro a w2 hb hs K hK
    repeat (intro _)
    refine ⟨?_⟩
    have h51 : a.tmps[51]?.getD undef = .bool true := by assumption
    have h60 : a.tmps[60]?.getD undef = .bool true := by assumption
    rw [if_pos (by rfl)]
    go_simp
    exact hK.out _ _ (Below.refl _ _) rfl
  · intro a w2 hb hs K hK
    repeat (intro _)
    refine ⟨?_⟩
    have h61 : a.tmps[61]?.getD undef = .bool true := by assumption
    rw [if_pos (by rfl)]
    go_simp
    exact hK.out _ _ (Below.refl _ _) rfl
  intro v0 f0 v1 f1 v2 f2 v3 f3 v4 f4 v5 f5 v6 f6 v7 f7 v8 f8 v9 f9 v10 f10 v11 f11 v12 f12 v13 f13 v14 f14 v15 f15 v16 f16 v17 f17 v18 f18 v19 f19
  refine NoPanic.normal ?_
  simp only [Act.put, List.setIfInBounds_toArray, List.set_cons_zero, List.set_cons_succ]
  obtain rfl : v19 = .bool true := f19
  clear f0 f1 f2 f3 f4 f5 f6 f7 f8 f9 f10 f11 f12 f13 f14 f15 f16 f17 f18
  have HF := Lib.hid (HF.out.trans (hbE.mono HF.out.size))
  clear hbE
  go_wp2
  go_ret
  exact ⟨rfl, HF.out⟩
end Go.Proofs.Ytbioanbokbhmgaa
