/- FrameEncodeOwn: the law's walk. Conditions: a shard that memory bears. -/
import Derived.Test.YtbioanbokbhmgaaInc
import Derived.Test.YtbioanbokbhmgaaCop8
namespace Go.Proofs.Ytbioanbokbhmgaa
open Go.RowKit

set_option maxRecDepth 100000 in
set_option maxHeartbeats 8000000 in
theorem lawEo (h : Hd) (A : Option Addr) (c : Nat) (BL : List (List Nat)) (w : World) (hw : HdW h) (hB : HdB h) (hBL : ∀ l ∈ BL, ∀ x ∈ l, x < 256) (hn : BL.length ≤ 140737488351232) (hln : ∀ l ∈ BL, l.length ≤ 140737488351232) (hA : RLL w A BL) :
    Calls Try.prog 9 #[.agg #[.int .u8 h.s0, .int .u8 h.s1, .int .u8 h.s2, .int .u8 h.s3, .int .u8 h.s4, .int .u8 h.s5, .int .u8 h.s6, .int .u8 h.s7, .int .i64 h.K, .int .i64 h.M, .int .i64 h.B, .string h.key, .int .i64 h.size, .int .i64 h.idx, .int .i64 h.ep, .int .i64 h.ct, .slice A BL.length c]] w fun e w' => e = .returned (.bool true) ∧ Below w.heap.size w w' := by
  have HA := Lib.hid hA
  have HBD := Lib.hid hB; have HBL := Lib.hid hBL; have HLN := Lib.hid hln; have HW := Lib.hid hw
  have HF := Lib.hid (Below.refl w.heap.size w)
  clear hA hB hBL hln hw
  go_enter Try.func9, Try.ntmps9
  go_wp2_with fail
  have hbn := (Below.refl w.heap.size w).alloc (Nat.le_refl _) (.cells #[.int .u8 h.s0, .int .u8 h.s1, .int .u8 h.s2, .int .u8 h.s3, .int .u8 h.s4, .int .u8 h.s5, .int .u8 h.s6, .int .u8 h.s7, .int .i64 h.K, .int .i64 h.M, .int .i64 h.B, .string h.key, .int .i64 h.size, .int .i64 h.idx, .int .i64 h.ep, .int .i64 h.ct, .slice A BL.length c] 46)
  replace HF := Lib.hid (HF.out.trans (hbn.mono HF.out.size))
  replace HA := Lib.hid (RLL.below HA.out hbn)
  have HZ1 := Lib.hid (heap_alloc_new w (.cells #[.int .u8 h.s0, .int .u8 h.s1, .int .u8 h.s2, .int .u8 h.s3, .int .u8 h.s4, .int .u8 h.s5, .int .u8 h.s6, .int .u8 h.s7, .int .i64 h.K, .int .i64 h.M, .int .i64 h.B, .string h.key, .int .i64 h.size, .int .i64 h.idx, .int .i64 h.ep, .int .i64 h.ct, .slice A BL.length c] 46))
  obtain ⟨bHZ1, hbk⟩ : ∃ bHZ1, bHZ1 = w.heap.size := ⟨_, rfl⟩
  rw [← hbk] at HZ1 ⊢
  clear hbk
  clear hbn
  generalize w.alloc (.cells #[.int .u8 h.s0, .int .u8 h.s1, .int .u8 h.s2, .int .u8 h.s3, .int .u8 h.s4, .int .u8 h.s5, .int .u8 h.s6, .int .u8 h.s7, .int .i64 h.K, .int .i64 h.M, .int .i64 h.B, .string h.key, .int .i64 h.size, .int .i64 h.idx, .int .i64 h.ep, .int .i64 h.ct, .slice A BL.length c] 46) = w1 at *
  refine (awake_any _).mono ?_
  rintro e w2 ⟨rfl, hb⟩
  replace HF := Lib.hid (HF.out.trans (hb.mono HF.out.size))
  replace HA := Lib.hid (RLL.below HA.out hb)
  replace HZ1 := Lib.hid ((hb.block _ (Array.getElem?_eq_some_iff.1 HZ1.out).1).trans HZ1.out)
  clear hb
  have HWB := Lib.hid HF.out.size
  go_wp2_with (refine wpList_loadS rfl (.tmp 1) rfl bHZ1 rfl #[.int .u8 h.s0, .int .u8 h.s1, .int .u8 h.s2, .int .u8 h.s3, .int .u8 h.s4, .int .u8 h.s5, .int .u8 h.s6, .int .u8 h.s7, .int .i64 h.K, .int .i64 h.M, .int .i64 h.B, .string h.key, .int .i64 h.size, .int .i64 h.idx, .int .i64 h.ep, .int .i64 h.ct, .slice A BL.length c] rfl HZ1.out ?_)
  refine (fit_any h A c BL _ hn HLN.out HA.out).mono ?_
  rintro e w3 ⟨F1, n1, d1, rfl, hO, hb⟩
  replace HF := Lib.hid (HF.out.trans (hb.mono HF.out.size))
  replace HA := Lib.hid (RLL.below HA.out hb)
  replace HZ1 := Lib.hid ((hb.block _ (Array.getElem?_eq_some_iff.1 HZ1.out).1).trans HZ1.out)
  have HO1 := Lib.hid hO
  have hsz1 := hb.size
  obtain ⟨q1, hq⟩ : ∃ q, q = decide (checkE h = 0) := ⟨_, rfl⟩
  rw [← hq]
  have HQ1 := Lib.hid hq
  clear hq hO
  clear hb
  by_cases hqt : q1 = false
  · subst hqt
    go_wp2_with (refine wpList_storeNewS rfl (.tmp 4) (.tmp 24) rfl #[.int .u8 h.s0, .int .u8 h.s1, .int .u8 h.s2, .int .u8 h.s3, .int .u8 h.s4, .int .u8 h.s5, .int .u8 h.s6, .int .u8 h.s7, .int .i64 h.K, .int .i64 h.M, .int .i64 h.B, .string h.key, .int .i64 h.size, .int .i64 h.idx, .int .i64 h.ep, .int .i64 h.ct, .slice F1 n1 d1] rfl rfl rfl rfl rfl ?_; have hbn := (Below.refl w3.heap.size w3).alloc (Nat.le_refl _) (.cells #[.int .u8 h.s0, .int .u8 h.s1, .int .u8 h.s2, .int .u8 h.s3, .int .u8 h.s4, .int .u8 h.s5, .int .u8 h.s6, .int .u8 h.s7, .int .i64 h.K, .int .i64 h.M, .int .i64 h.B, .string h.key, .int .i64 h.size, .int .i64 h.idx, .int .i64 h.ep, .int .i64 h.ct, .slice F1 n1 d1] 46); replace HF := Lib.hid (HF.out.trans (hbn.mono HF.out.size)); replace HA := Lib.hid (RLL.below HA.out hbn); replace HZ1 := Lib.hid ((hbn.block _ (Array.getElem?_eq_some_iff.1 HZ1.out).1).trans HZ1.out); replace HO1 := Lib.hid ((fun z => (HO1.out z).kept hbn)); have HZ4 := Lib.hid (heap_alloc_new w3 (.cells #[.int .u8 h.s0, .int .u8 h.s1, .int .u8 h.s2, .int .u8 h.s3, .int .u8 h.s4, .int .u8 h.s5, .int .u8 h.s6, .int .u8 h.s7, .int .i64 h.K, .int .i64 h.M, .int .i64 h.B, .string h.key, .int .i64 h.size, .int .i64 h.idx, .int .i64 h.ep, .int .i64 h.ct, .slice F1 n1 d1] 46)); clear hbn; generalize w3.alloc (.cells #[.int .u8 h.s0, .int .u8 h.s1, .int .u8 h.s2, .int .u8 h.s3, .int .u8 h.s4, .int .u8 h.s5, .int .u8 h.s6, .int .u8 h.s7, .int .i64 h.K, .int .i64 h.M, .int .i64 h.B, .string h.key, .int .i64 h.size, .int .i64 h.idx, .int .i64 h.ep, .int .i64 h.ct, .slice F1 n1 d1] 46) = w4 at *)
    go_ret
    exact ⟨rfl, HF.out⟩
  obtain rfl : q1 = true := eq_true_of_ne_false hqt
  clear hqt
  have HE1 := Lib.hid (of_decide_eq_true HQ1.out.symm)
  have hO := HO1.out HE1.out
  obtain ⟨FL1, hFL⟩ : ∃ FL, FL = fitL h BL := ⟨_, rfl⟩
  rw [← hFL] at hO
  have HFF1 := Lib.hid (show fitsB h FL1 from hFL ▸ fitL_fits h BL)
  have HX1 := Lib.hid (show ∀ l ∈ FL1, ∀ x ∈ l, x < 256 from hFL ▸ fitL_lt (h := h) HBL.out)
  obtain ⟨Ax, cx, ev, _, hr⟩ := hO.ll.rd
  injection ev with e1 e2 e3
  subst e1 e2 e3
  have HR1 := Lib.hid hr
  have HOO1 := Lib.hid hO
  have hfl := fits_len HE1.out HFF1.out
  have HM1 := Lib.hid (show FL1.length ≤ 140737488351232 ∧ (∀ l ∈ FL1, l.length ≤ 140737488351232) from ⟨by omega, fun l hl => by have := hfl.2 l hl; omega⟩)
  have hm1 : FL1.length ≤ 4096 := hfl.1
  clear hO hr hfl hFL HO1 HQ1
  go_wp2_with (first | (refine wpList_storeNewS rfl (.tmp 4) (.tmp 24) rfl #[.int .u8 h.s0, .int .u8 h.s1, .int .u8 h.s2, .int .u8 h.s3, .int .u8 h.s4, .int .u8 h.s5, .int .u8 h.s6, .int .u8 h.s7, .int .i64 h.K, .int .i64 h.M, .int .i64 h.B, .string h.key, .int .i64 h.size, .int .i64 h.idx, .int .i64 h.ep, .int .i64 h.ct, .slice F1 FL1.length d1] rfl rfl rfl rfl rfl ?_; have hbn := (Below.refl w3.heap.size w3).alloc (Nat.le_refl _) (.cells #[.int .u8 h.s0, .int .u8 h.s1, .int .u8 h.s2, .int .u8 h.s3, .int .u8 h.s4, .int .u8 h.s5, .int .u8 h.s6, .int .u8 h.s7, .int .i64 h.K, .int .i64 h.M, .int .i64 h.B, .string h.key, .int .i64 h.size, .int .i64 h.idx, .int .i64 h.ep, .int .i64 h.ct, .slice F1 FL1.length d1] 46); replace HF := Lib.hid (HF.out.trans (hbn.mono HF.out.size)); replace HA := Lib.hid (RLL.below HA.out hbn); replace HZ1 := Lib.hid ((hbn.block _ (Array.getElem?_eq_some_iff.1 HZ1.out).1).trans HZ1.out); replace HR1 := Lib.hid (RLL.below HR1.out hbn); replace HOO1 := Lib.hid (HOO1.out.kept hbn); have HZ4 := Lib.hid (heap_alloc_new w3 (.cells #[.int .u8 h.s0, .int .u8 h.s1, .int .u8 h.s2, .int .u8 h.s3, .int .u8 h.s4, .int .u8 h.s5, .int .u8 h.s6, .int .u8 h.s7, .int .i64 h.K, .int .i64 h.M, .int .i64 h.B, .string h.key, .int .i64 h.size, .int .i64 h.idx, .int .i64 h.ep, .int .i64 h.ct, .slice F1 FL1.length d1] 46)); clear hbn; generalize w3.alloc (.cells #[.int .u8 h.s0, .int .u8 h.s1, .int .u8 h.s2, .int .u8 h.s3, .int .u8 h.s4, .int .u8 h.s5, .int .u8 h.s6, .int .u8 h.s7, .int .i64 h.K, .int .i64 h.M, .int .i64 h.B, .string h.key, .int .i64 h.size, .int .i64 h.idx, .int .i64 h.ep, .int .i64 h.ct, .slice F1 FL1.length d1] 46) = w4 at *) | (refine wpList_loadS rfl (.tmp 4) rfl (w3.heap.size) rfl #[.int .u8 h.s0, .int .u8 h.s1, .int .u8 h.s2, .int .u8 h.s3, .int .u8 h.s4, .int .u8 h.s5, .int .u8 h.s6, .int .u8 h.s7, .int .i64 h.K, .int .i64 h.M, .int .i64 h.B, .string h.key, .int .i64 h.size, .int .i64 h.idx, .int .i64 h.ep, .int .i64 h.ct, .slice F1 FL1.length d1] rfl HZ4.out ?_))
  have hT4 := (Array.getElem?_eq_some_iff.1 HZ4.out).1
  refine (enc_any h F1 d1 FL1 _ HBD.out HX1.out HM1.out.1 HM1.out.2 HR1.out).mono ?_
  rintro e w5 ⟨o, e1, l1, rfl, hP, hO, hb⟩
  replace HF := Lib.hid (HF.out.trans (hb.mono HF.out.size))
  replace HA := Lib.hid (RLL.below HA.out hb)
  replace HZ1 := Lib.hid ((hb.block _ (Array.getElem?_eq_some_iff.1 HZ1.out).1).trans HZ1.out)
  replace HR1 := Lib.hid (RLL.below HR1.out hb)
  replace HOO1 := Lib.hid (HOO1.out.kept hb)
  replace HZ4 := Lib.hid ((hb.block _ (Array.getElem?_eq_some_iff.1 HZ4.out).1).trans HZ4.out)
  obtain ⟨rfl, hl⟩ := enc_fit hP HE1.out HFF1.out
  have HL1 := Lib.hid hl
  have HB1 := Lib.hid (hP.lt HBD.out HX1.out)
  have hlen1 := hP.len
  obtain ⟨E1, x1, hcap1, hBg1, hgl1, hcm1, rfl⟩ := own_at hO (by rw [hl]; have := form_pos HE1.out HFF1.out; omega)
  have OB1 := Lib.hid hO
  have hpos1 : 40 ≤ l1.length := by rw [hl]; have := form_pos HE1.out HFF1.out; omega
  clear hO hP hl
  clear hb
  go_wp2_with (refine wpList_loadS rfl (.tmp 4) rfl (w3.heap.size) rfl #[.int .u8 h.s0, .int .u8 h.s1, .int .u8 h.s2, .int .u8 h.s3, .int .u8 h.s4, .int .u8 h.s5, .int .u8 h.s6, .int .u8 h.s7, .int .i64 h.K, .int .i64 h.M, .int .i64 h.B, .string h.key, .int .i64 h.size, .int .i64 h.idx, .int .i64 h.ep, .int .i64 h.ct, .slice F1 FL1.length d1] rfl HZ4.out ?_)
  refine (enc_any h F1 d1 FL1 _ HBD.out HX1.out HM1.out.1 HM1.out.2 HR1.out).mono ?_
  rintro e w6 ⟨o, e2, l2, rfl, hP, hO, hb⟩
  replace HF := Lib.hid (HF.out.trans (hb.mono HF.out.size))
  replace HA := Lib.hid (RLL.below HA.out hb)
  replace HZ1 := Lib.hid ((hb.block _ (Array.getElem?_eq_some_iff.1 HZ1.out).1).trans HZ1.out)
  replace HR1 := Lib.hid (RLL.below HR1.out hb)
  replace HOO1 := Lib.hid (HOO1.out.kept hb)
  replace HZ4 := Lib.hid ((hb.block _ (Array.getElem?_eq_some_iff.1 HZ4.out).1).trans HZ4.out)
  replace OB1 := Lib.hid (OB1.out.kept hb)
  obtain ⟨rfl, hl⟩ := enc_fit hP HE1.out HFF1.out
  have HL2 := Lib.hid hl
  have HB2 := Lib.hid (hP.lt HBD.out HX1.out)
  have hlen2 := hP.len
  obtain ⟨E2, x2, hcap2, hBg2, hgl2, hcm2, rfl⟩ := own_at hO (by rw [hl]; have := form_pos HE1.out HFF1.out; omega)
  have OB2 := Lib.hid hO
  have hpos2 : 40 ≤ l2.length := by rw [hl]; have := form_pos HE1.out HFF1.out; omega
  clear hO hP hl
  clear hb
  obtain rfl : l2 = l1 := HL2.out.trans HL1.out.symm
  clear HL2 HB2 hpos2 hlen2
  have hE1T : w3.heap.size ≤ E1 := by omega
  have hE2T : w3.heap.size ≤ E2 := by omega
  have hc1 := conv_strL x1 HB1.out (own_rl OB1.out)
  go_wp2_with fail
  refine (num_any 0 w6).mono ?_
  rintro e wn ⟨rfl, rfl⟩
  have hBW : w2.heap.size ≤ w6.heap.size := by have := (OB1.out.lt E1 rfl).2; omega
  have hc2 := conv_strL x2 HB1.out (own_rl OB2.out)
  obtain ⟨n, hnn⟩ : ∃ n, n = FL1.length := ⟨_, rfl⟩
  obtain ⟨S, C, hLA, hTT⟩ := HOO1.out
  have HLA0 := Lib.hid (show LA w6 w2.heap.size (.slice F1 FL1.length d1) (incR FL1 0 0) S C by rw [incR_zero]; exact hLA)
  have HTT := Lib.hid hTT
  have HM0 := Lib.hid (Mid.refl w2.heap.size w3.heap.size w6)
  have HNN := Lib.hid hnn
  have HLE := Lib.hid (fun (i : Nat) (hi : i < FL1.length) => (show (FL1.getD i []).length ≤ 65536 ∧ 0 < (FL1.getD i []).length from ⟨(fits_len HE1.out HFF1.out).2 _ (getD_mem' hi), by rw [HFF1.out.2 i hi]; exact lenF_pos HE1.out i⟩))
  clear hLA hTT hnn
  go_wp2
  clear hc1 hc2
  go_loopg [11, 12] FL1.length (fun gk t11 _ wr => ∃ i : Nat, i ≤ FL1.length ∧ gk = FL1.length - i ∧ t11 = .int .i64 i ∧ LA wr w2.heap.size (.slice F1 FL1.length d1) (incR FL1 i 0) S C ∧ Mid w2.heap.size w3.heap.size w6 wr)
  case atStart => exact ⟨0, Nat.zero_le _, rfl, rfl, HLA0.out, HM0.out⟩
  case round =>
    clear HLA0 HM0
    obtain ⟨i, hi, rfl, rfl, hla, hmd⟩ := hrel
    have HLA := Lib.hid hla; have HMD := Lib.hid hmd
    clear hla hmd
    have HZ := Lib.hid ((HMD.out.block _ (Array.getElem?_eq_some_iff.1 HZ4.out).1 (.inr (Nat.le_refl _))).trans HZ4.out)
    obtain ⟨_, _, _, _, _, _, _, _, _, _, _, _, _, _, _, _, c16⟩ := cells_ofS HZ.out
    by_cases hlt : i < FL1.length
    · have hkn : (i : Int) < (FL1.length : Int) := by omega
      have hi0 : (0 : Int) ≤ (i : Int) := by omega
      obtain ⟨le1, le2⟩ := HLE.out i hlt
      obtain ⟨len, hlen⟩ : ∃ len, len = (FL1.getD i []).length := ⟨_, rfl⟩
      rw [← hlen] at le1 le2
      have HLEN := Lib.hid hlen
      clear hlen
      go_wp2
      clear c16
      go_loopg [12] len (fun gk t12 wr => ∃ k : Nat, k ≤ len ∧ gk = len - k ∧ t12 = .int .i64 k ∧ LA wr w2.heap.size (.slice F1 FL1.length d1) (incR FL1 i k) S C ∧ Mid w2.heap.size w3.heap.size w6 wr)
      case atStart => exact ⟨0, Nat.zero_le _, rfl, rfl, HLA.out, HMD.out⟩
      case round =>
        clear HLA HMD HZ
        obtain ⟨k, hk, rfl, rfl, hla, hmd⟩ := hrel
        have HLA := Lib.hid hla; have HMD := Lib.hid hmd
        clear hla hmd
        have HZ := Lib.hid ((HMD.out.block _ (Array.getElem?_eq_some_iff.1 HZ4.out).1 (.inr (Nat.le_refl _))).trans HZ4.out)
        obtain ⟨_, _, _, _, _, _, _, _, _, _, _, _, _, _, _, _, c16⟩ := cells_ofS HZ.out
        obtain ⟨bk, bo, eF, crow⟩ := HLA.out.head (i := i) (by rw [incR_length]; exact hlt)
        rw [incR_len hlt, ← HLEN.out] at crow
        by_cases hkl : k < len
        · have hkl2 : (k : Int) < (len : Int) := by omega
          have hk0 : (0 : Int) ≤ (k : Int) := by omega
          obtain ⟨g, hSg, hBg, hgl, hob⟩ := HLA.out.at_ (i := i) (by rw [incR_length]; exact hlt) (by rw [incR_len hlt, ← HLEN.out]; omega)
          have hgT := HTT.out i hlt g (by unfold rowV at hob ⊢; rw [hSg]; rfl)
          have hrow := HLA.out.row i (by rw [incR_length]; exact hlt)
          unfold rowV at hrow
          rw [hSg] at hrow crow
          obtain ⟨ca, cb⟩ := own_cell hrow rfl (i := k) (by rw [incR_len hlt, ← HLEN.out]; exact hkl)
          rw [incR_cell hlt (by rw [← HLEN.out]; exact hkl)] at ca
          obtain ⟨x, hx⟩ : ∃ x, x = (FL1.getD i []).getD k 0 := ⟨_, rfl⟩
          have hx256 : x < 256 := by rw [hx]; exact getD_256 (HX1.out _ (getD_mem' hlt)) k
          obtain ⟨y, hy⟩ : ∃ y, y = (x + 1) % 256 := ⟨_, rfl⟩
          have hwy : IntKind.u8.wrap ((x : Int) + 1) = (y : Int) := by rw [IntKind.wrap_u8]; omega
          rw [← hx] at ca
          have HST := Lib.hid (show (incR FL1 i k).set i (((incR FL1 i k).getD i []).set k y) = incR FL1 i (k + 1) by rw [hy, hx]; exact incR_step hlt (by rw [← HLEN.out]; exact hkl))
          have HSG := Lib.hid hSg
          have HEF := Lib.hid eF
          subst eF
          clear hx hy hrow hob hSg
          go_wp2
          go_still_tail 16, mixed
          change wpList _ _ _ _ _ wr.drew
          have HLA := Lib.hid (HLA.out.kept ((Dr.refl wr).drew.below wr.heap.size))
          have HMD := Lib.hid (HMD.out.drew (Dr.refl wr).drew)
          clear crow ca cb c16 HZ
          generalize wr.drew = wa at *
          have hrow := HLA.out.row i (by rw [incR_length]; exact hlt)
          unfold rowV at hrow
          rw [HSG.out] at hrow
          obtain ⟨ca, cb⟩ := own_cell hrow rfl (i := k) (by rw [incR_len hlt, ← HLEN.out]; exact hkl)
          clear hrow
          have HLN := Lib.hid (show LA (wa.setCell ⟨g, k, none⟩ (.int .u8 (y : Int))) w2.heap.size _ (incR FL1 i (k + 1)) S C by rw [← HST.out]; exact HLA.out.setByte (by rw [incR_length]; exact hlt) (by rw [incR_len hlt, ← HLEN.out]; exact hkl) HSG.out y)
          have HMN := Lib.hid (HMD.out.set hBg hgT k (.int .u8 (y : Int)))
          clear HLA HMD HST
          go_wp2
          go_roundg (len - (k + 1))
          case measure => omega
          case rel => exact ⟨k + 1, by omega, rfl, by go_num, HLN.out, HMN.out⟩
        · obtain rfl : k = len := by omega
          have hkl2 : ¬ (k : Int) < (k : Int) := by omega
          have HLN := Lib.hid (show LA wr w2.heap.size (.slice F1 FL1.length d1) (incR FL1 (i + 1) 0) S C by rw [← incR_next, ← HLEN.out]; exact HLA.out)
          subst eF
          go_wp2
          go_roundg (FL1.length - (i + 1))
          case measure => omega
          case rel => exact ⟨i + 1, by omega, rfl, by go_num, HLN.out, HMD.out⟩
    · obtain rfl : i = FL1.length := by omega
      have hkn : ¬ (FL1.length : Int) < (FL1.length : Int) := by omega
      have HF := Lib.hid (HF.out.trans ((HMD.out.below hBW).mono HWB.out))
      have HRA := Lib.hid (rl_mid (own_rl OB1.out) HMD.out hE1T)
      have HRB := Lib.hid (rl_mid (own_rl OB2.out) HMD.out hE2T)
      have HZ4 := HZ
      obtain ⟨GL, hGL⟩ : ∃ GL, GL = incR FL1 FL1.length 0 := ⟨_, rfl⟩
      rw [← hGL] at HLA
      have HGl := Lib.hid (show GL.length = FL1.length by rw [hGL, incR_length])
      have HGX := Lib.hid (show ∀ l ∈ GL, ∀ x ∈ l, x < 256 from hGL ▸ incR_lt HX1.out)
      have HGF := Lib.hid (show fitsB h GL from hGL ▸ incR_fits HFF1.out)
      have HGN := Lib.hid (fun (hp : 0 < FL1.length) => (show ¬ GL = FL1 from hGL ▸ incR_ne HE1.out HFF1.out HX1.out hp))
      obtain ⟨Ax, cx, ev, _, hr⟩ := HLA.out.ll.rd
      injection ev with e1 e2 e3
      subst e1 e3
      have HRG := Lib.hid hr
      have HGM := Lib.hid (show GL.length ≤ 140737488351232 ∧ (∀ l ∈ GL, l.length ≤ 140737488351232) from by
        have hfl := fits_len HE1.out HGF.out
        exact ⟨by omega, fun l hl => by have := hfl.2 l hl; omega⟩)
      clear hGL hr e2 HZ HLA HMD
      have hc1 := conv_strL x1 HB1.out HRA.out
      have hc2 := conv_strL x2 HB1.out HRB.out
      have hss : ((strL l2).toList == (strL l2).toList) = true := by simp
      go_wp2_with (refine wpList_loadS rfl (.tmp 4) rfl (w3.heap.size) rfl #[.int .u8 h.s0, .int .u8 h.s1, .int .u8 h.s2, .int .u8 h.s3, .int .u8 h.s4, .int .u8 h.s5, .int .u8 h.s6, .int .u8 h.s7, .int .i64 h.K, .int .i64 h.M, .int .i64 h.B, .string h.key, .int .i64 h.size, .int .i64 h.idx, .int .i64 h.ep, .int .i64 h.ct, .slice F1 FL1.length d1] rfl HZ4.out ?_)
      clear hc1 hc2 hkn c16
      have hE := enc_any h F1 d1 GL wr HBD.out HGX.out HGM.out.1 HGM.out.2 HRG.out
      rw [HGl.out] at hE
      refine (hE).mono ?_
      rintro e w7 ⟨o, e3, l3, rfl, hP, hO, hb⟩
      replace HF := Lib.hid (HF.out.trans (hb.mono HF.out.size))
      replace HRA := Lib.hid (RL.below HRA.out hb)
      replace HRB := Lib.hid (RL.below HRB.out hb)
      replace HZ4 := Lib.hid ((hb.block _ (Array.getElem?_eq_some_iff.1 HZ4.out).1).trans HZ4.out)
      replace HRG := Lib.hid (RLL.below HRG.out hb)
      obtain ⟨rfl, hl⟩ := enc_fit hP HE1.out HGF.out
      have HL3 := Lib.hid hl
      have HB3 := Lib.hid (hP.lt HBD.out HGX.out)
      obtain ⟨E3, x3, _, _, _, _, rfl⟩ := own_at hO (by rw [hl]; have := form_pos HE1.out HGF.out; omega)
      have OB3 := Lib.hid (own_rl hO)
      clear hO hP hl
      clear hb
      clear hE
      go_wp2_with (refine wpList_loadS rfl (.tmp 4) rfl (w3.heap.size) rfl #[.int .u8 h.s0, .int .u8 h.s1, .int .u8 h.s2, .int .u8 h.s3, .int .u8 h.s4, .int .u8 h.s5, .int .u8 h.s6, .int .u8 h.s7, .int .i64 h.K, .int .i64 h.M, .int .i64 h.B, .string h.key, .int .i64 h.size, .int .i64 h.idx, .int .i64 h.ep, .int .i64 h.ct, .slice F1 FL1.length d1] rfl HZ4.out ?_)
      have hC := copied_any h F1 d1 GL w7 (by rw [HGl.out]; omega) HGM.out.2 HRG.out
      rw [HGl.out] at hC
      refine (hC).mono ?_
      rintro e w8 ⟨u, rfl, hO, hb⟩
      replace HF := Lib.hid (HF.out.trans (hb.mono HF.out.size))
      replace HRA := Lib.hid (RL.below HRA.out hb)
      replace HRB := Lib.hid (RL.below HRB.out hb)
      replace HZ4 := Lib.hid ((hb.block _ (Array.getElem?_eq_some_iff.1 HZ4.out).1).trans HZ4.out)
      replace HRG := Lib.hid (RLL.below HRG.out hb)
      replace OB3 := Lib.hid (RL.below OB3.out hb)
      obtain ⟨A6, c6, ev, _, hr6⟩ := hO.rd
      rw [HGl.out] at ev
      subst ev
      have HR6 := Lib.hid hr6
      clear hO hr6 hC
      clear hb
      go_wp2_with (first | (refine wpList_storeNewS rfl (.tmp 15) (.tmp 98) rfl #[.int .u8 h.s0, .int .u8 h.s1, .int .u8 h.s2, .int .u8 h.s3, .int .u8 h.s4, .int .u8 h.s5, .int .u8 h.s6, .int .u8 h.s7, .int .i64 h.K, .int .i64 h.M, .int .i64 h.B, .string h.key, .int .i64 h.size, .int .i64 h.idx, .int .i64 h.ep, .int .i64 h.ct, .slice A6 FL1.length c6] rfl rfl rfl rfl rfl ?_; have hbn := (Below.refl w8.heap.size w8).alloc (Nat.le_refl _) (.cells #[.int .u8 h.s0, .int .u8 h.s1, .int .u8 h.s2, .int .u8 h.s3, .int .u8 h.s4, .int .u8 h.s5, .int .u8 h.s6, .int .u8 h.s7, .int .i64 h.K, .int .i64 h.M, .int .i64 h.B, .string h.key, .int .i64 h.size, .int .i64 h.idx, .int .i64 h.ep, .int .i64 h.ct, .slice A6 FL1.length c6] 46); replace HF := Lib.hid (HF.out.trans (hbn.mono HF.out.size)); replace HRA := Lib.hid (RL.below HRA.out hbn); replace HRB := Lib.hid (RL.below HRB.out hbn); replace HZ4 := Lib.hid ((hbn.block _ (Array.getElem?_eq_some_iff.1 HZ4.out).1).trans HZ4.out); replace HRG := Lib.hid (RLL.below HRG.out hbn); replace OB3 := Lib.hid (RL.below OB3.out hbn); replace HR6 := Lib.hid (RLL.below HR6.out hbn); have HZ15 := Lib.hid (heap_alloc_new w8 (.cells #[.int .u8 h.s0, .int .u8 h.s1, .int .u8 h.s2, .int .u8 h.s3, .int .u8 h.s4, .int .u8 h.s5, .int .u8 h.s6, .int .u8 h.s7, .int .i64 h.K, .int .i64 h.M, .int .i64 h.B, .string h.key, .int .i64 h.size, .int .i64 h.idx, .int .i64 h.ep, .int .i64 h.ct, .slice A6 FL1.length c6] 46)); clear hbn; generalize w8.alloc (.cells #[.int .u8 h.s0, .int .u8 h.s1, .int .u8 h.s2, .int .u8 h.s3, .int .u8 h.s4, .int .u8 h.s5, .int .u8 h.s6, .int .u8 h.s7, .int .i64 h.K, .int .i64 h.M, .int .i64 h.B, .string h.key, .int .i64 h.size, .int .i64 h.idx, .int .i64 h.ep, .int .i64 h.ct, .slice A6 FL1.length c6] 46) = w9 at *) | (refine wpList_loadS rfl (.tmp 15) rfl (w8.heap.size) rfl #[.int .u8 h.s0, .int .u8 h.s1, .int .u8 h.s2, .int .u8 h.s3, .int .u8 h.s4, .int .u8 h.s5, .int .u8 h.s6, .int .u8 h.s7, .int .i64 h.K, .int .i64 h.M, .int .i64 h.B, .string h.key, .int .i64 h.size, .int .i64 h.idx, .int .i64 h.ep, .int .i64 h.ct, .slice A6 FL1.length c6] rfl HZ15.out ?_))
      have hE := enc_any h A6 c6 GL w9 HBD.out HGX.out HGM.out.1 HGM.out.2 HR6.out
      rw [HGl.out] at hE
      refine (hE).mono ?_
      rintro e w10 ⟨o, e4, l4, rfl, hP, hO, hb⟩
      replace HF := Lib.hid (HF.out.trans (hb.mono HF.out.size))
      replace HRA := Lib.hid (RL.below HRA.out hb)
      replace HRB := Lib.hid (RL.below HRB.out hb)
      replace HZ4 := Lib.hid ((hb.block _ (Array.getElem?_eq_some_iff.1 HZ4.out).1).trans HZ4.out)
      replace HRG := Lib.hid (RLL.below HRG.out hb)
      replace OB3 := Lib.hid (RL.below OB3.out hb)
      replace HR6 := Lib.hid (RLL.below HR6.out hb)
      replace HZ15 := Lib.hid ((hb.block _ (Array.getElem?_eq_some_iff.1 HZ15.out).1).trans HZ15.out)
      obtain ⟨rfl, hl⟩ := enc_fit hP HE1.out HGF.out
      have HL4 := Lib.hid hl
      have HB4 := Lib.hid (hP.lt HBD.out HGX.out)
      obtain ⟨E4, x4, _, _, _, _, rfl⟩ := own_at hO (by rw [hl]; have := form_pos HE1.out HGF.out; omega)
      have OB4 := Lib.hid (own_rl hO)
      clear hO hP hl
      clear hb
      obtain rfl : l4 = l3 := HL4.out.trans HL3.out.symm
      clear hE HL4 HB4
      go_wp2_with fail
      refine (num_any 0 w10).mono ?_
      rintro e wn ⟨rfl, rfl⟩
      go_wp2_with fail
      refine (num_any 0 w10).mono ?_
      rintro e wn ⟨rfl, rfl⟩
      have hc3 := conv_strL x3 HB3.out OB3.out
      have hc4 := conv_strL x4 HB3.out OB4.out
      have hss3 : ((strL l4).toList == (strL l4).toList) = true := by simp
      obtain ⟨_, _, _, _, _, _, _, _, _, _, _, _, _, _, _, _, c16⟩ := cells_ofS HZ4.out
      by_cases hz : FL1.length = 0
      · have hz0 : ((FL1.length : Int) == 0) = true := by rw [hz]; rfl
        go_wp2
        go_ret
        exact ⟨rfl, HF.out⟩
      · have hz0 : ((FL1.length : Int) == 0) = false := by rw [beq_eq_false_iff_ne]; omega
        have hne : ((strL l4).toList == (strL l2).toList) = false := by
          rw [strL_eqb HB3.out HB1.out]
          exact decide_eq_false fun e => HGN.out (by omega) (form_inj HBD.out HBD.out HE1.out HE1.out HGF.out HFF1.out (by rw [← HL3.out, ← HL1.out]; exact e)).2
        go_wp2
        go_ret
        exact ⟨rfl, HF.out⟩
end Go.Proofs.Ytbioanbokbhmgaa
