/- FrameSwaps: the law's walk. Conditions: a shard that memory bears. -/
import Derived.Test.YtbioanbokbhmgaaCm8
namespace Go.Proofs.Ytbioanbokbhmgaa
open Go.RowKit

set_option maxRecDepth 100000 in
set_option maxHeartbeats 8000000 in
theorem lawSw (h : Hd) (A : Option Addr) (c : Nat) (BL : List (List Nat)) (J K : Int) (w : World) (hw : HdW h) (hB : HdB h) (hBL : ∀ l ∈ BL, ∀ x ∈ l, x < 256) (hn : BL.length ≤ 140737488351232) (hln : ∀ l ∈ BL, l.length ≤ 140737488351232) (hA : RLL w A BL) :
    Calls Try.prog 6 #[.agg #[.int .u8 h.s0, .int .u8 h.s1, .int .u8 h.s2, .int .u8 h.s3, .int .u8 h.s4, .int .u8 h.s5, .int .u8 h.s6, .int .u8 h.s7, .int .i64 h.K, .int .i64 h.M, .int .i64 h.B, .string h.key, .int .i64 h.size, .int .i64 h.idx, .int .i64 h.ep, .int .i64 h.ct, .slice A BL.length c], .int .i64 J, .int .i64 K] w fun e w' => e = .returned (.bool true) ∧ Below w.heap.size w w' := by
  have HA := Lib.hid hA
  have HBD := Lib.hid hB; have HBL := Lib.hid hBL; have HLN := Lib.hid hln; have HW := Lib.hid hw
  have HF := Lib.hid (Below.refl w.heap.size w)
  clear hA hB hBL hln hw
  go_enter Try.func6, Try.ntmps6
  go_wp2_with fail
  have hbn := (Below.refl w.heap.size w).alloc (Nat.le_refl _) (.cells #[.int .u8 h.s0, .int .u8 h.s1, .int .u8 h.s2, .int .u8 h.s3, .int .u8 h.s4, .int .u8 h.s5, .int .u8 h.s6, .int .u8 h.s7, .int .i64 h.K, .int .i64 h.M, .int .i64 h.B, .string h.key, .int .i64 h.size, .int .i64 h.idx, .int .i64 h.ep, .int .i64 h.ct, .slice A BL.length c] 46)
  replace HF := Lib.hid (HF.out.trans (hbn.mono HF.out.size))
  replace HA := Lib.hid (RLL.below HA.out hbn)
  have HZ3 := Lib.hid (heap_alloc_new w (.cells #[.int .u8 h.s0, .int .u8 h.s1, .int .u8 h.s2, .int .u8 h.s3, .int .u8 h.s4, .int .u8 h.s5, .int .u8 h.s6, .int .u8 h.s7, .int .i64 h.K, .int .i64 h.M, .int .i64 h.B, .string h.key, .int .i64 h.size, .int .i64 h.idx, .int .i64 h.ep, .int .i64 h.ct, .slice A BL.length c] 46))
  obtain ⟨bHZ3, hbk⟩ : ∃ bHZ3, bHZ3 = w.heap.size := ⟨_, rfl⟩
  rw [← hbk] at HZ3 ⊢
  clear hbk
  clear hbn
  generalize w.alloc (.cells #[.int .u8 h.s0, .int .u8 h.s1, .int .u8 h.s2, .int .u8 h.s3, .int .u8 h.s4, .int .u8 h.s5, .int .u8 h.s6, .int .u8 h.s7, .int .i64 h.K, .int .i64 h.M, .int .i64 h.B, .string h.key, .int .i64 h.size, .int .i64 h.idx, .int .i64 h.ep, .int .i64 h.ct, .slice A BL.length c] 46) = w1 at *
  refine (awake_any _).mono ?_
  rintro e w2 ⟨rfl, hb⟩
  replace HF := Lib.hid (HF.out.trans (hb.mono HF.out.size))
  replace HA := Lib.hid (RLL.below HA.out hb)
  replace HZ3 := Lib.hid ((hb.block _ (Array.getElem?_eq_some_iff.1 HZ3.out).1).trans HZ3.out)
  clear hb
  go_wp2_with (refine wpList_loadS rfl (.tmp 3) rfl bHZ3 rfl #[.int .u8 h.s0, .int .u8 h.s1, .int .u8 h.s2, .int .u8 h.s3, .int .u8 h.s4, .int .u8 h.s5, .int .u8 h.s6, .int .u8 h.s7, .int .i64 h.K, .int .i64 h.M, .int .i64 h.B, .string h.key, .int .i64 h.size, .int .i64 h.idx, .int .i64 h.ep, .int .i64 h.ct, .slice A BL.length c] rfl HZ3.out ?_)
  refine (fit_any h A c BL _ hn HLN.out HA.out).mono ?_
  rintro e w3 ⟨F1, n1, d1, rfl, hO, hb⟩
  replace HF := Lib.hid (HF.out.trans (hb.mono HF.out.size))
  replace HA := Lib.hid (RLL.below HA.out hb)
  replace HZ3 := Lib.hid ((hb.block _ (Array.getElem?_eq_some_iff.1 HZ3.out).1).trans HZ3.out)
  have HO1 := Lib.hid hO
  obtain ⟨q1, hq⟩ : ∃ q, q = decide (checkE h = 0) := ⟨_, rfl⟩
  rw [← hq]
  have HQ1 := Lib.hid hq
  clear hq hO
  clear hb
  by_cases hqt : q1 = false
  · subst hqt
    go_wp2_with (refine wpList_storeNewS rfl (.tmp 8) (.tmp 26) rfl #[.int .u8 h.s0, .int .u8 h.s1, .int .u8 h.s2, .int .u8 h.s3, .int .u8 h.s4, .int .u8 h.s5, .int .u8 h.s6, .int .u8 h.s7, .int .i64 h.K, .int .i64 h.M, .int .i64 h.B, .string h.key, .int .i64 h.size, .int .i64 h.idx, .int .i64 h.ep, .int .i64 h.ct, .slice F1 n1 d1] rfl rfl rfl rfl rfl ?_; have hbn := (Below.refl w3.heap.size w3).alloc (Nat.le_refl _) (.cells #[.int .u8 h.s0, .int .u8 h.s1, .int .u8 h.s2, .int .u8 h.s3, .int .u8 h.s4, .int .u8 h.s5, .int .u8 h.s6, .int .u8 h.s7, .int .i64 h.K, .int .i64 h.M, .int .i64 h.B, .string h.key, .int .i64 h.size, .int .i64 h.idx, .int .i64 h.ep, .int .i64 h.ct, .slice F1 n1 d1] 46); replace HF := Lib.hid (HF.out.trans (hbn.mono HF.out.size)); replace HA := Lib.hid (RLL.below HA.out hbn); replace HZ3 := Lib.hid ((hbn.block _ (Array.getElem?_eq_some_iff.1 HZ3.out).1).trans HZ3.out); replace HO1 := Lib.hid ((fun z => (HO1.out z).kept hbn)); have HZ8 := Lib.hid (heap_alloc_new w3 (.cells #[.int .u8 h.s0, .int .u8 h.s1, .int .u8 h.s2, .int .u8 h.s3, .int .u8 h.s4, .int .u8 h.s5, .int .u8 h.s6, .int .u8 h.s7, .int .i64 h.K, .int .i64 h.M, .int .i64 h.B, .string h.key, .int .i64 h.size, .int .i64 h.idx, .int .i64 h.ep, .int .i64 h.ct, .slice F1 n1 d1] 46)); clear hbn; generalize w3.alloc (.cells #[.int .u8 h.s0, .int .u8 h.s1, .int .u8 h.s2, .int .u8 h.s3, .int .u8 h.s4, .int .u8 h.s5, .int .u8 h.s6, .int .u8 h.s7, .int .i64 h.K, .int .i64 h.M, .int .i64 h.B, .string h.key, .int .i64 h.size, .int .i64 h.idx, .int .i64 h.ep, .int .i64 h.ct, .slice F1 n1 d1] 46) = w4 at *)
    go_ret
    exact ⟨rfl, HF.out⟩
  obtain rfl : q1 = true := eq_true_of_ne_false hqt
  clear hqt
  have HE1 := Lib.hid (of_decide_eq_true HQ1.out.symm)
  have hO := HO1.out HE1.out
  obtain ⟨FL1, hFL⟩ : ∃ FL, FL = fitL h BL := ⟨_, rfl⟩
  rw [← hFL] at hO
  have HFF1 := Lib.hid (show fitsB h FL1 from hFL ▸ fitL_fits h BL)
  have HX1 := Lib.hid (show ∀ l ∈ FL1, ∀ x ∈ l, x < 256 from hFL ▸ fitL_lt (h := h) HBL.out)
  obtain ⟨Ax, cx, ev, _, hr⟩ := hO.ll.rd
  injection ev with e1 e2 e3
  subst e1 e2 e3
  have HR1 := Lib.hid hr
  have HOO1 := Lib.hid hO
  have hfl := fits_len HE1.out HFF1.out
  have HM1 := Lib.hid (show FL1.length ≤ 140737488351232 ∧ (∀ l ∈ FL1, l.length ≤ 140737488351232) from ⟨by omega, fun l hl => by have := hfl.2 l hl; omega⟩)
  have hm1 : FL1.length ≤ 4096 := hfl.1
  clear hO hr hfl hFL HO1 HQ1
  by_cases j1 : J < 0
  · have dd1 : decide (J < 0) = true := decide_eq_true j1
    go_wp2_with (refine wpList_storeNewS rfl (.tmp 8) (.tmp 26) rfl #[.int .u8 h.s0, .int .u8 h.s1, .int .u8 h.s2, .int .u8 h.s3, .int .u8 h.s4, .int .u8 h.s5, .int .u8 h.s6, .int .u8 h.s7, .int .i64 h.K, .int .i64 h.M, .int .i64 h.B, .string h.key, .int .i64 h.size, .int .i64 h.idx, .int .i64 h.ep, .int .i64 h.ct, .slice F1 FL1.length d1] rfl rfl rfl rfl rfl ?_; have hbn := (Below.refl w3.heap.size w3).alloc (Nat.le_refl _) (.cells #[.int .u8 h.s0, .int .u8 h.s1, .int .u8 h.s2, .int .u8 h.s3, .int .u8 h.s4, .int .u8 h.s5, .int .u8 h.s6, .int .u8 h.s7, .int .i64 h.K, .int .i64 h.M, .int .i64 h.B, .string h.key, .int .i64 h.size, .int .i64 h.idx, .int .i64 h.ep, .int .i64 h.ct, .slice F1 FL1.length d1] 46); replace HF := Lib.hid (HF.out.trans (hbn.mono HF.out.size)); replace HA := Lib.hid (RLL.below HA.out hbn); replace HZ3 := Lib.hid ((hbn.block _ (Array.getElem?_eq_some_iff.1 HZ3.out).1).trans HZ3.out); replace HR1 := Lib.hid (RLL.below HR1.out hbn); replace HOO1 := Lib.hid (HOO1.out.kept hbn); have HZ8 := Lib.hid (heap_alloc_new w3 (.cells #[.int .u8 h.s0, .int .u8 h.s1, .int .u8 h.s2, .int .u8 h.s3, .int .u8 h.s4, .int .u8 h.s5, .int .u8 h.s6, .int .u8 h.s7, .int .i64 h.K, .int .i64 h.M, .int .i64 h.B, .string h.key, .int .i64 h.size, .int .i64 h.idx, .int .i64 h.ep, .int .i64 h.ct, .slice F1 FL1.length d1] 46)); clear hbn; generalize w3.alloc (.cells #[.int .u8 h.s0, .int .u8 h.s1, .int .u8 h.s2, .int .u8 h.s3, .int .u8 h.s4, .int .u8 h.s5, .int .u8 h.s6, .int .u8 h.s7, .int .i64 h.K, .int .i64 h.M, .int .i64 h.B, .string h.key, .int .i64 h.size, .int .i64 h.idx, .int .i64 h.ep, .int .i64 h.ct, .slice F1 FL1.length d1] 46) = w4 at *; obtain ⟨_, _, _, _, _, _, _, _, _, _, _, _, _, _, _, _, c16⟩ := cells_ofS HZ8.out)
    go_quiet (fail)
    go_wp2
    go_ret
    exact ⟨rfl, ((Dr.refl _).drewN _).below' HF.out⟩
  have dd1 : decide (J < 0) = false := decide_eq_false j1
  by_cases j2 : K ≤ J
  · have dd2 : decide (J ≥ K) = true := decide_eq_true j2
    go_wp2_with (refine wpList_storeNewS rfl (.tmp 8) (.tmp 26) rfl #[.int .u8 h.s0, .int .u8 h.s1, .int .u8 h.s2, .int .u8 h.s3, .int .u8 h.s4, .int .u8 h.s5, .int .u8 h.s6, .int .u8 h.s7, .int .i64 h.K, .int .i64 h.M, .int .i64 h.B, .string h.key, .int .i64 h.size, .int .i64 h.idx, .int .i64 h.ep, .int .i64 h.ct, .slice F1 FL1.length d1] rfl rfl rfl rfl rfl ?_; have hbn := (Below.refl w3.heap.size w3).alloc (Nat.le_refl _) (.cells #[.int .u8 h.s0, .int .u8 h.s1, .int .u8 h.s2, .int .u8 h.s3, .int .u8 h.s4, .int .u8 h.s5, .int .u8 h.s6, .int .u8 h.s7, .int .i64 h.K, .int .i64 h.M, .int .i64 h.B, .string h.key, .int .i64 h.size, .int .i64 h.idx, .int .i64 h.ep, .int .i64 h.ct, .slice F1 FL1.length d1] 46); replace HF := Lib.hid (HF.out.trans (hbn.mono HF.out.size)); replace HA := Lib.hid (RLL.below HA.out hbn); replace HZ3 := Lib.hid ((hbn.block _ (Array.getElem?_eq_some_iff.1 HZ3.out).1).trans HZ3.out); replace HR1 := Lib.hid (RLL.below HR1.out hbn); replace HOO1 := Lib.hid (HOO1.out.kept hbn); have HZ8 := Lib.hid (heap_alloc_new w3 (.cells #[.int .u8 h.s0, .int .u8 h.s1, .int .u8 h.s2, .int .u8 h.s3, .int .u8 h.s4, .int .u8 h.s5, .int .u8 h.s6, .int .u8 h.s7, .int .i64 h.K, .int .i64 h.M, .int .i64 h.B, .string h.key, .int .i64 h.size, .int .i64 h.idx, .int .i64 h.ep, .int .i64 h.ct, .slice F1 FL1.length d1] 46)); clear hbn; generalize w3.alloc (.cells #[.int .u8 h.s0, .int .u8 h.s1, .int .u8 h.s2, .int .u8 h.s3, .int .u8 h.s4, .int .u8 h.s5, .int .u8 h.s6, .int .u8 h.s7, .int .i64 h.K, .int .i64 h.M, .int .i64 h.B, .string h.key, .int .i64 h.size, .int .i64 h.idx, .int .i64 h.ep, .int .i64 h.ct, .slice F1 FL1.length d1] 46) = w4 at *; obtain ⟨_, _, _, _, _, _, _, _, _, _, _, _, _, _, _, _, c16⟩ := cells_ofS HZ8.out)
    go_quiet (fail)
    go_wp2
    go_ret
    exact ⟨rfl, ((Dr.refl _).drewN _).below' HF.out⟩
  have dd2 : decide (J ≥ K) = false := decide_eq_false j2
  by_cases j3 : (FL1.length : Int) ≤ K
  · have dd3 : decide (K ≥ (FL1.length : Int)) = true := decide_eq_true j3
    go_wp2_with (refine wpList_storeNewS rfl (.tmp 8) (.tmp 26) rfl #[.int .u8 h.s0, .int .u8 h.s1, .int .u8 h.s2, .int .u8 h.s3, .int .u8 h.s4, .int .u8 h.s5, .int .u8 h.s6, .int .u8 h.s7, .int .i64 h.K, .int .i64 h.M, .int .i64 h.B, .string h.key, .int .i64 h.size, .int .i64 h.idx, .int .i64 h.ep, .int .i64 h.ct, .slice F1 FL1.length d1] rfl rfl rfl rfl rfl ?_; have hbn := (Below.refl w3.heap.size w3).alloc (Nat.le_refl _) (.cells #[.int .u8 h.s0, .int .u8 h.s1, .int .u8 h.s2, .int .u8 h.s3, .int .u8 h.s4, .int .u8 h.s5, .int .u8 h.s6, .int .u8 h.s7, .int .i64 h.K, .int .i64 h.M, .int .i64 h.B, .string h.key, .int .i64 h.size, .int .i64 h.idx, .int .i64 h.ep, .int .i64 h.ct, .slice F1 FL1.length d1] 46); replace HF := Lib.hid (HF.out.trans (hbn.mono HF.out.size)); replace HA := Lib.hid (RLL.below HA.out hbn); replace HZ3 := Lib.hid ((hbn.block _ (Array.getElem?_eq_some_iff.1 HZ3.out).1).trans HZ3.out); replace HR1 := Lib.hid (RLL.below HR1.out hbn); replace HOO1 := Lib.hid (HOO1.out.kept hbn); have HZ8 := Lib.hid (heap_alloc_new w3 (.cells #[.int .u8 h.s0, .int .u8 h.s1, .int .u8 h.s2, .int .u8 h.s3, .int .u8 h.s4, .int .u8 h.s5, .int .u8 h.s6, .int .u8 h.s7, .int .i64 h.K, .int .i64 h.M, .int .i64 h.B, .string h.key, .int .i64 h.size, .int .i64 h.idx, .int .i64 h.ep, .int .i64 h.ct, .slice F1 FL1.length d1] 46)); clear hbn; generalize w3.alloc (.cells #[.int .u8 h.s0, .int .u8 h.s1, .int .u8 h.s2, .int .u8 h.s3, .int .u8 h.s4, .int .u8 h.s5, .int .u8 h.s6, .int .u8 h.s7, .int .i64 h.K, .int .i64 h.M, .int .i64 h.B, .string h.key, .int .i64 h.size, .int .i64 h.idx, .int .i64 h.ep, .int .i64 h.ct, .slice F1 FL1.length d1] 46) = w4 at *; obtain ⟨_, _, _, _, _, _, _, _, _, _, _, _, _, _, _, _, c16⟩ := cells_ofS HZ8.out)
    go_quiet (fail)
    go_wp2
    go_ret
    exact ⟨rfl, ((Dr.refl _).drewN _).below' HF.out⟩
  have dd3 : decide (K ≥ (FL1.length : Int)) = false := decide_eq_false j3
  obtain ⟨j, rfl⟩ : ∃ j : Nat, J = (j : Int) := ⟨J.toNat, by omega⟩
  obtain ⟨z, rfl⟩ : ∃ z : Nat, K = (z : Int) := ⟨K.toNat, by omega⟩
  have hjz : j < z := by omega
  have hz : z < FL1.length := by omega
  obtain ⟨S, C, hS1, _⟩ := HR1.out
  obtain ⟨bk, bo, rfl, hbk, cj⟩ := hS1 j (by omega)
  obtain ⟨bk', bo', eb, _, cz⟩ := hS1 z (by omega)
  injection eb with eb
  injection eb with e1 e2
  subst e1 e2
  dsimp only at cj cz
  rw [HFF1.out.2 j (by omega)] at cj
  rw [HFF1.out.2 z hz] at cz
  have hlf : lenF h j ≤ 65536 := by
    have := (fits_len HE1.out HFF1.out).2 _ (getD_mem' (d := []) (show j < FL1.length by omega))
    rw [HFF1.out.2 j (by omega)] at this
    exact this
  obtain ⟨lj, hlj⟩ : ∃ lj, lj = lenF h j := ⟨_, rfl⟩
  obtain ⟨lz, hlz⟩ : ∃ lz, lz = lenF h z := ⟨_, rfl⟩
  have HLJ := Lib.hid hlj; have HLZ := Lib.hid hlz
  rw [← hlj] at hlf
  have HCJ := Lib.hid (show Cl w3 ⟨bk, bo + j, none⟩ (.slice (S j) lj (C j)) from ⟨hbk, by rw [hlj]; exact cj⟩)
  have HCZ := Lib.hid (show Cl w3 ⟨bk, bo + z, none⟩ (.slice (S z) lz (C z)) from ⟨hbk, by rw [hlz]; exact cz⟩)
  clear hS1 cj cz hlj hlz
  have hj0 : (0 : Int) ≤ (j : Int) := by omega
  have hz0 : (0 : Int) ≤ (z : Int) := by omega
  have ddA : decide (z ≤ j) = false := decide_eq_false (by omega)
  have ddB : decide (FL1.length ≤ z) = false := decide_eq_false (by omega)
  have hj9 : (j : Int) < (FL1.length : Int) := by omega
  have hz9 : (z : Int) < (FL1.length : Int) := by omega
  by_cases j4 : lj ≠ lz
  · have dd4 : ((lj : Int) != (lz : Int)) = true := by rw [bne_iff_ne]; omega
    go_wp2_with (refine wpList_storeNewS rfl (.tmp 8) (.tmp 26) rfl #[.int .u8 h.s0, .int .u8 h.s1, .int .u8 h.s2, .int .u8 h.s3, .int .u8 h.s4, .int .u8 h.s5, .int .u8 h.s6, .int .u8 h.s7, .int .i64 h.K, .int .i64 h.M, .int .i64 h.B, .string h.key, .int .i64 h.size, .int .i64 h.idx, .int .i64 h.ep, .int .i64 h.ct, .slice (some ⟨bk, bo, none⟩) FL1.length d1] rfl rfl rfl rfl rfl ?_; have hbn := (Below.refl w3.heap.size w3).alloc (Nat.le_refl _) (.cells #[.int .u8 h.s0, .int .u8 h.s1, .int .u8 h.s2, .int .u8 h.s3, .int .u8 h.s4, .int .u8 h.s5, .int .u8 h.s6, .int .u8 h.s7, .int .i64 h.K, .int .i64 h.M, .int .i64 h.B, .string h.key, .int .i64 h.size, .int .i64 h.idx, .int .i64 h.ep, .int .i64 h.ct, .slice (some ⟨bk, bo, none⟩) FL1.length d1] 46); replace HF := Lib.hid (HF.out.trans (hbn.mono HF.out.size)); replace HA := Lib.hid (RLL.below HA.out hbn); replace HZ3 := Lib.hid ((hbn.block _ (Array.getElem?_eq_some_iff.1 HZ3.out).1).trans HZ3.out); replace HR1 := Lib.hid (RLL.below HR1.out hbn); replace HOO1 := Lib.hid (HOO1.out.kept hbn); replace HCJ := Lib.hid (Cl.below HCJ.out hbn); replace HCZ := Lib.hid (Cl.below HCZ.out hbn); have HZ8 := Lib.hid (heap_alloc_new w3 (.cells #[.int .u8 h.s0, .int .u8 h.s1, .int .u8 h.s2, .int .u8 h.s3, .int .u8 h.s4, .int .u8 h.s5, .int .u8 h.s6, .int .u8 h.s7, .int .i64 h.K, .int .i64 h.M, .int .i64 h.B, .string h.key, .int .i64 h.size, .int .i64 h.idx, .int .i64 h.ep, .int .i64 h.ct, .slice (some ⟨bk, bo, none⟩) FL1.length d1] 46)); clear hbn; generalize w3.alloc (.cells #[.int .u8 h.s0, .int .u8 h.s1, .int .u8 h.s2, .int .u8 h.s3, .int .u8 h.s4, .int .u8 h.s5, .int .u8 h.s6, .int .u8 h.s7, .int .i64 h.K, .int .i64 h.M, .int .i64 h.B, .string h.key, .int .i64 h.size, .int .i64 h.idx, .int .i64 h.ep, .int .i64 h.ct, .slice (some ⟨bk, bo, none⟩) FL1.length d1] 46) = w4 at *; obtain ⟨_, _, _, _, _, _, _, _, _, _, _, _, _, _, _, _, c16⟩ := cells_ofS HZ8.out; have cj := HCJ.out.2; have cz := HCZ.out.2)
    go_quiet (fail)
    go_wp2
    go_ret
    exact ⟨rfl, ((Dr.refl _).drewN _).below' HF.out⟩
  obtain rfl : lj = lz := Decidable.not_not.1 j4
  clear j4
  have dd4 : ((lj : Int) != (lj : Int)) = false := by simp
  go_wp2_with (refine wpList_storeNewS rfl (.tmp 8) (.tmp 26) rfl #[.int .u8 h.s0, .int .u8 h.s1, .int .u8 h.s2, .int .u8 h.s3, .int .u8 h.s4, .int .u8 h.s5, .int .u8 h.s6, .int .u8 h.s7, .int .i64 h.K, .int .i64 h.M, .int .i64 h.B, .string h.key, .int .i64 h.size, .int .i64 h.idx, .int .i64 h.ep, .int .i64 h.ct, .slice (some ⟨bk, bo, none⟩) FL1.length d1] rfl rfl rfl rfl rfl ?_; have hbn := (Below.refl w3.heap.size w3).alloc (Nat.le_refl _) (.cells #[.int .u8 h.s0, .int .u8 h.s1, .int .u8 h.s2, .int .u8 h.s3, .int .u8 h.s4, .int .u8 h.s5, .int .u8 h.s6, .int .u8 h.s7, .int .i64 h.K, .int .i64 h.M, .int .i64 h.B, .string h.key, .int .i64 h.size, .int .i64 h.idx, .int .i64 h.ep, .int .i64 h.ct, .slice (some ⟨bk, bo, none⟩) FL1.length d1] 46); replace HF := Lib.hid (HF.out.trans (hbn.mono HF.out.size)); replace HA := Lib.hid (RLL.below HA.out hbn); replace HZ3 := Lib.hid ((hbn.block _ (Array.getElem?_eq_some_iff.1 HZ3.out).1).trans HZ3.out); replace HR1 := Lib.hid (RLL.below HR1.out hbn); replace HOO1 := Lib.hid (HOO1.out.kept hbn); replace HCJ := Lib.hid (Cl.below HCJ.out hbn); replace HCZ := Lib.hid (Cl.below HCZ.out hbn); have HZ8 := Lib.hid (heap_alloc_new w3 (.cells #[.int .u8 h.s0, .int .u8 h.s1, .int .u8 h.s2, .int .u8 h.s3, .int .u8 h.s4, .int .u8 h.s5, .int .u8 h.s6, .int .u8 h.s7, .int .i64 h.K, .int .i64 h.M, .int .i64 h.B, .string h.key, .int .i64 h.size, .int .i64 h.idx, .int .i64 h.ep, .int .i64 h.ct, .slice (some ⟨bk, bo, none⟩) FL1.length d1] 46)); clear hbn; generalize w3.alloc (.cells #[.int .u8 h.s0, .int .u8 h.s1, .int .u8 h.s2, .int .u8 h.s3, .int .u8 h.s4, .int .u8 h.s5, .int .u8 h.s6, .int .u8 h.s7, .int .i64 h.K, .int .i64 h.M, .int .i64 h.B, .string h.key, .int .i64 h.size, .int .i64 h.idx, .int .i64 h.ep, .int .i64 h.ct, .slice (some ⟨bk, bo, none⟩) FL1.length d1] 46) = w4 at *; obtain ⟨_, _, _, _, _, _, _, _, _, _, _, _, _, _, _, _, c16⟩ := cells_ofS HZ8.out; have cj := HCJ.out.2; have cz := HCZ.out.2)
  go_quiet (fail)
  have hbq := ((Dr.refl w4).drewN nq).below w4.heap.size
  replace HF := Lib.hid (HF.out.trans (hbq.mono HF.out.size))
  replace HA := Lib.hid (RLL.below HA.out hbq)
  replace HZ3 := Lib.hid ((hbq.block _ (Array.getElem?_eq_some_iff.1 HZ3.out).1).trans HZ3.out)
  replace HR1 := Lib.hid (RLL.below HR1.out hbq)
  replace HOO1 := Lib.hid (HOO1.out.kept hbq)
  replace HCJ := Lib.hid (Cl.below HCJ.out hbq)
  replace HCZ := Lib.hid (Cl.below HCZ.out hbq)
  replace HZ8 := Lib.hid ((hbq.block _ (Array.getElem?_eq_some_iff.1 HZ8.out).1).trans HZ8.out)
  clear hbq
  generalize w4.drewN nq = w5 at *
  clear cj cz c16
  go_wp2_with (refine wpList_loadS rfl (.tmp 8) rfl (w3.heap.size) rfl #[.int .u8 h.s0, .int .u8 h.s1, .int .u8 h.s2, .int .u8 h.s3, .int .u8 h.s4, .int .u8 h.s5, .int .u8 h.s6, .int .u8 h.s7, .int .i64 h.K, .int .i64 h.M, .int .i64 h.B, .string h.key, .int .i64 h.size, .int .i64 h.idx, .int .i64 h.ep, .int .i64 h.ct, .slice (some ⟨bk, bo, none⟩) FL1.length d1] rfl HZ8.out ?_)
  refine (enc_any h (some ⟨bk, bo, none⟩) d1 FL1 _ HBD.out HX1.out HM1.out.1 HM1.out.2 HR1.out).mono ?_
  rintro e w6 ⟨o, e1, l1, rfl, hP, hO, hb⟩
  replace HF := Lib.hid (HF.out.trans (hb.mono HF.out.size))
  replace HA := Lib.hid (RLL.below HA.out hb)
  replace HZ3 := Lib.hid ((hb.block _ (Array.getElem?_eq_some_iff.1 HZ3.out).1).trans HZ3.out)
  replace HR1 := Lib.hid (RLL.below HR1.out hb)
  replace HOO1 := Lib.hid (HOO1.out.kept hb)
  replace HZ8 := Lib.hid ((hb.block _ (Array.getElem?_eq_some_iff.1 HZ8.out).1).trans HZ8.out)
  obtain ⟨rfl, hl⟩ := enc_fit hP HE1.out HFF1.out
  have HL1 := Lib.hid hl
  have HB1 := Lib.hid (hP.lt HBD.out HX1.out)
  have hlen1 := hP.len
  obtain ⟨E1, x1, hcap1, hBg1, hgl1, hcm1, rfl⟩ := own_at hO (by rw [hl]; have := form_pos HE1.out HFF1.out; omega)
  have OB1 := Lib.hid hO
  have hpos1 : 40 ≤ l1.length := by rw [hl]; have := form_pos HE1.out HFF1.out; omega
  clear hO hP hl
  clear hb
  go_wp2_with fail
  refine (num_any 0 w6).mono ?_
  rintro e wn ⟨rfl, rfl⟩
  go_wp2_with (refine wpList_loadS rfl (.tmp 8) rfl (w3.heap.size) rfl #[.int .u8 h.s0, .int .u8 h.s1, .int .u8 h.s2, .int .u8 h.s3, .int .u8 h.s4, .int .u8 h.s5, .int .u8 h.s6, .int .u8 h.s7, .int .i64 h.K, .int .i64 h.M, .int .i64 h.B, .string h.key, .int .i64 h.size, .int .i64 h.idx, .int .i64 h.ep, .int .i64 h.ct, .slice (some ⟨bk, bo, none⟩) FL1.length d1] rfl HZ8.out ?_)
  refine (begins_any h (some ⟨bk, bo, none⟩) d1 FL1 _ HE1.out HFF1.out HR1.out).mono ?_
  rintro e w7 ⟨v, rfl, hO, hb⟩
  replace HF := Lib.hid (HF.out.trans (hb.mono HF.out.size))
  replace HA := Lib.hid (RLL.below HA.out hb)
  replace HZ3 := Lib.hid ((hb.block _ (Array.getElem?_eq_some_iff.1 HZ3.out).1).trans HZ3.out)
  replace HR1 := Lib.hid (RLL.below HR1.out hb)
  replace HOO1 := Lib.hid (HOO1.out.kept hb)
  replace HZ8 := Lib.hid ((hb.block _ (Array.getElem?_eq_some_iff.1 HZ8.out).1).trans HZ8.out)
  replace OB1 := Lib.hid (OB1.out.kept hb)
  obtain ⟨gB, cB, rfl, hgB1, hgB2, hcB, -⟩ := Own.form hO (by rw [offL_length]; omega)
  obtain ⟨N1, hN1⟩ : ∃ N1, N1 = (offL h FL1.length).length := ⟨_, rfl⟩
  rw [← hN1] at hcB ⊢
  have hN1' : N1 = FL1.length + 1 := by rw [hN1, offL_length]
  have HCL := Lib.hid (fun (i : Nat) (hi : i ≤ FL1.length) => (show Cl w7 ⟨gB, i, none⟩ (.int .i64 ((offF h i : Nat) : Int)) from ⟨hgB2, by have := Own.cell1 hO (i := i) (by rw [offL_length]; omega); rw [offL_get hi] at this; exact this⟩))
  clear hO hN1
  clear hb
  obtain ⟨p, hp⟩ : ∃ p, p = offF h j := ⟨_, rfl⟩
  obtain ⟨q, hq⟩ : ∃ q, q = offF h z := ⟨_, rfl⟩
  obtain ⟨j1, hj1⟩ : ∃ j1, j1 = j + 1 := ⟨_, rfl⟩
  obtain ⟨p1, hp1⟩ : ∃ p1, p1 = offF h j1 := ⟨_, rfl⟩
  have hpm : p1 = p + (lj + 4) := by rw [hp1, hj1, hp, offF_next, ← HLJ.out]; omega
  have hpq : p + (lj + 4) ≤ q := by have := lenF_eq_off h hjz; rw [hp, hq, HLJ.out]; omega
  have hqn : q + (lj + 4) ≤ l1.length := by have := off_in HE1.out HFF1.out hz; rw [hq, HLZ.out, HL1.out]; omega
  have hln : offF h FL1.length = l1.length := by rw [HL1.out, form_off HE1.out HFF1.out]
  have KP := HCL.out j (by omega); have KQ := HCL.out z (by omega); have KP1 := HCL.out j1 (by omega); have KN := HCL.out FL1.length (Nat.le_refl _)
  rw [← hp] at KP; rw [← hq] at KQ; rw [← hp1] at KP1; rw [hln] at KN
  have HKP := Lib.hid KP; have HKQ := Lib.hid KQ; have HKP1 := Lib.hid KP1
  have cn := KN.2
  have hwj : IntKind.i64.wrap ((j : Int) + 1) = (j1 : Int) := by rw [IntKind.wrap_i64]; omega
  have hwm : IntKind.i64.wrap ((p1 : Int) - (p : Int)) = ((lj + 4 : Nat) : Int) := by rw [IntKind.wrap_i64]; omega
  have hn0 : (0 : Int) ≤ (FL1.length : Int) := by omega
  have hn1 : (FL1.length : Int) < (N1 : Int) := by omega
  have hll : ((l1.length : Int) != (l1.length : Int)) = false := by simp
  have HPP := Lib.hid (And.intro hp (And.intro hq (And.intro HLJ.out HLZ.out)))
  obtain ⟨m, hm⟩ : ∃ m, m = lj + 4 := ⟨_, rfl⟩
  rw [← hm] at hpm hpq hqn hwm
  have HM := Lib.hid hm
  have hjB : (j : Int) < (N1 : Int) := by omega
  have hjB1 : (j1 : Int) < (N1 : Int) := by omega
  have hzB : (z : Int) < (N1 : Int) := by omega
  have hj10 : (0 : Int) ≤ (j1 : Int) := by omega
  clear KP KQ KP1 KN HCL hp hq hp1 hm hln hN1' hj1
  have HS0 := Lib.hid ((own_rl OB1.out).below ((Below.refl w7.heap.size w7).alloc (Nat.le_refl _) (.cells #[] 5)) |>.src x1)
  have HO0 := Lib.hid (OwnB.fresh w7)
  have HBE := Lib.hid ((Below.refl w7.heap.size w7).alloc (Nat.le_refl _) (.cells #[] 5))
  go_wp2_with (at_builtin; refine wpList_appB rfl (.tmp 77) (.tmp 78) 47 rfl w7.heap.size _ [] rfl HO0.out (by simp) _ l1.length l1 rfl HS0.out (by simp; omega) ?_; intro v6 wx hO6 hb6 _; obtain ⟨g6, c6, hcap6, hBg6, hgl6, hcm6, rfl⟩ := own_at (show OwnB wx w7.heap.size v6 l1 from hO6) (by omega))
  have HOC0 := Lib.hid (show OwnB wx w7.heap.size (.slice (some ⟨g6, 0, none⟩) l1.length c6) (swapL l1 p q 0) by rw [swapL_zero]; exact hO6)
  have HBW0 := Lib.hid (HBE.out.trans hb6)
  have hs1 : (([] : List Nat) ++ l1).length = l1.length := rfl
  clear hO6 hb6 HO0 HBE HS0 cn hll hs1 hn0 hn1
  have GP := Lib.hid (fun (w' : World) (hb : Below w7.heap.size w7 w') => (HKP.out.below hb).2)
  have GQ := Lib.hid (fun (w' : World) (hb : Below w7.heap.size w7 w') => (HKQ.out.below hb).2)
  have GP1 := Lib.hid (fun (w' : World) (hb : Below w7.heap.size w7 w') => (HKP1.out.below hb).2)
  have GB := Lib.hid (fun (w' : World) (hb : Below w7.heap.size w7 w') (i : Nat) (hi : i < l1.length) => (own_cell (OB1.out.kept hb) rfl hi).1)
  go_loopg [15] m (fun gk t15 wr => ∃ i : Nat, i ≤ m ∧ gk = m - i ∧ t15 = .int .i64 i ∧ OwnB wr w7.heap.size (.slice (some ⟨g6, 0, none⟩) l1.length c6) (swapL l1 p q i) ∧ Below w7.heap.size w7 wr)
  case atStart => exact ⟨0, Nat.zero_le _, rfl, rfl, HOC0.out, HBW0.out⟩
  case round =>
    clear HOC0 HBW0
    obtain ⟨i, hi, rfl, rfl, hoc, hbw⟩ := hrel
    have cp := GP.out _ hbw; have cp1 := GP1.out _ hbw
    have HOC := Lib.hid hoc; have HBW := Lib.hid hbw
    clear hoc hbw
    by_cases hlt : i < m
    · have hli : (i : Int) < (m : Int) := by omega
      go_wp2
      go_quiet (fail)
      have HOC := Lib.hid (HOC.out.kept (((Dr.refl wr).drewN nq).below wr.heap.size))
      have HBW := Lib.hid (((Dr.refl wr).drewN nq).below' HBW.out)
      clear cp cp1
      generalize wr.drewN nq = wa at *
      obtain ⟨pi, hpi⟩ : ∃ pi, pi = p + i := ⟨_, rfl⟩
      obtain ⟨qi, hqi⟩ : ∃ qi, qi = q + i := ⟨_, rfl⟩
      have hwp : IntKind.i64.wrap ((p : Int) + (i : Int)) = (pi : Int) := by rw [IntKind.wrap_i64]; omega
      have hwq : IntKind.i64.wrap ((q : Int) + (i : Int)) = (qi : Int) := by rw [IntKind.wrap_i64]; omega
      have hb1 : (pi : Int) < (l1.length : Int) := by omega
      have hb2 : (qi : Int) < (l1.length : Int) := by omega
      have hb3 : (0 : Int) ≤ (pi : Int) := by omega
      have hb4 : (0 : Int) ≤ (qi : Int) := by omega
      have hpl : pi < l1.length := by omega
      have hql : qi < l1.length := by omega
      have HST := Lib.hid (show ((swapL l1 p q i).set pi (l1.getD qi 0)).set qi (l1.getD pi 0) = swapL l1 p q (i + 1) by rw [hpi, hqi]; exact swapL_step (by omega) (by omega))
      have HSL := Lib.hid (swapL_length l1 p q i)
      clear hpi hqi
      have cp := GP.out _ HBW.out; have cq := GQ.out _ HBW.out; have cb := GB.out _ HBW.out qi hql
      obtain ⟨xq, hxq⟩ : ∃ xq, xq = l1.getD qi 0 := ⟨_, rfl⟩
      rw [← hxq] at HST cb
      clear hxq
      go_wp2
      go_still_tail 17, mixed
      change wpList _ _ _ _ _ wa.drew
      have HOC := Lib.hid (HOC.out.kept ((Dr.refl wa).drew.below wa.heap.size))
      have HBW := Lib.hid ((Dr.refl wa).drew.below' HBW.out)
      clear cp cq cb
      generalize wa.drew = wb at *
      have hc6 := own_cell HOC.out HSL.out.symm (i := pi) (by rw [HSL.out]; exact hpl)
      obtain ⟨hc6a, hc6b⟩ := hc6
      have HOC := Lib.hid (OwnB.set HOC.out HSL.out.symm hpl xq)
      have HBW := Lib.hid (HBW.out.setCell (p := ⟨g6, pi, none⟩) hBg6 (.int .u8 (xq : Int)))
      go_wp2
      clear hc6a hc6b
      generalize wb.setCell ⟨g6, pi, none⟩ (.int .u8 (xq : Int)) = wc at *
      have cp := GP.out _ HBW.out; have cq := GQ.out _ HBW.out; have cb := GB.out _ HBW.out pi hpl
      obtain ⟨xp, hxp⟩ : ∃ xp, xp = l1.getD pi 0 := ⟨_, rfl⟩
      rw [← hxp] at HST cb
      clear hxp
      go_still_tail 17, mixed
      change wpList _ _ _ _ _ wc.drew
      have HOC := Lib.hid (HOC.out.kept ((Dr.refl wc).drew.below wc.heap.size))
      have HBW := Lib.hid ((Dr.refl wc).drew.below' HBW.out)
      clear cp cq cb
      generalize wc.drew = wd at *
      have hsl2 := Lib.hid (show ((swapL l1 p q i).set pi xq).length = l1.length by rw [List.length_set, HSL.out])
      obtain ⟨hc6a, hc6b⟩ := own_cell HOC.out hsl2.out.symm (i := qi) (by rw [hsl2.out]; exact hql)
      have HON := Lib.hid (show OwnB (wd.setCell ⟨g6, qi, none⟩ (.int .u8 (xp : Int))) w7.heap.size (.slice (some ⟨g6, 0, none⟩) l1.length c6) (swapL l1 p q (i + 1)) by rw [← HST.out]; exact OwnB.set HOC.out hsl2.out.symm hql xp)
      have HBN := Lib.hid (HBW.out.setCell (p := ⟨g6, qi, none⟩) hBg6 (.int .u8 (xp : Int)))
      clear HOC HBW HST
      go_wp2
      go_roundg (m - (i + 1))
      case measure => omega
      case rel => exact ⟨i + 1, by omega, rfl, by go_num, HON.out, HBN.out⟩
    · obtain rfl : i = m := by omega
      have hli : ¬ (i : Int) < (i : Int) := by omega
      go_wp2
      go_quiet (fail)
      have hb := ((Dr.refl wr).drewN nq).below' HBW.out
      replace HF := Lib.hid (HF.out.trans (hb.mono HF.out.size))
      replace HA := Lib.hid (RLL.below HA.out hb)
      replace HZ3 := Lib.hid ((hb.block _ (Array.getElem?_eq_some_iff.1 HZ3.out).1).trans HZ3.out)
      replace HR1 := Lib.hid (RLL.below HR1.out hb)
      replace HOO1 := Lib.hid (HOO1.out.kept hb)
      replace HZ8 := Lib.hid ((hb.block _ (Array.getElem?_eq_some_iff.1 HZ8.out).1).trans HZ8.out)
      replace OB1 := Lib.hid (OB1.out.kept hb)
      replace HKP := Lib.hid (Cl.below HKP.out hb)
      replace HKQ := Lib.hid (Cl.below HKQ.out hb)
      replace HKP1 := Lib.hid (Cl.below HKP1.out hb)
      have HOC := Lib.hid (HOC.out.kept (((Dr.refl wr).drewN nq).below wr.heap.size))
      clear hb cp cp1 GP GQ GP1 GB HBW
      generalize wr.drewN nq = wz at *
      obtain ⟨hd1, hd2, hd3, hd4⟩ := swap_law HBD.out HE1.out HFF1.out HX1.out hjz hz (by rw [← HPP.out.2.2.1, ← HPP.out.2.2.2])
      rw [← HL1.out, ← HPP.out.1, ← HPP.out.2.1, ← HPP.out.2.2.1, ← HM.out] at hd1 hd2 hd3 hd4
      obtain ⟨S6, hS6⟩ : ∃ S6, S6 = swapL l1 p q i := ⟨_, rfl⟩
      rw [← hS6] at hd1 hd2 hd3 hd4 HOC
      have hSl : S6.length = l1.length := by rw [hS6, swapL_length]
      have HSX := Lib.hid (show ∀ x ∈ S6, x < 256 from hS6 ▸ swapL_lt HB1.out)
      have HS1 := Lib.hid hd1; have HS4 := Lib.hid hd4
      have HS3 := Lib.hid (show sptL S6 = [j, z] by unfold sptL; rw [if_pos hd1, hd2, hd3])
      clear hd1 hd2 hd3 hd4 hS6
      go_wp2_with fail
      have hP := prs_any opn_all (some ⟨g6, 0, none⟩) c6 S6 wz HSX.out (by omega) (by omega) hcm6 (own_rl HOC.out)
      unfold PrsPost at hP
      rw [HS4.out, (prs_none HS4.out (by decide)).1, (prs_none HS4.out (by decide)).2, hSl] at hP
      refine (hP).mono ?_
      rintro e w8 ⟨v, rfl, hO, hb⟩
      replace HF := Lib.hid (HF.out.trans (hb.mono HF.out.size))
      replace HA := Lib.hid (RLL.below HA.out hb)
      replace HZ3 := Lib.hid ((hb.block _ (Array.getElem?_eq_some_iff.1 HZ3.out).1).trans HZ3.out)
      replace HR1 := Lib.hid (RLL.below HR1.out hb)
      replace HOO1 := Lib.hid (HOO1.out.kept hb)
      replace HZ8 := Lib.hid ((hb.block _ (Array.getElem?_eq_some_iff.1 HZ8.out).1).trans HZ8.out)
      replace OB1 := Lib.hid (OB1.out.kept hb)
      replace HKP := Lib.hid (Cl.below HKP.out hb)
      replace HKQ := Lib.hid (Cl.below HKQ.out hb)
      replace HKP1 := Lib.hid (Cl.below HKP1.out hb)
      replace HOC := Lib.hid (HOC.out.kept hb)
      obtain ⟨AA, cA, ev, _⟩ := hO.rd
      subst ev
      clear hP hO
      clear hb
      go_wp2_with (refine wpList_storeNewS rfl (.tmp 16) (.tmp 131) rfl #[.int .u8 0, .int .u8 0, .int .u8 0, .int .u8 0, .int .u8 0, .int .u8 0, .int .u8 0, .int .u8 0, .int .i64 0, .int .i64 0, .int .i64 0, .string ⟨#[]⟩, .int .i64 0, .int .i64 0, .int .i64 0, .int .i64 0, .slice AA 0 cA] rfl rfl rfl rfl rfl ?_; have hbn := (Below.refl w8.heap.size w8).alloc (Nat.le_refl _) (.cells #[.int .u8 0, .int .u8 0, .int .u8 0, .int .u8 0, .int .u8 0, .int .u8 0, .int .u8 0, .int .u8 0, .int .i64 0, .int .i64 0, .int .i64 0, .string ⟨#[]⟩, .int .i64 0, .int .i64 0, .int .i64 0, .int .i64 0, .slice AA 0 cA] 46); replace HF := Lib.hid (HF.out.trans (hbn.mono HF.out.size)); replace HA := Lib.hid (RLL.below HA.out hbn); replace HZ3 := Lib.hid ((hbn.block _ (Array.getElem?_eq_some_iff.1 HZ3.out).1).trans HZ3.out); replace HR1 := Lib.hid (RLL.below HR1.out hbn); replace HOO1 := Lib.hid (HOO1.out.kept hbn); replace HZ8 := Lib.hid ((hbn.block _ (Array.getElem?_eq_some_iff.1 HZ8.out).1).trans HZ8.out); replace OB1 := Lib.hid (OB1.out.kept hbn); replace HKP := Lib.hid (Cl.below HKP.out hbn); replace HKQ := Lib.hid (Cl.below HKQ.out hbn); replace HKP1 := Lib.hid (Cl.below HKP1.out hbn); replace HOC := Lib.hid (HOC.out.kept hbn); have HZ16 := Lib.hid (heap_alloc_new w8 (.cells #[.int .u8 0, .int .u8 0, .int .u8 0, .int .u8 0, .int .u8 0, .int .u8 0, .int .u8 0, .int .u8 0, .int .i64 0, .int .i64 0, .int .i64 0, .string ⟨#[]⟩, .int .i64 0, .int .i64 0, .int .i64 0, .int .i64 0, .slice AA 0 cA] 46)); clear hbn; generalize w8.alloc (.cells #[.int .u8 0, .int .u8 0, .int .u8 0, .int .u8 0, .int .u8 0, .int .u8 0, .int .u8 0, .int .u8 0, .int .i64 0, .int .i64 0, .int .i64 0, .string ⟨#[]⟩, .int .i64 0, .int .i64 0, .int .i64 0, .int .i64 0, .slice AA 0 cA] 46) = w9 at *)
      have hP := spt_any opn_all (some ⟨g6, 0, none⟩) c6 S6 w9 HSX.out (by omega) (by omega) hcm6 (own_rl HOC.out)
      unfold SptPost at hP
      rw [HS1.out, HS3.out, hSl] at hP
      refine (hP).mono ?_
      rintro e w10 ⟨v, rfl, hO, hb⟩
      replace HF := Lib.hid (HF.out.trans (hb.mono HF.out.size))
      replace HA := Lib.hid (RLL.below HA.out hb)
      replace HZ3 := Lib.hid ((hb.block _ (Array.getElem?_eq_some_iff.1 HZ3.out).1).trans HZ3.out)
      replace HR1 := Lib.hid (RLL.below HR1.out hb)
      replace HOO1 := Lib.hid (HOO1.out.kept hb)
      replace HZ8 := Lib.hid ((hb.block _ (Array.getElem?_eq_some_iff.1 HZ8.out).1).trans HZ8.out)
      replace OB1 := Lib.hid (OB1.out.kept hb)
      replace HKP := Lib.hid (Cl.below HKP.out hb)
      replace HKQ := Lib.hid (Cl.below HKQ.out hb)
      replace HKP1 := Lib.hid (Cl.below HKP1.out hb)
      replace HOC := Lib.hid (HOC.out.kept hb)
      replace HZ16 := Lib.hid ((hb.block _ (Array.getElem?_eq_some_iff.1 HZ16.out).1).trans HZ16.out)
      obtain ⟨A8, c8, ev, _, _, hr, _⟩ := Own.rd hO
      subst ev
      have HR8 := Lib.hid hr
      clear hP hO hr
      clear hb
      go_wp2_with fail
      refine (num_any 82 w10).mono ?_
      rintro e wn ⟨rfl, rfl⟩
      go_wp2_with fail
      refine (num_any 0 w10).mono ?_
      rintro e wn ⟨rfl, rfl⟩
      go_wp2_with fail
      have hbn := (Below.refl w10.heap.size w10).alloc (Nat.le_refl _) (.cells #[.int .i64 (j : Int), .int .i64 (z : Int)] 3)
      refine (sameInts_any A8 _ 2 c8 _ (fun i => ((([j, z] : List Nat).getD i 0 : Nat) : Int)) _ (by decide) (HR8.out.below hbn) (rd_two j z)).mono ?_
      rintro e w9 ⟨rfl, hd⟩
      have HF := Lib.hid (hd.below' (HF.out.trans (hbn.mono HF.out.size)))
      clear hd hbn
      go_wp2
      go_ret
      exact ⟨rfl, HF.out⟩
end Go.Proofs.Ytbioanbokbhmgaa
