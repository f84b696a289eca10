/- FrameForeign: the law's walk. Conditions: shards that memory bears. -/
import Derived.Test.YtbioanbokbhmgaaCm8
import Derived.Deep.Cut
import Derived.Deep.CutRange
import Derived.Deep.CutBlock
namespace Go.Proofs.Ytbioanbokbhmgaa
open Go.RowKit

theorem fore_wf {h : Hd} (H : HdW h) (x : Int) (hx : (Lit.int .i64 x).wf = true) : HdW { h with M := x } ∧ HdW { h with idx := x } ∧ HdW { h with ep := x } ∧ HdW { h with ct := x } := by
  obtain ⟨w0, w1, w2, w3, w4, w5, w6, w7, w8, w9, w10, w11, w12, w13, w14, w15⟩ := H
  exact ⟨⟨w0, w1, w2, w3, w4, w5, w6, w7, w8, hx, w10, w11, w12, w13, w14, w15⟩, ⟨w0, w1, w2, w3, w4, w5, w6, w7, w8, w9, w10, w11, hx, w13, w14, w15⟩, ⟨w0, w1, w2, w3, w4, w5, w6, w7, w8, w9, w10, w11, w12, hx, w14, w15⟩, ⟨w0, w1, w2, w3, w4, w5, w6, w7, w8, w9, w10, w11, w12, w13, hx, w15⟩⟩
theorem grown_set {W w : World} {g : Nat} (h : W.grownBy w (some g)) (i : Nat) (x : Value) : W.grownBy (w.setCell ⟨g, i, none⟩ x) (some g) :=
  ⟨h.os, h.tape, h.output, by simpa using h.size, fun k hk hne => by rw [Below.heap_setCell _ _ _ _ (by show k ≠ g; exact fun e => hne (by rw [e]))]; exact h.block k hk hne⟩
set_option maxRecDepth 100000 in
set_option maxHeartbeats 64000000 in
theorem lawFg (h : Hd) (A A' : Option Addr) (c c' : Nat) (BL CL : List (List Nat)) (WH BY J : Int) (w : World) (hw : HdW h) (hB : HdB h) (hBL : ∀ l ∈ BL, ∀ x ∈ l, x < 256) (hn : BL.length ≤ 140737488351232) (hln : ∀ l ∈ BL, l.length ≤ 140737488351232) (hA : RLL w A BL) (hCL : ∀ l ∈ CL, ∀ x ∈ l, x < 256) (hm : CL.length ≤ 140737488351232) (hlm : ∀ l ∈ CL, l.length ≤ 140737488351232) (hA' : RLL w A' CL) (hby : (Lit.int .i64 BY).wf = true) :
    Calls Try.prog 7 #[.agg #[.int .u8 h.s0, .int .u8 h.s1, .int .u8 h.s2, .int .u8 h.s3, .int .u8 h.s4, .int .u8 h.s5, .int .u8 h.s6, .int .u8 h.s7, .int .i64 h.K, .int .i64 h.M, .int .i64 h.B, .string h.key, .int .i64 h.size, .int .i64 h.idx, .int .i64 h.ep, .int .i64 h.ct, .slice A BL.length c, .slice A' CL.length c', .int .i64 WH, .int .i64 BY, .int .i64 J]] w fun e w' => e = .returned (.bool true) ∧ Below w.heap.size w w' := by
  have HA := Lib.hid hA
  have HBD := Lib.hid hB; have HBL := Lib.hid hBL; have HLN := Lib.hid hln; have HW := Lib.hid hw
  have HF := Lib.hid (Below.refl w.heap.size w)
  clear hA hB hBL hln hw
  have HA2 := Lib.hid hA'; have HCL := Lib.hid hCL; have HLM := Lib.hid hlm
  clear hA' hCL hlm
  go_enter Try.func7, Try.ntmps7
  go_wp2_with fail
  have hbn := (Below.refl w.heap.size w).alloc (Nat.le_refl _) (.cells #[.int .u8 h.s0, .int .u8 h.s1, .int .u8 h.s2, .int .u8 h.s3, .int .u8 h.s4, .int .u8 h.s5, .int .u8 h.s6, .int .u8 h.s7, .int .i64 h.K, .int .i64 h.M, .int .i64 h.B, .string h.key, .int .i64 h.size, .int .i64 h.idx, .int .i64 h.ep, .int .i64 h.ct, .slice A BL.length c, .slice A' CL.length c', .int .i64 WH, .int .i64 BY, .int .i64 J] 75)
  replace HF := Lib.hid (HF.out.trans (hbn.mono HF.out.size))
  replace HA := Lib.hid (RLL.below HA.out hbn)
  replace HA2 := Lib.hid (RLL.below HA2.out hbn)
  have HZ1 := Lib.hid (heap_alloc_new w (.cells #[.int .u8 h.s0, .int .u8 h.s1, .int .u8 h.s2, .int .u8 h.s3, .int .u8 h.s4, .int .u8 h.s5, .int .u8 h.s6, .int .u8 h.s7, .int .i64 h.K, .int .i64 h.M, .int .i64 h.B, .string h.key, .int .i64 h.size, .int .i64 h.idx, .int .i64 h.ep, .int .i64 h.ct, .slice A BL.length c, .slice A' CL.length c', .int .i64 WH, .int .i64 BY, .int .i64 J] 75))
  obtain ⟨bHZ1, hbk⟩ : ∃ bHZ1, bHZ1 = w.heap.size := ⟨_, rfl⟩
  rw [← hbk] at HZ1 ⊢
  clear hbk
  clear hbn
  generalize w.alloc (.cells #[.int .u8 h.s0, .int .u8 h.s1, .int .u8 h.s2, .int .u8 h.s3, .int .u8 h.s4, .int .u8 h.s5, .int .u8 h.s6, .int .u8 h.s7, .int .i64 h.K, .int .i64 h.M, .int .i64 h.B, .string h.key, .int .i64 h.size, .int .i64 h.idx, .int .i64 h.ep, .int .i64 h.ct, .slice A BL.length c, .slice A' CL.length c', .int .i64 WH, .int .i64 BY, .int .i64 J] 75) = w1 at *
  refine (awake_any _).mono ?_
  rintro e w2 ⟨rfl, hb⟩
  replace HF := Lib.hid (HF.out.trans (hb.mono HF.out.size))
  replace HA := Lib.hid (RLL.below HA.out hb)
  replace HA2 := Lib.hid (RLL.below HA2.out hb)
  replace HZ1 := Lib.hid ((hb.block _ (Array.getElem?_eq_some_iff.1 HZ1.out).1).trans HZ1.out)
  clear hb
  go_wp2_with (refine wpList_loadFirst rfl 46 (.tmp 24) rfl bHZ1 rfl #[.int .u8 h.s0, .int .u8 h.s1, .int .u8 h.s2, .int .u8 h.s3, .int .u8 h.s4, .int .u8 h.s5, .int .u8 h.s6, .int .u8 h.s7, .int .i64 h.K, .int .i64 h.M, .int .i64 h.B, .string h.key, .int .i64 h.size, .int .i64 h.idx, .int .i64 h.ep, .int .i64 h.ct, .slice A BL.length c] #[.int .u8 h.s0, .int .u8 h.s1, .int .u8 h.s2, .int .u8 h.s3, .int .u8 h.s4, .int .u8 h.s5, .int .u8 h.s6, .int .u8 h.s7, .int .i64 h.K, .int .i64 h.M, .int .i64 h.B, .string h.key, .int .i64 h.size, .int .i64 h.idx, .int .i64 h.ep, .int .i64 h.ct, .slice A BL.length c, .slice A' CL.length c', .int .i64 WH, .int .i64 BY, .int .i64 J] 75 _ rfl HZ1.out Try.underlying46 rfl info_S ?_)
  refine (fit_any h A c BL _ hn HLN.out HA.out).mono ?_
  rintro e w3 ⟨F1, n1, d1, rfl, hO, hb⟩
  replace HF := Lib.hid (HF.out.trans (hb.mono HF.out.size))
  replace HA := Lib.hid (RLL.below HA.out hb)
  replace HA2 := Lib.hid (RLL.below HA2.out hb)
  replace HZ1 := Lib.hid ((hb.block _ (Array.getElem?_eq_some_iff.1 HZ1.out).1).trans HZ1.out)
  have HO1 := Lib.hid hO
  have hsz1 := hb.size
  obtain ⟨q1, hq⟩ : ∃ q, q = decide (checkE h = 0) := ⟨_, rfl⟩
  rw [← hq]
  have HQ1 := Lib.hid hq
  clear hq hO
  clear hb
  by_cases hqt : q1 = false
  · subst hqt
    go_wp2_with (refine wpList_storeNewS rfl (.tmp 4) (.tmp 27) rfl #[.int .u8 h.s0, .int .u8 h.s1, .int .u8 h.s2, .int .u8 h.s3, .int .u8 h.s4, .int .u8 h.s5, .int .u8 h.s6, .int .u8 h.s7, .int .i64 h.K, .int .i64 h.M, .int .i64 h.B, .string h.key, .int .i64 h.size, .int .i64 h.idx, .int .i64 h.ep, .int .i64 h.ct, .slice F1 n1 d1] rfl rfl rfl rfl rfl ?_; have hbn := (Below.refl w3.heap.size w3).alloc (Nat.le_refl _) (.cells #[.int .u8 h.s0, .int .u8 h.s1, .int .u8 h.s2, .int .u8 h.s3, .int .u8 h.s4, .int .u8 h.s5, .int .u8 h.s6, .int .u8 h.s7, .int .i64 h.K, .int .i64 h.M, .int .i64 h.B, .string h.key, .int .i64 h.size, .int .i64 h.idx, .int .i64 h.ep, .int .i64 h.ct, .slice F1 n1 d1] 46); replace HF := Lib.hid (HF.out.trans (hbn.mono HF.out.size)); replace HA := Lib.hid (RLL.below HA.out hbn); replace HA2 := Lib.hid (RLL.below HA2.out hbn); replace HZ1 := Lib.hid ((hbn.block _ (Array.getElem?_eq_some_iff.1 HZ1.out).1).trans HZ1.out); replace HO1 := Lib.hid ((fun z => (HO1.out z).kept hbn)); have HZ4 := Lib.hid (heap_alloc_new w3 (.cells #[.int .u8 h.s0, .int .u8 h.s1, .int .u8 h.s2, .int .u8 h.s3, .int .u8 h.s4, .int .u8 h.s5, .int .u8 h.s6, .int .u8 h.s7, .int .i64 h.K, .int .i64 h.M, .int .i64 h.B, .string h.key, .int .i64 h.size, .int .i64 h.idx, .int .i64 h.ep, .int .i64 h.ct, .slice F1 n1 d1] 46)); clear hbn; generalize w3.alloc (.cells #[.int .u8 h.s0, .int .u8 h.s1, .int .u8 h.s2, .int .u8 h.s3, .int .u8 h.s4, .int .u8 h.s5, .int .u8 h.s6, .int .u8 h.s7, .int .i64 h.K, .int .i64 h.M, .int .i64 h.B, .string h.key, .int .i64 h.size, .int .i64 h.idx, .int .i64 h.ep, .int .i64 h.ct, .slice F1 n1 d1] 46) = w4 at *)
    go_ret
    exact ⟨rfl, HF.out⟩
  obtain rfl : q1 = true := eq_true_of_ne_false hqt
  clear hqt
  have HE1 := Lib.hid (of_decide_eq_true HQ1.out.symm)
  have hO := HO1.out HE1.out
  obtain ⟨FL1, hFL⟩ : ∃ FL, FL = fitL h BL := ⟨_, rfl⟩
  rw [← hFL] at hO
  have HFF1 := Lib.hid (show fitsB h FL1 from hFL ▸ fitL_fits h BL)
  have HX1 := Lib.hid (show ∀ l ∈ FL1, ∀ x ∈ l, x < 256 from hFL ▸ fitL_lt (h := h) HBL.out)
  obtain ⟨Ax, cx, ev, _, hr⟩ := hO.ll.rd
  injection ev with e1 e2 e3
  subst e1 e2 e3
  have HR1 := Lib.hid hr
  have HOO1 := Lib.hid hO
  have hfl := fits_len HE1.out HFF1.out
  have HM1 := Lib.hid (show FL1.length ≤ 140737488351232 ∧ (∀ l ∈ FL1, l.length ≤ 140737488351232) from ⟨Nat.le_trans hfl.1 (by decide), fun l hl => Nat.le_trans (hfl.2 l hl) (by decide)⟩)
  have hm1 : FL1.length ≤ 4096 := hfl.1
  clear hO hr hfl hFL HO1 HQ1
  go_upto_block 0 with (first | (refine wpList_storeNewS rfl (.tmp 4) (.tmp 27) rfl #[.int .u8 h.s0, .int .u8 h.s1, .int .u8 h.s2, .int .u8 h.s3, .int .u8 h.s4, .int .u8 h.s5, .int .u8 h.s6, .int .u8 h.s7, .int .i64 h.K, .int .i64 h.M, .int .i64 h.B, .string h.key, .int .i64 h.size, .int .i64 h.idx, .int .i64 h.ep, .int .i64 h.ct, .slice F1 FL1.length d1] rfl rfl rfl rfl rfl ?_; have hbn := (Below.refl w3.heap.size w3).alloc (Nat.le_refl _) (.cells #[.int .u8 h.s0, .int .u8 h.s1, .int .u8 h.s2, .int .u8 h.s3, .int .u8 h.s4, .int .u8 h.s5, .int .u8 h.s6, .int .u8 h.s7, .int .i64 h.K, .int .i64 h.M, .int .i64 h.B, .string h.key, .int .i64 h.size, .int .i64 h.idx, .int .i64 h.ep, .int .i64 h.ct, .slice F1 FL1.length d1] 46); replace HF := Lib.hid (HF.out.trans (hbn.mono HF.out.size)); replace HA := Lib.hid (RLL.below HA.out hbn); replace HA2 := Lib.hid (RLL.below HA2.out hbn); replace HZ1 := Lib.hid ((hbn.block _ (Array.getElem?_eq_some_iff.1 HZ1.out).1).trans HZ1.out); replace HR1 := Lib.hid (RLL.below HR1.out hbn); replace HOO1 := Lib.hid (HOO1.out.kept hbn); have HZ4 := Lib.hid (heap_alloc_new w3 (.cells #[.int .u8 h.s0, .int .u8 h.s1, .int .u8 h.s2, .int .u8 h.s3, .int .u8 h.s4, .int .u8 h.s5, .int .u8 h.s6, .int .u8 h.s7, .int .i64 h.K, .int .i64 h.M, .int .i64 h.B, .string h.key, .int .i64 h.size, .int .i64 h.idx, .int .i64 h.ep, .int .i64 h.ct, .slice F1 FL1.length d1] 46)); clear hbn; generalize w3.alloc (.cells #[.int .u8 h.s0, .int .u8 h.s1, .int .u8 h.s2, .int .u8 h.s3, .int .u8 h.s4, .int .u8 h.s5, .int .u8 h.s6, .int .u8 h.s7, .int .i64 h.K, .int .i64 h.M, .int .i64 h.B, .string h.key, .int .i64 h.size, .int .i64 h.idx, .int .i64 h.ep, .int .i64 h.ct, .slice F1 FL1.length d1] 46) = w4 at *; have c17 : w4.cell? ⟨bHZ1, 17, none⟩ = some (.slice A' CL.length c') := (by simp [World.cell?, HZ1.out]); have c18 : w4.cell? ⟨bHZ1, 18, none⟩ = some (.int .i64 WH) := (by simp [World.cell?, HZ1.out]); have c19 : w4.cell? ⟨bHZ1, 19, none⟩ = some (.int .i64 BY) := (by simp [World.cell?, HZ1.out])) | (refine wpList_storeNewS rfl (.tmp 6) (.tmp 36) rfl #[.int .u8 h.s0, .int .u8 h.s1, .int .u8 h.s2, .int .u8 h.s3, .int .u8 h.s4, .int .u8 h.s5, .int .u8 h.s6, .int .u8 h.s7, .int .i64 h.K, .int .i64 h.M, .int .i64 h.B, .string h.key, .int .i64 h.size, .int .i64 h.idx, .int .i64 h.ep, .int .i64 h.ct, .slice A' CL.length c'] rfl rfl rfl rfl rfl ?_; clear c17 c18 c19; have SNHF := HF; have SNHA := HA; have SNHA2 := HA2; have SNHZ1 := HZ1; have SNHR1 := HR1; have SNHOO1 := HOO1; have SNHZ4 := HZ4; have HB56 := Lib.hid ((Below.refl w4.heap.size w4).alloc (Nat.le_refl _) (.cells #[.int .u8 h.s0, .int .u8 h.s1, .int .u8 h.s2, .int .u8 h.s3, .int .u8 h.s4, .int .u8 h.s5, .int .u8 h.s6, .int .u8 h.s7, .int .i64 h.K, .int .i64 h.M, .int .i64 h.B, .string h.key, .int .i64 h.size, .int .i64 h.idx, .int .i64 h.ep, .int .i64 h.ct, .slice A' CL.length c'] 46)); have hbn := (Below.refl w4.heap.size w4).alloc (Nat.le_refl _) (.cells #[.int .u8 h.s0, .int .u8 h.s1, .int .u8 h.s2, .int .u8 h.s3, .int .u8 h.s4, .int .u8 h.s5, .int .u8 h.s6, .int .u8 h.s7, .int .i64 h.K, .int .i64 h.M, .int .i64 h.B, .string h.key, .int .i64 h.size, .int .i64 h.idx, .int .i64 h.ep, .int .i64 h.ct, .slice A' CL.length c'] 46); replace HF := Lib.hid (HF.out.trans (hbn.mono HF.out.size)); replace HA := Lib.hid (RLL.below HA.out hbn); replace HA2 := Lib.hid (RLL.below HA2.out hbn); replace HZ1 := Lib.hid ((hbn.block _ (Array.getElem?_eq_some_iff.1 HZ1.out).1).trans HZ1.out); replace HR1 := Lib.hid (RLL.below HR1.out hbn); replace HOO1 := Lib.hid (HOO1.out.kept hbn); replace HZ4 := Lib.hid ((hbn.block _ (Array.getElem?_eq_some_iff.1 HZ4.out).1).trans HZ4.out); have HZ6 := Lib.hid (heap_alloc_new w4 (.cells #[.int .u8 h.s0, .int .u8 h.s1, .int .u8 h.s2, .int .u8 h.s3, .int .u8 h.s4, .int .u8 h.s5, .int .u8 h.s6, .int .u8 h.s7, .int .i64 h.K, .int .i64 h.M, .int .i64 h.B, .string h.key, .int .i64 h.size, .int .i64 h.idx, .int .i64 h.ep, .int .i64 h.ct, .slice A' CL.length c'] 46)); clear hbn; generalize w4.alloc (.cells #[.int .u8 h.s0, .int .u8 h.s1, .int .u8 h.s2, .int .u8 h.s3, .int .u8 h.s4, .int .u8 h.s5, .int .u8 h.s6, .int .u8 h.s7, .int .i64 h.K, .int .i64 h.M, .int .i64 h.B, .string h.key, .int .i64 h.size, .int .i64 h.idx, .int .i64 h.ep, .int .i64 h.ct, .slice A' CL.length c'] 46) = w5 at *; have c18 : w5.cell? ⟨bHZ1, 18, none⟩ = some (.int .i64 WH) := (by simp [World.cell?, HZ1.out]); have c19 : w5.cell? ⟨bHZ1, 19, none⟩ = some (.int .i64 BY) := (by simp [World.cell?, HZ1.out])) | (refine wpList_loadFirst rfl 28 (.tmp 32) rfl bHZ1 rfl #[.int .u8 h.s0, .int .u8 h.s1, .int .u8 h.s2, .int .u8 h.s3, .int .u8 h.s4, .int .u8 h.s5, .int .u8 h.s6, .int .u8 h.s7, .int .i64 h.K, .int .i64 h.M, .int .i64 h.B, .string h.key, .int .i64 h.size, .int .i64 h.idx, .int .i64 h.ep, .int .i64 h.ct] #[.int .u8 h.s0, .int .u8 h.s1, .int .u8 h.s2, .int .u8 h.s3, .int .u8 h.s4, .int .u8 h.s5, .int .u8 h.s6, .int .u8 h.s7, .int .i64 h.K, .int .i64 h.M, .int .i64 h.B, .string h.key, .int .i64 h.size, .int .i64 h.idx, .int .i64 h.ep, .int .i64 h.ct, .slice A BL.length c, .slice A' CL.length c', .int .i64 WH, .int .i64 BY, .int .i64 J] 75 _ rfl HZ1.out Try.underlying28 rfl info_H ?_))
  obtain ⟨_, _, _, _, _, _, _, _, _, q9, _, _, _, q13, q14, q15, _⟩ := cells_ofS HZ6.out
  have fz : ∀ i, w5.frozen? ⟨w4.heap.size, i, none⟩ = false := fun i => by simp [World.frozen?, HZ6.out]
  try simp only [Act.put, List.setIfInBounds_toArray, List.set_cons_zero, List.set_cons_succ]
  go_cut [] from 20 (fun wx => ∃ g : Hd, fore h g ∧ HdW g ∧ Hid (wx.heap[w4.heap.size]? = some (.cells #[.int .u8 g.s0, .int .u8 g.s1, .int .u8 g.s2, .int .u8 g.s3, .int .u8 g.s4, .int .u8 g.s5, .int .u8 g.s6, .int .u8 g.s7, .int .i64 g.K, .int .i64 g.M, .int .i64 g.B, .string g.key, .int .i64 g.size, .int .i64 g.idx, .int .i64 g.ep, .int .i64 g.ct, .slice A' CL.length c'] 46 (0, 0))) ∧ Hid (w5.grownBy wx (some (w4.heap.size))))
  case first =>
    by_cases e0 : WH = 0
    · have e0b : (WH == 0) = true := by simp [e0]
      go_wp2_with fail
      go_meet
      exact ⟨{ h with M := BY }, ⟨BY, .inl rfl⟩, (fore_wf HW.out BY hby).1, Lib.hid (by simp [World.setCell, HZ6.out, Array.getElem?_modify]), Lib.hid (far_grown _)⟩
    have e0b : (WH == 0) = false := by simp [e0]
    by_cases e1 : WH = 1
    · have e1b : (WH == 1) = true := by simp [e1]
      go_wp2_with fail
      go_meet
      exact ⟨{ h with idx := BY }, ⟨BY, .inr (.inl rfl)⟩, (fore_wf HW.out BY hby).2.1, Lib.hid (by simp [World.setCell, HZ6.out, Array.getElem?_modify]), Lib.hid (far_grown _)⟩
    have e1b : (WH == 1) = false := by simp [e1]
    by_cases e2 : WH = 2
    · have e2b : (WH == 2) = true := by simp [e2]
      go_wp2_with fail
      go_meet
      exact ⟨{ h with ep := BY }, ⟨BY, .inr (.inr (.inl rfl))⟩, (fore_wf HW.out BY hby).2.2.1, Lib.hid (by simp [World.setCell, HZ6.out, Array.getElem?_modify]), Lib.hid (far_grown _)⟩
    · have e2b : (WH == 2) = false := by simp [e2]
      go_wp2_with fail
      go_meet
      exact ⟨{ h with ct := BY }, ⟨BY, .inr (.inr (.inr rfl))⟩, (fore_wf HW.out BY hby).2.2.2, Lib.hid (by simp [World.setCell, HZ6.out, Array.getElem?_modify]), Lib.hid (far_grown _)⟩
  case rest =>
  clear q9 q13 q14 q15 fz c18 c19 HZ6
  rename Exit → Act → World → Prop => Qz
  have hQz : Qz = bodyPost Try.prog Try.f7 (fun e w' => e = Ending.returned (Value.bool true) ∧ Below w.heap.size w w') := rfl
  clear_value Qz
  have HQY := Lib.hid hQz
  clear hQz
  obtain ⟨g, hFo, gW, hz, hg⟩ := hcut
  have hb := Below.trans_row HB56.out hg.out (Nat.le_refl _) (by have := HB56.out.size; omega)
  replace HF := Lib.hid (SNHF.out.trans (hb.mono SNHF.out.size))
  replace HA := Lib.hid (RLL.below SNHA.out hb)
  replace HA2 := Lib.hid (RLL.below SNHA2.out hb)
  replace HZ1 := Lib.hid ((hb.block _ (Array.getElem?_eq_some_iff.1 SNHZ1.out).1).trans SNHZ1.out)
  replace HR1 := Lib.hid (RLL.below SNHR1.out hb)
  replace HOO1 := Lib.hid (SNHOO1.out.kept hb)
  replace HZ4 := Lib.hid ((hb.block _ (Array.getElem?_eq_some_iff.1 SNHZ4.out).1).trans SNHZ4.out)
  clear SNHF SNHA SNHA2 SNHZ1 SNHR1 SNHOO1 SNHZ4
  have HZ6 := hz
  have HFO := Lib.hid hFo; have GW := Lib.hid gW
  have HGB := Lib.hid (fore_bytes hFo HBD.out)
  clear hz hg hFo gW hb HB56
  go_wp2_with (refine wpList_loadS rfl (.tmp 6) rfl (w4.heap.size) rfl #[.int .u8 g.s0, .int .u8 g.s1, .int .u8 g.s2, .int .u8 g.s3, .int .u8 g.s4, .int .u8 g.s5, .int .u8 g.s6, .int .u8 g.s7, .int .i64 g.K, .int .i64 g.M, .int .i64 g.B, .string g.key, .int .i64 g.size, .int .i64 g.idx, .int .i64 g.ep, .int .i64 g.ct, .slice A' CL.length c'] rfl HZ6.out ?_)
  refine (fit_any g A' c' CL _ hm HLM.out HA2.out).mono ?_
  rintro e w6 ⟨F2, n2, d2, rfl, hO, hb⟩
  replace HF := Lib.hid (HF.out.trans (hb.mono HF.out.size))
  replace HA := Lib.hid (RLL.below HA.out hb)
  replace HA2 := Lib.hid (RLL.below HA2.out hb)
  replace HZ1 := Lib.hid ((hb.block _ (Array.getElem?_eq_some_iff.1 HZ1.out).1).trans HZ1.out)
  replace HR1 := Lib.hid (RLL.below HR1.out hb)
  replace HOO1 := Lib.hid (HOO1.out.kept hb)
  replace HZ4 := Lib.hid ((hb.block _ (Array.getElem?_eq_some_iff.1 HZ4.out).1).trans HZ4.out)
  replace HZ6 := Lib.hid ((hb.block _ (Array.getElem?_eq_some_iff.1 HZ6.out).1).trans HZ6.out)
  have HO2 := Lib.hid hO
  have hsz2 := hb.size
  obtain ⟨q2, hq⟩ : ∃ q, q = decide (checkE g = 0) := ⟨_, rfl⟩
  rw [← hq]
  have HQ2 := Lib.hid hq
  clear hq hO
  clear hb
  by_cases hqt : q2 = false
  · subst hqt
    go_wp2_with (refine wpList_storeNewS rfl (.tmp 7) (.tmp 67) rfl #[.int .u8 g.s0, .int .u8 g.s1, .int .u8 g.s2, .int .u8 g.s3, .int .u8 g.s4, .int .u8 g.s5, .int .u8 g.s6, .int .u8 g.s7, .int .i64 g.K, .int .i64 g.M, .int .i64 g.B, .string g.key, .int .i64 g.size, .int .i64 g.idx, .int .i64 g.ep, .int .i64 g.ct, .slice F2 n2 d2] rfl rfl rfl rfl rfl ?_; have hbn := (Below.refl w6.heap.size w6).alloc (Nat.le_refl _) (.cells #[.int .u8 g.s0, .int .u8 g.s1, .int .u8 g.s2, .int .u8 g.s3, .int .u8 g.s4, .int .u8 g.s5, .int .u8 g.s6, .int .u8 g.s7, .int .i64 g.K, .int .i64 g.M, .int .i64 g.B, .string g.key, .int .i64 g.size, .int .i64 g.idx, .int .i64 g.ep, .int .i64 g.ct, .slice F2 n2 d2] 46); replace HF := Lib.hid (HF.out.trans (hbn.mono HF.out.size)); replace HA := Lib.hid (RLL.below HA.out hbn); replace HA2 := Lib.hid (RLL.below HA2.out hbn); replace HZ1 := Lib.hid ((hbn.block _ (Array.getElem?_eq_some_iff.1 HZ1.out).1).trans HZ1.out); replace HR1 := Lib.hid (RLL.below HR1.out hbn); replace HOO1 := Lib.hid (HOO1.out.kept hbn); replace HZ4 := Lib.hid ((hbn.block _ (Array.getElem?_eq_some_iff.1 HZ4.out).1).trans HZ4.out); replace HZ6 := Lib.hid ((hbn.block _ (Array.getElem?_eq_some_iff.1 HZ6.out).1).trans HZ6.out); replace HO2 := Lib.hid ((fun z => (HO2.out z).kept hbn)); have HZ7 := Lib.hid (heap_alloc_new w6 (.cells #[.int .u8 g.s0, .int .u8 g.s1, .int .u8 g.s2, .int .u8 g.s3, .int .u8 g.s4, .int .u8 g.s5, .int .u8 g.s6, .int .u8 g.s7, .int .i64 g.K, .int .i64 g.M, .int .i64 g.B, .string g.key, .int .i64 g.size, .int .i64 g.idx, .int .i64 g.ep, .int .i64 g.ct, .slice F2 n2 d2] 46)); clear hbn; generalize w6.alloc (.cells #[.int .u8 g.s0, .int .u8 g.s1, .int .u8 g.s2, .int .u8 g.s3, .int .u8 g.s4, .int .u8 g.s5, .int .u8 g.s6, .int .u8 g.s7, .int .i64 g.K, .int .i64 g.M, .int .i64 g.B, .string g.key, .int .i64 g.size, .int .i64 g.idx, .int .i64 g.ep, .int .i64 g.ct, .slice F2 n2 d2] 46) = w7 at *; have c20 : w7.cell? ⟨bHZ1, 20, none⟩ = some (.int .i64 J) := (by simp [World.cell?, HZ1.out]))
    rw [HQY.out]
    go_ret
    exact ⟨rfl, HF.out⟩
  obtain rfl : q2 = true := eq_true_of_ne_false hqt
  clear hqt
  have HE2 := Lib.hid (of_decide_eq_true HQ2.out.symm)
  have hO := HO2.out HE2.out
  obtain ⟨FL2, hFL⟩ : ∃ FL, FL = fitL g CL := ⟨_, rfl⟩
  rw [← hFL] at hO
  have HFF2 := Lib.hid (show fitsB g FL2 from hFL ▸ fitL_fits g CL)
  have HX2 := Lib.hid (show ∀ l ∈ FL2, ∀ x ∈ l, x < 256 from hFL ▸ fitL_lt (h := g) HCL.out)
  obtain ⟨Ax, cx, ev, _, hr⟩ := hO.ll.rd
  injection ev with e1 e2 e3
  subst e1 e2 e3
  have HR2 := Lib.hid hr
  have HOO2 := Lib.hid hO
  have hfl := fits_len HE2.out HFF2.out
  have HM2 := Lib.hid (show FL2.length ≤ 140737488351232 ∧ (∀ l ∈ FL2, l.length ≤ 140737488351232) from ⟨Nat.le_trans hfl.1 (by decide), fun l hl => Nat.le_trans (hfl.2 l hl) (by decide)⟩)
  have hm2 : FL2.length ≤ 4096 := hfl.1
  clear hO hr hfl hFL HO2 HQ2
  by_cases hgh : g = h
  · have hEQ := fun w' => (head_eq GW.out HW.out w').trans (by rw [(hdEq_iff g h).2 hgh])
    clear hgh
    go_wp2_with (first | (refine wpList_storeNewS rfl (.tmp 7) (.tmp 67) rfl #[.int .u8 g.s0, .int .u8 g.s1, .int .u8 g.s2, .int .u8 g.s3, .int .u8 g.s4, .int .u8 g.s5, .int .u8 g.s6, .int .u8 g.s7, .int .i64 g.K, .int .i64 g.M, .int .i64 g.B, .string g.key, .int .i64 g.size, .int .i64 g.idx, .int .i64 g.ep, .int .i64 g.ct, .slice F2 FL2.length d2] rfl rfl rfl rfl rfl ?_; have hbn := (Below.refl w6.heap.size w6).alloc (Nat.le_refl _) (.cells #[.int .u8 g.s0, .int .u8 g.s1, .int .u8 g.s2, .int .u8 g.s3, .int .u8 g.s4, .int .u8 g.s5, .int .u8 g.s6, .int .u8 g.s7, .int .i64 g.K, .int .i64 g.M, .int .i64 g.B, .string g.key, .int .i64 g.size, .int .i64 g.idx, .int .i64 g.ep, .int .i64 g.ct, .slice F2 FL2.length d2] 46); replace HF := Lib.hid (HF.out.trans (hbn.mono HF.out.size)); replace HA := Lib.hid (RLL.below HA.out hbn); replace HA2 := Lib.hid (RLL.below HA2.out hbn); replace HZ1 := Lib.hid ((hbn.block _ (Array.getElem?_eq_some_iff.1 HZ1.out).1).trans HZ1.out); replace HR1 := Lib.hid (RLL.below HR1.out hbn); replace HOO1 := Lib.hid (HOO1.out.kept hbn); replace HZ4 := Lib.hid ((hbn.block _ (Array.getElem?_eq_some_iff.1 HZ4.out).1).trans HZ4.out); replace HZ6 := Lib.hid ((hbn.block _ (Array.getElem?_eq_some_iff.1 HZ6.out).1).trans HZ6.out); replace HR2 := Lib.hid (RLL.below HR2.out hbn); replace HOO2 := Lib.hid (HOO2.out.kept hbn); have HZ7 := Lib.hid (heap_alloc_new w6 (.cells #[.int .u8 g.s0, .int .u8 g.s1, .int .u8 g.s2, .int .u8 g.s3, .int .u8 g.s4, .int .u8 g.s5, .int .u8 g.s6, .int .u8 g.s7, .int .i64 g.K, .int .i64 g.M, .int .i64 g.B, .string g.key, .int .i64 g.size, .int .i64 g.idx, .int .i64 g.ep, .int .i64 g.ct, .slice F2 FL2.length d2] 46)); clear hbn; generalize w6.alloc (.cells #[.int .u8 g.s0, .int .u8 g.s1, .int .u8 g.s2, .int .u8 g.s3, .int .u8 g.s4, .int .u8 g.s5, .int .u8 g.s6, .int .u8 g.s7, .int .i64 g.K, .int .i64 g.M, .int .i64 g.B, .string g.key, .int .i64 g.size, .int .i64 g.idx, .int .i64 g.ep, .int .i64 g.ct, .slice F2 FL2.length d2] 46) = w7 at *; have c20 : w7.cell? ⟨bHZ1, 20, none⟩ = some (.int .i64 J) := (by simp [World.cell?, HZ1.out]); obtain ⟨_, _, _, _, _, _, _, _, _, _, _, _, _, _, _, _, c16⟩ := cells_ofS HZ4.out) | (refine wpList_bare rfl rfl rfl rfl ?_; refine wpList_loadFirst rfl 28 (.tmp 74) rfl (w6.heap.size) rfl #[.int .u8 g.s0, .int .u8 g.s1, .int .u8 g.s2, .int .u8 g.s3, .int .u8 g.s4, .int .u8 g.s5, .int .u8 g.s6, .int .u8 g.s7, .int .i64 g.K, .int .i64 g.M, .int .i64 g.B, .string g.key, .int .i64 g.size, .int .i64 g.idx, .int .i64 g.ep, .int .i64 g.ct] #[.int .u8 g.s0, .int .u8 g.s1, .int .u8 g.s2, .int .u8 g.s3, .int .u8 g.s4, .int .u8 g.s5, .int .u8 g.s6, .int .u8 g.s7, .int .i64 g.K, .int .i64 g.M, .int .i64 g.B, .string g.key, .int .i64 g.size, .int .i64 g.idx, .int .i64 g.ep, .int .i64 g.ct, .slice F2 FL2.length d2] 46 _ rfl HZ7.out Try.underlying28 rfl info_H ?_) | (refine wpList_bare rfl rfl rfl rfl ?_; refine wpList_loadFirst rfl 28 (.tmp 76) rfl (w3.heap.size) rfl #[.int .u8 h.s0, .int .u8 h.s1, .int .u8 h.s2, .int .u8 h.s3, .int .u8 h.s4, .int .u8 h.s5, .int .u8 h.s6, .int .u8 h.s7, .int .i64 h.K, .int .i64 h.M, .int .i64 h.B, .string h.key, .int .i64 h.size, .int .i64 h.idx, .int .i64 h.ep, .int .i64 h.ct] #[.int .u8 h.s0, .int .u8 h.s1, .int .u8 h.s2, .int .u8 h.s3, .int .u8 h.s4, .int .u8 h.s5, .int .u8 h.s6, .int .u8 h.s7, .int .i64 h.K, .int .i64 h.M, .int .i64 h.B, .string h.key, .int .i64 h.size, .int .i64 h.idx, .int .i64 h.ep, .int .i64 h.ct, .slice F1 FL1.length d1] 46 _ rfl HZ4.out Try.underlying28 rfl info_H ?_) | (refine wpList_bare rfl rfl rfl rfl ?_; refine wpList_eqlAgg rfl 28 (.tmp 75) (.tmp 77) rfl #[.int .u8 g.s0, .int .u8 g.s1, .int .u8 g.s2, .int .u8 g.s3, .int .u8 g.s4, .int .u8 g.s5, .int .u8 g.s6, .int .u8 g.s7, .int .i64 g.K, .int .i64 g.M, .int .i64 g.B, .string g.key, .int .i64 g.size, .int .i64 g.idx, .int .i64 g.ep, .int .i64 g.ct] #[.int .u8 h.s0, .int .u8 h.s1, .int .u8 h.s2, .int .u8 h.s3, .int .u8 h.s4, .int .u8 h.s5, .int .u8 h.s6, .int .u8 h.s7, .int .i64 h.K, .int .i64 h.M, .int .i64 h.B, .string h.key, .int .i64 h.size, .int .i64 h.idx, .int .i64 h.ep, .int .i64 h.ct] rfl rfl guard_H true (hEQ _) ?_))
    rw [HQY.out]
    go_ret
    exact ⟨rfl, HF.out⟩
  have hEQ := fun w' => (head_eq GW.out HW.out w').trans (by rw [show hdEq g h = false by cases e : hdEq g h; rfl; exact absurd ((hdEq_iff g h).1 e) hgh])
  by_cases j1 : J < 0
  · skip
    go_wp2_with (first | (refine wpList_storeNewS rfl (.tmp 7) (.tmp 67) rfl #[.int .u8 g.s0, .int .u8 g.s1, .int .u8 g.s2, .int .u8 g.s3, .int .u8 g.s4, .int .u8 g.s5, .int .u8 g.s6, .int .u8 g.s7, .int .i64 g.K, .int .i64 g.M, .int .i64 g.B, .string g.key, .int .i64 g.size, .int .i64 g.idx, .int .i64 g.ep, .int .i64 g.ct, .slice F2 FL2.length d2] rfl rfl rfl rfl rfl ?_; have hbn := (Below.refl w6.heap.size w6).alloc (Nat.le_refl _) (.cells #[.int .u8 g.s0, .int .u8 g.s1, .int .u8 g.s2, .int .u8 g.s3, .int .u8 g.s4, .int .u8 g.s5, .int .u8 g.s6, .int .u8 g.s7, .int .i64 g.K, .int .i64 g.M, .int .i64 g.B, .string g.key, .int .i64 g.size, .int .i64 g.idx, .int .i64 g.ep, .int .i64 g.ct, .slice F2 FL2.length d2] 46); replace HF := Lib.hid (HF.out.trans (hbn.mono HF.out.size)); replace HA := Lib.hid (RLL.below HA.out hbn); replace HA2 := Lib.hid (RLL.below HA2.out hbn); replace HZ1 := Lib.hid ((hbn.block _ (Array.getElem?_eq_some_iff.1 HZ1.out).1).trans HZ1.out); replace HR1 := Lib.hid (RLL.below HR1.out hbn); replace HOO1 := Lib.hid (HOO1.out.kept hbn); replace HZ4 := Lib.hid ((hbn.block _ (Array.getElem?_eq_some_iff.1 HZ4.out).1).trans HZ4.out); replace HZ6 := Lib.hid ((hbn.block _ (Array.getElem?_eq_some_iff.1 HZ6.out).1).trans HZ6.out); replace HR2 := Lib.hid (RLL.below HR2.out hbn); replace HOO2 := Lib.hid (HOO2.out.kept hbn); have HZ7 := Lib.hid (heap_alloc_new w6 (.cells #[.int .u8 g.s0, .int .u8 g.s1, .int .u8 g.s2, .int .u8 g.s3, .int .u8 g.s4, .int .u8 g.s5, .int .u8 g.s6, .int .u8 g.s7, .int .i64 g.K, .int .i64 g.M, .int .i64 g.B, .string g.key, .int .i64 g.size, .int .i64 g.idx, .int .i64 g.ep, .int .i64 g.ct, .slice F2 FL2.length d2] 46)); clear hbn; generalize w6.alloc (.cells #[.int .u8 g.s0, .int .u8 g.s1, .int .u8 g.s2, .int .u8 g.s3, .int .u8 g.s4, .int .u8 g.s5, .int .u8 g.s6, .int .u8 g.s7, .int .i64 g.K, .int .i64 g.M, .int .i64 g.B, .string g.key, .int .i64 g.size, .int .i64 g.idx, .int .i64 g.ep, .int .i64 g.ct, .slice F2 FL2.length d2] 46) = w7 at *; have c20 : w7.cell? ⟨bHZ1, 20, none⟩ = some (.int .i64 J) := (by simp [World.cell?, HZ1.out]); obtain ⟨_, _, _, _, _, _, _, _, _, _, _, _, _, _, _, _, c16⟩ := cells_ofS HZ4.out) | (refine wpList_bare rfl rfl rfl rfl ?_; refine wpList_loadFirst rfl 28 (.tmp 74) rfl (w6.heap.size) rfl #[.int .u8 g.s0, .int .u8 g.s1, .int .u8 g.s2, .int .u8 g.s3, .int .u8 g.s4, .int .u8 g.s5, .int .u8 g.s6, .int .u8 g.s7, .int .i64 g.K, .int .i64 g.M, .int .i64 g.B, .string g.key, .int .i64 g.size, .int .i64 g.idx, .int .i64 g.ep, .int .i64 g.ct] #[.int .u8 g.s0, .int .u8 g.s1, .int .u8 g.s2, .int .u8 g.s3, .int .u8 g.s4, .int .u8 g.s5, .int .u8 g.s6, .int .u8 g.s7, .int .i64 g.K, .int .i64 g.M, .int .i64 g.B, .string g.key, .int .i64 g.size, .int .i64 g.idx, .int .i64 g.ep, .int .i64 g.ct, .slice F2 FL2.length d2] 46 _ rfl HZ7.out Try.underlying28 rfl info_H ?_) | (refine wpList_bare rfl rfl rfl rfl ?_; refine wpList_loadFirst rfl 28 (.tmp 76) rfl (w3.heap.size) rfl #[.int .u8 h.s0, .int .u8 h.s1, .int .u8 h.s2, .int .u8 h.s3, .int .u8 h.s4, .int .u8 h.s5, .int .u8 h.s6, .int .u8 h.s7, .int .i64 h.K, .int .i64 h.M, .int .i64 h.B, .string h.key, .int .i64 h.size, .int .i64 h.idx, .int .i64 h.ep, .int .i64 h.ct] #[.int .u8 h.s0, .int .u8 h.s1, .int .u8 h.s2, .int .u8 h.s3, .int .u8 h.s4, .int .u8 h.s5, .int .u8 h.s6, .int .u8 h.s7, .int .i64 h.K, .int .i64 h.M, .int .i64 h.B, .string h.key, .int .i64 h.size, .int .i64 h.idx, .int .i64 h.ep, .int .i64 h.ct, .slice F1 FL1.length d1] 46 _ rfl HZ4.out Try.underlying28 rfl info_H ?_) | (refine wpList_bare rfl rfl rfl rfl ?_; refine wpList_eqlAgg rfl 28 (.tmp 75) (.tmp 77) rfl #[.int .u8 g.s0, .int .u8 g.s1, .int .u8 g.s2, .int .u8 g.s3, .int .u8 g.s4, .int .u8 g.s5, .int .u8 g.s6, .int .u8 g.s7, .int .i64 g.K, .int .i64 g.M, .int .i64 g.B, .string g.key, .int .i64 g.size, .int .i64 g.idx, .int .i64 g.ep, .int .i64 g.ct] #[.int .u8 h.s0, .int .u8 h.s1, .int .u8 h.s2, .int .u8 h.s3, .int .u8 h.s4, .int .u8 h.s5, .int .u8 h.s6, .int .u8 h.s7, .int .i64 h.K, .int .i64 h.M, .int .i64 h.B, .string h.key, .int .i64 h.size, .int .i64 h.idx, .int .i64 h.ep, .int .i64 h.ct] rfl rfl guard_H false (hEQ _) ?_))
    rw [HQY.out]
    go_ret
    exact ⟨rfl, HF.out⟩
  by_cases j2 : (FL1.length : Int) ≤ J
  · skip
    go_wp2_with (first | (refine wpList_storeNewS rfl (.tmp 7) (.tmp 67) rfl #[.int .u8 g.s0, .int .u8 g.s1, .int .u8 g.s2, .int .u8 g.s3, .int .u8 g.s4, .int .u8 g.s5, .int .u8 g.s6, .int .u8 g.s7, .int .i64 g.K, .int .i64 g.M, .int .i64 g.B, .string g.key, .int .i64 g.size, .int .i64 g.idx, .int .i64 g.ep, .int .i64 g.ct, .slice F2 FL2.length d2] rfl rfl rfl rfl rfl ?_; have hbn := (Below.refl w6.heap.size w6).alloc (Nat.le_refl _) (.cells #[.int .u8 g.s0, .int .u8 g.s1, .int .u8 g.s2, .int .u8 g.s3, .int .u8 g.s4, .int .u8 g.s5, .int .u8 g.s6, .int .u8 g.s7, .int .i64 g.K, .int .i64 g.M, .int .i64 g.B, .string g.key, .int .i64 g.size, .int .i64 g.idx, .int .i64 g.ep, .int .i64 g.ct, .slice F2 FL2.length d2] 46); replace HF := Lib.hid (HF.out.trans (hbn.mono HF.out.size)); replace HA := Lib.hid (RLL.below HA.out hbn); replace HA2 := Lib.hid (RLL.below HA2.out hbn); replace HZ1 := Lib.hid ((hbn.block _ (Array.getElem?_eq_some_iff.1 HZ1.out).1).trans HZ1.out); replace HR1 := Lib.hid (RLL.below HR1.out hbn); replace HOO1 := Lib.hid (HOO1.out.kept hbn); replace HZ4 := Lib.hid ((hbn.block _ (Array.getElem?_eq_some_iff.1 HZ4.out).1).trans HZ4.out); replace HZ6 := Lib.hid ((hbn.block _ (Array.getElem?_eq_some_iff.1 HZ6.out).1).trans HZ6.out); replace HR2 := Lib.hid (RLL.below HR2.out hbn); replace HOO2 := Lib.hid (HOO2.out.kept hbn); have HZ7 := Lib.hid (heap_alloc_new w6 (.cells #[.int .u8 g.s0, .int .u8 g.s1, .int .u8 g.s2, .int .u8 g.s3, .int .u8 g.s4, .int .u8 g.s5, .int .u8 g.s6, .int .u8 g.s7, .int .i64 g.K, .int .i64 g.M, .int .i64 g.B, .string g.key, .int .i64 g.size, .int .i64 g.idx, .int .i64 g.ep, .int .i64 g.ct, .slice F2 FL2.length d2] 46)); clear hbn; generalize w6.alloc (.cells #[.int .u8 g.s0, .int .u8 g.s1, .int .u8 g.s2, .int .u8 g.s3, .int .u8 g.s4, .int .u8 g.s5, .int .u8 g.s6, .int .u8 g.s7, .int .i64 g.K, .int .i64 g.M, .int .i64 g.B, .string g.key, .int .i64 g.size, .int .i64 g.idx, .int .i64 g.ep, .int .i64 g.ct, .slice F2 FL2.length d2] 46) = w7 at *; have c20 : w7.cell? ⟨bHZ1, 20, none⟩ = some (.int .i64 J) := (by simp [World.cell?, HZ1.out]); obtain ⟨_, _, _, _, _, _, _, _, _, _, _, _, _, _, _, _, c16⟩ := cells_ofS HZ4.out) | (refine wpList_bare rfl rfl rfl rfl ?_; refine wpList_loadFirst rfl 28 (.tmp 74) rfl (w6.heap.size) rfl #[.int .u8 g.s0, .int .u8 g.s1, .int .u8 g.s2, .int .u8 g.s3, .int .u8 g.s4, .int .u8 g.s5, .int .u8 g.s6, .int .u8 g.s7, .int .i64 g.K, .int .i64 g.M, .int .i64 g.B, .string g.key, .int .i64 g.size, .int .i64 g.idx, .int .i64 g.ep, .int .i64 g.ct] #[.int .u8 g.s0, .int .u8 g.s1, .int .u8 g.s2, .int .u8 g.s3, .int .u8 g.s4, .int .u8 g.s5, .int .u8 g.s6, .int .u8 g.s7, .int .i64 g.K, .int .i64 g.M, .int .i64 g.B, .string g.key, .int .i64 g.size, .int .i64 g.idx, .int .i64 g.ep, .int .i64 g.ct, .slice F2 FL2.length d2] 46 _ rfl HZ7.out Try.underlying28 rfl info_H ?_) | (refine wpList_bare rfl rfl rfl rfl ?_; refine wpList_loadFirst rfl 28 (.tmp 76) rfl (w3.heap.size) rfl #[.int .u8 h.s0, .int .u8 h.s1, .int .u8 h.s2, .int .u8 h.s3, .int .u8 h.s4, .int .u8 h.s5, .int .u8 h.s6, .int .u8 h.s7, .int .i64 h.K, .int .i64 h.M, .int .i64 h.B, .string h.key, .int .i64 h.size, .int .i64 h.idx, .int .i64 h.ep, .int .i64 h.ct] #[.int .u8 h.s0, .int .u8 h.s1, .int .u8 h.s2, .int .u8 h.s3, .int .u8 h.s4, .int .u8 h.s5, .int .u8 h.s6, .int .u8 h.s7, .int .i64 h.K, .int .i64 h.M, .int .i64 h.B, .string h.key, .int .i64 h.size, .int .i64 h.idx, .int .i64 h.ep, .int .i64 h.ct, .slice F1 FL1.length d1] 46 _ rfl HZ4.out Try.underlying28 rfl info_H ?_) | (refine wpList_bare rfl rfl rfl rfl ?_; refine wpList_eqlAgg rfl 28 (.tmp 75) (.tmp 77) rfl #[.int .u8 g.s0, .int .u8 g.s1, .int .u8 g.s2, .int .u8 g.s3, .int .u8 g.s4, .int .u8 g.s5, .int .u8 g.s6, .int .u8 g.s7, .int .i64 g.K, .int .i64 g.M, .int .i64 g.B, .string g.key, .int .i64 g.size, .int .i64 g.idx, .int .i64 g.ep, .int .i64 g.ct] #[.int .u8 h.s0, .int .u8 h.s1, .int .u8 h.s2, .int .u8 h.s3, .int .u8 h.s4, .int .u8 h.s5, .int .u8 h.s6, .int .u8 h.s7, .int .i64 h.K, .int .i64 h.M, .int .i64 h.B, .string h.key, .int .i64 h.size, .int .i64 h.idx, .int .i64 h.ep, .int .i64 h.ct] rfl rfl guard_H false (hEQ _) ?_))
    rw [HQY.out]
    go_ret
    exact ⟨rfl, HF.out⟩
  obtain ⟨j, rfl⟩ : ∃ j : Nat, J = (j : Int) := ⟨J.toNat, by omega⟩
  have hj : j < FL1.length := by omega
  have ddA : decide (FL1.length ≤ j) = false := decide_eq_false (by omega)
  go_wp2_with (first | (refine wpList_storeNewS rfl (.tmp 7) (.tmp 67) rfl #[.int .u8 g.s0, .int .u8 g.s1, .int .u8 g.s2, .int .u8 g.s3, .int .u8 g.s4, .int .u8 g.s5, .int .u8 g.s6, .int .u8 g.s7, .int .i64 g.K, .int .i64 g.M, .int .i64 g.B, .string g.key, .int .i64 g.size, .int .i64 g.idx, .int .i64 g.ep, .int .i64 g.ct, .slice F2 FL2.length d2] rfl rfl rfl rfl rfl ?_; have hbn := (Below.refl w6.heap.size w6).alloc (Nat.le_refl _) (.cells #[.int .u8 g.s0, .int .u8 g.s1, .int .u8 g.s2, .int .u8 g.s3, .int .u8 g.s4, .int .u8 g.s5, .int .u8 g.s6, .int .u8 g.s7, .int .i64 g.K, .int .i64 g.M, .int .i64 g.B, .string g.key, .int .i64 g.size, .int .i64 g.idx, .int .i64 g.ep, .int .i64 g.ct, .slice F2 FL2.length d2] 46); replace HF := Lib.hid (HF.out.trans (hbn.mono HF.out.size)); replace HA := Lib.hid (RLL.below HA.out hbn); replace HA2 := Lib.hid (RLL.below HA2.out hbn); replace HZ1 := Lib.hid ((hbn.block _ (Array.getElem?_eq_some_iff.1 HZ1.out).1).trans HZ1.out); replace HR1 := Lib.hid (RLL.below HR1.out hbn); replace HOO1 := Lib.hid (HOO1.out.kept hbn); replace HZ4 := Lib.hid ((hbn.block _ (Array.getElem?_eq_some_iff.1 HZ4.out).1).trans HZ4.out); replace HZ6 := Lib.hid ((hbn.block _ (Array.getElem?_eq_some_iff.1 HZ6.out).1).trans HZ6.out); replace HR2 := Lib.hid (RLL.below HR2.out hbn); replace HOO2 := Lib.hid (HOO2.out.kept hbn); have HZ7 := Lib.hid (heap_alloc_new w6 (.cells #[.int .u8 g.s0, .int .u8 g.s1, .int .u8 g.s2, .int .u8 g.s3, .int .u8 g.s4, .int .u8 g.s5, .int .u8 g.s6, .int .u8 g.s7, .int .i64 g.K, .int .i64 g.M, .int .i64 g.B, .string g.key, .int .i64 g.size, .int .i64 g.idx, .int .i64 g.ep, .int .i64 g.ct, .slice F2 FL2.length d2] 46)); clear hbn; generalize w6.alloc (.cells #[.int .u8 g.s0, .int .u8 g.s1, .int .u8 g.s2, .int .u8 g.s3, .int .u8 g.s4, .int .u8 g.s5, .int .u8 g.s6, .int .u8 g.s7, .int .i64 g.K, .int .i64 g.M, .int .i64 g.B, .string g.key, .int .i64 g.size, .int .i64 g.idx, .int .i64 g.ep, .int .i64 g.ct, .slice F2 FL2.length d2] 46) = w7 at *; have c20 : w7.cell? ⟨bHZ1, 20, none⟩ = some (.int .i64 (j : Int)) := (by simp [World.cell?, HZ1.out]); obtain ⟨_, _, _, _, _, _, _, _, _, _, _, _, _, _, _, _, c16⟩ := cells_ofS HZ4.out) | (refine wpList_bare rfl rfl rfl rfl ?_; refine wpList_loadFirst rfl 28 (.tmp 74) rfl (w6.heap.size) rfl #[.int .u8 g.s0, .int .u8 g.s1, .int .u8 g.s2, .int .u8 g.s3, .int .u8 g.s4, .int .u8 g.s5, .int .u8 g.s6, .int .u8 g.s7, .int .i64 g.K, .int .i64 g.M, .int .i64 g.B, .string g.key, .int .i64 g.size, .int .i64 g.idx, .int .i64 g.ep, .int .i64 g.ct] #[.int .u8 g.s0, .int .u8 g.s1, .int .u8 g.s2, .int .u8 g.s3, .int .u8 g.s4, .int .u8 g.s5, .int .u8 g.s6, .int .u8 g.s7, .int .i64 g.K, .int .i64 g.M, .int .i64 g.B, .string g.key, .int .i64 g.size, .int .i64 g.idx, .int .i64 g.ep, .int .i64 g.ct, .slice F2 FL2.length d2] 46 _ rfl HZ7.out Try.underlying28 rfl info_H ?_) | (refine wpList_bare rfl rfl rfl rfl ?_; refine wpList_loadFirst rfl 28 (.tmp 76) rfl (w3.heap.size) rfl #[.int .u8 h.s0, .int .u8 h.s1, .int .u8 h.s2, .int .u8 h.s3, .int .u8 h.s4, .int .u8 h.s5, .int .u8 h.s6, .int .u8 h.s7, .int .i64 h.K, .int .i64 h.M, .int .i64 h.B, .string h.key, .int .i64 h.size, .int .i64 h.idx, .int .i64 h.ep, .int .i64 h.ct] #[.int .u8 h.s0, .int .u8 h.s1, .int .u8 h.s2, .int .u8 h.s3, .int .u8 h.s4, .int .u8 h.s5, .int .u8 h.s6, .int .u8 h.s7, .int .i64 h.K, .int .i64 h.M, .int .i64 h.B, .string h.key, .int .i64 h.size, .int .i64 h.idx, .int .i64 h.ep, .int .i64 h.ct, .slice F1 FL1.length d1] 46 _ rfl HZ4.out Try.underlying28 rfl info_H ?_) | (refine wpList_bare rfl rfl rfl rfl ?_; refine wpList_eqlAgg rfl 28 (.tmp 75) (.tmp 77) rfl #[.int .u8 g.s0, .int .u8 g.s1, .int .u8 g.s2, .int .u8 g.s3, .int .u8 g.s4, .int .u8 g.s5, .int .u8 g.s6, .int .u8 g.s7, .int .i64 g.K, .int .i64 g.M, .int .i64 g.B, .string g.key, .int .i64 g.size, .int .i64 g.idx, .int .i64 g.ep, .int .i64 g.ct] #[.int .u8 h.s0, .int .u8 h.s1, .int .u8 h.s2, .int .u8 h.s3, .int .u8 h.s4, .int .u8 h.s5, .int .u8 h.s6, .int .u8 h.s7, .int .i64 h.K, .int .i64 h.M, .int .i64 h.B, .string h.key, .int .i64 h.size, .int .i64 h.idx, .int .i64 h.ep, .int .i64 h.ct] rfl rfl guard_H false (hEQ _) ?_) | (refine wpList_loadS rfl (.tmp 4) rfl (w3.heap.size) rfl #[.int .u8 h.s0, .int .u8 h.s1, .int .u8 h.s2, .int .u8 h.s3, .int .u8 h.s4, .int .u8 h.s5, .int .u8 h.s6, .int .u8 h.s7, .int .i64 h.K, .int .i64 h.M, .int .i64 h.B, .string h.key, .int .i64 h.size, .int .i64 h.idx, .int .i64 h.ep, .int .i64 h.ct, .slice F1 FL1.length d1] rfl HZ4.out ?_))
  clear c20 c16 hEQ ddA
  have HWB := Lib.hid HF.out.size
  refine (enc_any h F1 d1 FL1 _ HBD.out HX1.out HM1.out.1 HM1.out.2 HR1.out).mono ?_
  rintro e w8 ⟨o, e1, l1, rfl, hP, hO, hb⟩
  replace HF := Lib.hid (HF.out.trans (hb.mono HF.out.size))
  replace HA := Lib.hid (RLL.below HA.out hb)
  replace HA2 := Lib.hid (RLL.below HA2.out hb)
  replace HZ1 := Lib.hid ((hb.block _ (Array.getElem?_eq_some_iff.1 HZ1.out).1).trans HZ1.out)
  replace HR1 := Lib.hid (RLL.below HR1.out hb)
  replace HOO1 := Lib.hid (HOO1.out.kept hb)
  replace HZ4 := Lib.hid ((hb.block _ (Array.getElem?_eq_some_iff.1 HZ4.out).1).trans HZ4.out)
  replace HZ6 := Lib.hid ((hb.block _ (Array.getElem?_eq_some_iff.1 HZ6.out).1).trans HZ6.out)
  replace HR2 := Lib.hid (RLL.below HR2.out hb)
  replace HOO2 := Lib.hid (HOO2.out.kept hb)
  replace HZ7 := Lib.hid ((hb.block _ (Array.getElem?_eq_some_iff.1 HZ7.out).1).trans HZ7.out)
  obtain ⟨rfl, hl⟩ := enc_fit hP HE1.out HFF1.out
  have HL1 := Lib.hid hl
  have HB1 := Lib.hid (hP.lt HBD.out HX1.out)
  have hlen1 := hP.len
  obtain ⟨E1, x1, hcap1, hBg1, hgl1, hcm1, rfl⟩ := own_at hO (by rw [hl]; have := form_pos HE1.out HFF1.out; omega)
  have OB1 := Lib.hid hO
  have hpos1 : 40 ≤ l1.length := by rw [hl]; have := form_pos HE1.out HFF1.out; omega
  clear hO hP hl
  clear hb
  go_wp2_with (refine wpList_loadS rfl (.tmp 7) rfl (w6.heap.size) rfl #[.int .u8 g.s0, .int .u8 g.s1, .int .u8 g.s2, .int .u8 g.s3, .int .u8 g.s4, .int .u8 g.s5, .int .u8 g.s6, .int .u8 g.s7, .int .i64 g.K, .int .i64 g.M, .int .i64 g.B, .string g.key, .int .i64 g.size, .int .i64 g.idx, .int .i64 g.ep, .int .i64 g.ct, .slice F2 FL2.length d2] rfl HZ7.out ?_)
  refine (enc_any g F2 d2 FL2 _ HGB.out HX2.out HM2.out.1 HM2.out.2 HR2.out).mono ?_
  rintro e w9 ⟨o, e2, l2, rfl, hP, hO, hb⟩
  replace HF := Lib.hid (HF.out.trans (hb.mono HF.out.size))
  replace HA := Lib.hid (RLL.below HA.out hb)
  replace HA2 := Lib.hid (RLL.below HA2.out hb)
  replace HZ1 := Lib.hid ((hb.block _ (Array.getElem?_eq_some_iff.1 HZ1.out).1).trans HZ1.out)
  replace HR1 := Lib.hid (RLL.below HR1.out hb)
  replace HOO1 := Lib.hid (HOO1.out.kept hb)
  replace HZ4 := Lib.hid ((hb.block _ (Array.getElem?_eq_some_iff.1 HZ4.out).1).trans HZ4.out)
  replace HZ6 := Lib.hid ((hb.block _ (Array.getElem?_eq_some_iff.1 HZ6.out).1).trans HZ6.out)
  replace HR2 := Lib.hid (RLL.below HR2.out hb)
  replace HOO2 := Lib.hid (HOO2.out.kept hb)
  replace HZ7 := Lib.hid ((hb.block _ (Array.getElem?_eq_some_iff.1 HZ7.out).1).trans HZ7.out)
  replace OB1 := Lib.hid (OB1.out.kept hb)
  obtain ⟨rfl, hl⟩ := enc_fit hP HE2.out HFF2.out
  have HL2 := Lib.hid hl
  have HB2 := Lib.hid (hP.lt HGB.out HX2.out)
  have hlen2 := hP.len
  obtain ⟨E2, x2, hcap2, hBg2, hgl2, hcm2, rfl⟩ := own_at hO (by rw [hl]; have := form_pos HE2.out HFF2.out; omega)
  have OB2 := Lib.hid hO
  have hpos2 : 40 ≤ l2.length := by rw [hl]; have := form_pos HE2.out HFF2.out; omega
  clear hO hP hl
  clear hb
  have hFl : FL2.length = FL1.length := by
    rw [HFF1.out.1, HFF2.out.1]
    obtain ⟨_, _, es, eK, eB, _⟩ := fore_off HFO.out
    obtain ⟨_, _, _, z1, _⟩ := check_facts HE1.out
    obtain ⟨_, _, _, z2, _⟩ := check_facts HE2.out
    unfold sizeN
    rw [if_pos z1, if_pos z2, es, eK, eB]
  have hl12 : l2.length = l1.length := by rw [HL1.out, HL2.out, form_off HE1.out HFF1.out, form_off HE2.out HFF2.out, hFl, (fore_off HFO.out).1]
  have hll : ((l1.length : Int) != (l2.length : Int)) = false := by rw [bne_eq_false_iff_eq]; omega
  have HFL := Lib.hid hFl; have H12 := Lib.hid hl12
  clear hFl hl12
  go_wp2_with fail
  refine (num_any 0 w9).mono ?_
  rintro e wn ⟨rfl, rfl⟩
  go_wp2_with fail
  refine (num_any 0 w9).mono ?_
  rintro e wn ⟨rfl, rfl⟩
  go_wp2_with (refine wpList_loadS rfl (.tmp 4) rfl (w3.heap.size) rfl #[.int .u8 h.s0, .int .u8 h.s1, .int .u8 h.s2, .int .u8 h.s3, .int .u8 h.s4, .int .u8 h.s5, .int .u8 h.s6, .int .u8 h.s7, .int .i64 h.K, .int .i64 h.M, .int .i64 h.B, .string h.key, .int .i64 h.size, .int .i64 h.idx, .int .i64 h.ep, .int .i64 h.ct, .slice F1 FL1.length d1] rfl HZ4.out ?_)
  have hE1b := (OB1.out.lt E1 rfl).2
  clear hll
  refine (begins_any h F1 d1 FL1 _ HE1.out HFF1.out HR1.out).mono ?_
  rintro e w10 ⟨v, rfl, hO, hb⟩
  replace HF := Lib.hid (HF.out.trans (hb.mono HF.out.size))
  replace HA := Lib.hid (RLL.below HA.out hb)
  replace HA2 := Lib.hid (RLL.below HA2.out hb)
  replace HZ1 := Lib.hid ((hb.block _ (Array.getElem?_eq_some_iff.1 HZ1.out).1).trans HZ1.out)
  replace HR1 := Lib.hid (RLL.below HR1.out hb)
  replace HOO1 := Lib.hid (HOO1.out.kept hb)
  replace HZ4 := Lib.hid ((hb.block _ (Array.getElem?_eq_some_iff.1 HZ4.out).1).trans HZ4.out)
  replace HZ6 := Lib.hid ((hb.block _ (Array.getElem?_eq_some_iff.1 HZ6.out).1).trans HZ6.out)
  replace HR2 := Lib.hid (RLL.below HR2.out hb)
  replace HOO2 := Lib.hid (HOO2.out.kept hb)
  replace HZ7 := Lib.hid ((hb.block _ (Array.getElem?_eq_some_iff.1 HZ7.out).1).trans HZ7.out)
  replace OB1 := Lib.hid (OB1.out.kept hb)
  replace OB2 := Lib.hid (OB2.out.kept hb)
  obtain ⟨gB, cB, rfl, hgB1, hgB2, hcB, -⟩ := Own.form hO (by rw [offL_length]; omega)
  obtain ⟨N1, hN1⟩ : ∃ N1, N1 = (offL h FL1.length).length := ⟨_, rfl⟩
  rw [← hN1] at hcB ⊢
  have hN1' : N1 ≤ FL1.length + 1 := by rw [hN1, offL_length]; exact Nat.le_refl _
  have hN2' : FL1.length + 1 ≤ N1 := by rw [hN1, offL_length]; exact Nat.le_refl _
  have HCL := Lib.hid (fun (i : Nat) (hi : i ≤ FL1.length) => (show Cl w10 ⟨gB, i, none⟩ (.int .i64 ((offF h i : Nat) : Int)) from ⟨hgB2, by have := Own.cell1 hO (i := i) (by rw [offL_length]; omega); rw [offL_get hi] at this; exact this⟩))
  clear hO hN1
  clear hb
  obtain ⟨p, hp⟩ : ∃ p, p = offF h j := ⟨_, rfl⟩
  obtain ⟨j1, hj1⟩ : ∃ j1, j1 = j + 1 := ⟨_, rfl⟩
  obtain ⟨p1, hp1⟩ : ∃ p1, p1 = offF h j1 := ⟨_, rfl⟩
  have hpm : p1 = p + (lenF h j + 4) := by rw [hp1, hj1, hp, offF_next]; omega
  have hqn : p + (lenF h j + 4) ≤ l1.length := by have := off_in HE1.out HFF1.out hj; rw [hp, HL1.out]; omega
  have hln : offF h FL1.length = l1.length := by rw [HL1.out, form_off HE1.out HFF1.out]
  have KP := HCL.out j (by omega); have KP1 := HCL.out j1 (by omega); have KN := HCL.out FL1.length (Nat.le_refl _)
  rw [← hp] at KP; rw [← hp1] at KP1; rw [hln] at KN
  have HKP1 := Lib.hid KP1
  have cn := KN.2; have cp := KP.2
  have hwj : IntKind.i64.wrap ((j : Int) + 1) = (j1 : Int) := by rw [IntKind.wrap_i64]; omega
  have hwN : IntKind.i64.wrap ((N1 : Int) - 1) = (FL1.length : Int) := by rw [IntKind.wrap_i64]; omega
  have hn0 : (0 : Int) ≤ (FL1.length : Int) := by omega
  have hn1 : (FL1.length : Int) < (N1 : Int) := by omega
  have hll : ((l1.length : Int) != (l1.length : Int)) = false := by simp
  have hjB : (j : Int) < (N1 : Int) := by omega
  have hjB1 : (j1 : Int) < (N1 : Int) := by omega
  have hj10 : (0 : Int) ≤ (j1 : Int) := by omega
  have hj0 : (0 : Int) ≤ (j : Int) := by omega
  obtain ⟨m, hm⟩ : ∃ m, m = lenF h j + 4 := ⟨_, rfl⟩
  rw [← hm] at hpm hqn
  have HPP := Lib.hid hp; have HM := Lib.hid hm
  have hp1a : p1 ≤ p + m := by omega
  have hp1b : p + m ≤ p1 := by omega
  clear KP KP1 KN HCL hp hp1 hm hln hj1 hpm
  have HOC0 := Lib.hid (show OwnB w10 w.heap.size (.slice (some ⟨E1, 0, none⟩) l1.length x1) (putL l1 l2 p (p - p)) by rw [Nat.sub_self, putL_zero]; exact OB1.out.mono HWB.out)
  have HG0 := Lib.hid (show w10.grownBy w10 (some E1) from ⟨rfl, rfl, rfl, Nat.le_refl _, fun _ _ _ => rfl⟩)
  have hE1w : w.heap.size ≤ E1 := by have := HWB.out; omega
  have GP1 := Lib.hid (fun (w' : World) (hg : w10.grownBy w' (some E1)) => (World.cell?_of_block (a := ⟨gB, j1, none⟩) (hg.block gB HKP1.out.1 (fun e => by injection e with e; omega))).trans HKP1.out.2)
  have GC := Lib.hid (fun (w' : World) (hg : w10.grownBy w' (some E1)) (i : Nat) (hi : i < l2.length) => (World.cell?_of_block (a := ⟨E2, i, none⟩) (hg.block E2 (OB2.out.lt E2 rfl).2 (fun e => by injection e with e; omega))).trans (own_cell OB2.out rfl hi).1)
  go_wp2
  clear cn cp hll hwN hn0 hn1
  go_loopg [15] (p1 - p) (fun gk t15 wr => ∃ s : Nat, p ≤ s ∧ s ≤ p1 ∧ gk = p1 - s ∧ t15 = .int .i64 s ∧ OwnB wr w.heap.size (.slice (some ⟨E1, 0, none⟩) l1.length x1) (putL l1 l2 p (s - p)) ∧ w10.grownBy wr (some E1))
  case atStart => exact ⟨p, Nat.le_refl _, by omega, rfl, rfl, HOC0.out, HG0.out⟩
  case round =>
    clear HOC0 HG0
    obtain ⟨s, hs0, hs1, rfl, rfl, hoc, hgr⟩ := hrel
    have HOC := Lib.hid hoc; have HGR := Lib.hid hgr
    clear hoc hgr
    have cp1 := GP1.out _ HGR.out
    by_cases hlt : s < p1
    · have hli : (s : Int) < (p1 : Int) := by omega
      have hs00 : (0 : Int) ≤ (s : Int) := by omega
      have hsl1 : s < l1.length := by omega
      have hsl2 : s < l2.length := by have := H12.out; omega
      have hb1 : (s : Int) < (l1.length : Int) := by omega
      have hb2 : (s : Int) < (l2.length : Int) := by omega
      have cc := GC.out _ HGR.out s hsl2
      have HSL := Lib.hid (putL_length l1 l2 p (s - p))
      obtain ⟨ca, cb⟩ := own_cell HOC.out HSL.out.symm (i := s) (by rw [HSL.out]; exact hsl1)
      obtain ⟨x, hx⟩ : ∃ x, x = l2.getD s 0 := ⟨_, rfl⟩
      have HST := Lib.hid (show (putL l1 l2 p (s - p)).set s x = putL l1 l2 p (s + 1 - p) by
        have := putL_step (b := l1) (c := l2) (p := p) (i := s - p) (by omega)
        rw [show p + (s - p) = s by omega, show s - p + 1 = s + 1 - p by omega] at this
        rw [hx]; exact this)
      rw [← hx] at cc
      have HON := Lib.hid (show OwnB (wr.setCell ⟨E1, s, none⟩ (.int .u8 (x : Int))) w.heap.size (.slice (some ⟨E1, 0, none⟩) l1.length x1) (putL l1 l2 p (s + 1 - p)) by rw [← HST.out]; exact OwnB.set HOC.out HSL.out.symm hsl1 x)
      have HGN := Lib.hid (grown_set HGR.out s (.int .u8 (x : Int)))
      clear hx HOC HGR HST
      go_wp2
      go_roundg (p1 - (s + 1))
      case measure => omega
      case rel => exact ⟨s + 1, by omega, by omega, rfl, by go_num, HON.out, HGN.out⟩
    · obtain rfl : s = p1 := by omega
      have hli : ¬ (s : Int) < (s : Int) := by omega
      have HF := Lib.hid (Below.trans_row HF.out HGR.out hE1w HF.out.size)
      have e0 : s - p = m := by omega
      rw [e0] at HOC
      obtain ⟨hd1, hd2, hd3, hd4⟩ := foreign_law HBD.out HE1.out HE2.out HFO.out hgh HFF1.out HFF2.out HX1.out HX2.out hj (by rw [HFL.out]; exact hj)
      rw [← HL1.out, ← HL2.out, ← HPP.out, ← HM.out] at hd1 hd2 hd3 hd4
      obtain ⟨S6, hS6⟩ : ∃ S6, S6 = putL l1 l2 p m := ⟨_, rfl⟩
      rw [← hS6] at hd1 hd2 hd3 hd4 HOC
      have hSl : S6.length = l1.length := by rw [hS6, putL_length]
      have HSX := Lib.hid (show ∀ x ∈ S6, x < 256 from hS6 ▸ putL_lt HB1.out HB2.out)
      have HS1 := Lib.hid hd1; have HS4 := Lib.hid hd4
      have HS3 := Lib.hid (show sptL S6 = [j] by unfold sptL; rw [if_pos hd1, hd2, hd3])
      clear hd1 hd2 hd3 hd4 hS6 e0 HGR GP1 GC
      go_wp2_with fail
      clear cp1
      have hP := spt_any opn_all (some ⟨E1, 0, none⟩) x1 S6 wr HSX.out (by omega) (by omega) hcm1 (own_rl HOC.out)
      unfold SptPost at hP
      rw [HS1.out, HS3.out, hSl] at hP
      refine (hP).mono ?_
      rintro e w11 ⟨v, rfl, hO, hb⟩
      replace HF := Lib.hid (HF.out.trans (hb.mono HF.out.size))
      replace HOC := Lib.hid (HOC.out.kept hb)
      obtain ⟨A8, c8, ev, _, _, hr, _⟩ := Own.rd hO
      subst ev
      have HR8 := Lib.hid hr
      clear hP hO hr
      clear hb
      go_wp2_with fail
      have hP := prs_any opn_all (some ⟨E1, 0, none⟩) x1 S6 w11 HSX.out (by omega) (by omega) hcm1 (own_rl HOC.out)
      unfold PrsPost at hP
      rw [HS4.out, (prs_none HS4.out (by decide)).1, (prs_none HS4.out (by decide)).2, hSl] at hP
      refine (hP).mono ?_
      rintro e w12 ⟨v, rfl, hO, hb⟩
      replace HF := Lib.hid (HF.out.trans (hb.mono HF.out.size))
      replace HOC := Lib.hid (HOC.out.kept hb)
      replace HR8 := Lib.hid (Rd.below HR8.out hb)
      obtain ⟨AA, cA, ev, _⟩ := hO.rd
      subst ev
      clear hP hO
      clear hb
      go_wp2_with (refine wpList_storeNewS rfl (.tmp 18) (.tmp 155) rfl #[.int .u8 0, .int .u8 0, .int .u8 0, .int .u8 0, .int .u8 0, .int .u8 0, .int .u8 0, .int .u8 0, .int .i64 0, .int .i64 0, .int .i64 0, .string ⟨#[]⟩, .int .i64 0, .int .i64 0, .int .i64 0, .int .i64 0, .slice AA 0 cA] rfl rfl rfl rfl rfl ?_; have hbn := (Below.refl w12.heap.size w12).alloc (Nat.le_refl _) (.cells #[.int .u8 0, .int .u8 0, .int .u8 0, .int .u8 0, .int .u8 0, .int .u8 0, .int .u8 0, .int .u8 0, .int .i64 0, .int .i64 0, .int .i64 0, .string ⟨#[]⟩, .int .i64 0, .int .i64 0, .int .i64 0, .int .i64 0, .slice AA 0 cA] 46); replace HF := Lib.hid (HF.out.trans (hbn.mono HF.out.size)); replace HOC := Lib.hid (HOC.out.kept hbn); replace HR8 := Lib.hid (Rd.below HR8.out hbn); have HZ18 := Lib.hid (heap_alloc_new w12 (.cells #[.int .u8 0, .int .u8 0, .int .u8 0, .int .u8 0, .int .u8 0, .int .u8 0, .int .u8 0, .int .u8 0, .int .i64 0, .int .i64 0, .int .i64 0, .string ⟨#[]⟩, .int .i64 0, .int .i64 0, .int .i64 0, .int .i64 0, .slice AA 0 cA] 46)); clear hbn; generalize w12.alloc (.cells #[.int .u8 0, .int .u8 0, .int .u8 0, .int .u8 0, .int .u8 0, .int .u8 0, .int .u8 0, .int .u8 0, .int .i64 0, .int .i64 0, .int .i64 0, .string ⟨#[]⟩, .int .i64 0, .int .i64 0, .int .i64 0, .int .i64 0, .slice AA 0 cA] 46) = w13 at *)
      refine (num_any 0 w13).mono ?_
      rintro e wn ⟨rfl, rfl⟩
      go_wp2_with fail
      have hbn := (Below.refl w13.heap.size w13).alloc (Nat.le_refl _) (.cells #[.int .i64 (j : Int)] 3)
      refine (sameInts_any A8 _ 1 c8 _ (fun i => ((([j] : List Nat).getD i 0 : Nat) : Int)) _ (by decide) (HR8.out.below hbn) (rd_one j)).mono ?_
      rintro e w9 ⟨rfl, hd⟩
      have HF := Lib.hid (hd.below' (HF.out.trans (hbn.mono HF.out.size)))
      clear hd hbn
      go_wp2_with fail
      refine (num_any 82 w9).mono ?_
      rintro e wn ⟨rfl, rfl⟩
      go_wp2
      rw [HQY.out]
      go_ret
      exact ⟨rfl, HF.out⟩
end Go.Proofs.Ytbioanbokbhmgaa
