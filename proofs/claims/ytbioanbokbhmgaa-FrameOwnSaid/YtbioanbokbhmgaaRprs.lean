/- Parse of the document: the walk. Conditions: bytes. -/
import Derived.Test.YtbioanbokbhmgaaFCk0
import Derived.Test.YtbioanbokbhmgaaRspt
import Derived.Test.YtbioanbokbhmgaaPar4
namespace Go.Proofs.Ytbioanbokbhmgaa
open Go.RowKit

set_option maxRecDepth 100000 in
set_option maxHeartbeats 8000000 in
theorem rprs_any (A : Option Addr) (c : Nat) (b : List Nat) (w : World) (hx : ∀ x ∈ b, x < 256) (hbl : b.length ≤ 140737488351232) (hbc : b.length ≤ c) (hc : c ≤ maxLen) (hA : RL w A b) : Calls Try.prog 27 #[.slice A b.length c] w (PrsPost w b) := by
  have HF := Lib.hid (((Below.refl w.heap.size w).alloc (Nat.le_refl _) (.cells #[.int .u8 0, .int .u8 0, .int .u8 0, .int .u8 0, .int .u8 0, .int .u8 0, .int .u8 0, .int .u8 0, .int .i64 0, .int .i64 0, .int .i64 0, .string ⟨#[]⟩, .int .i64 0, .int .i64 0, .int .i64 0, .int .i64 0, .slice none 0 0] 46)).alloc (by simp) (.cells #[.int .u8 0, .int .u8 0, .int .u8 0, .int .u8 0, .int .u8 0, .int .u8 0, .int .u8 0, .int .u8 0, .int .i64 0, .int .i64 0, .int .i64 0, .string ⟨#[]⟩, .int .i64 0, .int .i64 0, .int .i64 0, .int .i64 0, .slice none 0 0] 46))
  have HZ4 := Lib.hid (show ((w.alloc (.cells #[.int .u8 0, .int .u8 0, .int .u8 0, .int .u8 0, .int .u8 0, .int .u8 0, .int .u8 0, .int .u8 0, .int .i64 0, .int .i64 0, .int .i64 0, .string ⟨#[]⟩, .int .i64 0, .int .i64 0, .int .i64 0, .int .i64 0, .slice none 0 0] 46)).alloc (.cells #[.int .u8 0, .int .u8 0, .int .u8 0, .int .u8 0, .int .u8 0, .int .u8 0, .int .u8 0, .int .u8 0, .int .i64 0, .int .i64 0, .int .i64 0, .string ⟨#[]⟩, .int .i64 0, .int .i64 0, .int .i64 0, .int .i64 0, .slice none 0 0] 46)).heap[w.heap.size + 1]? = some (.cells #[.int .u8 0, .int .u8 0, .int .u8 0, .int .u8 0, .int .u8 0, .int .u8 0, .int .u8 0, .int .u8 0, .int .i64 0, .int .i64 0, .int .i64 0, .string ⟨#[]⟩, .int .i64 0, .int .i64 0, .int .i64 0, .int .i64 0, .slice none 0 0] 46 (0, 0)) by simpa using heap_alloc_new (w.alloc (.cells #[.int .u8 0, .int .u8 0, .int .u8 0, .int .u8 0, .int .u8 0, .int .u8 0, .int .u8 0, .int .u8 0, .int .i64 0, .int .i64 0, .int .i64 0, .string ⟨#[]⟩, .int .i64 0, .int .i64 0, .int .i64 0, .int .i64 0, .slice none 0 0] 46)) (.cells #[.int .u8 0, .int .u8 0, .int .u8 0, .int .u8 0, .int .u8 0, .int .u8 0, .int .u8 0, .int .u8 0, .int .i64 0, .int .i64 0, .int .i64 0, .string ⟨#[]⟩, .int .i64 0, .int .i64 0, .int .i64 0, .int .i64 0, .slice none 0 0] 46))
  have HZ2 := Lib.hid (show ((w.alloc (.cells #[.int .u8 0, .int .u8 0, .int .u8 0, .int .u8 0, .int .u8 0, .int .u8 0, .int .u8 0, .int .u8 0, .int .i64 0, .int .i64 0, .int .i64 0, .string ⟨#[]⟩, .int .i64 0, .int .i64 0, .int .i64 0, .int .i64 0, .slice none 0 0] 46)).alloc (.cells #[.int .u8 0, .int .u8 0, .int .u8 0, .int .u8 0, .int .u8 0, .int .u8 0, .int .u8 0, .int .u8 0, .int .i64 0, .int .i64 0, .int .i64 0, .string ⟨#[]⟩, .int .i64 0, .int .i64 0, .int .i64 0, .int .i64 0, .slice none 0 0] 46)).heap[w.heap.size]? = some (.cells #[.int .u8 0, .int .u8 0, .int .u8 0, .int .u8 0, .int .u8 0, .int .u8 0, .int .u8 0, .int .u8 0, .int .i64 0, .int .i64 0, .int .i64 0, .string ⟨#[]⟩, .int .i64 0, .int .i64 0, .int .i64 0, .int .i64 0, .slice none 0 0] 46 (0, 0)) from (((Below.refl _ _).alloc (Nat.le_refl _) _).block _ (by simp)).trans (heap_alloc_new w _))
  have HO := Lib.hid (rph_any A c b ((w.alloc (.cells #[.int .u8 0, .int .u8 0, .int .u8 0, .int .u8 0, .int .u8 0, .int .u8 0, .int .u8 0, .int .u8 0, .int .i64 0, .int .i64 0, .int .i64 0, .string ⟨#[]⟩, .int .i64 0, .int .i64 0, .int .i64 0, .int .i64 0, .slice none 0 0] 46)).alloc (.cells #[.int .u8 0, .int .u8 0, .int .u8 0, .int .u8 0, .int .u8 0, .int .u8 0, .int .u8 0, .int .u8 0, .int .i64 0, .int .i64 0, .int .i64 0, .string ⟨#[]⟩, .int .i64 0, .int .i64 0, .int .i64 0, .int .i64 0, .slice none 0 0] 46)) hx hbl hbc hc (hA.below HF.out))
  have HSP := Lib.hid (fun (w' : World) (h : Below w.heap.size w w') => rspt_any A c b w' hx hbl hbc hc (hA.below h))
  have HX := Lib.hid hx
  have HA := Lib.hid hA
  clear hx hA
  go_enter Try.func27, Try.ntmps27
  go_wp2_with fail
  refine HO.out.mono ?_
  rintro e w1 ⟨rfl, hb1⟩
  have HZ2 := Lib.hid ((hb1.block _ (Array.getElem?_eq_some_iff.1 HZ2.out).1).trans HZ2.out)
  have HZ4 := Lib.hid ((hb1.block _ (Array.getElem?_eq_some_iff.1 HZ4.out).1).trans HZ4.out)
  have HF := Lib.hid (HF.out.trans (hb1.mono HF.out.size))
  have hsz1 := HF.out.size
  have hlt1 := (Array.getElem?_eq_some_iff.1 HZ4.out).1
  clear hb1 HO
  by_cases h0 : headE b = 0
  · have HR := Lib.hid (show rdH b = hdOf b from if_pos h0)
    rw [HR.out, h0]
    have H0 := Lib.hid h0
    have HCK := Lib.hid (headE_facts h0).2.2.2.2.2
    have h40 := (headE_facts h0).2.2.2.1
    have hks : (hdOf b).key.size = b.getD 31 0 := strN_size _ _
    obtain ⟨hm, k0, k1, hE, i0, i1, e0, e1, t0, t1⟩ := check_facts HCK.out
    have HE0 := Lib.hid hE
    have hN := sizeN_le (hdOf b).K (hdOf b).M (hdOf b).B (hdOf b).size
    obtain ⟨bk, bo, rfl, hbk, _⟩ := HA.out 0 (by omega)
    have h41 : 40 + (hdOf b).key.size ≤ b.length := by omega
    obtain ⟨L, hL, hLb⟩ := lenE_nat HCK.out
    have HL := Lib.hid (show (lenE (hdOf b)).toNat = L by rw [hL]; rfl)
    have HLI := Lib.hid hL
    clear h0 hm hE i0 i1 e0 e1 t0 t1 h40 hks hL
    have hHW := heap_alloc_new w1 (.cells #[.int .u8 (hdOf b).s0, .int .u8 (hdOf b).s1, .int .u8 (hdOf b).s2, .int .u8 (hdOf b).s3, .int .u8 (hdOf b).s4, .int .u8 (hdOf b).s5, .int .u8 (hdOf b).s6, .int .u8 (hdOf b).s7, .int .i64 (hdOf b).K, .int .i64 (hdOf b).M, .int .i64 (hdOf b).B, .string (hdOf b).key, .int .i64 (hdOf b).size, .int .i64 (hdOf b).idx, .int .i64 (hdOf b).ep, .int .i64 (hdOf b).ct] 28)
    have hbA := (Below.refl w1.heap.size w1).alloc (Nat.le_refl _) (.cells #[.int .u8 (hdOf b).s0, .int .u8 (hdOf b).s1, .int .u8 (hdOf b).s2, .int .u8 (hdOf b).s3, .int .u8 (hdOf b).s4, .int .u8 (hdOf b).s5, .int .u8 (hdOf b).s6, .int .u8 (hdOf b).s7, .int .i64 (hdOf b).K, .int .i64 (hdOf b).M, .int .i64 (hdOf b).B, .string (hdOf b).key, .int .i64 (hdOf b).size, .int .i64 (hdOf b).idx, .int .i64 (hdOf b).ep, .int .i64 (hdOf b).ct] 28)
    go_wp2_with (first | (refine wpList_storeNewH rfl (.tmp 5) (.tmp 19) rfl #[.int .u8 (hdOf b).s0, .int .u8 (hdOf b).s1, .int .u8 (hdOf b).s2, .int .u8 (hdOf b).s3, .int .u8 (hdOf b).s4, .int .u8 (hdOf b).s5, .int .u8 (hdOf b).s6, .int .u8 (hdOf b).s7, .int .i64 (hdOf b).K, .int .i64 (hdOf b).M, .int .i64 (hdOf b).B, .string (hdOf b).key, .int .i64 (hdOf b).size, .int .i64 (hdOf b).idx, .int .i64 (hdOf b).ep, .int .i64 (hdOf b).ct] rfl rfl rfl rfl rfl ?_) | (refine wpList_loadH rfl (.tmp 5) rfl w1.heap.size rfl #[.int .u8 (hdOf b).s0, .int .u8 (hdOf b).s1, .int .u8 (hdOf b).s2, .int .u8 (hdOf b).s3, .int .u8 (hdOf b).s4, .int .u8 (hdOf b).s5, .int .u8 (hdOf b).s6, .int .u8 (hdOf b).s7, .int .i64 (hdOf b).K, .int .i64 (hdOf b).M, .int .i64 (hdOf b).B, .string (hdOf b).key, .int .i64 (hdOf b).size, .int .i64 (hdOf b).idx, .int .i64 (hdOf b).ep, .int .i64 (hdOf b).ct] rfl hHW ?_))
    have HZ2 := Lib.hid ((hbA.block _ (Array.getElem?_eq_some_iff.1 HZ2.out).1).trans HZ2.out)
    have HZ4 := Lib.hid ((hbA.block _ (Array.getElem?_eq_some_iff.1 HZ4.out).1).trans HZ4.out)
    have HF := Lib.hid (HF.out.trans (hbA.mono HF.out.size))
    have HHW := Lib.hid hHW
    clear hHW hbA
    generalize w1.alloc (.cells #[.int .u8 (hdOf b).s0, .int .u8 (hdOf b).s1, .int .u8 (hdOf b).s2, .int .u8 (hdOf b).s3, .int .u8 (hdOf b).s4, .int .u8 (hdOf b).s5, .int .u8 (hdOf b).s6, .int .u8 (hdOf b).s7, .int .i64 (hdOf b).K, .int .i64 (hdOf b).M, .int .i64 (hdOf b).B, .string (hdOf b).key, .int .i64 (hdOf b).size, .int .i64 (hdOf b).idx, .int .i64 (hdOf b).ep, .int .i64 (hdOf b).ct] 28) = w2 at *
    refine (rlength_any (hdOf b) w2).mono ?_
    rintro e w3 ⟨rfl, hb3⟩
    rw [HLI.out, HCK.out]
    have HZ2 := Lib.hid ((hb3.block _ (Array.getElem?_eq_some_iff.1 HZ2.out).1).trans HZ2.out)
    have HZ4 := Lib.hid ((hb3.block _ (Array.getElem?_eq_some_iff.1 HZ4.out).1).trans HZ4.out)
    have HF := Lib.hid (HF.out.trans (hb3.mono HF.out.size))
    have HHW := Lib.hid ((hb3.block _ (Array.getElem?_eq_some_iff.1 HHW.out).1).trans HHW.out)
    clear hb3
    by_cases h70 : b.length < L
    · have t1 : (b.length : Int) < (L : Int) := by omega
      go_wp2_with (first | (refine wpList_loadS rfl (.tmp 4) rfl (w.heap.size + 1) rfl #[.int .u8 0, .int .u8 0, .int .u8 0, .int .u8 0, .int .u8 0, .int .u8 0, .int .u8 0, .int .u8 0, .int .i64 0, .int .i64 0, .int .i64 0, .string ⟨#[]⟩, .int .i64 0, .int .i64 0, .int .i64 0, .int .i64 0, .slice none 0 0] rfl HZ4.out ?_) | (refine wpList_storeS rfl (.tmp 2) _ rfl w.heap.size #[.int .u8 0, .int .u8 0, .int .u8 0, .int .u8 0, .int .u8 0, .int .u8 0, .int .u8 0, .int .u8 0, .int .i64 0, .int .i64 0, .int .i64 0, .string ⟨#[]⟩, .int .i64 0, .int .i64 0, .int .i64 0, .int .i64 0, .slice none 0 0] rfl rfl rfl #[.int .u8 0, .int .u8 0, .int .u8 0, .int .u8 0, .int .u8 0, .int .u8 0, .int .u8 0, .int .u8 0, .int .i64 0, .int .i64 0, .int .i64 0, .string ⟨#[]⟩, .int .i64 0, .int .i64 0, .int .i64 0, .int .i64 0, .slice none 0 0] rfl HZ2.out rfl ?_; intro w9 h9 g9 z9))
      have HB9 := Lib.hid (Below.trans_row HF.out g9 (Nat.le_refl _) (Nat.le_of_lt (Array.getElem?_eq_some_iff.1 HZ2.out).1))
      have HPE := Lib.hid (show prsE b = 70 by unfold prsE; rw [if_neg (not_not_intro H0.out), if_pos (by rw [HL.out]; exact h70)])
      exact ret_cellS Try.results27 rfl rfl rfl h9 (prs_no HPE.out (by decide) HB9.out)
    · have t1 : ¬ (b.length : Int) < (L : Int) := by omega
      by_cases h72 : L < b.length
      · have t2 : (L : Int) < (b.length : Int) := by omega
        go_wp2_with (first | (refine wpList_loadS rfl (.tmp 4) rfl (w.heap.size + 1) rfl #[.int .u8 0, .int .u8 0, .int .u8 0, .int .u8 0, .int .u8 0, .int .u8 0, .int .u8 0, .int .u8 0, .int .i64 0, .int .i64 0, .int .i64 0, .string ⟨#[]⟩, .int .i64 0, .int .i64 0, .int .i64 0, .int .i64 0, .slice none 0 0] rfl HZ4.out ?_) | (refine wpList_storeS rfl (.tmp 2) _ rfl w.heap.size #[.int .u8 0, .int .u8 0, .int .u8 0, .int .u8 0, .int .u8 0, .int .u8 0, .int .u8 0, .int .u8 0, .int .i64 0, .int .i64 0, .int .i64 0, .string ⟨#[]⟩, .int .i64 0, .int .i64 0, .int .i64 0, .int .i64 0, .slice none 0 0] rfl rfl rfl #[.int .u8 0, .int .u8 0, .int .u8 0, .int .u8 0, .int .u8 0, .int .u8 0, .int .u8 0, .int .u8 0, .int .i64 0, .int .i64 0, .int .i64 0, .string ⟨#[]⟩, .int .i64 0, .int .i64 0, .int .i64 0, .int .i64 0, .slice none 0 0] rfl HZ2.out rfl ?_; intro w9 h9 g9 z9))
        have HB9 := Lib.hid (Below.trans_row HF.out g9 (Nat.le_refl _) (Nat.le_of_lt (Array.getElem?_eq_some_iff.1 HZ2.out).1))
        have HPE := Lib.hid (show prsE b = 72 by unfold prsE; rw [if_neg (not_not_intro H0.out), if_neg (by rw [HL.out]; exact h70), if_pos (by rw [HL.out]; exact h72)])
        exact ret_cellS Try.results27 rfl rfl rfl h9 (prs_no HPE.out (by decide) HB9.out)
      · have t2 : ¬ (L : Int) < (b.length : Int) := by omega
        go_wp2_with fail
        refine (HSP.out w3 HF.out).mono ?_
        rintro e w4 ⟨vB, rfl, hOB, hb4⟩
        rw [H0.out]
        have HZ2 := Lib.hid ((hb4.block _ (Array.getElem?_eq_some_iff.1 HZ2.out).1).trans HZ2.out)
        have HZ4 := Lib.hid ((hb4.block _ (Array.getElem?_eq_some_iff.1 HZ4.out).1).trans HZ4.out)
        have HF := Lib.hid (HF.out.trans (hb4.mono HF.out.size))
        have HHW := Lib.hid ((hb4.block _ (Array.getElem?_eq_some_iff.1 HHW.out).1).trans HHW.out)
        obtain ⟨AB, cB, eB, _⟩ := Own.rd hOB
        obtain ⟨nB, hnB⟩ : ∃ nB, nB = (sptL b).length := ⟨_, rfl⟩
        rw [← hnB] at eB
        subst eB
        have HNB := Lib.hid hnB
        have HSL := Lib.hid (show sptL b = badL b (sizeN (hdOf b).K (hdOf b).M (hdOf b).B (hdOf b).size) from if_pos H0.out)
        clear hOB hb4 hnB
        by_cases hg : badL b (sizeN (hdOf b).K (hdOf b).M (hdOf b).B (hdOf b).size) = []
        rotate_left
        · have tb : (0 : Int) < (nB : Int) := by
            have : nB ≠ 0 := by rw [HNB.out, HSL.out]; intro e; exact hg (List.eq_nil_of_length_eq_zero e)
            omega
          have HG := Lib.hid hg
          clear hg
          go_wp2_with (first | (refine wpList_loadS rfl (.tmp 4) rfl (w.heap.size + 1) rfl #[.int .u8 0, .int .u8 0, .int .u8 0, .int .u8 0, .int .u8 0, .int .u8 0, .int .u8 0, .int .u8 0, .int .i64 0, .int .i64 0, .int .i64 0, .string ⟨#[]⟩, .int .i64 0, .int .i64 0, .int .i64 0, .int .i64 0, .slice none 0 0] rfl HZ4.out ?_) | (refine wpList_storeS rfl (.tmp 2) _ rfl w.heap.size #[.int .u8 0, .int .u8 0, .int .u8 0, .int .u8 0, .int .u8 0, .int .u8 0, .int .u8 0, .int .u8 0, .int .i64 0, .int .i64 0, .int .i64 0, .string ⟨#[]⟩, .int .i64 0, .int .i64 0, .int .i64 0, .int .i64 0, .slice none 0 0] rfl rfl rfl #[.int .u8 0, .int .u8 0, .int .u8 0, .int .u8 0, .int .u8 0, .int .u8 0, .int .u8 0, .int .u8 0, .int .i64 0, .int .i64 0, .int .i64 0, .string ⟨#[]⟩, .int .i64 0, .int .i64 0, .int .i64 0, .int .i64 0, .slice none 0 0] rfl HZ2.out rfl ?_; intro w9 h9 g9 z9))
          have HB9 := Lib.hid (Below.trans_row HF.out g9 (Nat.le_refl _) (Nat.le_of_lt (Array.getElem?_eq_some_iff.1 HZ2.out).1))
          have HPE := Lib.hid (show prsE b = 82 by unfold prsE; rw [if_neg (not_not_intro H0.out), if_neg (by rw [HL.out]; exact h70), if_neg (by rw [HL.out]; exact h72), if_pos HG.out])
          exact ret_cellS Try.results27 rfl rfl rfl h9 (prs_no HPE.out (by decide) HB9.out)
        have tb : ¬ (0 : Int) < (nB : Int) := by
          have : nB = 0 := by rw [HNB.out, HSL.out, hg]; rfl
          omega
        have HPE := Lib.hid (show prsE b = 0 by unfold prsE; rw [if_neg (not_not_intro H0.out), if_neg (by rw [HL.out]; exact h70), if_neg (by rw [HL.out]; exact h72), if_neg (not_not_intro hg)])
        have HLE := Lib.hid (show offF (hdOf b) (sizeN (hdOf b).K (hdOf b).M (hdOf b).B (hdOf b).size) = b.length by rw [← lenE_off HCK.out, HL.out]; omega)
        clear hg
        have hlt4 := (Array.getElem?_eq_some_iff.1 HHW.out).1
        obtain ⟨_, _, _, _, _, _, _, _, c8, c9, c10, c11, c12, _⟩ := cells_of HHW.out
        have hps := heap_alloc_new w4 (.cells #[.int .u8 (hdOf b).s0, .int .u8 (hdOf b).s1, .int .u8 (hdOf b).s2, .int .u8 (hdOf b).s3, .int .u8 (hdOf b).s4, .int .u8 (hdOf b).s5, .int .u8 (hdOf b).s6, .int .u8 (hdOf b).s7, .int .i64 (hdOf b).K, .int .i64 (hdOf b).M, .int .i64 (hdOf b).B, .string (hdOf b).key, .int .i64 (hdOf b).size, .int .i64 (hdOf b).idx, .int .i64 (hdOf b).ep, .int .i64 (hdOf b).ct, .slice none 0 0] 46)
        have hbA := (Below.refl w4.heap.size w4).alloc (Nat.le_refl _) (.cells #[.int .u8 (hdOf b).s0, .int .u8 (hdOf b).s1, .int .u8 (hdOf b).s2, .int .u8 (hdOf b).s3, .int .u8 (hdOf b).s4, .int .u8 (hdOf b).s5, .int .u8 (hdOf b).s6, .int .u8 (hdOf b).s7, .int .i64 (hdOf b).K, .int .i64 (hdOf b).M, .int .i64 (hdOf b).B, .string (hdOf b).key, .int .i64 (hdOf b).size, .int .i64 (hdOf b).idx, .int .i64 (hdOf b).ep, .int .i64 (hdOf b).ct, .slice none 0 0] 46)
        go_wp2_with (first | (refine wpList_loadH rfl (.tmp 5) rfl w1.heap.size rfl #[.int .u8 (hdOf b).s0, .int .u8 (hdOf b).s1, .int .u8 (hdOf b).s2, .int .u8 (hdOf b).s3, .int .u8 (hdOf b).s4, .int .u8 (hdOf b).s5, .int .u8 (hdOf b).s6, .int .u8 (hdOf b).s7, .int .i64 (hdOf b).K, .int .i64 (hdOf b).M, .int .i64 (hdOf b).B, .string (hdOf b).key, .int .i64 (hdOf b).size, .int .i64 (hdOf b).idx, .int .i64 (hdOf b).ep, .int .i64 (hdOf b).ct] rfl HHW.out ?_) | (refine wpList_storeNewS rfl (.tmp 11) _ rfl #[.int .u8 (hdOf b).s0, .int .u8 (hdOf b).s1, .int .u8 (hdOf b).s2, .int .u8 (hdOf b).s3, .int .u8 (hdOf b).s4, .int .u8 (hdOf b).s5, .int .u8 (hdOf b).s6, .int .u8 (hdOf b).s7, .int .i64 (hdOf b).K, .int .i64 (hdOf b).M, .int .i64 (hdOf b).B, .string (hdOf b).key, .int .i64 (hdOf b).size, .int .i64 (hdOf b).idx, .int .i64 (hdOf b).ep, .int .i64 (hdOf b).ct, .slice none 0 0] rfl rfl rfl rfl rfl ?_))
        have HZ2 := Lib.hid ((hbA.block _ (Array.getElem?_eq_some_iff.1 HZ2.out).1).trans HZ2.out)
        have HZ4 := Lib.hid ((hbA.block _ (Array.getElem?_eq_some_iff.1 HZ4.out).1).trans HZ4.out)
        have HF := Lib.hid (HF.out.trans (hbA.mono HF.out.size))
        have HPS := Lib.hid hps
        have HHW := Lib.hid ((hbA.block _ hlt4).trans HHW.out)
        have hpo4 : (w4.alloc (.cells #[.int .u8 (hdOf b).s0, .int .u8 (hdOf b).s1, .int .u8 (hdOf b).s2, .int .u8 (hdOf b).s3, .int .u8 (hdOf b).s4, .int .u8 (hdOf b).s5, .int .u8 (hdOf b).s6, .int .u8 (hdOf b).s7, .int .i64 (hdOf b).K, .int .i64 (hdOf b).M, .int .i64 (hdOf b).B, .string (hdOf b).key, .int .i64 (hdOf b).size, .int .i64 (hdOf b).idx, .int .i64 (hdOf b).ep, .int .i64 (hdOf b).ct, .slice none 0 0] 46)).heap.size = w4.heap.size + 1 := by simp
        have hF4 := HF.out.size
        clear hps hbA c8 c9 c10 c12
        generalize w4.alloc (.cells #[.int .u8 (hdOf b).s0, .int .u8 (hdOf b).s1, .int .u8 (hdOf b).s2, .int .u8 (hdOf b).s3, .int .u8 (hdOf b).s4, .int .u8 (hdOf b).s5, .int .u8 (hdOf b).s6, .int .u8 (hdOf b).s7, .int .i64 (hdOf b).K, .int .i64 (hdOf b).M, .int .i64 (hdOf b).B, .string (hdOf b).key, .int .i64 (hdOf b).size, .int .i64 (hdOf b).idx, .int .i64 (hdOf b).ep, .int .i64 (hdOf b).ct, .slice none 0 0] 46) = w5 at *
        refine (rsizes_all (hdOf b).K (hdOf b).M (hdOf b).B (hdOf b).size w5).mono ?_
        rintro e w6 ⟨vL, rfl, hOL, hb6⟩
        obtain ⟨n, hn0⟩ : ∃ n, n = sizeN (hdOf b).K (hdOf b).M (hdOf b).B (hdOf b).size := ⟨_, rfl⟩
        rw [← hn0] at hOL hN
        rw [HE0.out]
        have HNE := Lib.hid hn0
        clear hn0
        have HZ2 := Lib.hid ((hb6.block _ (Array.getElem?_eq_some_iff.1 HZ2.out).1).trans HZ2.out)
        have HZ4 := Lib.hid ((hb6.block _ (Array.getElem?_eq_some_iff.1 HZ4.out).1).trans HZ4.out)
        have HF := Lib.hid (HF.out.trans (hb6.mono HF.out.size))
        have HPS := Lib.hid ((hb6.block _ (Array.getElem?_eq_some_iff.1 HPS.out).1).trans HPS.out)
        have HHW := Lib.hid ((hb6.block _ (Array.getElem?_eq_some_iff.1 HHW.out).1).trans HHW.out)
        obtain ⟨AL, cL, eL, _, _, hRL, hAL⟩ := hOL.rd
        subst eL
        have HRL := Lib.hid hRL
        have HAL := Lib.hid hAL
        obtain ⟨po, hpo⟩ : ∃ po, po = w4.heap.size := ⟨_, rfl⟩
        obtain ⟨ks, hks⟩ : ∃ ks, ks = (hdOf b).key.size := ⟨_, rfl⟩
        rw [← hks] at h41 k0 k1
        have hkz := hks.symm
        have HKS := Lib.hid hks
        have hw40 : IntKind.i64.wrap ((40 : Int) + (ks : Int)) = 40 + (ks : Int) := by rw [IntKind.wrap_i64]; omega
        have hkc : w6.cell? ⟨w1.heap.size, 11, none⟩ = some (.string (hdOf b).key) := by have := HHW.out; simp [World.cell?, this]
        have hs6 := hb6.size
        have hpw : w.heap.size ≤ po := by omega
        rw [← hpo] at HPS hpo4 ⊢
        have HPO := Lib.hid hpo
        clear hRL hAL hOL hb6 hks hpo
        go_wp2
        clear hkz hkc hw40
        have hpo6 : po < w6.heap.size := (Array.getElem?_eq_some_iff.1 HPS.out).1
        have HGR0 := Lib.hid (show w6.grownBy w6 (some po) from ⟨rfl, rfl, rfl, Nat.le_refl _, fun _ _ _ => rfl⟩)
        have HWF := Lib.hid (fun (w' : World) (h : w6.grownBy w' (some po)) => Below.trans_row HF.out h hpw (Nat.le_trans HF.out.size (Nat.le_refl _)))
        have HO0 := Lib.hid (show (.int .i64 (40 + (ks : Int)) : Value) = .int .i64 ((offF (hdOf b) 0 : Nat) : Int) by have h1 := HKS.out; congr 1; show (40 : Int) + (ks : Int) = ((40 + (hdOf b).key.size + 0 : Nat) : Int); omega)
        go_loopg [14, 15] n (fun gk t14 i wr => ∃ k : Nat, k ≤ n ∧ gk = n - k ∧ i = .int .i64 k ∧ t14 = .int .i64 ((offF (hdOf b) k : Nat) : Int) ∧ w6.grownBy wr (some po) ∧ ∃ v, wr.heap[po]? = some (.cells #[.int .u8 (hdOf b).s0, .int .u8 (hdOf b).s1, .int .u8 (hdOf b).s2, .int .u8 (hdOf b).s3, .int .u8 (hdOf b).s4, .int .u8 (hdOf b).s5, .int .u8 (hdOf b).s6, .int .u8 (hdOf b).s7, .int .i64 (hdOf b).K, .int .i64 (hdOf b).M, .int .i64 (hdOf b).B, .string (hdOf b).key, .int .i64 (hdOf b).size, .int .i64 (hdOf b).idx, .int .i64 (hdOf b).ep, .int .i64 (hdOf b).ct, v] 46 (0, 0)) ∧ OwnLL wr w6.heap.size v (blksL b k))
        case atStart => exact ⟨0, Nat.zero_le _, rfl, rfl, HO0.out, HGR0.out, _, HPS.out, OwnLL.nil _ _⟩
        case round =>
          obtain ⟨k, hk, rfl, rfl, rfl, hgr, v, hv, hO⟩ := hrel
          have HGR := Lib.hid hgr
          have HV := Lib.hid hv
          have HOV := Lib.hid hO
          have hsr := hgr.size
          clear hgr hv hO
          obtain ⟨o, ho⟩ : ∃ o, o = offF (hdOf b) k := ⟨_, rfl⟩
          rw [← ho]
          have HO := Lib.hid ho
          clear ho
          by_cases hlt : k < n
          · obtain ⟨bL, oL, rfl, hbL, hcl0⟩ := HRL.out k hlt
            have hbp : bL ≠ po := by have := HAL.out bL oL rfl; omega
            obtain ⟨lk, hlk⟩ : ∃ lk, lk = lenF (hdOf b) k := ⟨_, rfl⟩
            have hcl : wr.cell? ⟨bL, oL + k, none⟩ = some (.int .i64 (lk : Int)) := by
              rw [hlk, World.cell?_of_block (a := ⟨bL, oL + k, none⟩) (HGR.out.block bL hbL (fun e => by injection e with e; exact hbp e))]; exact hcl0
            have HLK := Lib.hid hlk
            obtain ⟨en, hen⟩ : ∃ en, en = o + lk := ⟨_, rfl⟩
            have hel : en + 4 ≤ b.length := by
              have h1 := offF_le (hdOf b) (sizeN (hdOf b).K (hdOf b).M (hdOf b).B (hdOf b).size) (k + 1) (by rw [← HNE.out]; exact hlt)
              have h2 := offF_next (hdOf b) k
              have h3 := HO.out
              have h4 := HLE.out
              omega
            have hwe : IntKind.i64.wrap ((o : Int) + (lk : Int)) = ((en : Nat) : Int) := by rw [IntKind.wrap_i64]; omega
            have hwe2 : (o : Int) + (lk : Int) = ((en : Nat) : Int) := by omega
            have hwe3 : IntKind.i64.wrap (en : Int) = (en : Int) := by rw [IntKind.wrap_i64]; omega
            have hwe4 : IntKind.i64.wrap ((en : Int) + 4) = (en : Int) + 4 := by rw [IntKind.wrap_i64]; omega
            have hkn : (k : Int) < (n : Int) := by omega
            have HEN := Lib.hid hen
            have HNX := Lib.hid (show (.int .i64 ((en : Int) + 4) : Value) = .int .i64 ((offF (hdOf b) (k + 1) : Nat) : Int) by
              rw [offF_next, ← HO.out, ← HLK.out]; congr 1; have := HEN.out; omega)
            have u1 : (0 : Int) ≤ (o : Int) := by omega
            have u2 : (o : Int) ≤ (en : Int) := by omega
            have u3 : (en : Int) ≤ (c : Int) := by omega
            have u4 : ¬ c = o := by omega
            have hlkl : lk ≤ 140737488351232 := by omega
            have HBR := Lib.hid (HA.out.below (HWF.out _ HGR.out))
            have HBX := Lib.hid (sl_rl (p := o) (n := lk) HBR.out (by omega))
            obtain ⟨blk, hblk⟩ : ∃ blk, blk = sl b o lk := ⟨_, rfl⟩
            rw [← hblk] at HBX
            have hbll : blk.length = lk := by rw [hblk]; exact sl_length (by omega)
            have HBLL := Lib.hid hbll
            have HBLK := Lib.hid hblk
            have hvc : wr.cell? ⟨po, 16, none⟩ = some v := by have := HV.out; simp [World.cell?, this]
            have KS := Lib.hid (fun (w' : World) (h : Below wr.heap.size wr w') => (⟨(h.cell (p := ⟨po, 16, none⟩) (by show po < _; omega)).trans hvc, (h.cell (p := ⟨bL, oL + k, none⟩) (by show bL < _; omega)).trans hcl⟩ : w'.cell? ⟨po, 16, none⟩ = some v ∧ w'.cell? ⟨bL, oL + k, none⟩ = some (.int .i64 (lk : Int))))
            have HC6 := Lib.hid hcl0
            clear hcl hvc hcl0 hlk hen hblk hbll
            go_wp2_with fail
            have HFL := Lib.hid (show ([blk] : List (List Nat)).flatten = blk by simp)
            have HRLL := Lib.hid (rll_new (w := wr.drew) (vs := [.slice (some ⟨bk, bo + o, none⟩) (en - o) (c - o)]) (LL := [blk]) ⟨⟨_, _, by rw [HBLL.out]; congr 1; have := HEN.out; omega, HBX.out.below ((Dr.refl _).drew.below _)⟩, trivial⟩)
            refine wp_region_mix [(true, true, false), (true, true, true), (true, true, false), (true, true, false), (true, true, false), (true, true, false), (true, true, false), (true, true, false), (true, true, true), (true, true, false), (true, true, false), (false, false, false), (false, false, false), (false, false, false), (false, false, false), (false, true, false), (false, false, true)] mixed (by kernel_rfl) (fun w4 => w4.cell? ⟨po, 16, none⟩ = some v ∧ w4.cell? ⟨bL, oL + k, none⟩ = some (.int .i64 (lk : Int))) (KS.out _ (Below.refl _ _).drew) ?_
            intro hSw0
            simp only [hdM, tlM, List.cons_append, List.nil_append]
            repeat (first
              | (refine mix_look hSw0.out ?_ (by rfl) (fun w4 hSw => ?_) ?_; rotate_left; (focus (obtain ⟨s1, s2⟩ := hSw; go_simp; try with_reducible rfl)); simp only [Act.put, List.setIfInBounds_toArray, List.set_cons_zero, List.set_cons_succ])
              | (refine mix_pure ?_ (by rfl) (fun w4 => ?_) ?_; rotate_left; (focus (go_simp; try with_reducible rfl)); simp only [Act.put, List.setIfInBounds_toArray, List.set_cons_zero, List.set_cons_succ]))
            refine mix_step (fun K hK => ?_)
            go_simp
            refine hK.out _ _ (fun _ _ => KS.out _ ((Below.refl _ _).drew.alloc (Nat.le_refl _) _)) ?_
            clear hK K
            try simp only [Act.put, List.setIfInBounds_toArray, List.set_cons_zero, List.set_cons_succ]
            refine mix_step (fun K hK => ?_)
            go_simp
            refine (join_any (some ⟨wr.drew.heap.size, 0, none⟩) 1 [blk] _ (by simp) (by rw [HFL.out, HBLL.out]; omega) HRLL.out).mono ?_
            rintro e w5 ⟨v5, rfl, hO5, hb5⟩
            rw [HFL.out] at hO5
            obtain ⟨A5, c5, e5, _, _, _, _⟩ := hO5.rd
            rw [HBLL.out] at e5
            subst e5
            have HB5 := Lib.hid (show Below wr.heap.size wr w5 from ((Below.refl _ _).drew.alloc (Nat.le_refl _) _).trans (hb5.mono (by simp)))
            have hz5 : wr.heap.size ≤ w5.heap.size := HB5.out.size
            have HO5 := Lib.hid (hO5.mono (show w6.heap.size ≤ _ by simp; omega))
            clear hO5 hb5
            dsimp only
            refine hK.out _ _ (fun _ _ => KS.out _ HB5.out) ?_
            clear hK K
            try simp only [Act.put, List.setIfInBounds_toArray, List.set_cons_zero, List.set_cons_succ]
            refine mix_step (fun K hK => ?_)
            go_simp
            refine hK.out _ _ (fun _ _ => KS.out _ (HB5.out.alloc hz5 _)) ?_
            clear hK K
            try simp only [Act.put, List.setIfInBounds_toArray, List.set_cons_zero, List.set_cons_succ]
            refine mix_list (fun K hK => ?_)
            change wpList _ _ _ _ _ (World.alloc w5 _)
            refine wpList_pushLLg rfl (.tmp 70) (.tmp 82) rfl w6.heap.size v (blksL b k) rfl (HOV.out.kept HB5.out) (by omega) blk HBLL.out.symm HO5.out _ rfl rfl (by rw [blksL_length]; omega) ?_
            intro v9 w9 hO9 hb9 hg9 _
            refine hK.out _ _ (fun _ _ => ⟨(hb9.cell (p := ⟨po, 16, none⟩) hpo6).trans (KS.out _ HB5.out).1, (hb9.cell (p := ⟨bL, oL + k, none⟩) hbL).trans (KS.out _ HB5.out).2⟩) ?_
            clear hK K
            try simp only [Act.put, List.setIfInBounds_toArray, List.set_cons_zero, List.set_cons_succ]
            repeat (refine mix_pure ?_ (by rfl) (fun w4 => ?_) ?_; rotate_left; (focus (go_simp; try with_reducible rfl)); simp only [Act.put, List.setIfInBounds_toArray, List.set_cons_zero, List.set_cons_succ])
            have hV9 := (hb9.block po hpo6).trans ((HB5.out.block po (by omega)).trans HV.out)
            obtain ⟨A9, c9, e9, _⟩ := hO9.rd
            obtain ⟨n9, hn9⟩ : ∃ n9, n9 = (blksL b k ++ [blk]).length := ⟨_, rfl⟩
            rw [← hn9] at e9
            subst e9
            clear hn9
            have hcl9 : w9.cell? ⟨po, 16, none⟩ = some v := by simp [World.cell?, hV9]
            have hfz9 : w9.frozen? ⟨po, 16, none⟩ = false := by simp [World.frozen?, hV9]
            have HVN := Lib.hid (show (w9.setCell ⟨po, 16, none⟩ (.slice A9 n9 c9)).heap[po]? = some (.cells #[.int .u8 (hdOf b).s0, .int .u8 (hdOf b).s1, .int .u8 (hdOf b).s2, .int .u8 (hdOf b).s3, .int .u8 (hdOf b).s4, .int .u8 (hdOf b).s5, .int .u8 (hdOf b).s6, .int .u8 (hdOf b).s7, .int .i64 (hdOf b).K, .int .i64 (hdOf b).M, .int .i64 (hdOf b).B, .string (hdOf b).key, .int .i64 (hdOf b).size, .int .i64 (hdOf b).idx, .int .i64 (hdOf b).ep, .int .i64 (hdOf b).ct, .slice A9 n9 c9] 46 (0, 0)) by simp [World.setCell, hV9, Array.getElem?_modify])
            have HON := Lib.hid (show OwnLL (w9.setCell ⟨po, 16, none⟩ (.slice A9 n9 c9)) w6.heap.size (.slice A9 n9 c9) (blksL b (k + 1)) from by
              show OwnLL _ _ _ (blksL b k ++ [sl b (offF (hdOf b) k) (lenF (hdOf b) k)])
              rw [← HO.out, ← HLK.out, ← HBLK.out]
              exact hO9.set hpo6 _)
            have HGN := Lib.hid (show w6.grownBy (w9.setCell ⟨po, 16, none⟩ (.slice A9 n9 c9)) (some po) from ⟨hb9.os.trans (HB5.out.os.trans HGR.out.os), hb9.tape.trans (HB5.out.tape.trans HGR.out.tape), hb9.output.trans (HB5.out.output.trans HGR.out.output), by simp; have := hb9.size; omega, fun i hi hne => by
              rw [Below.heap_setCell _ _ _ _ (by show i ≠ po; exact fun e => hne (by rw [e])), hb9.block i hi, HB5.out.block i (by omega)]; exact HGR.out.block i hi hne⟩)
            clear hV9 hO9 hb9 hg9
            refine mix_step (fun K hK => ?_)
            go_simp
            refine hK.out _ _ (fun h => absurd h (by decide)) ?_
            clear hK K
            try simp only [Act.put, List.setIfInBounds_toArray, List.set_cons_zero, List.set_cons_succ]
            refine mix_nil ?_
            have hcl2 : (w9.setCell ⟨po, 16, none⟩ (.slice A9 n9 c9)).cell? ⟨bL, oL + k, none⟩ = some (.int .i64 (lk : Int)) := by
              rw [World.cell?_of_block (a := ⟨bL, oL + k, none⟩) (HGN.out.block bL hbL (fun e => by injection e with e; exact hbp e)), HLK.out]; exact HC6.out
            go_wp2
            go_roundg (n - (k + 1))
            case measure => omega
            case rel => exact ⟨k + 1, by omega, rfl, by go_num, HNX.out, HGN.out, _, HVN.out, HON.out⟩
          · have hkn : k = n := by omega
            subst hkn
            obtain ⟨A3, c3, e3, _⟩ := HOV.out.rd
            obtain ⟨n3, hn3⟩ : ∃ n3, n3 = (blksL b k).length := ⟨_, rfl⟩
            rw [← hn3] at e3
            subst e3
            clear hn3
            have hlt0 := (Array.getElem?_eq_some_iff.1 HZ2.out).1
            have HZ2 := Lib.hid ((HGR.out.block w.heap.size hlt0 (fun e => by injection e with e; have := HPO.out; omega)).trans HZ2.out)
            have HF := Lib.hid (HWF.out _ HGR.out)
            go_wp2_with (first | (refine wpList_loadS rfl (.tmp 11) rfl po rfl #[.int .u8 (hdOf b).s0, .int .u8 (hdOf b).s1, .int .u8 (hdOf b).s2, .int .u8 (hdOf b).s3, .int .u8 (hdOf b).s4, .int .u8 (hdOf b).s5, .int .u8 (hdOf b).s6, .int .u8 (hdOf b).s7, .int .i64 (hdOf b).K, .int .i64 (hdOf b).M, .int .i64 (hdOf b).B, .string (hdOf b).key, .int .i64 (hdOf b).size, .int .i64 (hdOf b).idx, .int .i64 (hdOf b).ep, .int .i64 (hdOf b).ct, .slice A3 n3 c3] rfl HV.out ?_) | (refine wpList_storeS rfl (.tmp 2) _ rfl w.heap.size #[.int .u8 (hdOf b).s0, .int .u8 (hdOf b).s1, .int .u8 (hdOf b).s2, .int .u8 (hdOf b).s3, .int .u8 (hdOf b).s4, .int .u8 (hdOf b).s5, .int .u8 (hdOf b).s6, .int .u8 (hdOf b).s7, .int .i64 (hdOf b).K, .int .i64 (hdOf b).M, .int .i64 (hdOf b).B, .string (hdOf b).key, .int .i64 (hdOf b).size, .int .i64 (hdOf b).idx, .int .i64 (hdOf b).ep, .int .i64 (hdOf b).ct, .slice A3 n3 c3] rfl rfl rfl #[.int .u8 0, .int .u8 0, .int .u8 0, .int .u8 0, .int .u8 0, .int .u8 0, .int .u8 0, .int .u8 0, .int .i64 0, .int .i64 0, .int .i64 0, .string ⟨#[]⟩, .int .i64 0, .int .i64 0, .int .i64 0, .int .i64 0, .slice none 0 0] rfl HZ2.out rfl ?_; intro w9 h9 g9 z9))
            have HB9 := Lib.hid (Below.trans_row HF.out g9 (Nat.le_refl _) (Nat.le_of_lt (Array.getElem?_eq_some_iff.1 HZ2.out).1))
            have hOw := own_row HOV.out hlt0 g9
            rw [HNE.out] at hOw
            have HOW := Lib.hid hOw
            clear hOw
            exact ret_cellS Try.results27 rfl rfl rfl h9 (prs_yes HPE.out HOW.out HB9.out)
  · have H0 := Lib.hid h0
    have hne : (headE b != 0) = true := by simpa using h0
    obtain ⟨H, hH⟩ : ∃ H, H = rdH b := ⟨_, rfl⟩
    obtain ⟨er, her⟩ : ∃ er, er = headE b := ⟨_, rfl⟩
    rw [← her] at H0 hne
    rw [← hH, ← her]
    have HER := Lib.hid her
    have hbA := (Below.refl w1.heap.size w1).alloc (Nat.le_refl _) (.cells #[.int .u8 H.s0, .int .u8 H.s1, .int .u8 H.s2, .int .u8 H.s3, .int .u8 H.s4, .int .u8 H.s5, .int .u8 H.s6, .int .u8 H.s7, .int .i64 H.K, .int .i64 H.M, .int .i64 H.B, .string H.key, .int .i64 H.size, .int .i64 H.idx, .int .i64 H.ep, .int .i64 H.ct] 28)
    have HZ2 := Lib.hid ((hbA.block _ (Array.getElem?_eq_some_iff.1 HZ2.out).1).trans HZ2.out)
    have HZ4 := Lib.hid ((hbA.block _ (Array.getElem?_eq_some_iff.1 HZ4.out).1).trans HZ4.out)
    have HF := Lib.hid (HF.out.trans (hbA.mono HF.out.size))
    clear h0 hH her hbA
    go_wp2_with (first | (refine wpList_storeNewH rfl (.tmp 5) (.tmp 19) rfl #[.int .u8 H.s0, .int .u8 H.s1, .int .u8 H.s2, .int .u8 H.s3, .int .u8 H.s4, .int .u8 H.s5, .int .u8 H.s6, .int .u8 H.s7, .int .i64 H.K, .int .i64 H.M, .int .i64 H.B, .string H.key, .int .i64 H.size, .int .i64 H.idx, .int .i64 H.ep, .int .i64 H.ct] rfl rfl rfl rfl rfl ?_) | (refine wpList_loadS rfl (.tmp 4) rfl (w.heap.size + 1) rfl #[.int .u8 0, .int .u8 0, .int .u8 0, .int .u8 0, .int .u8 0, .int .u8 0, .int .u8 0, .int .u8 0, .int .i64 0, .int .i64 0, .int .i64 0, .string ⟨#[]⟩, .int .i64 0, .int .i64 0, .int .i64 0, .int .i64 0, .slice none 0 0] rfl HZ4.out ?_) | (refine wpList_storeS rfl (.tmp 2) _ rfl w.heap.size #[.int .u8 0, .int .u8 0, .int .u8 0, .int .u8 0, .int .u8 0, .int .u8 0, .int .u8 0, .int .u8 0, .int .i64 0, .int .i64 0, .int .i64 0, .string ⟨#[]⟩, .int .i64 0, .int .i64 0, .int .i64 0, .int .i64 0, .slice none 0 0] rfl rfl rfl #[.int .u8 0, .int .u8 0, .int .u8 0, .int .u8 0, .int .u8 0, .int .u8 0, .int .u8 0, .int .u8 0, .int .i64 0, .int .i64 0, .int .i64 0, .string ⟨#[]⟩, .int .i64 0, .int .i64 0, .int .i64 0, .int .i64 0, .slice none 0 0] rfl HZ2.out rfl ?_; intro w9 h9 g9 z9))
    have HB9 := Lib.hid (Below.trans_row HF.out g9 (Nat.le_refl _) (Nat.le_of_lt (Array.getElem?_eq_some_iff.1 HZ2.out).1))
    have HPE := Lib.hid (show prsE b = er by unfold prsE; rw [if_pos (by rw [← HER.out]; exact H0.out)]; exact HER.out.symm)
    exact ret_cellS Try.results27 rfl rfl rfl h9 (prs_no HPE.out H0.out HB9.out)
end Go.Proofs.Ytbioanbokbhmgaa
