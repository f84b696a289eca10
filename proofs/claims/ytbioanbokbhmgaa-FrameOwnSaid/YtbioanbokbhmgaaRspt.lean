/- Spoilt of the document: the walk. Conditions: bytes. -/
import Derived.Test.YtbioanbokbhmgaaRph
import Derived.Test.YtbioanbokbhmgaaPar4
import Derived.Test.YtbioanbokbhmgaaFactG
namespace Go.Proofs.Ytbioanbokbhmgaa
open Go.RowKit

theorem badL_yes {b : List Nat} {k : Nat} (h : badF b k = true) : badL b (k + 1) = badL b k ++ [k] := by
  show (if badF b k = true then badL b k ++ [k] else badL b k) = _
  rw [if_pos h]
theorem badL_no {b : List Nat} {k : Nat} (h : badF b k = false) : badL b (k + 1) = badL b k := by
  show (if badF b k = true then badL b k ++ [k] else badL b k) = _
  rw [if_neg (by rw [h]; decide)]
set_option maxRecDepth 100000 in
set_option maxHeartbeats 8000000 in
theorem rspt_any (A : Option Addr) (c : Nat) (b : List Nat) (w : World) (hx : ∀ x ∈ b, x < 256) (hbl : b.length ≤ 140737488351232) (hbc : b.length ≤ c) (hc : c ≤ maxLen) (hA : RL w A b) : Calls Try.prog 28 #[.slice A b.length c] w (SptPost w b) := by
  have HO := Lib.hid (rph_any A c b w hx hbl hbc hc hA)
  have HX := Lib.hid hx
  have HA := Lib.hid hA
  clear hx hA
  go_enter Try.func28, Try.ntmps28
  go_wp2_with fail
  refine HO.out.mono ?_
  rintro e w1 ⟨rfl, hb1⟩
  have HW := Lib.hid hb1
  have hsz1 := hb1.size
  clear hb1 HO
  by_cases h0 : headE b = 0
  · have HR := Lib.hid (show rdH b = hdOf b from if_pos h0)
    have HL := Lib.hid (show sptL b = badL b (sizeN (hdOf b).K (hdOf b).M (hdOf b).B (hdOf b).size) from if_pos h0)
    have HCK := (headE_facts h0).2.2.2.2.2
    have h40 := (headE_facts h0).2.2.2.1
    have hks : (hdOf b).key.size = b.getD 31 0 := strN_size _ _
    obtain ⟨hm, k0, k1, hE, i0, i1, e0, e1, t0, t1⟩ := check_facts HCK
    have HHB := Lib.hid (hdOf_bytes HX.out)
    have hs2 := (sum_lt HHB.out).2
    have hN := sizeN_le (hdOf b).K (hdOf b).M (hdOf b).B (hdOf b).size
    rw [HR.out, h0]
    have H0 := Lib.hid h0
    have HCKH := Lib.hid HCK
    have HE0 := Lib.hid hE
    obtain ⟨bk, bo, rfl, hbk, _⟩ := HA.out 0 (by omega)
    have hlenF : ∀ j, lenF (hdOf b) j ≤ 65536 := fun j => by
      obtain ⟨m1, m2, m3, m4, m5, m6⟩ := hm
      have := blen_le (K := (hdOf b).K.toNat) (B := (hdOf b).B.toNat) (s := (hdOf b).size.toNat) (j := j) (by omega)
      unfold lenF; omega
    have HLF := Lib.hid hlenF
    have h41 : 40 + (hdOf b).key.size ≤ b.length := by omega
    clear h0 HCK hm hE i0 i1 e0 e1 t0 t1 hlenF h40 hks
    have hoff : Hid (∀ k, k ≤ (sizeN (hdOf b).K (hdOf b).M (hdOf b).B (hdOf b).size) → offF (hdOf b) k ≤ 300 + k * 65540) := Lib.hid fun k _ => by
      have h1 := sumN_le (f := fun i => blen (hdOf b).K.toNat (hdOf b).B.toNat (hdOf b).size.toNat i + 4) (b := 65540) (fun i => by have := HLF.out i; unfold lenF at this; omega) k
      unfold offF
      omega
    go_wp2_with (first | (refine wpList_storeNewH rfl (.tmp 4) (.tmp 16) rfl #[.int .u8 (hdOf b).s0, .int .u8 (hdOf b).s1, .int .u8 (hdOf b).s2, .int .u8 (hdOf b).s3, .int .u8 (hdOf b).s4, .int .u8 (hdOf b).s5, .int .u8 (hdOf b).s6, .int .u8 (hdOf b).s7, .int .i64 (hdOf b).K, .int .i64 (hdOf b).M, .int .i64 (hdOf b).B, .string (hdOf b).key, .int .i64 (hdOf b).size, .int .i64 (hdOf b).idx, .int .i64 (hdOf b).ep, .int .i64 (hdOf b).ct] rfl rfl rfl rfl rfl ?_) | (refine wpList_loadH rfl (.tmp 4) rfl w1.heap.size rfl #[.int .u8 (hdOf b).s0, .int .u8 (hdOf b).s1, .int .u8 (hdOf b).s2, .int .u8 (hdOf b).s3, .int .u8 (hdOf b).s4, .int .u8 (hdOf b).s5, .int .u8 (hdOf b).s6, .int .u8 (hdOf b).s7, .int .i64 (hdOf b).K, .int .i64 (hdOf b).M, .int .i64 (hdOf b).B, .string (hdOf b).key, .int .i64 (hdOf b).size, .int .i64 (hdOf b).idx, .int .i64 (hdOf b).ep, .int .i64 (hdOf b).ct] rfl (heap_alloc_new w1 _) ?_))
    have HHW := Lib.hid (heap_alloc_new w1 (.cells #[.int .u8 (hdOf b).s0, .int .u8 (hdOf b).s1, .int .u8 (hdOf b).s2, .int .u8 (hdOf b).s3, .int .u8 (hdOf b).s4, .int .u8 (hdOf b).s5, .int .u8 (hdOf b).s6, .int .u8 (hdOf b).s7, .int .i64 (hdOf b).K, .int .i64 (hdOf b).M, .int .i64 (hdOf b).B, .string (hdOf b).key, .int .i64 (hdOf b).size, .int .i64 (hdOf b).idx, .int .i64 (hdOf b).ep, .int .i64 (hdOf b).ct] 28))
    have HB1 := Lib.hid (HW.out.alloc hsz1 (.cells #[.int .u8 (hdOf b).s0, .int .u8 (hdOf b).s1, .int .u8 (hdOf b).s2, .int .u8 (hdOf b).s3, .int .u8 (hdOf b).s4, .int .u8 (hdOf b).s5, .int .u8 (hdOf b).s6, .int .u8 (hdOf b).s7, .int .i64 (hdOf b).K, .int .i64 (hdOf b).M, .int .i64 (hdOf b).B, .string (hdOf b).key, .int .i64 (hdOf b).size, .int .i64 (hdOf b).idx, .int .i64 (hdOf b).ep, .int .i64 (hdOf b).ct] 28))
    generalize w1.alloc (.cells #[.int .u8 (hdOf b).s0, .int .u8 (hdOf b).s1, .int .u8 (hdOf b).s2, .int .u8 (hdOf b).s3, .int .u8 (hdOf b).s4, .int .u8 (hdOf b).s5, .int .u8 (hdOf b).s6, .int .u8 (hdOf b).s7, .int .i64 (hdOf b).K, .int .i64 (hdOf b).M, .int .i64 (hdOf b).B, .string (hdOf b).key, .int .i64 (hdOf b).size, .int .i64 (hdOf b).idx, .int .i64 (hdOf b).ep, .int .i64 (hdOf b).ct] 28) = w2 at *
    refine (rsizes_all (hdOf b).K (hdOf b).M (hdOf b).B (hdOf b).size w2).mono ?_
    rintro e w3 ⟨vL, rfl, hOL, hb3⟩
    obtain ⟨n, hn0⟩ : ∃ n, n = sizeN (hdOf b).K (hdOf b).M (hdOf b).B (hdOf b).size := ⟨_, rfl⟩
    rw [← hn0] at hOL hoff HL
    rw [← hn0] at hN
    rw [HE0.out]
    have HNE := Lib.hid hn0
    clear hn0
    have HH3 := Lib.hid ((hb3.block w1.heap.size (Array.getElem?_eq_some_iff.1 HHW.out).1).trans HHW.out)
    have HB3 := Lib.hid (HB1.out.trans (hb3.mono HB1.out.size))
    obtain ⟨AL, cL, eL, _, _, hRL, _⟩ := hOL.rd
    subst eL
    have HRL0 := Lib.hid hRL
    clear hRL hOL hb3 HHW HB1
    go_wp2_with (refine wpList_loadH rfl (.tmp 4) rfl w1.heap.size rfl #[.int .u8 (hdOf b).s0, .int .u8 (hdOf b).s1, .int .u8 (hdOf b).s2, .int .u8 (hdOf b).s3, .int .u8 (hdOf b).s4, .int .u8 (hdOf b).s5, .int .u8 (hdOf b).s6, .int .u8 (hdOf b).s7, .int .i64 (hdOf b).K, .int .i64 (hdOf b).M, .int .i64 (hdOf b).B, .string (hdOf b).key, .int .i64 (hdOf b).size, .int .i64 (hdOf b).idx, .int .i64 (hdOf b).ep, .int .i64 (hdOf b).ct] rfl HH3.out ?_)
    refine (headsum_any (hdOf b) w3 HHB.out HCKH.out).mono ?_
    rintro e w4 ⟨rfl, hb4⟩
    have HH4 := Lib.hid ((hb4.block w1.heap.size (Array.getElem?_eq_some_iff.1 HH3.out).1).trans HH3.out)
    have HB4 := Lib.hid (HB3.out.trans (hb4.mono HB3.out.size))
    have HRL4 := Lib.hid (HRL0.out.below hb4)
    obtain ⟨s2, hs2e⟩ : ∃ s, s = sum2 (hdOf b) := ⟨_, rfl⟩
    rw [← hs2e] at hs2 ⊢
    have HS2 := Lib.hid hs2e
    obtain ⟨ks, hks⟩ : ∃ ks, ks = (hdOf b).key.size := ⟨_, rfl⟩
    rw [← hks] at k0 k1 h41
    have HKS := Lib.hid hks
    have hw40 : IntKind.i64.wrap ((40 : Int) + (ks : Int)) = 40 + (ks : Int) := by rw [IntKind.wrap_i64]; omega
    have hkc : w4.cell? ⟨w1.heap.size, 11, none⟩ = some (.string (hdOf b).key) := by have := HH4.out; simp [World.cell?, this]
    have hkz : (hdOf b).key.size = ks := HKS.out.symm
    clear hb4 hs2e hks HB3 HRL0 HH3
    obtain ⟨W, hW⟩ : ∃ W, W = w4 := ⟨_, rfl⟩
    rw [← hW] at HH4 HB4 HRL4 hkc ⊢
    clear hW
    go_wp2
    clear hkc hkz hw40
    go_loopg [9, 10, 11, 12] n (fun gk t9 vo i _ wr => ∃ k : Nat, k ≤ n ∧ gk = n - k ∧ i = .int .i64 k ∧ t9 = .int .i64 ((offF (hdOf b) k : Nat) : Int) ∧ OwnI wr W.heap.size vo (badL b k) ∧ Below W.heap.size W wr)
    case atStart => exact ⟨0, Nat.zero_le _, rfl, rfl, by have h1 := HKS.out; show Value.int .i64 _ = Value.int .i64 _; congr 1; show (40 : Int) + (ks : Int) = ((40 + (hdOf b).key.size + 0 : Nat) : Int); omega, OwnI.nil _ _, Below.refl _ _⟩
    case round =>
      obtain ⟨k, hk, rfl, rfl, rfl, hov, hbr⟩ := hrel
      have HOV := Lib.hid hov
      have HBR := Lib.hid hbr
      clear hov hbr
      obtain ⟨o, ho⟩ : ∃ o, o = offF (hdOf b) k := ⟨_, rfl⟩
      have hol : o ≤ 300 + k * 65540 := by rw [ho]; exact hoff.out k hk
      rw [← ho]
      have HO := Lib.hid ho
      clear ho
      by_cases hlt : k < n
      · obtain ⟨bL, oL, rfl, hbL, hcl0⟩ := HRL4.out k hlt
        have hcl : wr.cell? ⟨bL, oL + k, none⟩ = some (.int .i64 ((lenF (hdOf b) k : Nat) : Int)) := (HBR.out.cell (p := ⟨bL, oL + k, none⟩) hbL).trans hcl0
        have hlf := HLF.out k
        obtain ⟨lk, hlk⟩ : ∃ lk, lk = lenF (hdOf b) k := ⟨_, rfl⟩
        rw [← hlk] at hcl hlf
        have HLK := Lib.hid hlk
        obtain ⟨en, hen⟩ : ∃ en, en = o + lk := ⟨_, rfl⟩
        have hwe : IntKind.i64.wrap ((o : Int) + (lk : Int)) = ((en : Nat) : Int) := by rw [IntKind.wrap_i64]; omega
        have hwe2 : (o : Int) + (lk : Int) = ((en : Nat) : Int) := by omega
        have hwe4 : IntKind.i64.wrap ((en : Int) + 4) = (en : Int) + 4 := by rw [IntKind.wrap_i64]; omega
        have hkn : (k : Int) < (n : Int) := by omega
        have HEN := Lib.hid hen
        have HNX := Lib.hid (show (.int .i64 ((en : Int) + 4) : Value) = .int .i64 ((offF (hdOf b) (k + 1) : Nat) : Int) by
          rw [offF_next, ← HO.out, ← HLK.out]; congr 1; have := HEN.out; omega)
        have HON := Lib.hid (fun (w' : World) (h : Below wr.heap.size wr w') => HB4.out.trans ((HBR.out.trans (h.mono HBR.out.size)).mono HB4.out.size))
        have hk4 : k < 4096 := by omega
        clear hlk hen hcl0
        go_wp2_with fail
        clear hcl hwe hwe2
        have HBF := Lib.hid (fun (h : b.length < en + 4) => badF_cut (b := b) (j := k) (by have h1 := HO.out; have h2 := HLK.out; have h3 := HEN.out; omega))
        by_cases hcut : b.length < en + 4
        · have tc : (b.length : Int) < (en : Int) + 4 := by omega
          have hbF := Lib.hid (HBF.out hcut)
          refine wp_region_factsG [.is (.int .i64 ((en : Nat) : Int)), .is (.int .i64 ((en + 4 : Nat) : Int)), .is (.slice (some ⟨bk, bo, none⟩) b.length c), .is (.int .i64 ((b.length : Nat) : Int)), .is (.bool true), .is (.bool true), .any, .any, .any, .any, .any, .any, .any, .any, .any, .any, .any, .any, .any, .any, .any, .is (.bool true)] mixed (by kernel_rfl) (fun hdr => ⟨?_, ?_, ?_, ?_, ?_, ?_, ?_, ?_, ?_, ?_, ?_, ?_, ?_, ?_, ?_, ?_, ?_, ?_, ?_, ?_, ?_, ?_, trivial⟩) (fun wE hbE => ?_)
          · intro a w2 hb hs K hK
            repeat (intro _)
            refine ⟨?_⟩
            have h12 : a.tmps[12]?.getD undef = .int .i64 ((en : Nat) : Int) := hs 12 (by kernel_rfl)
            rw [if_pos (by rfl)]
            go_simp
            exact hK.out _ _ (Below.refl _ _) rfl
          · intro a w2 hb hs K hK
            repeat (intro _)
            refine ⟨?_⟩
            have h47 : a.tmps[47]?.getD undef = .int .i64 ((en : Nat) : Int) := by assumption
            rw [if_pos (by rfl)]
            go_simp
            exact hK.out _ _ (Below.refl _ _) (congrArg (Value.int .i64) (by omega))
          · intro a w2 hb hs K hK
            repeat (intro _)
            refine ⟨?_⟩
            have h0 : a.tmps[0]?.getD undef = .slice (some ⟨bk, bo, none⟩) b.length c := hs 0 (by kernel_rfl)
            rw [if_pos (by rfl)]
            go_simp
            exact hK.out _ _ (Below.refl _ _) rfl
          · intro a w2 hb hs K hK
            repeat (intro _)
            refine ⟨?_⟩
            have h49 : a.tmps[49]?.getD undef = .slice (some ⟨bk, bo, none⟩) b.length c := by assumption
            rw [if_pos (by rfl)]
            go_simp
            exact hK.out _ _ (Below.refl _ _) rfl
          · intro a w2 hb hs K hK
            repeat (intro _)
            refine ⟨?_⟩
            have h48 : a.tmps[48]?.getD undef = .int .i64 ((en + 4 : Nat) : Int) := by assumption
            have h50 : a.tmps[50]?.getD undef = .int .i64 ((b.length : Nat) : Int) := by assumption
            rw [if_pos (by rfl)]
            go_simp
            exact hK.out _ _ (Below.refl _ _) rfl
          · intro a w2 hb hs K hK
            repeat (intro _)
            refine ⟨?_⟩
            have h51 : a.tmps[51]?.getD undef = .bool true := by assumption
            rw [if_pos (by rfl)]
            go_simp
            exact hK.out _ _ (Below.refl _ _) rfl
          · intro a w2 hb hs K hK
            repeat (intro _)
            refine ⟨?_⟩
            have hgd : a.tmps[52]?.getD undef = .bool (!false) := by assumption
            rw [if_neg (wanted_no (j := 5) (b := false) rfl rfl rfl hgd)]
            exact hK.out _ _ (Below.refl _ _) trivial
          · intro a w2 hb hs K hK
            repeat (intro _)
            refine ⟨?_⟩
            have hgd : a.tmps[52]?.getD undef = .bool (!false) := by assumption
            rw [if_neg (wanted_no (j := 5) (b := false) rfl rfl rfl hgd)]
            exact hK.out _ _ (Below.refl _ _) trivial
          · intro a w2 hb hs K hK
            repeat (intro _)
            refine ⟨?_⟩
            have hgd : a.tmps[52]?.getD undef = .bool (!false) := by assumption
            rw [if_neg (wanted_no (j := 5) (b := false) rfl rfl rfl hgd)]
            exact hK.out _ _ (Below.refl _ _) trivial
          · intro a w2 hb hs K hK
            repeat (intro _)
            refine ⟨?_⟩
            have hgd : a.tmps[52]?.getD undef = .bool (!false) := by assumption
            rw [if_neg (wanted_no (j := 5) (b := false) rfl rfl rfl hgd)]
            exact hK.out _ _ (Below.refl _ _) trivial
          · intro a w2 hb hs K hK
            repeat (intro _)
            refine ⟨?_⟩
            have hgd : a.tmps[52]?.getD undef = .bool (!false) := by assumption
            rw [if_neg (wanted_no (j := 5) (b := false) rfl rfl rfl hgd)]
            exact hK.out _ _ (Below.refl _ _) trivial
          · intro a w2 hb hs K hK
            repeat (intro _)
            refine ⟨?_⟩
            have hgd : a.tmps[52]?.getD undef = .bool (!false) := by assumption
            rw [if_neg (wanted_no (j := 5) (b := false) rfl rfl rfl hgd)]
            exact hK.out _ _ (Below.refl _ _) trivial
          · intro a w2 hb hs K hK
            repeat (intro _)
            refine ⟨?_⟩
            have hgd : a.tmps[52]?.getD undef = .bool (!false) := by assumption
            rw [if_neg (wanted_no (j := 5) (b := false) rfl rfl rfl hgd)]
            exact hK.out _ _ (Below.refl _ _) trivial
          · intro a w2 hb hs K hK
            repeat (intro _)
            refine ⟨?_⟩
            have hgd : a.tmps[52]?.getD undef = .bool (!false) := by assumption
            rw [if_neg (wanted_no (j := 5) (b := false) rfl rfl rfl hgd)]
            exact hK.out _ _ (Below.refl _ _) trivial
          · intro a w2 hb hs K hK
            repeat (intro _)
            refine ⟨?_⟩
            have hgd : a.tmps[52]?.getD undef = .bool (!false) := by assumption
            rw [if_neg (wanted_no (j := 5) (b := false) rfl rfl rfl hgd)]
            exact hK.out _ _ (Below.refl _ _) trivial
          · intro a w2 hb hs K hK
            repeat (intro _)
            refine ⟨?_⟩
            have hgd : a.tmps[52]?.getD undef = .bool (!false) := by assumption
            rw [if_neg (wanted_no (j := 5) (b := false) rfl rfl rfl hgd)]
            exact hK.out _ _ (Below.refl _ _) trivial
          · intro a w2 hb hs K hK
            repeat (intro _)
            refine ⟨?_⟩
            have hgd : a.tmps[52]?.getD undef = .bool (!false) := by assumption
            rw [if_neg (wanted_no (j := 5) (b := false) rfl rfl rfl hgd)]
            exact hK.out _ _ (Below.refl _ _) trivial
          · intro a w2 hb hs K hK
            repeat (intro _)
            refine ⟨?_⟩
            have hgd : a.tmps[52]?.getD undef = .bool (!false) := by assumption
            rw [if_neg (wanted_no (j := 5) (b := false) rfl rfl rfl hgd)]
            exact hK.out _ _ (Below.refl _ _) trivial
          · intro a w2 hb hs K hK
            repeat (intro _)
            refine ⟨?_⟩
            have hgd : a.tmps[52]?.getD undef = .bool (!false) := by assumption
            rw [if_neg (wanted_no (j := 5) (b := false) rfl rfl rfl hgd)]
            exact hK.out _ _ (Below.refl _ _) trivial
          · intro a w2 hb hs K hK
            repeat (intro _)
            refine ⟨?_⟩
            have hgd : a.tmps[52]?.getD undef = .bool (!false) := by assumption
            rw [if_neg (wanted_no (j := 5) (b := false) rfl rfl rfl hgd)]
            exact hK.out _ _ (Below.refl _ _) trivial
          · intro a w2 hb hs K hK
            repeat (intro _)
            refine ⟨?_⟩
            have hgd : a.tmps[52]?.getD undef = .bool (!false) := by assumption
            rw [if_neg (wanted_no (j := 5) (b := false) rfl rfl rfl hgd)]
            exact hK.out _ _ (Below.refl _ _) trivial
          · intro a w2 hb hs K hK
            repeat (intro _)
            refine ⟨?_⟩
            have h52 : a.tmps[52]?.getD undef = .bool true := by assumption
            rw [if_pos (by rfl)]
            go_simp
            exact hK.out _ _ (Below.refl _ _) rfl
          intro v0 f0 v1 f1 v2 f2 v3 f3 v4 f4 v5 f5 v6 f6 v7 f7 v8 f8 v9 f9 v10 f10 v11 f11 v12 f12 v13 f13 v14 f14 v15 f15 v16 f16 v17 f17 v18 f18 v19 f19 v20 f20 v21 f21
          refine NoPanic.normal ?_
          simp only [Act.put, List.setIfInBounds_toArray, List.set_cons_zero, List.set_cons_succ]
          obtain rfl : v21 = .bool true := f21
          have HBE := Lib.hid (HBR.out.trans (hbE.mono HBR.out.size))
          have HOE := Lib.hid (HOV.out.kept hbE)
          clear hbE HOV HBR HON HBF f0 f1 f2 f3 f4 f5 f6 f7 f8 f9 f10 f11 f12 f13 f14 f15 f16 f17 f18 f19 f20
          have HPU := Lib.hid (show Own wE W.heap.size 3 1 u10 (badL b k).length (fun i => [.int .i64 (((badL b k ++ [k]).getD i 0 : Nat) : Int)]) from Own.congr HOE.out fun i hi => by rw [getD_app_l hi])
          have HU := Lib.hid (show (#[Value.int .i64 (k : Int)] : Array Value).toList = [.int .i64 (((badL b k ++ [k]).getD (badL b k).length 0 : Nat) : Int)] by rw [getD_app_r])
          have hbll := badL_length b k
          go_wp2_with (at_builtin; refine wpList_push wE rfl (.tmp 69) (.tmp 71) 30 rfl W.heap.size 3 1 8 (.int .i64 0) #[.int .i64 (k : Int)] Try.underlying30 intInfo rfl (by decide) u10 (badL b k).length _ rfl HPU.out HBE.out.size _ rfl rfl HU.out rfl rfl (by omega) (by omega) ?_; intro v6 w6 hown6 hb6 hg6 hat6)
          have HB6 := Lib.hid (HBE.out.trans hb6)
          have HO6 := Lib.hid (show OwnI w6 W.heap.size v6 (badL b (k + 1)) by rw [badL_yes hbF.out]; unfold OwnI; rw [List.length_append]; exact hown6)
          clear hown6 hb6 hg6 hat6 HPU HU hbll
          try go_wp2
          go_roundg (n - (k + 1))
          case measure => omega
          case rel => exact ⟨k + 1, by omega, rfl, by go_num, HNX.out, HO6.out, HB6.out⟩
        · have tc : ¬ (b.length : Int) < (en : Int) + 4 := by omega
          obtain ⟨blk, hblk⟩ : ∃ blk, blk = sl b o lk := ⟨_, rfl⟩
          have hbll : blk.length ≤ 65536 := by rw [hblk, sl_length (by have := HEN.out; omega)]; exact hlf
          have HBX : Hid (∀ x ∈ blk, x < 256) := Lib.hid fun x hx => HX.out x (sl_mem (hblk ▸ hx))
          have HBK := Lib.hid (fun (w' : World) (h : Below w.heap.size w w') => (show IsRL blk (.slice (some ⟨bk, bo + o, none⟩) (en - o) (c - o)) w' from ⟨_, _, by rw [hblk, sl_length (by have := HEN.out; omega)]; congr 1; have := HEN.out; omega, by rw [hblk]; exact sl_rl (HA.out.below h) (by have := HEN.out; omega)⟩))
          obtain ⟨pre, hpre⟩ : ∃ pre, pre = le 4 s2 ++ le 4 k ++ blk := ⟨_, rfl⟩
          have HPRE := Lib.hid (show ([le 4 s2, le 4 k, blk] : List (List Nat)).flatten = pre by rw [hpre]; simp)
          have hpl : pre.length ≤ 70000 := by rw [hpre, List.length_append, List.length_append, le_length, le_length]; omega
          have HPX : Hid (∀ x ∈ pre, x < 256) := Lib.hid (by rw [hpre]; exact le_app_lt (le_app_lt (fun _ => le_lt) fun _ => le_lt) HBX.out)
          obtain ⟨nV, hnV⟩ : ∃ x, x = num b en 4 := ⟨_, rfl⟩
          obtain ⟨sV, hsV⟩ : ∃ x, x = crc pre := ⟨_, rfl⟩
          have HNV := Lib.hid hnV
          have HSV := Lib.hid hsV
          have HBD : Hid (badF b k = decide (¬ nV = sV)) := Lib.hid (by
            rw [badF_sl (by have h1 := HO.out; have h2 := HLK.out; have h3 := HEN.out; omega), ← HO.out, ← HLK.out, ← HEN.out, ← HS2.out, ← hblk, hnV, hsV, hpre]; rfl)
          have HNUM := Lib.hid (fun (p m : Nat) (w' : World) (h1 : m ≤ 4) (h2 : p + m ≤ b.length) (h : Below w.heap.size w w') => number_any (some ⟨bk, bo, none⟩) c b p m w' HX.out h1 h2 (by omega) (HA.out.below h))
          have u1 : (0 : Int) ≤ (o : Int) := by omega
          have u2 : (o : Int) ≤ (en : Int) := by have := HEN.out; omega
          have u3 : (en : Int) ≤ (c : Int) := by omega
          have u4 : ¬ c = o := by omega
          clear hblk hpre hnV hsV HBF
          refine wp_region_factsG [.is (.int .i64 ((en : Nat) : Int)), .is (.int .i64 ((en + 4 : Nat) : Int)), .is (.slice (some ⟨bk, bo, none⟩) b.length c), .is (.int .i64 ((b.length : Nat) : Int)), .is (.bool false), .is (.bool false), .is (.slice (some ⟨bk, bo, none⟩) b.length c), .is (.int .i64 ((en : Nat) : Int)), .is (.int .i64 ((nV : Nat) : Int)), .is (.int .i64 ((s2 : Nat) : Int)), .rl (le 4 s2), .is (.int .i64 ((k : Nat) : Int)), .rl (le 4 k), .is (.slice (some ⟨bk, bo, none⟩) b.length c), .is (.int .i64 ((o : Nat) : Int)), .is (.int .i64 ((en : Nat) : Int)), .rl blk, .rll [le 4 s2, le 4 k, blk], .rl pre, .is (.int .i64 ((sV : Nat) : Int)), .is (.bool (decide (¬ nV = sV))), .is (.bool (decide (¬ nV = sV)))] mixed (by kernel_rfl) (fun hdr => ⟨?_, ?_, ?_, ?_, ?_, ?_, ?_, ?_, ?_, ?_, ?_, ?_, ?_, ?_, ?_, ?_, ?_, ?_, ?_, ?_, ?_, ?_, trivial⟩) (fun wE hbE => ?_)
          · intro a w2 hb hs K hK
            repeat (intro _)
            refine ⟨?_⟩
            have h12 : a.tmps[12]?.getD undef = .int .i64 ((en : Nat) : Int) := hs 12 (by kernel_rfl)
            rw [if_pos (by rfl)]
            go_simp
            exact hK.out _ _ (Below.refl _ _) rfl
          · intro a w2 hb hs K hK
            repeat (intro _)
            refine ⟨?_⟩
            have h47 : a.tmps[47]?.getD undef = .int .i64 ((en : Nat) : Int) := by assumption
            rw [if_pos (by rfl)]
            go_simp
            exact hK.out _ _ (Below.refl _ _) (congrArg (Value.int .i64) (by omega))
          · intro a w2 hb hs K hK
            repeat (intro _)
            refine ⟨?_⟩
            have h0 : a.tmps[0]?.getD undef = .slice (some ⟨bk, bo, none⟩) b.length c := hs 0 (by kernel_rfl)
            rw [if_pos (by rfl)]
            go_simp
            exact hK.out _ _ (Below.refl _ _) rfl
          · intro a w2 hb hs K hK
            repeat (intro _)
            refine ⟨?_⟩
            have h49 : a.tmps[49]?.getD undef = .slice (some ⟨bk, bo, none⟩) b.length c := by assumption
            rw [if_pos (by rfl)]
            go_simp
            exact hK.out _ _ (Below.refl _ _) rfl
          · intro a w2 hb hs K hK
            repeat (intro _)
            refine ⟨?_⟩
            have h48 : a.tmps[48]?.getD undef = .int .i64 ((en + 4 : Nat) : Int) := by assumption
            have h50 : a.tmps[50]?.getD undef = .int .i64 ((b.length : Nat) : Int) := by assumption
            rw [if_pos (by rfl)]
            go_simp
            exact hK.out _ _ (Below.refl _ _) rfl
          · intro a w2 hb hs K hK
            repeat (intro _)
            refine ⟨?_⟩
            have h51 : a.tmps[51]?.getD undef = .bool false := by assumption
            rw [if_pos (by rfl)]
            go_simp
            exact hK.out _ _ (Below.refl _ _) rfl
          · intro a w2 hb hs K hK
            repeat (intro _)
            refine ⟨?_⟩
            have h0 : a.tmps[0]?.getD undef = .slice (some ⟨bk, bo, none⟩) b.length c := hs 0 (by kernel_rfl)
            have hgd : a.tmps[52]?.getD undef = .bool false := by assumption
            rw [if_pos (wanted_yes (j := 5) (b := false) rfl rfl rfl hgd)]
            go_simp
            exact hK.out _ _ (Below.refl _ _) rfl
          · intro a w2 hb hs K hK
            repeat (intro _)
            refine ⟨?_⟩
            have h12 : a.tmps[12]?.getD undef = .int .i64 ((en : Nat) : Int) := hs 12 (by kernel_rfl)
            have hgd : a.tmps[52]?.getD undef = .bool false := by assumption
            rw [if_pos (wanted_yes (j := 5) (b := false) rfl rfl rfl hgd)]
            go_simp
            exact hK.out _ _ (Below.refl _ _) rfl
          · intro a w2 hb hs K hK
            repeat (intro _)
            refine ⟨?_⟩
            have h53 : a.tmps[53]?.getD undef = .slice (some ⟨bk, bo, none⟩) b.length c := by assumption
            have h54 : a.tmps[54]?.getD undef = .int .i64 ((en : Nat) : Int) := by assumption
            have hgd : a.tmps[52]?.getD undef = .bool false := by assumption
            rw [if_pos (wanted_yes (j := 5) (b := false) rfl rfl rfl hgd)]
            go_simp
            refine (HNUM.out en 4 w2 (by decide) (by omega) (HON.out _ (hdr.out.trans (hb.mono hdr.out.size)))).mono ?_
            rintro e w3 ⟨rfl, rfl⟩
            rw [← HNV.out]
            exact hK.out _ _ (Below.refl _ _) rfl
          · intro a w2 hb hs K hK
            repeat (intro _)
            refine ⟨?_⟩
            have h8 : a.tmps[8]?.getD undef = .int .i64 ((s2 : Nat) : Int) := hs 8 (by kernel_rfl)
            have hgd : a.tmps[52]?.getD undef = .bool false := by assumption
            rw [if_pos (wanted_yes (j := 5) (b := false) rfl rfl rfl hgd)]
            go_simp
            exact hK.out _ _ (Below.refl _ _) rfl
          · intro a w2 hb hs K hK
            repeat (intro _)
            refine ⟨?_⟩
            have h56 : a.tmps[56]?.getD undef = .int .i64 ((s2 : Nat) : Int) := by assumption
            have hgd : a.tmps[52]?.getD undef = .bool false := by assumption
            rw [if_pos (wanted_yes (j := 5) (b := false) rfl rfl rfl hgd)]
            go_simp
            refine (low_any s2 4 w2 (by omega) (by decide)).mono ?_
            rintro e w3 ⟨o, rfl, hO, hb3⟩
            exact hK.out _ _ hb3 hO.isRL
          · intro a w2 hb hs K hK
            repeat (intro _)
            refine ⟨?_⟩
            have h11 : a.tmps[11]?.getD undef = .int .i64 ((k : Nat) : Int) := hs 11 (by kernel_rfl)
            have hgd : a.tmps[52]?.getD undef = .bool false := by assumption
            rw [if_pos (wanted_yes (j := 5) (b := false) rfl rfl rfl hgd)]
            go_simp
            exact hK.out _ _ (Below.refl _ _) rfl
          · intro a w2 hb hs K hK
            repeat (intro _)
            refine ⟨?_⟩
            have h58 : a.tmps[58]?.getD undef = .int .i64 ((k : Nat) : Int) := by assumption
            have hgd : a.tmps[52]?.getD undef = .bool false := by assumption
            rw [if_pos (wanted_yes (j := 5) (b := false) rfl rfl rfl hgd)]
            go_simp
            refine (low_any k 4 w2 (by omega) (by decide)).mono ?_
            rintro e w3 ⟨o, rfl, hO, hb3⟩
            exact hK.out _ _ hb3 hO.isRL
          · intro a w2 hb hs K hK
            repeat (intro _)
            refine ⟨?_⟩
            have h0 : a.tmps[0]?.getD undef = .slice (some ⟨bk, bo, none⟩) b.length c := hs 0 (by kernel_rfl)
            have hgd : a.tmps[52]?.getD undef = .bool false := by assumption
            rw [if_pos (wanted_yes (j := 5) (b := false) rfl rfl rfl hgd)]
            go_simp
            exact hK.out _ _ (Below.refl _ _) rfl
          · intro a w2 hb hs K hK
            repeat (intro _)
            refine ⟨?_⟩
            have h9 : a.tmps[9]?.getD undef = .int .i64 ((o : Nat) : Int) := hs 9 (by kernel_rfl)
            have hgd : a.tmps[52]?.getD undef = .bool false := by assumption
            rw [if_pos (wanted_yes (j := 5) (b := false) rfl rfl rfl hgd)]
            go_simp
            exact hK.out _ _ (Below.refl _ _) rfl
          · intro a w2 hb hs K hK
            repeat (intro _)
            refine ⟨?_⟩
            have h12 : a.tmps[12]?.getD undef = .int .i64 ((en : Nat) : Int) := hs 12 (by kernel_rfl)
            have hgd : a.tmps[52]?.getD undef = .bool false := by assumption
            rw [if_pos (wanted_yes (j := 5) (b := false) rfl rfl rfl hgd)]
            go_simp
            exact hK.out _ _ (Below.refl _ _) rfl
          · intro a w2 hb hs K hK
            repeat (intro _)
            refine ⟨?_⟩
            have h60 : a.tmps[60]?.getD undef = .slice (some ⟨bk, bo, none⟩) b.length c := by assumption
            have h61 : a.tmps[61]?.getD undef = .int .i64 ((o : Nat) : Int) := by assumption
            have h62 : a.tmps[62]?.getD undef = .int .i64 ((en : Nat) : Int) := by assumption
            have hgd : a.tmps[52]?.getD undef = .bool false := by assumption
            rw [if_pos (wanted_yes (j := 5) (b := false) rfl rfl rfl hgd)]
            go_simp
            exact hK.out _ _ (Below.refl _ _) (HBK.out w2 (HON.out _ (hdr.out.trans (hb.mono hdr.out.size))))
          · intro a w2 hb hs K hK
            repeat (intro _)
            refine ⟨?_⟩
            obtain ⟨A57, c57, h57, r57⟩ : IsRL (le 4 s2) (a.tmps[57]?.getD undef) w2 := by assumption
            obtain ⟨A59, c59, h59, r59⟩ : IsRL (le 4 k) (a.tmps[59]?.getD undef) w2 := by assumption
            obtain ⟨A63, c63, h63, r63⟩ : IsRL (blk) (a.tmps[63]?.getD undef) w2 := by assumption
            have hgd : a.tmps[52]?.getD undef = .bool false := by assumption
            rw [if_pos (wanted_yes (j := 5) (b := false) rfl rfl rfl hgd)]
            go_simp
            exact hK.out _ _ ((Below.refl _ _).alloc (Nat.le_refl _) _) (isRLL_new (LL := [le 4 s2, le 4 k, blk]) ⟨⟨_, _, rfl, r57⟩, ⟨_, _, rfl, r59⟩, ⟨_, _, rfl, r63⟩, trivial⟩ rfl)
          · intro a w2 hb hs K hK
            repeat (intro _)
            refine ⟨?_⟩
            obtain ⟨A64, c64, h64, r64⟩ : IsRLL ([le 4 s2, le 4 k, blk]) (a.tmps[64]?.getD undef) w2 := by assumption
            have hgd : a.tmps[52]?.getD undef = .bool false := by assumption
            rw [if_pos (wanted_yes (j := 5) (b := false) rfl rfl rfl hgd)]
            go_simp
            refine (join_any A64 c64 ([le 4 s2, le 4 k, blk]) w2 (by simp) (by rw [HPRE.out]; omega) r64).mono ?_
            rintro e w3 ⟨o, rfl, hO, hb3⟩
            rw [HPRE.out] at hO
            exact hK.out _ _ hb3 hO.isRL
          · intro a w2 hb hs K hK
            repeat (intro _)
            refine ⟨?_⟩
            obtain ⟨A65, c65, h65, r65⟩ : IsRL (pre) (a.tmps[65]?.getD undef) w2 := by assumption
            have hgd : a.tmps[52]?.getD undef = .bool false := by assumption
            rw [if_pos (wanted_yes (j := 5) (b := false) rfl rfl rfl hgd)]
            go_simp
            refine (rsum_any A65 c65 pre w2 HPX.out (by omega) r65).mono ?_
            rintro e w3 ⟨rfl, rfl⟩
            rw [← HSV.out]
            exact hK.out _ _ (Below.refl _ _) rfl
          · intro a w2 hb hs K hK
            repeat (intro _)
            refine ⟨?_⟩
            have h55 : a.tmps[55]?.getD undef = .int .i64 ((nV : Nat) : Int) := by assumption
            have h66 : a.tmps[66]?.getD undef = .int .i64 ((sV : Nat) : Int) := by assumption
            have hgd : a.tmps[52]?.getD undef = .bool false := by assumption
            rw [if_pos (wanted_yes (j := 5) (b := false) rfl rfl rfl hgd)]
            go_simp
            exact hK.out _ _ (Below.refl _ _) (congrArg Value.bool (by first | rfl | exact bne_dec _ _ | simp))
          · intro a w2 hb hs K hK
            repeat (intro _)
            refine ⟨?_⟩
            have h52 : a.tmps[52]?.getD undef = .bool false := by assumption
            have h67 : a.tmps[67]?.getD undef = .bool (decide (¬ nV = sV)) := by assumption
            rw [if_pos (by rfl)]
            go_simp
            exact hK.out _ _ (Below.refl _ _) (congrArg Value.bool (by simp))
          intro v0 f0 v1 f1 v2 f2 v3 f3 v4 f4 v5 f5 v6 f6 v7 f7 v8 f8 v9 f9 v10 f10 v11 f11 v12 f12 v13 f13 v14 f14 v15 f15 v16 f16 v17 f17 v18 f18 v19 f19 v20 f20 v21 f21
          refine NoPanic.normal ?_
          simp only [Act.put, List.setIfInBounds_toArray, List.set_cons_zero, List.set_cons_succ]
          obtain rfl : v21 = .bool (decide (¬ nV = sV)) := f21
          have HBE := Lib.hid (HBR.out.trans (hbE.mono HBR.out.size))
          have HOE := Lib.hid (HOV.out.kept hbE)
          clear hbE HOV HBR HON u1 u2 u3 u4 f0 f1 f2 f3 f4 f5 f6 f7 f8 f9 f10 f11 f12 f13 f14 f15 f16 f17 f18 f19 f20
          by_cases hq : nV = sV
          · have hd : (decide (¬ nV = sV)) = false := decide_eq_false (not_not_intro hq)
            have hbF := Lib.hid (show badF b k = false by rw [HBD.out]; exact hd)
            rw [hd]
            clear hq hd
            have HO6 := Lib.hid (show OwnI wE W.heap.size u10 (badL b (k + 1)) by rw [badL_no hbF.out]; exact HOE.out)
            go_wp2
            go_roundg (n - (k + 1))
            case measure => omega
            case rel => exact ⟨k + 1, by omega, rfl, by go_num, HNX.out, HO6.out, HBE.out⟩
          · have hd : (decide (¬ nV = sV)) = true := decide_eq_true hq
            have hbF := Lib.hid (show badF b k = true by rw [HBD.out]; exact hd)
            rw [hd]
            clear hq hd
            have HPU := Lib.hid (show Own wE W.heap.size 3 1 u10 (badL b k).length (fun i => [.int .i64 (((badL b k ++ [k]).getD i 0 : Nat) : Int)]) from Own.congr HOE.out fun i hi => by rw [getD_app_l hi])
            have HU := Lib.hid (show (#[Value.int .i64 (k : Int)] : Array Value).toList = [.int .i64 (((badL b k ++ [k]).getD (badL b k).length 0 : Nat) : Int)] by rw [getD_app_r])
            have hbll := badL_length b k
            go_wp2_with (at_builtin; refine wpList_push wE rfl (.tmp 69) (.tmp 71) 30 rfl W.heap.size 3 1 8 (.int .i64 0) #[.int .i64 (k : Int)] Try.underlying30 intInfo rfl (by decide) u10 (badL b k).length _ rfl HPU.out HBE.out.size _ rfl rfl HU.out rfl rfl (by omega) (by omega) ?_; intro v6 w6 hown6 hb6 hg6 hat6)
            have HB6 := Lib.hid (HBE.out.trans hb6)
            have HO6 := Lib.hid (show OwnI w6 W.heap.size v6 (badL b (k + 1)) by rw [badL_yes hbF.out]; unfold OwnI; rw [List.length_append]; exact hown6)
            clear hown6 hb6 hg6 hat6 HPU HU hbll
            try go_wp2
            go_roundg (n - (k + 1))
            case measure => omega
            case rel => exact ⟨k + 1, by omega, rfl, by go_num, HNX.out, HO6.out, HB6.out⟩
      · have hkn : k = n := by omega
        subst hkn
        have HFO := Lib.hid (HB4.out.trans (HBR.out.mono HB4.out.size))
        have HOO := Lib.hid (Own.mono HOV.out HB4.out.size)
        obtain ⟨A3, c3, e3, _⟩ := Own.rd HOV.out
        obtain ⟨n3, hn3⟩ : ∃ n3, n3 = (badL b k).length := ⟨_, rfl⟩
        rw [← hn3] at e3
        subst e3
        clear hn3
        go_wp2
        go_ret2
        exact ⟨_, by rw [H0.out]; rfl, by rw [HL.out]; exact HOO.out, HFO.out⟩
  · have H0 := Lib.hid h0
    have hne : (headE b != 0) = true := by simpa using h0
    obtain ⟨H, hH⟩ : ∃ H, H = rdH b := ⟨_, rfl⟩
    rw [← hH]
    clear hH
    have HF := Lib.hid (show sptL b = [] from if_neg h0)
    clear h0
    go_wp2_with (refine wpList_storeNewH rfl (.tmp 4) (.tmp 16) rfl #[.int .u8 H.s0, .int .u8 H.s1, .int .u8 H.s2, .int .u8 H.s3, .int .u8 H.s4, .int .u8 H.s5, .int .u8 H.s6, .int .u8 H.s7, .int .i64 H.K, .int .i64 H.M, .int .i64 H.B, .string H.key, .int .i64 H.size, .int .i64 H.idx, .int .i64 H.ep, .int .i64 H.ct] rfl rfl rfl rfl rfl ?_)
    go_ret2
    exact ⟨_, rfl, by rw [HF.out]; exact OwnI.nil _ _, HW.out.alloc hsz1 _⟩
end Go.Proofs.Ytbioanbokbhmgaa
