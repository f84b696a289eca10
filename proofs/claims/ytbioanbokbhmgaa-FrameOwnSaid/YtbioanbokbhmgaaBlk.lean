/- frame.blocks: the walk, for any callback that keeps an invariant. Conditions: bytes whose head is read. -/
import Derived.Test.YtbioanbokbhmgaaOpnD
import Derived.Test.YtbioanbokbhmgaaEncP
import Derived.Test.YtbioanbokbhmgaaPrsR
namespace Go.Proofs.Ytbioanbokbhmgaa
open Go.RowKit

/-- The block that blocks hands over. -/
def blkAt (b : List Nat) (j : Nat) : List Nat := if b.length < offF (hdOf b) j + lenF (hdOf b) j + 4 then [] else sl b (offF (hdOf b) j) (lenF (hdOf b) j)
theorem blkAt_cut {b : List Nat} {j : Nat} (h : b.length < offF (hdOf b) j + lenF (hdOf b) j + 4) : blkAt b j = [] := if_pos h
theorem blkAt_sl {b : List Nat} {j : Nat} (h : ¬ b.length < offF (hdOf b) j + lenF (hdOf b) j + 4) : blkAt b j = sl b (offF (hdOf b) j) (lenF (hdOf b) j) := if_neg h
theorem badF_cut {b : List Nat} {j : Nat} (h : b.length < offF (hdOf b) j + lenF (hdOf b) j + 4) : badF b j = true := by
  unfold badF
  rw [decide_eq_true h]; rfl
theorem badF_sl {b : List Nat} {j : Nat} (h : ¬ b.length < offF (hdOf b) j + lenF (hdOf b) j + 4) : badF b j = decide (¬ num b (offF (hdOf b) j + lenF (hdOf b) j) 4 = sumB (sum2 (hdOf b)) j (sl b (offF (hdOf b) j) (lenF (hdOf b) j))) := by
  unfold badF
  rw [decide_eq_false h]; rfl
theorem drop_rl {w : World} {bk bo k : Nat} {l : List Nat} (h : RL w (some ⟨bk, bo, none⟩) l) : RL w (some ⟨bk, bo + k, none⟩) (l.drop k) := fun i hi => by
  rw [List.length_drop] at hi
  obtain ⟨b', o', e, hb, hc⟩ := h (k + i) (by omega)
  injection e with e
  injection e with e1 e2
  subst e1 e2
  refine ⟨bk, bo + k, rfl, hb, ?_⟩
  rw [show bo + k + i = bo + (k + i) by omega, hc]
  show some (Value.int .u8 _) = some (Value.int .u8 _)
  rw [List.getD_eq_getElem?_getD, List.getD_eq_getElem?_getD, List.getElem?_drop]
theorem row_keep {w w1 w2 : World} {kl t n : Nat} {f : Nat → Value} (h : w.rowIs kl t n f) (h1 : w1.heap[kl]? = w.heap[kl]?) (h2 : w2.heap[kl]? = w1.heap[kl]?) : w2.rowIs kl t n f := h.of_block (h2.trans h1)
theorem eq_dec (a b : Nat) : ((a : Int) == (b : Int)) = decide (a = b) := by
  by_cases e : a = b
  · subst e; simp
  · rw [beq_eq_false_iff_ne.2 (by omega)]; simp [e]
theorem not_dec (a b : Nat) : (!decide (¬ a = b)) = decide (a = b) := by by_cases e : a = b <;> simp [e]
theorem sl_drop (b : List Nat) (o n : Nat) : sl (b.drop o) 0 n = sl b o n := by unfold sl; rw [List.drop_zero]
theorem sl_drop' (b : List Nat) (o p n : Nat) : sl (b.drop o) p n = sl b (o + p) n := by unfold sl; rw [List.drop_drop]
set_option maxRecDepth 100000 in
set_option maxHeartbeats 4000000 in
theorem blocks_any (A : Option Addr) (c : Nat) (b : List Nat) (w0 w : World) (_hw0 : Below w0.heap.size w0 w) (F : Nat) (caps : Array Value) (I : Nat → Nat → World → Prop) (hx : ∀ x ∈ b, x < 256) (hbl : b.length ≤ 150000000000000) (hbc : b.length ≤ c) (hc : c ≤ maxLen) (he : headE b = 0)
    (hcf : ∀ (j : Int) (x : Value) (q : Bool) (w : World), (callFunc F (#[.int .i64 j, x, .bool q] ++ caps)).run Try.prog w = .ok (.enter F (#[.int .i64 j, x, .bool q] ++ caps)) w)
    (hA : RL w0 A b) (hIb : ∀ kl j w', I kl j w' → Below w0.heap.size w0 w') (hkp : ∀ kl j w' w'', I kl j w' → Below w'.heap.size w' w'' → I kl j w'') (h0 : ∀ kl, w.heap.size ≤ kl → I kl 0 w)
    (hdo : ∀ kl j A' c' w1, j < sizeN (hdOf b).K (hdOf b).M (hdOf b).B (hdOf b).size → kl < w1.heap.size → I kl j w1 → RL w1 A' (blkAt b j) → (blkAt b j).length ≤ c' →
      Calls Try.prog F (#[.int .i64 (j : Int), .slice A' (blkAt b j).length c', .bool (!badF b j)] ++ caps) w1 fun e w2 => e = .returned (.tuple #[]) ∧ I kl (j + 1) w2 ∧ w2.heap[kl]? = w1.heap[kl]?) :
    Calls Try.prog 60 #[.agg #[.int .u8 (hdOf b).s0, .int .u8 (hdOf b).s1, .int .u8 (hdOf b).s2, .int .u8 (hdOf b).s3, .int .u8 (hdOf b).s4, .int .u8 (hdOf b).s5, .int .u8 (hdOf b).s6, .int .u8 (hdOf b).s7, .int .i64 (hdOf b).K, .int .i64 (hdOf b).M, .int .i64 (hdOf b).B, .string (hdOf b).key, .int .i64 (hdOf b).size, .int .i64 (hdOf b).idx, .int .i64 (hdOf b).ep, .int .i64 (hdOf b).ct], .int .u32 (sum2 (hdOf b) : Nat), .slice A b.length c, .func (.func F) #[] caps] w fun e w' => e = .returned (.tuple #[]) ∧ ∃ kl, I kl (sizeN (hdOf b).K (hdOf b).M (hdOf b).B (hdOf b).size) w' := by
  obtain ⟨f1, f2, f3, f4, f5, f6⟩ := headE_facts he
  obtain ⟨hm, k0, k1, hE, i0, i1, e0, e1, t0, t1⟩ := check_facts f6
  obtain ⟨z0, z1, _⟩ := size_facts hE
  have HHB := hdOf_bytes hx
  have hks : (hdOf b).key.size = b.getD 31 0 := strN_size _ _
  have hs2 := (sum_lt HHB).2
  have HN := Lib.hid (show sizeN (hdOf b).K (hdOf b).M (hdOf b).B (hdOf b).size = nblk ((hdOf b).K.toNat * (hdOf b).B.toNat) (hdOf b).size.toNat by unfold sizeN; rw [if_pos hE])
  have hnb := sizeN_le (hdOf b).K (hdOf b).M (hdOf b).B (hdOf b).size
  have hlenF : ∀ j, lenF (hdOf b) j ≤ 65536 := fun j => by
    obtain ⟨m1, m2, m3, m4, m5, m6⟩ := hm
    have := blen_le (K := (hdOf b).K.toNat) (B := (hdOf b).B.toNat) (s := (hdOf b).size.toNat) (j := j) (by omega)
    unfold lenF; omega
  have HLF := Lib.hid hlenF
  have HM := Lib.hid hm
  have HX := Lib.hid hx
  have HA := Lib.hid hA
  have HIB := Lib.hid hIb
  have HKP := Lib.hid hkp
  have H0 := Lib.hid h0
  have HDO := Lib.hid hdo
  have HL := Lib.hid (show ∀ j, blen (hdOf b).K.toNat (hdOf b).B.toNat (hdOf b).size.toNat j = lenF (hdOf b) j from fun _ => rfl)
  have HOF := Lib.hid (show offF (hdOf b) 0 = 40 + (hdOf b).key.size from rfl)
  have HON := Lib.hid (offF_next (hdOf b))
  have HCUT := Lib.hid (fun j => @blkAt_cut b j)
  have HSL := Lib.hid (fun j => @blkAt_sl b j)
  have HBC := Lib.hid (fun j => @badF_cut b j)
  have HBS := Lib.hid (fun j => @badF_sl b j)
  have h40 : 40 + (hdOf b).key.size ≤ b.length := by omega
  obtain ⟨bk, bo, rfl, hbk, _⟩ := HA.out 0 (by omega)
  obtain ⟨ks, hkse⟩ : ∃ ks, ks = (hdOf b).key.size := ⟨_, rfl⟩
  rw [← hkse] at h40 HOF k0 k1
  have HKS := Lib.hid hkse
  unfold maxLen at hc
  clear f1 f2 f3 f4 f5 hm hx hA hIb hkp h0 hdo hlenF HHB hks hE i0 i1 e0 e1 t0 t1 hkse
  generalize hdOf b = H at *
  generalize sum2 H = s2 at *
  have hw36 : IntKind.i64.wrap ((36 : Int) + (ks : Int)) = 36 + (ks : Int) := by rw [IntKind.wrap_i64]; omega
  have hw40 : IntKind.i64.wrap ((36 : Int) + (ks : Int) + 4) = 36 + (ks : Int) + 4 := by rw [IntKind.wrap_i64]; omega
  have q1 : (0 : Int) ≤ 36 + (ks : Int) + 4 := by omega
  have q2 : (36 : Int) + (ks : Int) + 4 ≤ (b.length : Int) := by omega
  have q3 := HKS.out.symm
  obtain ⟨A0, hA0⟩ : ∃ A0, (if c = 36 + ks + 4 then some (⟨bk, bo, none⟩ : Addr) else some ⟨bk, bo + (36 + ks + 4), none⟩) = A0 := ⟨_, rfl⟩
  have HA0 : Hid (RL w0 A0 (b.drop (36 + ks + 4))) := by
    rw [← hA0]
    by_cases e : c = 36 + ks + 4
    · intro i hi; rw [List.length_drop] at hi; omega
    · rw [if_neg e]; exact drop_rl HA.out
  have hbA := Lib.hid ((Below.refl w.heap.size w).alloc (Nat.le_refl _) (.cells #[.int .u8 H.s0, .int .u8 H.s1, .int .u8 H.s2, .int .u8 H.s3, .int .u8 H.s4, .int .u8 H.s5, .int .u8 H.s6, .int .u8 H.s7, .int .i64 H.K, .int .i64 H.M, .int .i64 H.B, .string H.key, .int .i64 H.size, .int .i64 H.idx, .int .i64 H.ep, .int .i64 H.ct] 28))
  go_enter Try.func60, Try.ntmps60
  go_wp2_with fail
  refine (lengths_int H.K H.M H.B H.size _ HM.out z0 z1).mono ?_
  rintro e w2 ⟨rfl, hrow, hb2⟩
  clear hA0 hw36 hw40 q1 q2 q3
  have HB2 := Lib.hid (hbA.out.trans (hb2.mono hbA.out.size))
  obtain ⟨n, hn0⟩ : ∃ n, n = sizeN H.K H.M H.B H.size := ⟨_, rfl⟩
  rw [← HN.out, ← hn0] at hrow ⊢
  rw [← hn0] at hnb
  have HNE := Lib.hid hn0
  have hkl : (w.alloc (.cells #[.int .u8 H.s0, .int .u8 H.s1, .int .u8 H.s2, .int .u8 H.s3, .int .u8 H.s4, .int .u8 H.s5, .int .u8 H.s6, .int .u8 H.s7, .int .i64 H.K, .int .i64 H.M, .int .i64 H.B, .string H.key, .int .i64 H.size, .int .i64 H.idx, .int .i64 H.ep, .int .i64 H.ct] 28)).heap.size + 1 < w2.heap.size := hrow.lt
  have HKL : Hid (w.heap.size ≤ (w.alloc (.cells #[.int .u8 H.s0, .int .u8 H.s1, .int .u8 H.s2, .int .u8 H.s3, .int .u8 H.s4, .int .u8 H.s5, .int .u8 H.s6, .int .u8 H.s7, .int .i64 H.K, .int .i64 H.M, .int .i64 H.B, .string H.key, .int .i64 H.size, .int .i64 H.idx, .int .i64 H.ep, .int .i64 H.ct] 28)).heap.size + 1) := Lib.hid (by simp; omega)
  have HROW := Lib.hid hrow
  clear hrow hb2 hn0
  generalize (w.alloc (.cells #[.int .u8 H.s0, .int .u8 H.s1, .int .u8 H.s2, .int .u8 H.s3, .int .u8 H.s4, .int .u8 H.s5, .int .u8 H.s6, .int .u8 H.s7, .int .i64 H.K, .int .i64 H.M, .int .i64 H.B, .string H.key, .int .i64 H.size, .int .i64 H.idx, .int .i64 H.ep, .int .i64 H.ct] 28)).heap.size + 1 = kl at *
  have HI0 := Lib.hid (HKP.out kl 0 w w2 (H0.out kl HKL.out) HB2.out)
  have hRB : kl < w2.heap.size := hkl
  go_wp2
  go_loopg [8, 9, 10, 11, 25] n (fun gk t8 _ _ _ i wr => ∃ k : Nat, k ≤ n ∧ gk = n - k ∧ i = .int .i64 k ∧ I kl k wr ∧ wr.rowIs kl 3 n (fun j => .int .i64 (blen H.K.toNat H.B.toNat H.size.toNat j)) ∧ ∃ A1 n1 c1, t8 = .slice A1 n1 c1 ∧ n1 = b.length - offF H k ∧ n1 ≤ c1 ∧ c1 ≤ 9223372036854775807 ∧ RL w0 A1 (b.drop (offF H k)))
  case atStart => exact ⟨0, Nat.zero_le _, rfl, rfl, HI0.out, HROW.out, _, _, _, rfl, by rw [HOF.out]; omega, by omega, by omega, by rw [HOF.out, show 40 + ks = 36 + ks + 4 by omega]; exact HA0.out⟩
  case round =>
    obtain ⟨k, hk, rfl, rfl, hI, hrow, A1, n1, c1, rfl, hn1, hnc, hc1, hr1⟩ := hrel
    have HR1 := Lib.hid hr1
    have HRW := Lib.hid hrow
    have HI := Lib.hid hI
    have HN1 := Lib.hid hn1
    have hn1l : n1 ≤ 150000000000000 := by omega
    clear hr1 hrow hI hn1 HROW HI0
    by_cases hlt : k < n
    · have hcl := HRW.out.cell hlt
      rw [HL.out k] at hcl
      have hkl2 := HRW.out.lt
      have hlf := HLF.out k
      obtain ⟨lk, hlk⟩ : ∃ lk, lk = lenF H k := ⟨_, rfl⟩
      rw [← hlk] at hcl hlf
      have HLK := Lib.hid hlk
      clear hlk
      have hw4 : IntKind.i64.wrap ((lk : Int) + 4) = (lk : Int) + 4 := by rw [IntKind.wrap_i64]; omega
      have hkn : Hid (k < sizeN H.K H.M H.B H.size) := by rw [← HNE.out]; exact hlt
      by_cases hcut : n1 < lk + 4
      · have hct : ((n1 : Nat) : Int) < (lk : Int) + 4 := by omega
        have HC : Hid (b.length < offF H k + lenF H k + 4) := Lib.hid (by have h1 := HN1.out; have h2 := HLK.out; omega)
        have HD := HDO.out kl k none 0 wr hkn.out hkl2 HI.out (by rw [HCUT.out k HC.out]; exact RL.nil _ _) (by rw [HCUT.out k HC.out]; decide)
        rw [HCUT.out k HC.out, HBC.out k HC.out] at HD
        replace HD := Lib.hid HD
        go_wp2_with fail
        refine HD.out.mono ?_
        rintro e w3 ⟨rfl, hI3, hk3⟩
        have HK3 := Lib.hid (row_keep HRW.out rfl hk3)
        have HI3 := Lib.hid hI3
        clear hk3 hI3 HRW HI hcl hct
        go_wp2
        go_roundg (n - (k + 1))
        case measure => omega
        case rel => exact ⟨k + 1, by omega, rfl, by go_num, HI3.out, HK3.out, none, 0, 0, rfl, by have h1 := HC.out; have h2 := HON.out k; omega, by omega, by omega, fun i hi => by rw [List.length_drop] at hi; have h1 := HC.out; have h2 := HON.out k; omega⟩
      · have hct : ¬ ((n1 : Nat) : Int) < (lk : Int) + 4 := by omega
        have HC : Hid (¬ b.length < offF H k + lenF H k + 4) := Lib.hid (by have h1 := HN1.out; have h2 := HLK.out; omega)
        obtain ⟨b1, o1, rfl, _, _⟩ := HR1.out 0 (by rw [List.length_drop]; have h1 := HN1.out; omega)
        have hle : (lk : Int) ≤ (n1 : Int) := by omega
        have hle4 : (lk : Int) + 4 ≤ (n1 : Int) := by omega
        have hlec : (lk : Int) ≤ (c1 : Int) := by omega
        have hlec4 : (lk : Int) + 4 ≤ (c1 : Int) := by omega
        have hcne : ¬ c1 = lk := by omega
        have hc0 : ¬ c1 = 0 := by omega
        obtain ⟨o, ho⟩ : ∃ o, o = offF H k := ⟨_, rfl⟩
        have hlbo : o + lk + 4 ≤ b.length := by have h1 := HC.out; have h2 := HLK.out; omega
        have HB0 : Hid (RL w0 (some ⟨b1, o1, none⟩) (sl b o lk)) := Lib.hid (by rw [ho, ← sl_drop]; exact sl_rl (p := 0) HR1.out (by rw [List.length_drop]; omega))
        have HT0 : Hid (RL w0 (some ⟨b1, o1 + lk, none⟩) (sl b (o + lk) 4)) := Lib.hid (by rw [ho, ← sl_drop']; exact sl_rl (p := lk) HR1.out (by rw [List.length_drop]; omega))
        have hO2 := open_any (some ⟨b1, o1 + lk, none⟩) (c1 - lk) (sl b (o + lk) 4) wr (by rw [sl_length (by omega)]; decide) (HT0.out.below (HIB.out _ _ _ HI.out))
        rw [sl_length (by omega)] at hO2
        have HO2 := Lib.hid hO2
        have HO := Lib.hid ho
        clear hO2 ho
        go_wp2_with fail
        refine HO2.out.mono ?_
        rintro e w3 ⟨r3, A3, c3, rfl, hR3, hb3, _, hc3⟩
        obtain ⟨d3, hd3⟩ : ∃ d3, d3 = sl b (o + lk) 4 := ⟨_, rfl⟩
        rw [← hd3] at hR3
        have hdl3 : 4 ≤ d3.length := by rw [hd3, sl_length (by omega)]; decide
        have hdl4 : d3.length ≤ 4 := by rw [hd3, sl_length (by omega)]; decide
        have HDX3 : Hid (∀ x ∈ d3, x < 256) := Lib.hid fun x hx => HX.out x (sl_mem (hd3 ▸ hx))
        have HD3 := Lib.hid hd3
        have HB3 := Lib.hid hb3
        clear hd3 HO2 hb3
        go_wp2_with fail
        refine (take32_any r3 A3 d3 c3 0 w3 hR3 (by omega) (by omega) hc3 HDX3.out).mono ?_
        rintro e w4 ⟨rfl, _, hg4⟩
        obtain ⟨nV, hnV⟩ : ∃ n, n = num d3 0 4 := ⟨_, rfl⟩
        rw [← hnV]
        have HNV : Hid (nV = num b (o + lk) 4) := Lib.hid (by rw [hnV, HD3.out]; exact num_sl b (o + lk) 4 0 4 (by decide))
        have HB4 := Lib.hid (below_of_g HB3.out hg4 (by assumption))
        clear hnV hg4 hR3 HB3
        obtain ⟨blk, hblk⟩ : ∃ blk, blk = sl b o lk := ⟨_, rfl⟩
        have hbll : blk.length = lk := by rw [hblk]; exact sl_length (by omega)
        have HBX : Hid (∀ x ∈ blk, x < 256) := Lib.hid fun x hx => HX.out x (sl_mem (hblk ▸ hx))
        rw [← hblk] at HB0
        have hOW := own_any s2 k (some ⟨b1, o1, none⟩) c1 blk w4 hs2 (by omega) HBX.out (by omega) ((HB0.out.below (HIB.out _ _ _ HI.out)).below HB4.out)
        rw [hbll] at hOW
        have HOW := Lib.hid hOW
        have HBLK := Lib.hid hblk
        have HBLL := Lib.hid hbll
        clear hOW hblk hbll
        go_wp2_with fail
        refine HOW.out.mono ?_
        rintro e w5 ⟨rfl, hb5⟩
        have HB5 := Lib.hid (HB4.out.trans (hb5.mono HB4.out.size))
        obtain ⟨sV, hsV⟩ : ∃ s, s = sumB s2 k blk := ⟨_, rfl⟩
        rw [← hsV]
        have HSV := Lib.hid hsV
        have hkl5 := Nat.lt_of_lt_of_le hkl2 HB5.out.size
        have HD := HDO.out kl k (some ⟨b1, o1, none⟩) c1 w5 hkn.out hkl5 (HKP.out _ _ _ _ HI.out HB5.out) (by rw [HSL.out k HC.out, ← HO.out, ← HLK.out, ← HBLK.out]; exact (HB0.out.below (HIB.out _ _ _ HI.out)).below HB5.out) (by rw [HSL.out k HC.out, ← HO.out, ← HLK.out, ← HBLK.out, HBLL.out]; omega)
        rw [HSL.out k HC.out, HBS.out k HC.out, ← HO.out, ← HLK.out, ← HBLK.out, HBLL.out, ← HNV.out, ← HSV.out] at HD
        rw [not_dec] at HD
        have hbe := eq_dec nV sV
        replace HD := Lib.hid HD
        clear hb5 hsV HOW HB4
        go_wp2_with fail
        refine HD.out.mono ?_
        rintro e w6 ⟨rfl, hI6, hk6⟩
        have HK6 := Lib.hid (row_keep HRW.out (HB5.out.block kl hkl2) hk6)
        have HI6 := Lib.hid hI6
        clear hk6 hI6 HRW HI hcl hct HD HDX3 HNV HSV HB0 HT0 hbe
        by_cases e7 : c1 = lk + 4
        · have hn7 : n1 = lk + 4 := by omega
          have HR7 : Hid (RL w0 (some ⟨b1, o1, none⟩) (b.drop (offF H (k + 1)))) := Lib.hid fun i hi => by rw [List.length_drop, HON.out k, ← HO.out, ← HLK.out] at hi; have h1 := HN1.out; have h2 := HO.out; omega
          clear HR1
          go_wp2
          go_roundg (n - (k + 1))
          case measure => omega
          case rel => exact ⟨k + 1, by omega, rfl, by go_num, HI6.out, HK6.out, _, _, _, rfl, by have h1 := HN1.out; have h2 := HON.out k; have h3 := HO.out; have h4 := HLK.out; omega, by omega, by omega, HR7.out⟩
        · have HR7 : Hid (RL w0 (some ⟨b1, o1 + (lk + 4), none⟩) (b.drop (offF H (k + 1)))) := by
            rw [HON.out k, ← HO.out, ← HLK.out, show o + lk + 4 = o + (lk + 4) by omega, ← List.drop_drop, HO.out]; exact drop_rl HR1.out
          clear HR1
          go_wp2
          go_roundg (n - (k + 1))
          case measure => omega
          case rel => exact ⟨k + 1, by omega, rfl, by go_num, HI6.out, HK6.out, _, _, _, rfl, by have h1 := HN1.out; have h2 := HON.out k; have h3 := HO.out; have h4 := HLK.out; omega, by omega, by omega, HR7.out⟩
    · have hkn : k = n := by omega
      subst hkn
      go_wp2
      go_end0
      exact ⟨rfl, kl, by rw [← HNE.out]; exact HI.out⟩
end Go.Proofs.Ytbioanbokbhmgaa
