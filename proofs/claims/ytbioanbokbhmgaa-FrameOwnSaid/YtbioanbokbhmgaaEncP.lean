/- Encode of the program: the walk. Conditions: bytes, lengths that memory bears. -/
import Derived.Test.YtbioanbokbhmgaaPrgA
import Derived.Test.YtbioanbokbhmgaaFCkf
import Derived.Test.YtbioanbokbhmgaaSd
namespace Go.Proofs.Ytbioanbokbhmgaa
open Go.RowKit


set_option maxRecDepth 100000 in
set_option maxHeartbeats 1000000 in
theorem enc_bad (h : Hd) (A : Option Addr) (c n : Nat) (BL : List (List Nat)) (w : World) (HE : ¬ checkE h = 0) :
    Calls Try.prog 24 #[.agg #[.int .u8 h.s0, .int .u8 h.s1, .int .u8 h.s2, .int .u8 h.s3, .int .u8 h.s4, .int .u8 h.s5, .int .u8 h.s6, .int .u8 h.s7, .int .i64 h.K, .int .i64 h.M, .int .i64 h.B, .string h.key, .int .i64 h.size, .int .i64 h.idx, .int .i64 h.ep, .int .i64 h.ct, .slice A n c]] w (EncPost w h BL) := by
  obtain ⟨hH0, cS0⟩ := sd_new w h (.slice A n c)
  have hbA := (Below.refl w.heap.size w).alloc (Nat.le_refl _) (.cells #[.int .u8 h.s0, .int .u8 h.s1, .int .u8 h.s2, .int .u8 h.s3, .int .u8 h.s4, .int .u8 h.s5, .int .u8 h.s6, .int .u8 h.s7, .int .i64 h.K, .int .i64 h.M, .int .i64 h.B, .string h.key, .int .i64 h.size, .int .i64 h.idx, .int .i64 h.ep, .int .i64 h.ct, .slice A n c] 46)
  have HE := Lib.hid HE
  have hne : (checkE h == 0) = false := by simpa using HE.out
  have hne' : (checkE h != 0) = true := by simpa using HE.out
  obtain ⟨c0, c1, c2, c3, c4, c5, c6, c7, c8, c9, c10, c11, c12, c13, c14, c15⟩ := hH0
  go_enter Try.func24, Try.ntmps24
  go_wp2_with fail
  refine (fcheck_any h _).mono ?_
  rintro e w1 ⟨rfl, hb1⟩
  have HB1 := Lib.hid (hbA.trans (hb1.mono hbA.size))
  clear hb1 c0 c1 c2 c3 c4 c5 c6 c7 c8 c9 c10 c11 c12 c13 c14 c15 cS0
  go_wp2
  go_ret2
  exact ⟨.slice none 0 0, _, [], rfl, .inl ⟨HE.out, rfl, rfl⟩, OwnB.nil _ _, HB1.out⟩

set_option maxRecDepth 100000 in
set_option maxHeartbeats 8000000 in
theorem enc_ok (h : Hd) (A : Option Addr) (c : Nat) (BL : List (List Nat)) (w : World) (hB : HdB h) (hBL : ∀ l ∈ BL, ∀ x ∈ l, x < 256) (hn : BL.length ≤ 140737488351232) (hln : ∀ l ∈ BL, l.length ≤ 140737488351232) (hA : RLL w A BL) (HE : checkE h = 0) :
    Calls Try.prog 24 #[.agg #[.int .u8 h.s0, .int .u8 h.s1, .int .u8 h.s2, .int .u8 h.s3, .int .u8 h.s4, .int .u8 h.s5, .int .u8 h.s6, .int .u8 h.s7, .int .i64 h.K, .int .i64 h.M, .int .i64 h.B, .string h.key, .int .i64 h.size, .int .i64 h.idx, .int .i64 h.ep, .int .i64 h.ct, .slice A BL.length c]] w (EncPost w h BL) := by
  obtain ⟨hm, k0, k1, hE, i0, i1, e0, e1, t0, t1⟩ := check_facts HE
  obtain ⟨z0, z1, _⟩ := size_facts hE
  obtain ⟨m1, m2, m3, m4, m5, m6⟩ := hm
  have HM := Lib.hid (show MayS h.K h.M h.B from ⟨m1, m2, m3, m4, m5, m6⟩)
  have HE := Lib.hid HE
  obtain ⟨hH0, cS0⟩ := sd_new w h (.slice A BL.length c)
  have hbA := (Below.refl w.heap.size w).alloc (Nat.le_refl _) (.cells #[.int .u8 h.s0, .int .u8 h.s1, .int .u8 h.s2, .int .u8 h.s3, .int .u8 h.s4, .int .u8 h.s5, .int .u8 h.s6, .int .u8 h.s7, .int .i64 h.K, .int .i64 h.M, .int .i64 h.B, .string h.key, .int .i64 h.size, .int .i64 h.idx, .int .i64 h.ep, .int .i64 h.ct, .slice A BL.length c] 46)
  have hwz : w.heap.size < (w.alloc (.cells #[.int .u8 h.s0, .int .u8 h.s1, .int .u8 h.s2, .int .u8 h.s3, .int .u8 h.s4, .int .u8 h.s5, .int .u8 h.s6, .int .u8 h.s7, .int .i64 h.K, .int .i64 h.M, .int .i64 h.B, .string h.key, .int .i64 h.size, .int .i64 h.idx, .int .i64 h.ep, .int .i64 h.ct, .slice A BL.length c] 46)).heap.size := by simp
  obtain ⟨SA, CA, hA1, hA2⟩ := hA
  have HA1 := Lib.hid hA1; have HA2 := Lib.hid hA2
  have HBD := Lib.hid hB; have HBL := Lib.hid hBL; have HLN := Lib.hid hln
  clear hA1 hA2 hB hBL hln
  have HN := Lib.hid (show sizeN h.K h.M h.B h.size = nblk (h.K.toNat * h.B.toNat) h.size.toNat by unfold sizeN; rw [if_pos hE])
  have hnb := sizeN_le h.K h.M h.B h.size
  have hE := Lib.hid hE
  go_enter Try.func24, Try.ntmps24
  obtain ⟨c0, c1, c2, c3, c4, c5, c6, c7, c8, c9, c10, c11, c12, c13, c14, c15⟩ := hH0
  have cS := cS0
  clear cS0
  go_wp2_with fail
  obtain ⟨wA, hwA⟩ : ∃ wA, wA = w.alloc (.cells #[.int .u8 h.s0, .int .u8 h.s1, .int .u8 h.s2, .int .u8 h.s3, .int .u8 h.s4, .int .u8 h.s5, .int .u8 h.s6, .int .u8 h.s7, .int .i64 h.K, .int .i64 h.M, .int .i64 h.B, .string h.key, .int .i64 h.size, .int .i64 h.idx, .int .i64 h.ep, .int .i64 h.ct, .slice A BL.length c] 46) := ⟨_, rfl⟩
  rw [← hwA] at c0 c1 c2 c3 c4 c5 c6 c7 c8 c9 c10 c11 c12 c13 c14 c15 cS hbA hwz ⊢
  clear hwA
  refine (fcheck_any h wA).mono ?_
  rintro e w1 ⟨rfl, hb1⟩
  rw [HE.out]
  have hw1 := Nat.lt_of_lt_of_le hwz hb1.size
  have HB1 := Lib.hid (hbA.trans (hb1.mono hbA.size))
  have hHn := HdAt.below (show HdAt _ w.heap.size h from ⟨c0, c1, c2, c3, c4, c5, c6, c7, c8, c9, c10, c11, c12, c13, c14, c15⟩) hb1 hwz
  have cSn := (hb1.cell (p := ⟨w.heap.size, 16, none⟩) hwz).trans cS
  clear c0 c1 c2 c3 c4 c5 c6 c7 c8 c9 c10 c11 c12 c13 c14 c15 cS
  obtain ⟨c0, c1, c2, c3, c4, c5, c6, c7, c8, c9, c10, c11, c12, c13, c14, c15⟩ := hHn
  have cS := cSn
  clear cSn
  clear hb1 hbA hwz
  go_wp2_with fail
  refine (lengths_int h.K h.M h.B h.size w1 HM.out z0 z1).mono ?_
  rintro e w2 ⟨rfl, hrow, hb2⟩
  obtain ⟨n, hn0⟩ : ∃ n, n = sizeN h.K h.M h.B h.size := ⟨_, rfl⟩
  rw [← HN.out, ← hn0] at hrow ⊢
  rw [← hn0] at hnb
  replace HN := Lib.hid hn0
  clear hn0
  have hw2 := Nat.lt_of_lt_of_le hw1 hb2.size
  have HB2 := Lib.hid (HB1.out.trans (hb2.mono HB1.out.size))
  have hHn := HdAt.below (show HdAt _ w.heap.size h from ⟨c0, c1, c2, c3, c4, c5, c6, c7, c8, c9, c10, c11, c12, c13, c14, c15⟩) hb2 hw1
  have cSn := (hb2.cell (p := ⟨w.heap.size, 16, none⟩) hw1).trans cS
  clear c0 c1 c2 c3 c4 c5 c6 c7 c8 c9 c10 c11 c12 c13 c14 c15 cS
  obtain ⟨c0, c1, c2, c3, c4, c5, c6, c7, c8, c9, c10, c11, c12, c13, c14, c15⟩ := hHn
  have cS := cSn
  clear cSn
  have hrB := hrow.lt
  have HROW := Lib.hid hrow
  clear hb2 HB1 hrow
  generalize w1.heap.size + 1 = rb at *
  by_cases hlen : n = BL.length
  · subst hlen
    go_wp2
    go_loopg [6, 7, 35] BL.length (fun gk _ _ i wr => wr = w2 ∧ ∃ k : Nat, k ≤ BL.length ∧ gk = BL.length - k ∧ i = .int .i64 k ∧ ∀ j, j < k → (BL.getD j []).length = blen h.K.toNat h.B.toNat h.size.toNat j)
    case atStart => exact ⟨rfl, 0, Nat.zero_le _, rfl, rfl, fun j hj => absurd hj (by omega)⟩
    case round =>
      obtain ⟨rfl, k, hk, rfl, rfl, hfit⟩ := hrel
      have HFIT := Lib.hid hfit
      clear hfit
      by_cases hlt : k < BL.length
      · have hcl := HROW.out.cell hlt
        obtain ⟨bb, o, rfl, hbb, hc0⟩ := HA1.out k hlt
        have hc : wr.cell? ⟨bb, o + k, none⟩ = some (.slice (SA k) (BL.getD k []).length (CA k)) := (HB2.out.cell hbb).trans hc0
        clear hc0
        obtain ⟨lk, hlk⟩ : ∃ lk, lk = (BL.getD k []).length := ⟨_, rfl⟩
        obtain ⟨bk, hbk⟩ : ∃ bk, bk = blen h.K.toNat h.B.toNat h.size.toNat k := ⟨_, rfl⟩
        rw [← hbk] at hcl
        rw [← hlk] at hc
        have HLK := Lib.hid hlk; have HBK := Lib.hid hbk
        clear hlk hbk
        by_cases heq : lk = bk
        · subst heq
          go_wp2
          go_roundg (BL.length - (k + 1))
          case measure => omega
          case rel => exact ⟨rfl, k + 1, by omega, rfl, by go_num, fun j hj => by
            by_cases e : j = k
            · subst e; rw [← HLK.out, HBK.out]
            · exact HFIT.out j (by omega)⟩
        · have hq1 : ((lk : Int) == (bk : Int)) = false := by rw [beq_eq_false_iff_ne]; omega
          have hq2 : ((lk : Int) != (bk : Int)) = true := by rw [bne_iff_ne]; omega
          go_wp2
          go_ret2
          exact ⟨.slice none 0 0, _, [], rfl, .inr (.inl ⟨HE.out, fun hf => heq (by rw [HLK.out, HBK.out]; exact hf.2 k hlt), rfl, rfl⟩), OwnB.nil _ _, HB2.out⟩
      · have hkn : k = BL.length := by omega
        subst hkn
        have HF := Lib.hid (show fitsB h BL from ⟨HN.out, HFIT.out⟩)
        obtain ⟨hfl, hfr⟩ := fits_len HE.out HF.out
        have HFR := Lib.hid hfr
        have HFORM := Lib.hid (form_le HE.out HF.out)
        clear hfr HFIT HN hlt HROW
        obtain ⟨w2, hw2e⟩ : ∃ w2, w2 = wr := ⟨_, rfl⟩
        rw [← hw2e] at c0 c1 c2 c3 c4 c5 c6 c7 c8 c9 c10 c11 c12 c13 c14 c15 cS HB2 hw2 hrB ⊢
        clear hw2e
        go_wp2_with fail
        refine (first_any h w2 HBD.out HE.out).mono ?_
        rintro e w3 ⟨o3, rfl, hO3, hb3⟩
        obtain ⟨A3, q3, e3, _, _, r3, _⟩ := hO3.rd
        subst e3
        have hw3 := Nat.lt_of_lt_of_le hw2 hb3.size
        have HB3 := Lib.hid (HB2.out.trans (hb3.mono HB2.out.size))
        have HR3 := Lib.hid r3
        have hHn := HdAt.below (show HdAt _ w.heap.size h from ⟨c0, c1, c2, c3, c4, c5, c6, c7, c8, c9, c10, c11, c12, c13, c14, c15⟩) hb3 hw2
        have cSn := (hb3.cell (p := ⟨w.heap.size, 16, none⟩) hw2).trans cS
        clear c0 c1 c2 c3 c4 c5 c6 c7 c8 c9 c10 c11 c12 c13 c14 c15 cS
        obtain ⟨c0, c1, c2, c3, c4, c5, c6, c7, c8, c9, c10, c11, c12, c13, c14, c15⟩ := hHn
        have cS := cSn
        clear cSn
        clear hb3 hO3 r3 HB2
        have HFL := Lib.hid (show (fixL h).length ≤ 140737488355328 by rw [fixL_length]; decide)
        go_wp2_with fail
        refine (sum_any A3 q3 (fixL h) w3 (fixL_lt HBD.out) HFL.out HR3.out).mono ?_
        rintro e w4 ⟨rfl, hb4⟩
        rw [fix_crc]
        have hw4 := Nat.lt_of_lt_of_le hw3 hb4.size
        have HB4 := Lib.hid (HB3.out.trans (hb4.mono HB3.out.size))
        have HR4 := Lib.hid (HR3.out.below hb4)
        have hHn := HdAt.below (show HdAt _ w.heap.size h from ⟨c0, c1, c2, c3, c4, c5, c6, c7, c8, c9, c10, c11, c12, c13, c14, c15⟩) hb4 hw3
        have cSn := (hb4.cell (p := ⟨w.heap.size, 16, none⟩) hw3).trans cS
        clear c0 c1 c2 c3 c4 c5 c6 c7 c8 c9 c10 c11 c12 c13 c14 c15 cS
        obtain ⟨c0, c1, c2, c3, c4, c5, c6, c7, c8, c9, c10, c11, c12, c13, c14, c15⟩ := hHn
        have cS := cSn
        clear cSn
        clear hb4 HB3 HR3
        obtain ⟨AK, qK, w5, hcv, rK, hb5⟩ := conv_bytes w4 h.key
        rw [← bl_length] at hcv
        have HBL5 := Lib.hid (bl_length h.key)
        obtain ⟨s1, hs1⟩ : ∃ s1, s1 = sum1 h := ⟨_, rfl⟩
        rw [← hs1]
        have hs1l : s1 < 4294967296 := by rw [hs1]; exact (sums_lt HBD.out).1
        have HS12 := Lib.hid (show crm s1 (bl h.key) = sum2 h by rw [hs1]; exact crc_app _ _)
        have HS1 := Lib.hid hs1
        have hbkl : (bl h.key).length ≤ 255 := by rw [bl_length]; exact k1
        obtain ⟨ky, hky⟩ : ∃ ky, ky = bl h.key := ⟨_, rfl⟩
        rw [← hky] at hcv rK HS12 hbkl
        have HKYL := Lib.hid (show ∀ x ∈ ky, x < 256 by rw [hky]; exact bl_lt _)
        have HKY := Lib.hid hky
        clear hs1 hky
        have hw5 := Nat.lt_of_lt_of_le hw4 hb5.size
        have HB5 := Lib.hid (HB4.out.trans (hb5.mono HB4.out.size))
        have HR5 := Lib.hid (HR4.out.below hb5)
        have HRK := Lib.hid rK
        have hb5H := Lib.hid hb5
        clear rK hb5 HB4 HR4 HBL5
        go_wp2_with fail
        clear hcv
        have hHn := HdAt.below (show HdAt _ w.heap.size h from ⟨c0, c1, c2, c3, c4, c5, c6, c7, c8, c9, c10, c11, c12, c13, c14, c15⟩) hb5H.out hw4
        have cSn := (hb5H.out.cell (p := ⟨w.heap.size, 16, none⟩) hw4).trans cS
        clear c0 c1 c2 c3 c4 c5 c6 c7 c8 c9 c10 c11 c12 c13 c14 c15 cS
        obtain ⟨c0, c1, c2, c3, c4, c5, c6, c7, c8, c9, c10, c11, c12, c13, c14, c15⟩ := hHn
        have cS := cSn
        clear cSn
        clear hb5H
        refine (more_any s1 AK qK ky w5 hs1l HKYL.out (by omega) HRK.out).mono ?_
        rintro e w6 ⟨rfl, hb6⟩
        rw [HS12.out]
        obtain ⟨s2, hs2⟩ : ∃ s2, s2 = sum2 h := ⟨_, rfl⟩
        have hs2l : s2 < 4294967296 := by rw [hs2]; exact (sums_lt HBD.out).2
        rw [← hs2]
        have HKEEP2 := Lib.hid hs2
        clear hs2
        have hw6 := Nat.lt_of_lt_of_le hw5 hb6.size
        have HB6 := Lib.hid (HB5.out.trans (hb6.mono HB5.out.size))
        have HR6 := Lib.hid (HR5.out.below hb6)
        have hHn := HdAt.below (show HdAt _ w.heap.size h from ⟨c0, c1, c2, c3, c4, c5, c6, c7, c8, c9, c10, c11, c12, c13, c14, c15⟩) hb6 hw5
        have cSn := (hb6.cell (p := ⟨w.heap.size, 16, none⟩) hw5).trans cS
        clear c0 c1 c2 c3 c4 c5 c6 c7 c8 c9 c10 c11 c12 c13 c14 c15 cS
        obtain ⟨c0, c1, c2, c3, c4, c5, c6, c7, c8, c9, c10, c11, c12, c13, c14, c15⟩ := hHn
        have cS := cSn
        clear cSn
        clear hb6 HB5 HR5 HRK HKYL hbkl
        go_wp2_with fail
        refine (flen_ok h w6 HE.out).mono ?_
        rintro e w7 ⟨rfl, hb7⟩
        obtain ⟨L, hL, hLb⟩ := lenE_nat HE.out
        rw [hL]
        have hw7 := Nat.lt_of_lt_of_le hw6 hb7.size
        have HB7 := Lib.hid (HB6.out.trans (hb7.mono HB6.out.size))
        have HR7 := Lib.hid (HR6.out.below hb7)
        have hHn := HdAt.below (show HdAt _ w.heap.size h from ⟨c0, c1, c2, c3, c4, c5, c6, c7, c8, c9, c10, c11, c12, c13, c14, c15⟩) hb7 hw6
        have cSn := (hb7.cell (p := ⟨w.heap.size, 16, none⟩) hw6).trans cS
        clear c0 c1 c2 c3 c4 c5 c6 c7 c8 c9 c10 c11 c12 c13 c14 c15 cS
        obtain ⟨c0, c1, c2, c3, c4, c5, c6, c7, c8, c9, c10, c11, c12, c13, c14, c15⟩ := hHn
        have cS := cSn
        clear cSn
        clear hb7 HB6 HR6 hL
        obtain ⟨i0, hi, hz0, hz1, hz2⟩ := info_parts byteInf
        have HI := Lib.hid hi; have HZ0 := Lib.hid hz0; have HZ1 := Lib.hid hz1
        have hbyt : i0.bytes * L ≤ 281474976710656 := by rw [hz2]; omega
        clear hi hz0 hz1 hz2
        go_wp2_with (at_make; refine wpList_make_own w7 rfl (.const (.int .i64 0)) (.tmp 62) 47 rfl (w.heap.size + 1) 5 i0 (.int .u8 0) 1 Try.underlying47 HI.out HZ0.out HZ1.out .i64 .i64 (L : Int) L rfl rfl rfl hbyt (by unfold maxLen; omega) hw7 ?_)
        intro w8 hO8 hg8
        have hb8 := (Below.refl w7.heap.size w7).grown hg8 (Nat.le_refl _) (fun g hg => by cases hg)
        have hw8 := Nat.lt_of_lt_of_le hw7 hb8.size
        have HB8 := Lib.hid (HB7.out.trans (hb8.mono HB7.out.size))
        have HR8 := Lib.hid (HR7.out.below hb8)
        have HO8 := Lib.hid (show OwnB w8 (w.heap.size + 1) _ [] from hO8)
        have hHn := HdAt.below (show HdAt _ w.heap.size h from ⟨c0, c1, c2, c3, c4, c5, c6, c7, c8, c9, c10, c11, c12, c13, c14, c15⟩) hb8 hw7
        have cSn := (hb8.cell (p := ⟨w.heap.size, 16, none⟩) hw7).trans cS
        clear c0 c1 c2 c3 c4 c5 c6 c7 c8 c9 c10 c11 c12 c13 c14 c15 cS
        obtain ⟨c0, c1, c2, c3, c4, c5, c6, c7, c8, c9, c10, c11, c12, c13, c14, c15⟩ := hHn
        have cS := cSn
        clear cSn
        clear hb8 HB7 HR7 hO8 hg8 hbyt HI HZ0 HZ1
        obtain ⟨l8, hl8⟩ : ∃ l8 : List Nat, l8 = [] := ⟨_, rfl⟩
        rw [← hl8] at HO8
        have hn8 : l8.length ≤ 0 := by rw [hl8]; exact Nat.le_refl _
        have HL8 := Lib.hid hl8
        have hfx : (fixL h).length ≤ 32 := by rw [fixL_length]; exact Nat.le_refl _
        clear hl8
        generalize w7.heap.size = w7s at *
        go_wp2_with (at_builtin; refine wpList_appB rfl (.tmp 64) (.tmp 65) 47 rfl (w.heap.size + 1) _ l8 rfl HO8.out hw8 _ (fixL h).length (fixL h) rfl (HR8.out.src q3) (by omega) ?_)
        intro v9 w9 hO9 hb9 _
        have hw9 := Nat.lt_of_lt_of_le hw8 hb9.size
        have HB9 := Lib.hid (HB8.out.trans (hb9.mono (Nat.le_succ _)))
        obtain ⟨l9, hl⟩ : ∃ l, l = l8 ++ (fixL h) := ⟨_, rfl⟩
        rw [← hl] at hO9
        have hn9 : l9.length ≤ 32 := by rw [hl, List.length_append]; omega
        have HO9 := Lib.hid hO9; have HL9 := Lib.hid hl
        have hHn := HdAt.below (show HdAt _ w.heap.size h from ⟨c0, c1, c2, c3, c4, c5, c6, c7, c8, c9, c10, c11, c12, c13, c14, c15⟩) hb9 (Nat.lt_succ_self _)
        have cSn := (hb9.cell (p := ⟨w.heap.size, 16, none⟩) (Nat.lt_succ_self _)).trans cS
        clear c0 c1 c2 c3 c4 c5 c6 c7 c8 c9 c10 c11 c12 c13 c14 c15 cS
        obtain ⟨c0, c1, c2, c3, c4, c5, c6, c7, c8, c9, c10, c11, c12, c13, c14, c15⟩ := hHn
        have cS := cSn
        clear cSn
        clear hb9 hO9 hl HO8 HB8 HR8
        go_wp2_with fail
        refine (put32_nil 0 (s1 : Int) w9 (by omega) (by omega)).mono ?_
        rintro e w10 ⟨o10, rfl, hP, hb10⟩
        rw [show (s1 : Int).toNat = s1 from rfl] at hP
        obtain ⟨A10, q10, e10, _, _, r10, _⟩ := hP.rd
        subst e10
        have hw10 := Nat.lt_of_lt_of_le hw9 hb10.size
        have HB10 := Lib.hid (HB9.out.trans (hb10.mono HB9.out.size))
        have HO10 := Lib.hid (HO9.out.kept hb10)
        have HR10 := Lib.hid r10
        have hHn := HdAt.below (show HdAt _ w.heap.size h from ⟨c0, c1, c2, c3, c4, c5, c6, c7, c8, c9, c10, c11, c12, c13, c14, c15⟩) hb10 hw9
        have cSn := (hb10.cell (p := ⟨w.heap.size, 16, none⟩) hw9).trans cS
        clear c0 c1 c2 c3 c4 c5 c6 c7 c8 c9 c10 c11 c12 c13 c14 c15 cS
        obtain ⟨c0, c1, c2, c3, c4, c5, c6, c7, c8, c9, c10, c11, c12, c13, c14, c15⟩ := hHn
        have cS := cSn
        clear cSn
        clear hP hb10 r10 HO9 HB9
        obtain ⟨l10, hl10⟩ : ∃ l10, l10 = l9 := ⟨_, rfl⟩
        rw [← hl10] at HO10 hn9
        have HL10 := Lib.hid hl10
        have hl4 : (le 4 s1).length ≤ 4 := by rw [le_length]; exact Nat.le_refl _
        clear hl10
        go_wp2_with (at_builtin; refine wpList_appB rfl (.tmp 67) (.tmp 69) 47 rfl (w.heap.size + 1) _ l10 rfl HO10.out hw10 _ (le 4 s1).length (le 4 s1) rfl (HR10.out.src q10) (by omega) ?_)
        intro v11 w11 hO11 hb11 _
        have hw11 := Nat.lt_of_lt_of_le hw10 hb11.size
        have HB11 := Lib.hid (HB10.out.trans (hb11.mono (Nat.le_succ _)))
        obtain ⟨l11, hl⟩ : ∃ l, l = l10 ++ (le 4 s1) := ⟨_, rfl⟩
        rw [← hl] at hO11
        have hn11 : l11.length ≤ 36 := by rw [hl, List.length_append]; omega
        have HO11 := Lib.hid hO11; have HL11 := Lib.hid hl
        have hHn := HdAt.below (show HdAt _ w.heap.size h from ⟨c0, c1, c2, c3, c4, c5, c6, c7, c8, c9, c10, c11, c12, c13, c14, c15⟩) hb11 (Nat.lt_succ_self _)
        have cSn := (hb11.cell (p := ⟨w.heap.size, 16, none⟩) (Nat.lt_succ_self _)).trans cS
        clear c0 c1 c2 c3 c4 c5 c6 c7 c8 c9 c10 c11 c12 c13 c14 c15 cS
        obtain ⟨c0, c1, c2, c3, c4, c5, c6, c7, c8, c9, c10, c11, c12, c13, c14, c15⟩ := hHn
        have cS := cSn
        clear cSn
        clear hb11 hO11 hl HO10 HB10 HR10
        have hks : (bl h.key).length ≤ 255 := by rw [bl_length]; exact k1
        go_wp2_with (at_builtin; refine wpList_appB rfl (.tmp 71) (.tmp 74) 9 rfl (w.heap.size + 1) _ l11 rfl HO11.out hw11 _ h.key.size (bl h.key) rfl (str_src w11 h.key) (by omega) ?_)
        intro v12 w12 hO12 hb12 _
        have hw12 := Nat.lt_of_lt_of_le hw11 hb12.size
        have HB12 := Lib.hid (HB11.out.trans (hb12.mono (Nat.le_succ _)))
        obtain ⟨l12, hl⟩ : ∃ l, l = l11 ++ (bl h.key) := ⟨_, rfl⟩
        rw [← hl] at hO12
        have hn12 : l12.length ≤ 291 := by rw [hl, List.length_append]; omega
        have HO12 := Lib.hid hO12; have HL12 := Lib.hid hl
        have hHn := HdAt.below (show HdAt _ w.heap.size h from ⟨c0, c1, c2, c3, c4, c5, c6, c7, c8, c9, c10, c11, c12, c13, c14, c15⟩) hb12 (Nat.lt_succ_self _)
        have cSn := (hb12.cell (p := ⟨w.heap.size, 16, none⟩) (Nat.lt_succ_self _)).trans cS
        clear c0 c1 c2 c3 c4 c5 c6 c7 c8 c9 c10 c11 c12 c13 c14 c15 cS
        obtain ⟨c0, c1, c2, c3, c4, c5, c6, c7, c8, c9, c10, c11, c12, c13, c14, c15⟩ := hHn
        have cS := cSn
        clear cSn
        clear hb12 hO12 hl HO11 HB11
        go_wp2_with fail
        refine (put32_nil 0 (s2 : Int) w12 (by omega) (by omega)).mono ?_
        rintro e w13 ⟨o13, rfl, hP, hb13⟩
        rw [show (s2 : Int).toNat = s2 from rfl] at hP
        obtain ⟨A13, q13, e13, _, _, r13, _⟩ := hP.rd
        subst e13
        have hw13 := Nat.lt_of_lt_of_le hw12 hb13.size
        have HB13 := Lib.hid (HB12.out.trans (hb13.mono HB12.out.size))
        have HO13 := Lib.hid (HO12.out.kept hb13)
        have HR13 := Lib.hid r13
        have hHn := HdAt.below (show HdAt _ w.heap.size h from ⟨c0, c1, c2, c3, c4, c5, c6, c7, c8, c9, c10, c11, c12, c13, c14, c15⟩) hb13 hw12
        have cSn := (hb13.cell (p := ⟨w.heap.size, 16, none⟩) hw12).trans cS
        clear c0 c1 c2 c3 c4 c5 c6 c7 c8 c9 c10 c11 c12 c13 c14 c15 cS
        obtain ⟨c0, c1, c2, c3, c4, c5, c6, c7, c8, c9, c10, c11, c12, c13, c14, c15⟩ := hHn
        have cS := cSn
        clear cSn
        clear hP hb13 r13 HO12 HB12
        obtain ⟨l13, hl13⟩ : ∃ l13, l13 = l12 := ⟨_, rfl⟩
        rw [← hl13] at HO13 hn12
        have HL13 := Lib.hid hl13
        have hl4' : (le 4 s2).length ≤ 4 := by rw [le_length]; exact Nat.le_refl _
        clear hl13
        go_wp2_with (at_builtin; refine wpList_appB rfl (.tmp 76) (.tmp 78) 47 rfl (w.heap.size + 1) _ l13 rfl HO13.out hw13 _ (le 4 s2).length (le 4 s2) rfl (HR13.out.src q13) (by omega) ?_)
        intro v14 w14 hO14 hb14 _
        have hw14 := Nat.lt_of_lt_of_le hw13 hb14.size
        have HB14 := Lib.hid (HB13.out.trans (hb14.mono (Nat.le_succ _)))
        obtain ⟨l14, hl⟩ : ∃ l, l = l13 ++ (le 4 s2) := ⟨_, rfl⟩
        rw [← hl] at hO14
        have hn14 : l14.length ≤ 295 := by rw [hl, List.length_append]; omega
        have HO14 := Lib.hid hO14; have HL14 := Lib.hid hl
        have hHn := HdAt.below (show HdAt _ w.heap.size h from ⟨c0, c1, c2, c3, c4, c5, c6, c7, c8, c9, c10, c11, c12, c13, c14, c15⟩) hb14 (Nat.lt_succ_self _)
        have cSn := (hb14.cell (p := ⟨w.heap.size, 16, none⟩) (Nat.lt_succ_self _)).trans cS
        clear c0 c1 c2 c3 c4 c5 c6 c7 c8 c9 c10 c11 c12 c13 c14 c15 cS
        obtain ⟨c0, c1, c2, c3, c4, c5, c6, c7, c8, c9, c10, c11, c12, c13, c14, c15⟩ := hHn
        have cS := cSn
        clear cSn
        clear hb14 hO14 hl HO13 HB13 HR13
        have HHD := Lib.hid (show l14 = headL h by rw [HL14.out, HL13.out, HL12.out, HL11.out, HL10.out, HL9.out, HL8.out]; unfold headL; rw [HS1.out, List.nil_append]; rw [HKEEP2.out])
        have HO := Lib.hid (show OwnB w14 (w.heap.size + 1) v14 (headL h ++ framesL s2 0 (BL.take 0)) by simp only [List.take_zero, framesL, List.append_nil]; rw [← HHD.out]; exact HO14.out)
        have HFB := Lib.hid (fun k => framesL_le s2 65536 (BL.take k) 0 fun l hl => HFR.out l (List.mem_of_mem_take hl))
        have HHL := Lib.hid (show (headL h).length ≤ 295 by rw [headL_length]; omega)
        clear HL8 HL9 HL10 HL11 HL12 HL13 HL14 HO14 HHD hn8 hn9 hn11 hn12 hn14 hl4 hl4' hks hfx HKY HS12 HLN hE hw1 hw2 hw3 hw4 hw5 hw6 hw7 hw8 hw9 hw10 hw11 hw12 hw13
        go_wp2
        clear c0 c1 c2 c3 c4 c5 c6 c7 c8 c9 c10 c11 c12 c13 c14 c15 cS
        go_loopg [11, 12, 13, 83] BL.length (fun gk v _ _ i wr => ∃ k : Nat, k ≤ BL.length ∧ gk = BL.length - k ∧ i = .int .i64 k ∧ OwnB wr (w.heap.size + 1) v (headL h ++ framesL s2 0 (BL.take k)) ∧ Below w.heap.size w wr ∧ w.heap.size < wr.heap.size)
        case atStart => exact ⟨0, Nat.zero_le _, rfl, rfl, HO.out, HB14.out, hw14⟩
        case round =>
          clear HO HB14 hw14
          obtain ⟨k, hk, rfl, rfl, hO, hb, hwr⟩ := hrel
          have HO := Lib.hid hO; have HB := Lib.hid hb
          clear hO hb
          by_cases hlt : k < BL.length
          · obtain ⟨bb, o, rfl, hbb, hc0⟩ := HA1.out k hlt
            have hc : wr.cell? ⟨bb, o + k, none⟩ = some (.slice (SA k) (BL.getD k []).length (CA k)) := (HB.out.cell hbb).trans hc0
            have HRow := Lib.hid (HA2.out k hlt)
            have HLx := Lib.hid (HBL.out _ (getD_mem' (d := []) hlt))
            have HN := Lib.hid (framesL_next s2 hlt)
            have hlr : (BL.getD k []).length ≤ 65536 := HFR.out _ (getD_mem' hlt)
            have hfl := HFB.out k
            have htk : (BL.take k).length ≤ 4096 := by rw [List.length_take]; omega
            have hmul : (BL.take k).length * (65536 + 4) ≤ 4096 * 65540 := Nat.mul_le_mul_right _ htk
            have hlen : (headL h ++ framesL s2 0 (BL.take k)).length ≤ 280000000 := by rw [List.length_append]; have := HHL.out; omega
            obtain ⟨cur, hcur⟩ : ∃ cur, cur = headL h ++ framesL s2 0 (BL.take k) := ⟨_, rfl⟩
            rw [← hcur] at HO hlen
            have HCUR := Lib.hid hcur
            generalize BL.getD k [] = bk at *
            clear hc0 hfl htk hmul hcur
            have HSB := Lib.hid (sumB_lt (s := s2) (j := k) HLx.out)
            go_wp2_with (at_builtin; refine wpList_appB rfl (.tmp 88) (.tmp 89) 47 rfl (w.heap.size + 1) _ cur rfl HO.out hwr _ bk.length bk rfl ((HRow.out.below HB.out).src (CA k)) (by omega) ?_)
            intro v1 w1 hO1 hb1 _
            have hwr1 := Nat.lt_of_lt_of_le hwr hb1.size
            have HB1 := Lib.hid (HB.out.trans (hb1.mono (Nat.le_succ _)))
            have HO1 := Lib.hid hO1
            clear hO1 hb1 HO HB hc
            go_wp2_with fail
            refine (own_any s2 k (SA k) (CA k) bk w1 hs2l (by omega) HLx.out (by omega) (HRow.out.below HB1.out)).mono ?_
            rintro e w2' ⟨rfl, hb2⟩
            have hwr2 := Nat.lt_of_lt_of_le hwr1 hb2.size
            have HB2 := Lib.hid (HB1.out.trans (hb2.mono HB1.out.size))
            have HO2 := Lib.hid (HO1.out.kept hb2)
            clear hb2 HO1 HB1
            obtain ⟨sb, hsb⟩ : ∃ sb, sb = sumB s2 k bk := ⟨_, rfl⟩
            rw [← hsb] at HSB ⊢
            have hsbl : sb < 4294967296 := HSB.out
            have HSBE := Lib.hid hsb
            clear hsb HSB
            go_wp2_with fail
            refine (put32_nil 0 (sb : Int) w2' (by omega) (by omega)).mono ?_
            rintro e w3' ⟨o3', rfl, hP, hb3⟩
            rw [show (sb : Int).toNat = sb from rfl] at hP
            obtain ⟨A3', q3', e3', _, _, r3', _⟩ := hP.rd
            subst e3'
            have hwr3 := Nat.lt_of_lt_of_le hwr2 hb3.size
            have HB3 := Lib.hid (HB2.out.trans (hb3.mono HB2.out.size))
            have HO3 := Lib.hid (HO2.out.kept hb3)
            have HR3' := Lib.hid r3'
            clear hP hb3 r3' HO2 HB2
            obtain ⟨cur2, hcur2⟩ : ∃ cur2, cur2 = cur ++ bk := ⟨_, rfl⟩
            rw [← hcur2] at HO3
            have hlen2 : cur2.length ≤ 281000000 := by rw [hcur2, List.length_append]; omega
            have HCUR2 := Lib.hid hcur2
            have hl4 : (le 4 sb).length ≤ 4 := by rw [le_length]; exact Nat.le_refl _
            clear hcur2
            go_wp2_with (at_builtin; refine wpList_appB rfl (.tmp 91) (.tmp 96) 47 rfl (w.heap.size + 1) _ cur2 rfl HO3.out hwr3 _ (le 4 sb).length (le 4 sb) rfl (HR3'.out.src q3') (by omega) ?_)
            intro v4 w4' hO4 hb4 _
            have hwr4 := Nat.lt_of_lt_of_le hwr3 hb4.size
            have HB4 := Lib.hid (HB3.out.trans (hb4.mono (Nat.le_succ _)))
            have HO4 := Lib.hid (show OwnB w4' (w.heap.size + 1) v4 (headL h ++ framesL s2 0 (BL.take (k + 1))) by
              rw [HN.out, ← List.append_assoc, ← HCUR.out]; unfold frameL; rw [← HSBE.out, ← List.append_assoc, ← HCUR2.out]; exact hO4)
            clear hO4 hb4 HO3 HB3 HR3' hlen hlen2 hl4 HCUR HCUR2
            go_wp2
            go_roundg (BL.length - (k + 1))
            case measure => omega
            case rel => exact ⟨k + 1, by omega, rfl, by go_num, HO4.out, HB4.out, hwr4⟩
          · have hkn : k = BL.length := by omega
            have HOF := Lib.hid (show OwnB wr w.heap.size _ (formL h BL) by
              have h1 := HO.out
              rw [hkn, List.take_length, HKEEP2.out] at h1
              exact h1.mono (Nat.le_succ _))
            clear hkn HO
            go_wp2
            go_ret2
            exact ⟨_, 0, _, rfl, .inr (.inr ⟨HE.out, HF.out, rfl, rfl⟩), HOF.out, HB.out⟩
  · have hq1 : ((n : Int) == (BL.length : Int)) = false := by rw [beq_eq_false_iff_ne]; omega
    have hq2 : ((n : Int) != (BL.length : Int)) = true := by rw [bne_iff_ne]; omega
    go_wp2
    go_ret2
    exact ⟨.slice none 0 0, _, [], rfl, .inr (.inl ⟨HE.out, fun hf => hlen (HN.out.trans hf.1.symm), rfl, rfl⟩), OwnB.nil _ _, HB2.out⟩
end Go.Proofs.Ytbioanbokbhmgaa
