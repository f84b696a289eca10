/- FrameWrites: the law's walk. Conditions: none beyond a shard that memory bears. -/
import Derived.Test.YtbioanbokbhmgaaFCk0
import Derived.Test.YtbioanbokbhmgaaLaw8A
import Derived.Test.YtbioanbokbhmgaaEncP
import Derived.Test.YtbioanbokbhmgaaEncR
namespace Go.Proofs.Ytbioanbokbhmgaa
open Go.RowKit

theorem enc_any (h : Hd) (A : Option Addr) (c : Nat) (BL : List (List Nat)) (w : World) (hB : HdB h) (hBL : ∀ l ∈ BL, ∀ x ∈ l, x < 256) (hn : BL.length ≤ 140737488351232) (hln : ∀ l ∈ BL, l.length ≤ 140737488351232) (hA : RLL w A BL) : Calls Try.prog 24 #[.agg #[.int .u8 h.s0, .int .u8 h.s1, .int .u8 h.s2, .int .u8 h.s3, .int .u8 h.s4, .int .u8 h.s5, .int .u8 h.s6, .int .u8 h.s7, .int .i64 h.K, .int .i64 h.M, .int .i64 h.B, .string h.key, .int .i64 h.size, .int .i64 h.idx, .int .i64 h.ep, .int .i64 h.ct, .slice A BL.length c]] w (EncPost w h BL) := by
  by_cases HE : checkE h = 0
  · exact enc_ok h A c BL w hB hBL hn hln hA HE
  · exact enc_bad h A c _ BL w HE
theorem renc_any (h : Hd) (A : Option Addr) (c : Nat) (BL : List (List Nat)) (w : World) (hB : HdB h) (hBL : ∀ l ∈ BL, ∀ x ∈ l, x < 256) (hn : BL.length ≤ 140737488351232) (hln : ∀ l ∈ BL, l.length ≤ 140737488351232) (hA : RLL w A BL) : Calls Try.prog 22 #[.agg #[.int .u8 h.s0, .int .u8 h.s1, .int .u8 h.s2, .int .u8 h.s3, .int .u8 h.s4, .int .u8 h.s5, .int .u8 h.s6, .int .u8 h.s7, .int .i64 h.K, .int .i64 h.M, .int .i64 h.B, .string h.key, .int .i64 h.size, .int .i64 h.idx, .int .i64 h.ep, .int .i64 h.ct, .slice A BL.length c]] w (EncPost w h BL) := by
  by_cases HE : checkE h = 0
  · exact renc_ok h A c BL w hB hBL hn hln hA HE
  · exact renc_bad h A c _ BL w HE
set_option maxRecDepth 100000 in
set_option maxHeartbeats 4000000 in
theorem lawFW (h : Hd) (A : Option Addr) (c : Nat) (BL : List (List Nat)) (w : World) (hB : HdB h) (hBL : ∀ l ∈ BL, ∀ x ∈ l, x < 256) (hn : BL.length * 24 ≤ 140737488351232) (hln : ∀ l ∈ BL, l.length ≤ 140737488351232) (hA : RLL w A BL) :
    Calls Try.prog 4 #[.agg #[.int .u8 h.s0, .int .u8 h.s1, .int .u8 h.s2, .int .u8 h.s3, .int .u8 h.s4, .int .u8 h.s5, .int .u8 h.s6, .int .u8 h.s7, .int .i64 h.K, .int .i64 h.M, .int .i64 h.B, .string h.key, .int .i64 h.size, .int .i64 h.idx, .int .i64 h.ep, .int .i64 h.ct, .slice A BL.length c]] w fun e w' => e = .returned (.bool true) ∧ Below w.heap.size w w' := by
  obtain ⟨hH0, cS0⟩ := sd_new w h (.slice A BL.length c)
  have hbA := (Below.refl w.heap.size w).alloc (Nat.le_refl _) (.cells #[.int .u8 h.s0, .int .u8 h.s1, .int .u8 h.s2, .int .u8 h.s3, .int .u8 h.s4, .int .u8 h.s5, .int .u8 h.s6, .int .u8 h.s7, .int .i64 h.K, .int .i64 h.M, .int .i64 h.B, .string h.key, .int .i64 h.size, .int .i64 h.idx, .int .i64 h.ep, .int .i64 h.ct, .slice A BL.length c] 46)
  have hwz : w.heap.size < (w.alloc (.cells #[.int .u8 h.s0, .int .u8 h.s1, .int .u8 h.s2, .int .u8 h.s3, .int .u8 h.s4, .int .u8 h.s5, .int .u8 h.s6, .int .u8 h.s7, .int .i64 h.K, .int .i64 h.M, .int .i64 h.B, .string h.key, .int .i64 h.size, .int .i64 h.idx, .int .i64 h.ep, .int .i64 h.ct, .slice A BL.length c] 46)).heap.size := by simp
  have HAL := Lib.hid hA
  have HBD := Lib.hid hB; have HBL := Lib.hid hBL; have HLN := Lib.hid hln
  have hn1 : BL.length ≤ 140737488351232 := by omega
  clear hA hB hBL hln
  go_enter Try.func4, Try.ntmps4
  obtain ⟨c0, c1, c2, c3, c4, c5, c6, c7, c8, c9, c10, c11, c12, c13, c14, c15⟩ := hH0
  have cS := cS0
  clear cS0
  go_wp2_with fail
  obtain ⟨wA, hwA⟩ : ∃ wA, wA = w.alloc (.cells #[.int .u8 h.s0, .int .u8 h.s1, .int .u8 h.s2, .int .u8 h.s3, .int .u8 h.s4, .int .u8 h.s5, .int .u8 h.s6, .int .u8 h.s7, .int .i64 h.K, .int .i64 h.M, .int .i64 h.B, .string h.key, .int .i64 h.size, .int .i64 h.idx, .int .i64 h.ep, .int .i64 h.ct, .slice A BL.length c] 46) := ⟨_, rfl⟩
  rw [← hwA] at c0 c1 c2 c3 c4 c5 c6 c7 c8 c9 c10 c11 c12 c13 c14 c15 cS hbA hwz ⊢
  clear hwA
  refine (renc_any h A c BL wA HBD.out HBL.out hn1 HLN.out (HAL.out.below hbA)).mono ?_
  rintro e w1 ⟨o1, er1, l1, rfl, hP1, hO1, hb1⟩
  obtain ⟨A1, q1, e1, _, _, r1, _⟩ := hO1.rd
  subst e1
  have HP1 := Lib.hid hP1; have HR1 := Lib.hid r1
  have hw1 := Nat.lt_of_lt_of_le hwz hb1.size
  have HB1 := Lib.hid (hbA.trans (hb1.mono hbA.size))
  have hHn := HdAt.below (show HdAt _ w.heap.size h from ⟨c0, c1, c2, c3, c4, c5, c6, c7, c8, c9, c10, c11, c12, c13, c14, c15⟩) hb1 hwz
  have cSn := (hb1.cell (p := ⟨w.heap.size, 16, none⟩) hwz).trans cS
  clear c0 c1 c2 c3 c4 c5 c6 c7 c8 c9 c10 c11 c12 c13 c14 c15 cS
  obtain ⟨c0, c1, c2, c3, c4, c5, c6, c7, c8, c9, c10, c11, c12, c13, c14, c15⟩ := hHn
  have cS := cSn
  clear cSn
  clear hb1 hbA hO1 r1 hP1
  go_wp2_with fail
  refine (lentRows_any A c BL w1 hn HLN.out (HAL.out.below HB1.out)).mono ?_
  rintro e w2 ⟨T, cT, rfl, hO2, hb2, hcT⟩
  have hw2 := Nat.lt_of_lt_of_le hw1 hb2.size
  have HB2 := Lib.hid (HB1.out.trans (hb2.mono HB1.out.size))
  have HO2 := Lib.hid hO2
  have HR2 := Lib.hid (HR1.out.below hb2)
  have hHn := HdAt.below (show HdAt _ w.heap.size h from ⟨c0, c1, c2, c3, c4, c5, c6, c7, c8, c9, c10, c11, c12, c13, c14, c15⟩) hb2 hw1
  have cSn := (hb2.cell (p := ⟨w.heap.size, 16, none⟩) hw1).trans cS
  clear c0 c1 c2 c3 c4 c5 c6 c7 c8 c9 c10 c11 c12 c13 c14 c15 cS
  obtain ⟨c0, c1, c2, c3, c4, c5, c6, c7, c8, c9, c10, c11, c12, c13, c14, c15⟩ := hHn
  have cS := cSn
  clear cSn
  clear hb2 HB1 HR1 hO2
  go_wp2_with fail
  refine (enc_any h (some ⟨T, 0, none⟩) cT BL w2 HBD.out HBL.out hn1 HLN.out (lent_rll HO2.out)).mono ?_
  rintro e w3 ⟨o3, er3, l3, rfl, hP3, hO3, hb3⟩
  obtain ⟨he, hl⟩ := hP3.uniq HP1.out
  subst he
  subst hl
  obtain ⟨A3, q3, e3, _, _, r3, _⟩ := hO3.rd
  subst e3
  have hw3 := Nat.lt_of_lt_of_le hw2 hb3.size
  have HB3 := Lib.hid (HB2.out.trans (hb3.mono HB2.out.size))
  have HO3 := Lib.hid (HO2.out.kept hb3)
  have HR3 := Lib.hid (HR2.out.below hb3)
  have HR3' := Lib.hid r3
  have hlx := HP1.out.lt HBD.out HBL.out
  have hHn := HdAt.below (show HdAt _ w.heap.size h from ⟨c0, c1, c2, c3, c4, c5, c6, c7, c8, c9, c10, c11, c12, c13, c14, c15⟩) hb3 hw2
  have cSn := (hb3.cell (p := ⟨w.heap.size, 16, none⟩) hw2).trans cS
  clear c0 c1 c2 c3 c4 c5 c6 c7 c8 c9 c10 c11 c12 c13 c14 c15 cS
  obtain ⟨c0, c1, c2, c3, c4, c5, c6, c7, c8, c9, c10, c11, c12, c13, c14, c15⟩ := hHn
  have cS := cSn
  clear cSn
  clear hb3 HB2 HR2 HO2 hO3 r3 hP3
  go_wp2_with fail
  refine (num_any _ w3).mono ?_
  rintro e w4 ⟨rfl, rfl⟩
  have hc1 := conv_strL q3 hlx HR3'.out
  have hc2 := conv_strL q1 hlx HR3.out
  clear hlx
  go_wp2_with fail
  clear hc1 hc2
  refine (keptRows_any T cT A c w1.heap.size BL w3 hn HLN.out HBL.out hcT HO3.out (HAL.out.below HB3.out)).mono ?_
  rintro e w5 ⟨rfl, hb5⟩
  have HB5 := Lib.hid (HB3.out.trans (hb5.mono HB3.out.size))
  clear hb5 c0 c1 c2 c3 c4 c5 c6 c7 c8 c9 c10 c11 c12 c13 c14 c15 cS
  go_wp2
  go_ret
  exact ⟨rfl, HB5.out⟩
end Go.Proofs.Ytbioanbokbhmgaa
