/- Form, Encode of the document: the walks. Conditions: bytes, lengths that memory bears. -/
import Derived.Test.YtbioanbokbhmgaaSd
namespace Go.Proofs.Ytbioanbokbhmgaa
open Go.RowKit


set_option maxRecDepth 100000 in
set_option maxHeartbeats 1000000 in
theorem renc_bad (h : Hd) (A : Option Addr) (c n : Nat) (BL : List (List Nat)) (w : World) (HE : ¬ checkE h = 0) :
    Calls Try.prog 22 #[.agg #[.int .u8 h.s0, .int .u8 h.s1, .int .u8 h.s2, .int .u8 h.s3, .int .u8 h.s4, .int .u8 h.s5, .int .u8 h.s6, .int .u8 h.s7, .int .i64 h.K, .int .i64 h.M, .int .i64 h.B, .string h.key, .int .i64 h.size, .int .i64 h.idx, .int .i64 h.ep, .int .i64 h.ct, .slice A n c]] w (EncPost w h BL) := by
  obtain ⟨hH0, cS0⟩ := sd_new w h (.slice A n c)
  have hbA := (Below.refl w.heap.size w).alloc (Nat.le_refl _) (.cells #[.int .u8 h.s0, .int .u8 h.s1, .int .u8 h.s2, .int .u8 h.s3, .int .u8 h.s4, .int .u8 h.s5, .int .u8 h.s6, .int .u8 h.s7, .int .i64 h.K, .int .i64 h.M, .int .i64 h.B, .string h.key, .int .i64 h.size, .int .i64 h.idx, .int .i64 h.ep, .int .i64 h.ct, .slice A n c] 46)
  have HE := Lib.hid HE
  have hne : (checkE h == 0) = false := by simpa using HE.out
  have hne' : (checkE h != 0) = true := by simpa using HE.out
  obtain ⟨c0, c1, c2, c3, c4, c5, c6, c7, c8, c9, c10, c11, c12, c13, c14, c15⟩ := hH0
  go_enter Try.func22, Try.ntmps22
  go_wp2_with fail
  refine (rcheck_any h _).mono ?_
  rintro e w1 ⟨rfl, hb1⟩
  have HB1 := Lib.hid (hbA.trans (hb1.mono hbA.size))
  clear hb1 c0 c1 c2 c3 c4 c5 c6 c7 c8 c9 c10 c11 c12 c13 c14 c15 cS0
  go_wp2
  go_ret2
  exact ⟨.slice none 0 0, _, [], rfl, .inl ⟨HE.out, rfl, rfl⟩, OwnB.nil _ _, HB1.out⟩
set_option maxRecDepth 100000 in
set_option maxHeartbeats 4000000 in
theorem form_any (h : Hd) (A : Option Addr) (c : Nat) (BL : List (List Nat)) (w : World) (hB : HdB h) (hBL : ∀ l ∈ BL, ∀ x ∈ l, x < 256) (hn : BL.length ≤ 140737488351232) (hln : ∀ l ∈ BL, l.length ≤ 140737488351232) (hA : RLL w A BL) (HE : checkE h = 0) (HF : fitsB h BL) :
    Calls Try.prog 48 #[.agg #[.int .u8 h.s0, .int .u8 h.s1, .int .u8 h.s2, .int .u8 h.s3, .int .u8 h.s4, .int .u8 h.s5, .int .u8 h.s6, .int .u8 h.s7, .int .i64 h.K, .int .i64 h.M, .int .i64 h.B, .string h.key, .int .i64 h.size, .int .i64 h.idx, .int .i64 h.ep, .int .i64 h.ct, .slice A BL.length c]] w fun e w' => ∃ o, e = .returned o ∧ OwnB w' w.heap.size o (formL h BL) ∧ Below w.heap.size w w' := by
  obtain ⟨hfl, hfr⟩ := fits_len HE HF
  have HFR := Lib.hid hfr
  have hs2l := (sums_lt hB).2
  have hfo := form_le HE HF
  have HALL := Lib.hid (rowsF_all h BL)
  have HRL := Lib.hid (fun k => rowsF_length h BL k)
  have HE := Lib.hid HE
  obtain ⟨hH0, cS0⟩ := sd_new w h (.slice A BL.length c)
  have hbA := (Below.refl w.heap.size w).alloc (Nat.le_refl _) (.cells #[.int .u8 h.s0, .int .u8 h.s1, .int .u8 h.s2, .int .u8 h.s3, .int .u8 h.s4, .int .u8 h.s5, .int .u8 h.s6, .int .u8 h.s7, .int .i64 h.K, .int .i64 h.M, .int .i64 h.B, .string h.key, .int .i64 h.size, .int .i64 h.idx, .int .i64 h.ep, .int .i64 h.ct, .slice A BL.length c] 46)
  have hwz : w.heap.size < (w.alloc (.cells #[.int .u8 h.s0, .int .u8 h.s1, .int .u8 h.s2, .int .u8 h.s3, .int .u8 h.s4, .int .u8 h.s5, .int .u8 h.s6, .int .u8 h.s7, .int .i64 h.K, .int .i64 h.M, .int .i64 h.B, .string h.key, .int .i64 h.size, .int .i64 h.idx, .int .i64 h.ep, .int .i64 h.ct, .slice A BL.length c] 46)).heap.size := by simp
  obtain ⟨SA, CA, hA1, hA2⟩ := hA
  have HA1 := Lib.hid hA1; have HA2 := Lib.hid hA2
  have HBD := Lib.hid hB; have HBL := Lib.hid hBL; have HLN := Lib.hid hln
  clear hA1 hA2 hB hBL hln
  clear hfr
  go_enter Try.func48, Try.ntmps48
  obtain ⟨c0, c1, c2, c3, c4, c5, c6, c7, c8, c9, c10, c11, c12, c13, c14, c15⟩ := hH0
  have cS := cS0
  clear cS0
  go_wp2_with fail
  obtain ⟨wA, hwA⟩ : ∃ wA, wA = w.alloc (.cells #[.int .u8 h.s0, .int .u8 h.s1, .int .u8 h.s2, .int .u8 h.s3, .int .u8 h.s4, .int .u8 h.s5, .int .u8 h.s6, .int .u8 h.s7, .int .i64 h.K, .int .i64 h.M, .int .i64 h.B, .string h.key, .int .i64 h.size, .int .i64 h.idx, .int .i64 h.ep, .int .i64 h.ct, .slice A BL.length c] 46) := ⟨_, rfl⟩
  rw [← hwA] at c0 c1 c2 c3 c4 c5 c6 c7 c8 c9 c10 c11 c12 c13 c14 c15 cS hbA hwz ⊢
  clear hwA
  refine (headbytes_any h wA HBD.out HE.out).mono ?_
  rintro e w1 ⟨o1, rfl, hO1, hb1⟩
  obtain ⟨A1, q1, e1', _, _, r1, _⟩ := hO1.rd
  subst e1'
  have hw1 := Nat.lt_of_lt_of_le hwz hb1.size
  have HB1 := Lib.hid (hbA.trans (hb1.mono hbA.size))
  have hHn := HdAt.below (show HdAt _ w.heap.size h from ⟨c0, c1, c2, c3, c4, c5, c6, c7, c8, c9, c10, c11, c12, c13, c14, c15⟩) hb1 hwz
  have cSn := (hb1.cell (p := ⟨w.heap.size, 16, none⟩) hwz).trans cS
  clear c0 c1 c2 c3 c4 c5 c6 c7 c8 c9 c10 c11 c12 c13 c14 c15 cS
  obtain ⟨c0, c1, c2, c3, c4, c5, c6, c7, c8, c9, c10, c11, c12, c13, c14, c15⟩ := hHn
  have cS := cSn
  clear cSn
  have HLL := Lib.hid (OwnLL.one rfl (hO1.mono hwz) hw1)
  clear hb1 hbA hO1 r1
  obtain ⟨w2, hw2e⟩ : ∃ w2, w2 = w1.alloc (.cells #[.slice A1 (headL h).length q1] 47) := ⟨_, rfl⟩
  have hw2 : w.heap.size < w2.heap.size := by rw [hw2e]; simp; omega
  have hb2 : Below w1.heap.size w1 w2 := by rw [hw2e]; exact (Below.refl _ _).alloc (Nat.le_refl _) _
  have HB2 := Lib.hid (HB1.out.trans (hb2.mono HB1.out.size))
  go_wp2_with fail
  rw [← hw2e] at HLL ⊢
  clear hw2e
  have hHn := HdAt.below (show HdAt _ w.heap.size h from ⟨c0, c1, c2, c3, c4, c5, c6, c7, c8, c9, c10, c11, c12, c13, c14, c15⟩) hb2 hw1
  have cSn := (hb2.cell (p := ⟨w.heap.size, 16, none⟩) hw1).trans cS
  clear c0 c1 c2 c3 c4 c5 c6 c7 c8 c9 c10 c11 c12 c13 c14 c15 cS
  obtain ⟨c0, c1, c2, c3, c4, c5, c6, c7, c8, c9, c10, c11, c12, c13, c14, c15⟩ := hHn
  have cS := cSn
  clear cSn
  clear hb2 HB1
  refine (headsum_any h w2 HBD.out HE.out).mono ?_
  rintro e w3 ⟨rfl, hb3⟩
  obtain ⟨s2, hs2⟩ : ∃ s2, s2 = sum2 h := ⟨_, rfl⟩
  rw [← hs2] at hs2l ⊢
  have HS2 := Lib.hid hs2
  clear hs2
  have hw3 := Nat.lt_of_lt_of_le hw2 hb3.size
  have HB3 := Lib.hid (HB2.out.trans (hb3.mono HB2.out.size))
  have HL3 := Lib.hid (HLL.out.kept hb3)
  have hHn := HdAt.below (show HdAt _ w.heap.size h from ⟨c0, c1, c2, c3, c4, c5, c6, c7, c8, c9, c10, c11, c12, c13, c14, c15⟩) hb3 hw2
  have cSn := (hb3.cell (p := ⟨w.heap.size, 16, none⟩) hw2).trans cS
  clear c0 c1 c2 c3 c4 c5 c6 c7 c8 c9 c10 c11 c12 c13 c14 c15 cS
  obtain ⟨c0, c1, c2, c3, c4, c5, c6, c7, c8, c9, c10, c11, c12, c13, c14, c15⟩ := hHn
  have cS := cSn
  clear cSn
  clear hb3 HB2 HLL
  go_wp2
  have HCS : Hid (∀ w', Below (w.heap.size + 1) w3 w' → w'.cell? ⟨w.heap.size, 16, none⟩ = some (.slice A BL.length c)) := fun w' hb => (hb.cell (p := ⟨w.heap.size, 16, none⟩) (Nat.lt_succ_self _)).trans cS
  clear c0 c1 c2 c3 c4 c5 c6 c7 c8 c9 c10 c11 c12 c13 c14 c15 cS
  generalize w1.heap.size = w1s at *
  go_loopg [3, 5] BL.length (fun gk v i wr => ∃ k : Nat, k ≤ BL.length ∧ gk = BL.length - k ∧ i = .int .i64 k ∧ OwnLL wr (w.heap.size + 1) v (rowsF h BL k) ∧ Below (w.heap.size + 1) w3 wr ∧ w.heap.size < wr.heap.size)
  case atStart => exact ⟨0, Nat.zero_le _, rfl, rfl, HL3.out, Below.refl _ _, hw3⟩
  case round =>
    clear HL3
    obtain ⟨k, hk, rfl, rfl, hO, hb, hwr⟩ := hrel
    have HO := Lib.hid hO; have HBr := Lib.hid hb
    have cS := HCS.out wr hb
    have HB := Lib.hid (HB3.out.trans (hb.mono (Nat.le_succ _)))
    clear hO hb
    by_cases hlt : k < BL.length
    · obtain ⟨bb, o, rfl, hbb, hc0⟩ := HA1.out k hlt
      have hc : wr.cell? ⟨bb, o + k, none⟩ = some (.slice (SA k) (BL.getD k []).length (CA k)) := (HB.out.cell hbb).trans hc0
      have HRow := Lib.hid (HA2.out k hlt)
      have HLx := Lib.hid (HBL.out _ (getD_mem' (d := []) hlt))
      have hlr : (BL.getD k []).length ≤ 65536 := HFR.out _ (getD_mem' hlt)
      have HRN := Lib.hid (show rowsF h BL (k + 1) = rowsF h BL k ++ [frameL s2 k (BL.getD k [])] by rw [HS2.out]; rfl)
      have hrl : (rowsF h BL k).length ≤ 4097 := by rw [HRL.out]; omega
      generalize BL.getD k [] = bk at *
      clear hc0
      go_wp2_with fail
      refine (rframe_any s2 k (SA k) (CA k) bk wr hs2l (by omega) HLx.out (by omega) (HRow.out.below HB.out)).mono ?_
      rintro e w4 ⟨o4, rfl, hO4, hb4⟩
      obtain ⟨A4, q4, e4, _, _, r4, _⟩ := hO4.rd
      subst e4
      have hw4 := Nat.lt_of_lt_of_le hwr hb4.size
      have HB4 := Lib.hid (HBr.out.trans (hb4.mono hwr))
      have HL4 := Lib.hid (HO.out.kept hb4)
      have HO4 := Lib.hid (hO4.mono (B' := w.heap.size + 1) hwr)
      clear hb4 hO4 r4 HO HBr hc cS
      go_wp2_with (at_builtin; refine wpList_pushLL rfl (.tmp 20) (.tmp 29) rfl (w.heap.size + 1) _ _ rfl HL4.out hw4 (frameL s2 k bk) rfl HO4.out _ rfl rfl (by omega) ?_)
      intro v5 w5 hL5 hb5
      have hw5 := Nat.lt_of_lt_of_le hw4 hb5.size
      have HB5 := Lib.hid (HB4.out.trans hb5)
      have HL5 := Lib.hid (show OwnLL w5 (w.heap.size + 1) v5 (rowsF h BL (k + 1)) by rw [HRN.out]; exact hL5)
      clear hL5 hb5 HL4 HB4 HO4
      go_wp2
      go_roundg (BL.length - (k + 1))
      case measure => omega
      case rel => exact ⟨k + 1, by omega, rfl, by go_num, HL5.out, HB5.out, hw5⟩
    · have hkn : k = BL.length := by omega
      obtain ⟨A6, c6, e6, hc6, r6⟩ := HO.out.rd
      subst e6
      have HR6 := Lib.hid r6
      have hrl : (rowsF h BL k).length ≤ 4097 := by rw [HRL.out]; omega
      have HFLN := Lib.hid (show (rowsF h BL k).flatten.length ≤ 140737488355000 by rw [hkn, HALL.out]; omega)
      have HFE := Lib.hid (show (rowsF h BL k).flatten = formL h BL by rw [hkn, HALL.out])
      clear hkn HO r6
      generalize rowsF h BL k = RW at *
      go_wp2_with fail
      refine (join_any A6 c6 RW wr (by omega) HFLN.out HR6.out).mono ?_
      rintro e w7 ⟨o7, rfl, hO7, hb7⟩
      rw [HFE.out] at hO7
      have HO7 := Lib.hid (hO7.mono (Nat.le_of_lt hwr))
      have HB7 := Lib.hid (HB.out.trans (hb7.mono (Nat.le_of_lt hwr)))
      clear hO7 hb7
      go_wp2
      go_ret
      exact ⟨_, rfl, HO7.out, HB7.out⟩
set_option maxRecDepth 100000 in
set_option maxHeartbeats 4000000 in
theorem renc_ok (h : Hd) (A : Option Addr) (c : Nat) (BL : List (List Nat)) (w : World) (hB : HdB h) (hBL : ∀ l ∈ BL, ∀ x ∈ l, x < 256) (hn : BL.length ≤ 140737488351232) (hln : ∀ l ∈ BL, l.length ≤ 140737488351232) (hA : RLL w A BL) (HE : checkE h = 0) :
    Calls Try.prog 22 #[.agg #[.int .u8 h.s0, .int .u8 h.s1, .int .u8 h.s2, .int .u8 h.s3, .int .u8 h.s4, .int .u8 h.s5, .int .u8 h.s6, .int .u8 h.s7, .int .i64 h.K, .int .i64 h.M, .int .i64 h.B, .string h.key, .int .i64 h.size, .int .i64 h.idx, .int .i64 h.ep, .int .i64 h.ct, .slice A BL.length c]] w (EncPost w h BL) := by
  have HFORM := Lib.hid (fun (HF : fitsB h BL) (w' : World) (hA : RLL w' A BL) => form_any h A c BL w' hB hBL hn hln hA HE HF)
  have HAL := Lib.hid hA
  obtain ⟨hm, k0, k1, hE, i0, i1, e0, e1, t0, t1⟩ := check_facts HE
  obtain ⟨z0, z1, _⟩ := size_facts hE
  obtain ⟨m1, m2, m3, m4, m5, m6⟩ := hm
  have HM := Lib.hid (show MayS h.K h.M h.B from ⟨m1, m2, m3, m4, m5, m6⟩)
  have HE := Lib.hid HE
  obtain ⟨hH0, cS0⟩ := sd_new w h (.slice A BL.length c)
  have hbA := (Below.refl w.heap.size w).alloc (Nat.le_refl _) (.cells #[.int .u8 h.s0, .int .u8 h.s1, .int .u8 h.s2, .int .u8 h.s3, .int .u8 h.s4, .int .u8 h.s5, .int .u8 h.s6, .int .u8 h.s7, .int .i64 h.K, .int .i64 h.M, .int .i64 h.B, .string h.key, .int .i64 h.size, .int .i64 h.idx, .int .i64 h.ep, .int .i64 h.ct, .slice A BL.length c] 46)
  have hwz : w.heap.size < (w.alloc (.cells #[.int .u8 h.s0, .int .u8 h.s1, .int .u8 h.s2, .int .u8 h.s3, .int .u8 h.s4, .int .u8 h.s5, .int .u8 h.s6, .int .u8 h.s7, .int .i64 h.K, .int .i64 h.M, .int .i64 h.B, .string h.key, .int .i64 h.size, .int .i64 h.idx, .int .i64 h.ep, .int .i64 h.ct, .slice A BL.length c] 46)).heap.size := by simp
  obtain ⟨SA, CA, hA1, hA2⟩ := hA
  have HA1 := Lib.hid hA1; have HA2 := Lib.hid hA2
  have HBD := Lib.hid hB; have HBL := Lib.hid hBL; have HLN := Lib.hid hln
  clear hA1 hA2 hB hBL hln
  have hnb := sizeN_le h.K h.M h.B h.size
  have hE := Lib.hid hE
  go_enter Try.func22, Try.ntmps22
  obtain ⟨c0, c1, c2, c3, c4, c5, c6, c7, c8, c9, c10, c11, c12, c13, c14, c15⟩ := hH0
  have cS := cS0
  clear cS0
  go_wp2_with fail
  obtain ⟨wA, hwA⟩ : ∃ wA, wA = w.alloc (.cells #[.int .u8 h.s0, .int .u8 h.s1, .int .u8 h.s2, .int .u8 h.s3, .int .u8 h.s4, .int .u8 h.s5, .int .u8 h.s6, .int .u8 h.s7, .int .i64 h.K, .int .i64 h.M, .int .i64 h.B, .string h.key, .int .i64 h.size, .int .i64 h.idx, .int .i64 h.ep, .int .i64 h.ct, .slice A BL.length c] 46) := ⟨_, rfl⟩
  rw [← hwA] at c0 c1 c2 c3 c4 c5 c6 c7 c8 c9 c10 c11 c12 c13 c14 c15 cS hbA hwz ⊢
  clear hwA
  refine (rcheck_any h wA).mono ?_
  rintro e w1 ⟨rfl, hb1⟩
  rw [HE.out]
  have hw1 := Nat.lt_of_lt_of_le hwz hb1.size
  have HB1 := Lib.hid (hbA.trans (hb1.mono hbA.size))
  have hHn := HdAt.below (show HdAt _ w.heap.size h from ⟨c0, c1, c2, c3, c4, c5, c6, c7, c8, c9, c10, c11, c12, c13, c14, c15⟩) hb1 hwz
  have cSn := (hb1.cell (p := ⟨w.heap.size, 16, none⟩) hwz).trans cS
  clear c0 c1 c2 c3 c4 c5 c6 c7 c8 c9 c10 c11 c12 c13 c14 c15 cS
  obtain ⟨c0, c1, c2, c3, c4, c5, c6, c7, c8, c9, c10, c11, c12, c13, c14, c15⟩ := hHn
  have cS := cSn
  clear cSn
  clear hb1 hbA hwz
  go_wp2_with fail
  refine (rsizes_all h.K h.M h.B h.size w1).mono ?_
  rintro e w2 ⟨vs, rfl, hown, hb2⟩
  rw [hE.out]
  obtain ⟨n, hn0⟩ : ∃ n, n = sizeN h.K h.M h.B h.size := ⟨_, rfl⟩
  rw [← hn0] at hown hnb
  have HN := Lib.hid hn0
  clear hn0
  obtain ⟨As, sc, es, _, _, hrs, _⟩ := hown.rd
  subst es
  have HRS := Lib.hid hrs
  have hw2 := Nat.lt_of_lt_of_le hw1 hb2.size
  have HB2 := Lib.hid (HB1.out.trans (hb2.mono HB1.out.size))
  have hHn := HdAt.below (show HdAt _ w.heap.size h from ⟨c0, c1, c2, c3, c4, c5, c6, c7, c8, c9, c10, c11, c12, c13, c14, c15⟩) hb2 hw1
  have cSn := (hb2.cell (p := ⟨w.heap.size, 16, none⟩) hw1).trans cS
  clear c0 c1 c2 c3 c4 c5 c6 c7 c8 c9 c10 c11 c12 c13 c14 c15 cS
  obtain ⟨c0, c1, c2, c3, c4, c5, c6, c7, c8, c9, c10, c11, c12, c13, c14, c15⟩ := hHn
  have cS := cSn
  clear cSn
  clear hb2 HB1 hown hrs
  have HCL : Hid (∀ w', Below w2.heap.size w2 w' → HdAt w' w.heap.size h ∧ w'.cell? ⟨w.heap.size, 16, none⟩ = some (.slice A BL.length c)) := fun w' hb => ⟨HdAt.below (show HdAt w2 w.heap.size h from ⟨c0, c1, c2, c3, c4, c5, c6, c7, c8, c9, c10, c11, c12, c13, c14, c15⟩) hb hw2, (hb.cell (p := ⟨w.heap.size, 16, none⟩) hw2).trans cS⟩
  by_cases hlen : n = BL.length
  · subst hlen
    go_wp2
    clear c0 c1 c2 c3 c4 c5 c6 c7 c8 c9 c10 c11 c12 c13 c14 c15 cS
    go_loopg [7] BL.length (fun gk i wr => ∃ k : Nat, k ≤ BL.length ∧ gk = BL.length - k ∧ i = .int .i64 k ∧ (∀ j, j < k → (BL.getD j []).length = blen h.K.toNat h.B.toNat h.size.toNat j) ∧ Below w2.heap.size w2 wr)
    case atStart => exact ⟨0, Nat.zero_le _, rfl, rfl, fun j hj => absurd hj (by omega), Below.refl _ _⟩
    case round =>
      obtain ⟨k, hk, rfl, rfl, hfit, hbr⟩ := hrel
      have HFIT := Lib.hid hfit
      have HBR := Lib.hid hbr
      have HB := Lib.hid (HB2.out.trans (hbr.mono HB2.out.size))
      have hwr := Nat.lt_of_lt_of_le hw2 hbr.size
      clear hfit
      obtain ⟨hH, cS⟩ := HCL.out wr hbr
      clear hbr
      by_cases hlt : k < BL.length
      · obtain ⟨bb, o, rfl, hbb, hc0⟩ := HA1.out k hlt
        have hc : wr.cell? ⟨bb, o + k, none⟩ = some (.slice (SA k) (BL.getD k []).length (CA k)) := (HB.out.cell hbb).trans hc0
        have hbbr := Nat.lt_of_lt_of_le hbb HB.out.size
        obtain ⟨sb, so, rfl, hsb, hs0⟩ := HRS.out k hlt
        have hsc : wr.cell? ⟨sb, so + k, none⟩ = some (.int .i64 (blen h.K.toNat h.B.toNat h.size.toNat k : Nat)) := (HBR.out.cell hsb).trans hs0
        have hsbr := Nat.lt_of_lt_of_le hsb HBR.out.size
        obtain ⟨lk, hlk⟩ : ∃ lk, lk = (BL.getD k []).length := ⟨_, rfl⟩
        obtain ⟨bk, hbk⟩ : ∃ bk, bk = blen h.K.toNat h.B.toNat h.size.toNat k := ⟨_, rfl⟩
        rw [← hbk] at hsc
        rw [← hlk] at hc
        have HLK := Lib.hid hlk; have HBK := Lib.hid hbk
        clear hlk hbk hc0 hs0
        go_wp2_with fail
        refine wp_region_facts [.is (.pointer (some ⟨w.heap.size, 16, none⟩)), .is (.slice (some ⟨bb, o, none⟩) BL.length c), .is (.int .i64 (k : Int)), .is (.pointer (some ⟨bb, o + k, none⟩)), .is (.slice (SA k) lk (CA k)), .is (.int .i64 (lk : Int)), .is (.slice (some ⟨sb, so, none⟩) BL.length sc), .is (.int .i64 (k : Int)), .is (.pointer (some ⟨sb, so + k, none⟩)), .is (.int .i64 (bk : Int)), .is (.bool ((lk : Int) != (bk : Int)))] mixed (by kernel_rfl) (fun hdr => ⟨?_, ?_, ?_, ?_, ?_, ?_, ?_, ?_, ?_, ?_, ?_, trivial⟩) (fun wE hbE => ?_)
        · intro a w2 hb hs K hK
          repeat (intro _)
          refine ⟨?_⟩
          have h1 : a.tmps[1]?.getD undef = .pointer (some ⟨w.heap.size, 0, none⟩) := hs 1 (by kernel_rfl)
          go_simp
          exact hK.out _ _ (Below.refl _ _) rfl
        · intro a w2 hb hs K hK
          repeat (intro _)
          refine ⟨?_⟩
          have h36 : a.tmps[36]?.getD undef = .pointer (some ⟨w.heap.size, 16, none⟩) := by assumption
          have cS := (hdr.out.trans (hb.mono hdr.out.size)).cell (p := ⟨w.heap.size, 16, none⟩) hwr |>.trans cS
          go_simp
          exact hK.out _ _ (Below.refl _ _) rfl
        · intro a w2 hb hs K hK
          repeat (intro _)
          refine ⟨?_⟩
          have h7 : a.tmps[7]?.getD undef = .int .i64 (k : Int) := hs 7 (by kernel_rfl)
          go_simp
          exact hK.out _ _ (Below.refl _ _) rfl
        · intro a w2 hb hs K hK
          repeat (intro _)
          refine ⟨?_⟩
          have h37 : a.tmps[37]?.getD undef = .slice (some ⟨bb, o, none⟩) BL.length c := by assumption
          have h38 : a.tmps[38]?.getD undef = .int .i64 (k : Int) := by assumption
          go_simp
          exact hK.out _ _ (Below.refl _ _) rfl
        · intro a w2 hb hs K hK
          repeat (intro _)
          refine ⟨?_⟩
          have h39 : a.tmps[39]?.getD undef = .pointer (some ⟨bb, o + k, none⟩) := by assumption
          have hc := (hdr.out.trans (hb.mono hdr.out.size)).cell (p := ⟨bb, o + k, none⟩) hbbr |>.trans hc
          go_simp
          exact hK.out _ _ (Below.refl _ _) rfl
        · intro a w2 hb hs K hK
          repeat (intro _)
          refine ⟨?_⟩
          have h40 : a.tmps[40]?.getD undef = .slice (SA k) lk (CA k) := by assumption
          go_simp
          exact hK.out _ _ (Below.refl _ _) rfl
        · intro a w2 hb hs K hK
          repeat (intro _)
          refine ⟨?_⟩
          have h5 : a.tmps[5]?.getD undef = .slice (some ⟨sb, so, none⟩) BL.length sc := hs 5 (by kernel_rfl)
          go_simp
          exact hK.out _ _ (Below.refl _ _) rfl
        · intro a w2 hb hs K hK
          repeat (intro _)
          refine ⟨?_⟩
          have h7 : a.tmps[7]?.getD undef = .int .i64 (k : Int) := hs 7 (by kernel_rfl)
          go_simp
          exact hK.out _ _ (Below.refl _ _) rfl
        · intro a w2 hb hs K hK
          repeat (intro _)
          refine ⟨?_⟩
          have h42 : a.tmps[42]?.getD undef = .slice (some ⟨sb, so, none⟩) BL.length sc := by assumption
          have h43 : a.tmps[43]?.getD undef = .int .i64 (k : Int) := by assumption
          go_simp
          exact hK.out _ _ (Below.refl _ _) rfl
        · intro a w2 hb hs K hK
          repeat (intro _)
          refine ⟨?_⟩
          have h44 : a.tmps[44]?.getD undef = .pointer (some ⟨sb, so + k, none⟩) := by assumption
          have hs1 := (hdr.out.trans (hb.mono hdr.out.size)).cell (p := ⟨sb, so + k, none⟩) hsbr |>.trans hsc
          go_simp
          exact hK.out _ _ (Below.refl _ _) rfl
        · intro a w2 hb hs K hK
          repeat (intro _)
          refine ⟨?_⟩
          have h41 : a.tmps[41]?.getD undef = .int .i64 (lk : Int) := by assumption
          have h45 : a.tmps[45]?.getD undef = .int .i64 (bk : Int) := by assumption
          go_simp
          exact hK.out _ _ (Below.refl _ _) rfl
        intro v0 f0 v1 f1 v2 f2 v3 f3 v4 f4 v5 f5 v6 f6 v7 f7 v8 f8 v9 f9 v10 f10
        refine NoPanic.normal ?_
        simp only [Act.put, List.setIfInBounds_toArray, List.set_cons_zero, List.set_cons_succ]

        obtain rfl : v10 = .bool ((lk : Int) != (bk : Int)) := f10
        have HBR2 := Lib.hid (HBR.out.trans (hbE.mono HBR.out.size))
        have HB2' := Lib.hid (HB.out.trans (hbE.mono HB.out.size))
        clear f0 f1 f2 f3 f4 f5 f6 f7 f8 f9 hbE HBR HB hc hsc cS hH
        by_cases heq : lk = bk
        · have hq : ((lk : Int) != (bk : Int)) = false := by simp [heq]
          rw [hq]
          go_wp2
          go_roundg (BL.length - (k + 1))
          case measure => omega
          case rel => exact ⟨k + 1, by omega, rfl, by go_num, fun j hj => by
            by_cases e : j = k
            · subst e; rw [← HLK.out, ← HBK.out]; exact heq
            · exact HFIT.out j (by omega), HBR2.out⟩
        · have hq2 : ((lk : Int) != (bk : Int)) = true := by rw [bne_iff_ne]; omega
          rw [hq2]
          go_wp2
          go_ret2
          exact ⟨.slice none 0 0, _, [], rfl, .inr (.inl ⟨HE.out, fun hf => heq (by rw [HLK.out, HBK.out]; exact hf.2 k hlt), rfl, rfl⟩), OwnB.nil _ _, HB2'.out⟩
      · have hkn : k = BL.length := by omega
        have HF := Lib.hid (show fitsB h BL from ⟨HN.out, by rw [← hkn]; exact HFIT.out⟩)
        obtain ⟨c0, c1, c2, c3, c4, c5, c6, c7, c8, c9, c10, c11, c12, c13, c14, c15⟩ := hH
        clear hkn
        go_wp2_with fail
        refine (HFORM.out HF.out wr (HAL.out.below HB.out)).mono ?_
        rintro e w9 ⟨o9, rfl, hO9, hb9⟩
        have HO9 := Lib.hid (hO9.mono (Nat.le_of_lt hwr))
        have HB9 := Lib.hid (HB.out.trans (hb9.mono (Nat.le_of_lt hwr)))
        clear hO9 hb9 c0 c1 c2 c3 c4 c5 c6 c7 c8 c9 c10 c11 c12 c13 c14 c15 cS
        go_wp2
        go_ret2
        exact ⟨_, 0, _, rfl, .inr (.inr ⟨HE.out, HF.out, rfl, rfl⟩), HO9.out, HB9.out⟩
  · have hq1 : ((n : Int) == (BL.length : Int)) = false := by rw [beq_eq_false_iff_ne]; omega
    have hq2 : ((n : Int) != (BL.length : Int)) = true := by rw [bne_iff_ne]; omega
    go_wp2
    go_ret2
    exact ⟨.slice none 0 0, _, [], rfl, .inr (.inl ⟨HE.out, fun hf => hlen (HN.out.trans hf.1.symm), rfl, rfl⟩), OwnB.nil _ _, HB2.out⟩
end Go.Proofs.Ytbioanbokbhmgaa
