/- Heads: the walks of Check, the program's and the document's. Conditions: none. -/
import Derived.Test.YtbioanbokbhmgaaLen
namespace Go.Proofs.Ytbioanbokbhmgaa
open Go.RowKit

/-- A head's fields. -/
structure Hd where
  s0 : Int
  s1 : Int
  s2 : Int
  s3 : Int
  s4 : Int
  s5 : Int
  s6 : Int
  s7 : Int
  K : Int
  M : Int
  B : Int
  key : ByteArray
  size : Int
  idx : Int
  ep : Int
  ct : Int

/-- A head stands in block b. -/
def HdAt (w : World) (b : Nat) (h : Hd) : Prop := w.cell? ⟨b, 0, none⟩ = some (.int .u8 h.s0) ∧ w.cell? ⟨b, 1, none⟩ = some (.int .u8 h.s1) ∧ w.cell? ⟨b, 2, none⟩ = some (.int .u8 h.s2) ∧ w.cell? ⟨b, 3, none⟩ = some (.int .u8 h.s3) ∧ w.cell? ⟨b, 4, none⟩ = some (.int .u8 h.s4) ∧ w.cell? ⟨b, 5, none⟩ = some (.int .u8 h.s5) ∧ w.cell? ⟨b, 6, none⟩ = some (.int .u8 h.s6) ∧ w.cell? ⟨b, 7, none⟩ = some (.int .u8 h.s7) ∧ w.cell? ⟨b, 8, none⟩ = some (.int .i64 h.K) ∧ w.cell? ⟨b, 9, none⟩ = some (.int .i64 h.M) ∧ w.cell? ⟨b, 10, none⟩ = some (.int .i64 h.B) ∧ w.cell? ⟨b, 11, none⟩ = some (.string h.key) ∧ w.cell? ⟨b, 12, none⟩ = some (.int .i64 h.size) ∧ w.cell? ⟨b, 13, none⟩ = some (.int .i64 h.idx) ∧ w.cell? ⟨b, 14, none⟩ = some (.int .i64 h.ep) ∧ w.cell? ⟨b, 15, none⟩ = some (.int .i64 h.ct)
theorem HdAt.keep {w w' : World} {b : Nat} {h : Hd} (H : HdAt w b h) (e : ∀ i, w'.cell? ⟨b, i, none⟩ = w.cell? ⟨b, i, none⟩) : HdAt w' b h := by
  obtain ⟨c0, c1, c2, c3, c4, c5, c6, c7, c8, c9, c10, c11, c12, c13, c14, c15⟩ := H
  exact ⟨(e _).trans c0, (e _).trans c1, (e _).trans c2, (e _).trans c3, (e _).trans c4, (e _).trans c5, (e _).trans c6, (e _).trans c7, (e _).trans c8, (e _).trans c9, (e _).trans c10, (e _).trans c11, (e _).trans c12, (e _).trans c13, (e _).trans c14, (e _).trans c15⟩
theorem HdAt.below {w w' : World} {b B : Nat} {h : Hd} (H : HdAt w b h) (hb : Below B w w') (hlt : b < B) : HdAt w' b h := H.keep fun i => hb.cell (p := ⟨b, i, none⟩) hlt
theorem HdAt.new (w : World) (h : Hd) : HdAt (w.alloc (.cells #[.int .u8 h.s0, .int .u8 h.s1, .int .u8 h.s2, .int .u8 h.s3, .int .u8 h.s4, .int .u8 h.s5, .int .u8 h.s6, .int .u8 h.s7, .int .i64 h.K, .int .i64 h.M, .int .i64 h.B, .string h.key, .int .i64 h.size, .int .i64 h.idx, .int .i64 h.ep, .int .i64 h.ct] 28)) w.heap.size h := by
  refine ⟨?_, ?_, ?_, ?_, ?_, ?_, ?_, ?_, ?_, ?_, ?_, ?_, ?_, ?_, ?_, ?_⟩ <;> go_simp

/-- What Check answers. -/
def checkE (h : Hd) : Int :=
  if ¬ MayS h.K h.M h.B then 4 else if h.key.size = 0 ∨ 255 < h.key.size then 90 else if sizeE h.K h.M h.B h.size ≠ 0 then sizeE h.K h.M h.B h.size else
    if h.idx < 0 ∨ h.K + h.M ≤ h.idx then 2 else if h.ep < 1 ∨ 4294967295 < h.ep ∨ h.ct < 1 ∨ 4294967295 < h.ct then 2 else 0
theorem ffits_all (K M B s : Int) (w : World) (h : MayS K M B) :
    Calls Try.prog 45 #[.agg #[.int .i64 K, .int .i64 M, .int .i64 B], .int .i64 s] w fun e w' => e = .returned (.int .i64 (sizeE K M B s)) ∧ Below w.heap.size w w' := by
  have hm := h
  obtain ⟨a1, a2, a3, a4, a5, a6⟩ := hm
  obtain ⟨K', rfl⟩ := Int.eq_ofNat_of_zero_le (show 0 ≤ K by omega)
  obtain ⟨M', rfl⟩ := Int.eq_ofNat_of_zero_le (show 0 ≤ M by omega)
  obtain ⟨B', rfl⟩ := Int.eq_ofNat_of_zero_le (show 0 ≤ B by omega)
  refine (ffits_any K' M' B' s w h).mono fun e w' ⟨he, hb⟩ => ⟨?_, hb⟩
  unfold sizeE
  rw [if_pos h]
  simpa using he

set_option maxHeartbeats 800000 in
theorem rcheck_0 (h : Hd) (w : World) (h0 : ¬ MayS h.K h.M h.B) :
    Calls Try.prog 14 #[.agg #[.int .u8 h.s0, .int .u8 h.s1, .int .u8 h.s2, .int .u8 h.s3, .int .u8 h.s4, .int .u8 h.s5, .int .u8 h.s6, .int .u8 h.s7, .int .i64 h.K, .int .i64 h.M, .int .i64 h.B, .string h.key, .int .i64 h.size, .int .i64 h.idx, .int .i64 h.ep, .int .i64 h.ct]] w fun e w' => e = .returned (.int .i64 4) ∧ Below w.heap.size w w' := by
  have H0 := Lib.hid h0; clear h0
  go_enter Try.func14, Try.ntmps14
  go_wp2_with fail
  refine (fits_no _ _ _ _ H0.out).mono ?_
  rintro e w1 ⟨rfl, hb1⟩
  have hH1 := (HdAt.new w h).below hb1 (by simp)
  have hz1 : w.heap.size + 1 ≤ w1.heap.size := by have := hb1.size; simpa using this
  have hbel1 : Below w.heap.size w w1 := ((Below.refl _ _).alloc (Nat.le_refl _) _).trans (hb1.mono (by simp))
  obtain ⟨c0, c1, c2, c3, c4, c5, c6, c7, c8, c9, c10, c11, c12, c13, c14, c15⟩ := hH1
  clear hb1
  go_wp2
  go_ret
  exact ⟨rfl, hbel1⟩
set_option maxHeartbeats 800000 in
theorem rcheck_1 (h : Hd) (w : World) (h0 : MayS h.K h.M h.B) (h1 : h.key.size = 0) :
    Calls Try.prog 14 #[.agg #[.int .u8 h.s0, .int .u8 h.s1, .int .u8 h.s2, .int .u8 h.s3, .int .u8 h.s4, .int .u8 h.s5, .int .u8 h.s6, .int .u8 h.s7, .int .i64 h.K, .int .i64 h.M, .int .i64 h.B, .string h.key, .int .i64 h.size, .int .i64 h.idx, .int .i64 h.ep, .int .i64 h.ct]] w fun e w' => e = .returned (.int .i64 90) ∧ Below w.heap.size w w' := by
  have H0 := Lib.hid h0; clear h0
  have H1 := Lib.hid h1; have e1 : ((h.key.size : Int) == 0) = true := by simp [h1]
  have l1 : (h.key.size : Int) < 1 := by omega
  clear h1
  go_enter Try.func14, Try.ntmps14
  go_wp2_with fail
  refine (fits_yes _ _ _ _ H0.out).mono ?_
  rintro e w1 ⟨rfl, hb1⟩
  have hH1 := (HdAt.new w h).below hb1 (by simp)
  have hz1 : w.heap.size + 1 ≤ w1.heap.size := by have := hb1.size; simpa using this
  have hbel1 : Below w.heap.size w w1 := ((Below.refl _ _).alloc (Nat.le_refl _) _).trans (hb1.mono (by simp))
  obtain ⟨c0, c1, c2, c3, c4, c5, c6, c7, c8, c9, c10, c11, c12, c13, c14, c15⟩ := hH1
  clear hb1
  go_wp2
  go_ret
  exact ⟨rfl, hbel1⟩
set_option maxHeartbeats 800000 in
theorem rcheck_2 (h : Hd) (w : World) (h0 : MayS h.K h.M h.B) (_h1 : 0 < h.key.size) (h2 : 255 < h.key.size) :
    Calls Try.prog 14 #[.agg #[.int .u8 h.s0, .int .u8 h.s1, .int .u8 h.s2, .int .u8 h.s3, .int .u8 h.s4, .int .u8 h.s5, .int .u8 h.s6, .int .u8 h.s7, .int .i64 h.K, .int .i64 h.M, .int .i64 h.B, .string h.key, .int .i64 h.size, .int .i64 h.idx, .int .i64 h.ep, .int .i64 h.ct]] w fun e w' => e = .returned (.int .i64 90) ∧ Below w.heap.size w w' := by
  have H0 := Lib.hid h0; clear h0
  have e1 : ((h.key.size : Int) == 0) = false := by rw [beq_eq_false_iff_ne]; omega
  go_enter Try.func14, Try.ntmps14
  go_wp2_with fail
  refine (fits_yes _ _ _ _ H0.out).mono ?_
  rintro e w1 ⟨rfl, hb1⟩
  have hH1 := (HdAt.new w h).below hb1 (by simp)
  have hz1 : w.heap.size + 1 ≤ w1.heap.size := by have := hb1.size; simpa using this
  have hbel1 : Below w.heap.size w w1 := ((Below.refl _ _).alloc (Nat.le_refl _) _).trans (hb1.mono (by simp))
  obtain ⟨c0, c1, c2, c3, c4, c5, c6, c7, c8, c9, c10, c11, c12, c13, c14, c15⟩ := hH1
  clear hb1
  go_wp2
  go_ret
  exact ⟨rfl, hbel1⟩
set_option maxHeartbeats 800000 in
theorem rcheck_3 (h : Hd) (w : World) (h0 : MayS h.K h.M h.B) (h1 : 0 < h.key.size) (h2 : h.key.size ≤ 255) (h3 : sizeE h.K h.M h.B h.size ≠ 0) :
    Calls Try.prog 14 #[.agg #[.int .u8 h.s0, .int .u8 h.s1, .int .u8 h.s2, .int .u8 h.s3, .int .u8 h.s4, .int .u8 h.s5, .int .u8 h.s6, .int .u8 h.s7, .int .i64 h.K, .int .i64 h.M, .int .i64 h.B, .string h.key, .int .i64 h.size, .int .i64 h.idx, .int .i64 h.ep, .int .i64 h.ct]] w fun e w' => e = .returned (.int .i64 (sizeE h.K h.M h.B h.size)) ∧ Below w.heap.size w w' := by
  have H0 := Lib.hid h0; clear h0
  have e1 : ((h.key.size : Int) == 0) = false := by rw [beq_eq_false_iff_ne]; omega
  have H3 := Lib.hid h3; clear h3
  have hm := H0.out
  obtain ⟨a1, a2, a3, a4, a5, a6⟩ := hm
  go_enter Try.func14, Try.ntmps14
  go_wp2_with fail
  refine (fits_yes _ _ _ _ H0.out).mono ?_
  rintro e w1 ⟨rfl, hb1⟩
  have hH1 := (HdAt.new w h).below hb1 (by simp)
  have hz1 : w.heap.size + 1 ≤ w1.heap.size := by have := hb1.size; simpa using this
  have hbel1 : Below w.heap.size w w1 := ((Below.refl _ _).alloc (Nat.le_refl _) _).trans (hb1.mono (by simp))
  obtain ⟨c0, c1, c2, c3, c4, c5, c6, c7, c8, c9, c10, c11, c12, c13, c14, c15⟩ := hH1
  clear hb1
  go_wp2_with fail
  refine (rsizes_all h.K h.M h.B h.size _).mono ?_
  rintro e w2 ⟨v, rfl, hown, hb2⟩
  obtain ⟨A, cap, rfl, _, _, _, _⟩ := hown.rd
  have hH2 := HdAt.below (show HdAt w1 w.heap.size h from ⟨c0, c1, c2, c3, c4, c5, c6, c7, c8, c9, c10, c11, c12, c13, c14, c15⟩) hb2 (by omega)
  have hbel2 := hbel1.trans (hb2.mono (by omega))
  clear c0 c1 c2 c3 c4 c5 c6 c7 c8 c9 c10 c11 c12 c13 c14 c15 hb2 hbel1
  obtain ⟨c0, c1, c2, c3, c4, c5, c6, c7, c8, c9, c10, c11, c12, c13, c14, c15⟩ := hH2
  have hne : (sizeE h.K h.M h.B h.size == 0) = false := by simpa using H3.out
  have hne' : (sizeE h.K h.M h.B h.size != 0) = true := by simpa using H3.out
  go_wp2
  go_ret
  exact ⟨rfl, hbel2⟩
set_option maxHeartbeats 800000 in
theorem rcheck_4 (h : Hd) (w : World) (h0 : MayS h.K h.M h.B) (h1 : 0 < h.key.size) (h2 : h.key.size ≤ 255) (h3 : sizeE h.K h.M h.B h.size = 0) (h4 : h.idx < 0) :
    Calls Try.prog 14 #[.agg #[.int .u8 h.s0, .int .u8 h.s1, .int .u8 h.s2, .int .u8 h.s3, .int .u8 h.s4, .int .u8 h.s5, .int .u8 h.s6, .int .u8 h.s7, .int .i64 h.K, .int .i64 h.M, .int .i64 h.B, .string h.key, .int .i64 h.size, .int .i64 h.idx, .int .i64 h.ep, .int .i64 h.ct]] w fun e w' => e = .returned (.int .i64 2) ∧ Below w.heap.size w w' := by
  have H0 := Lib.hid h0; clear h0
  have e1 : ((h.key.size : Int) == 0) = false := by rw [beq_eq_false_iff_ne]; omega
  have H3 := Lib.hid h3; clear h3
  have hm := H0.out
  obtain ⟨a1, a2, a3, a4, a5, a6⟩ := hm
  go_enter Try.func14, Try.ntmps14
  go_wp2_with fail
  refine (fits_yes _ _ _ _ H0.out).mono ?_
  rintro e w1 ⟨rfl, hb1⟩
  have hH1 := (HdAt.new w h).below hb1 (by simp)
  have hz1 : w.heap.size + 1 ≤ w1.heap.size := by have := hb1.size; simpa using this
  have hbel1 : Below w.heap.size w w1 := ((Below.refl _ _).alloc (Nat.le_refl _) _).trans (hb1.mono (by simp))
  obtain ⟨c0, c1, c2, c3, c4, c5, c6, c7, c8, c9, c10, c11, c12, c13, c14, c15⟩ := hH1
  clear hb1
  go_wp2_with fail
  refine (rsizes_all h.K h.M h.B h.size _).mono ?_
  rintro e w2 ⟨v, rfl, hown, hb2⟩
  obtain ⟨A, cap, rfl, _, _, _, _⟩ := hown.rd
  have hH2 := HdAt.below (show HdAt w1 w.heap.size h from ⟨c0, c1, c2, c3, c4, c5, c6, c7, c8, c9, c10, c11, c12, c13, c14, c15⟩) hb2 (by omega)
  have hbel2 := hbel1.trans (hb2.mono (by omega))
  clear c0 c1 c2 c3 c4 c5 c6 c7 c8 c9 c10 c11 c12 c13 c14 c15 hb2 hbel1
  obtain ⟨c0, c1, c2, c3, c4, c5, c6, c7, c8, c9, c10, c11, c12, c13, c14, c15⟩ := hH2
  rw [H3.out]
  go_wp2
  go_ret
  exact ⟨rfl, hbel2⟩
set_option maxHeartbeats 800000 in
theorem rcheck_5 (h : Hd) (w : World) (h0 : MayS h.K h.M h.B) (h1 : 0 < h.key.size) (h2 : h.key.size ≤ 255) (h3 : sizeE h.K h.M h.B h.size = 0) (h4 : 0 ≤ h.idx) (h5 : h.K + h.M ≤ h.idx) :
    Calls Try.prog 14 #[.agg #[.int .u8 h.s0, .int .u8 h.s1, .int .u8 h.s2, .int .u8 h.s3, .int .u8 h.s4, .int .u8 h.s5, .int .u8 h.s6, .int .u8 h.s7, .int .i64 h.K, .int .i64 h.M, .int .i64 h.B, .string h.key, .int .i64 h.size, .int .i64 h.idx, .int .i64 h.ep, .int .i64 h.ct]] w fun e w' => e = .returned (.int .i64 2) ∧ Below w.heap.size w w' := by
  have H0 := Lib.hid h0; clear h0
  have e1 : ((h.key.size : Int) == 0) = false := by rw [beq_eq_false_iff_ne]; omega
  have H3 := Lib.hid h3; clear h3
  have hm := H0.out
  obtain ⟨a1, a2, a3, a4, a5, a6⟩ := hm
  go_enter Try.func14, Try.ntmps14
  go_wp2_with fail
  refine (fits_yes _ _ _ _ H0.out).mono ?_
  rintro e w1 ⟨rfl, hb1⟩
  have hH1 := (HdAt.new w h).below hb1 (by simp)
  have hz1 : w.heap.size + 1 ≤ w1.heap.size := by have := hb1.size; simpa using this
  have hbel1 : Below w.heap.size w w1 := ((Below.refl _ _).alloc (Nat.le_refl _) _).trans (hb1.mono (by simp))
  obtain ⟨c0, c1, c2, c3, c4, c5, c6, c7, c8, c9, c10, c11, c12, c13, c14, c15⟩ := hH1
  clear hb1
  go_wp2_with fail
  refine (rsizes_all h.K h.M h.B h.size _).mono ?_
  rintro e w2 ⟨v, rfl, hown, hb2⟩
  obtain ⟨A, cap, rfl, _, _, _, _⟩ := hown.rd
  have hH2 := HdAt.below (show HdAt w1 w.heap.size h from ⟨c0, c1, c2, c3, c4, c5, c6, c7, c8, c9, c10, c11, c12, c13, c14, c15⟩) hb2 (by omega)
  have hbel2 := hbel1.trans (hb2.mono (by omega))
  clear c0 c1 c2 c3 c4 c5 c6 c7 c8 c9 c10 c11 c12 c13 c14 c15 hb2 hbel1
  obtain ⟨c0, c1, c2, c3, c4, c5, c6, c7, c8, c9, c10, c11, c12, c13, c14, c15⟩ := hH2
  rw [H3.out]
  go_wp2
  go_ret
  exact ⟨rfl, hbel2⟩
set_option maxHeartbeats 800000 in
theorem rcheck_6 (h : Hd) (w : World) (h0 : MayS h.K h.M h.B) (h1 : 0 < h.key.size) (h2 : h.key.size ≤ 255) (h3 : sizeE h.K h.M h.B h.size = 0) (h4 : 0 ≤ h.idx) (h5 : h.idx < h.K + h.M) (h6 : h.ep < 1) :
    Calls Try.prog 14 #[.agg #[.int .u8 h.s0, .int .u8 h.s1, .int .u8 h.s2, .int .u8 h.s3, .int .u8 h.s4, .int .u8 h.s5, .int .u8 h.s6, .int .u8 h.s7, .int .i64 h.K, .int .i64 h.M, .int .i64 h.B, .string h.key, .int .i64 h.size, .int .i64 h.idx, .int .i64 h.ep, .int .i64 h.ct]] w fun e w' => e = .returned (.int .i64 2) ∧ Below w.heap.size w w' := by
  have H0 := Lib.hid h0; clear h0
  have e1 : ((h.key.size : Int) == 0) = false := by rw [beq_eq_false_iff_ne]; omega
  have H3 := Lib.hid h3; clear h3
  have hm := H0.out
  obtain ⟨a1, a2, a3, a4, a5, a6⟩ := hm
  go_enter Try.func14, Try.ntmps14
  go_wp2_with fail
  refine (fits_yes _ _ _ _ H0.out).mono ?_
  rintro e w1 ⟨rfl, hb1⟩
  have hH1 := (HdAt.new w h).below hb1 (by simp)
  have hz1 : w.heap.size + 1 ≤ w1.heap.size := by have := hb1.size; simpa using this
  have hbel1 : Below w.heap.size w w1 := ((Below.refl _ _).alloc (Nat.le_refl _) _).trans (hb1.mono (by simp))
  obtain ⟨c0, c1, c2, c3, c4, c5, c6, c7, c8, c9, c10, c11, c12, c13, c14, c15⟩ := hH1
  clear hb1
  go_wp2_with fail
  refine (rsizes_all h.K h.M h.B h.size _).mono ?_
  rintro e w2 ⟨v, rfl, hown, hb2⟩
  obtain ⟨A, cap, rfl, _, _, _, _⟩ := hown.rd
  have hH2 := HdAt.below (show HdAt w1 w.heap.size h from ⟨c0, c1, c2, c3, c4, c5, c6, c7, c8, c9, c10, c11, c12, c13, c14, c15⟩) hb2 (by omega)
  have hbel2 := hbel1.trans (hb2.mono (by omega))
  clear c0 c1 c2 c3 c4 c5 c6 c7 c8 c9 c10 c11 c12 c13 c14 c15 hb2 hbel1
  obtain ⟨c0, c1, c2, c3, c4, c5, c6, c7, c8, c9, c10, c11, c12, c13, c14, c15⟩ := hH2
  rw [H3.out]
  go_wp2
  go_ret
  exact ⟨rfl, hbel2⟩
set_option maxHeartbeats 800000 in
theorem rcheck_7 (h : Hd) (w : World) (h0 : MayS h.K h.M h.B) (h1 : 0 < h.key.size) (h2 : h.key.size ≤ 255) (h3 : sizeE h.K h.M h.B h.size = 0) (h4 : 0 ≤ h.idx) (h5 : h.idx < h.K + h.M) (h6 : 1 ≤ h.ep) (h7 : 4294967295 < h.ep) :
    Calls Try.prog 14 #[.agg #[.int .u8 h.s0, .int .u8 h.s1, .int .u8 h.s2, .int .u8 h.s3, .int .u8 h.s4, .int .u8 h.s5, .int .u8 h.s6, .int .u8 h.s7, .int .i64 h.K, .int .i64 h.M, .int .i64 h.B, .string h.key, .int .i64 h.size, .int .i64 h.idx, .int .i64 h.ep, .int .i64 h.ct]] w fun e w' => e = .returned (.int .i64 2) ∧ Below w.heap.size w w' := by
  have H0 := Lib.hid h0; clear h0
  have e1 : ((h.key.size : Int) == 0) = false := by rw [beq_eq_false_iff_ne]; omega
  have H3 := Lib.hid h3; clear h3
  have hm := H0.out
  obtain ⟨a1, a2, a3, a4, a5, a6⟩ := hm
  go_enter Try.func14, Try.ntmps14
  go_wp2_with fail
  refine (fits_yes _ _ _ _ H0.out).mono ?_
  rintro e w1 ⟨rfl, hb1⟩
  have hH1 := (HdAt.new w h).below hb1 (by simp)
  have hz1 : w.heap.size + 1 ≤ w1.heap.size := by have := hb1.size; simpa using this
  have hbel1 : Below w.heap.size w w1 := ((Below.refl _ _).alloc (Nat.le_refl _) _).trans (hb1.mono (by simp))
  obtain ⟨c0, c1, c2, c3, c4, c5, c6, c7, c8, c9, c10, c11, c12, c13, c14, c15⟩ := hH1
  clear hb1
  go_wp2_with fail
  refine (rsizes_all h.K h.M h.B h.size _).mono ?_
  rintro e w2 ⟨v, rfl, hown, hb2⟩
  obtain ⟨A, cap, rfl, _, _, _, _⟩ := hown.rd
  have hH2 := HdAt.below (show HdAt w1 w.heap.size h from ⟨c0, c1, c2, c3, c4, c5, c6, c7, c8, c9, c10, c11, c12, c13, c14, c15⟩) hb2 (by omega)
  have hbel2 := hbel1.trans (hb2.mono (by omega))
  clear c0 c1 c2 c3 c4 c5 c6 c7 c8 c9 c10 c11 c12 c13 c14 c15 hb2 hbel1
  obtain ⟨c0, c1, c2, c3, c4, c5, c6, c7, c8, c9, c10, c11, c12, c13, c14, c15⟩ := hH2
  rw [H3.out]
  go_wp2
  go_ret
  exact ⟨rfl, hbel2⟩
set_option maxHeartbeats 800000 in
theorem rcheck_8 (h : Hd) (w : World) (h0 : MayS h.K h.M h.B) (h1 : 0 < h.key.size) (h2 : h.key.size ≤ 255) (h3 : sizeE h.K h.M h.B h.size = 0) (h4 : 0 ≤ h.idx) (h5 : h.idx < h.K + h.M) (h6 : 1 ≤ h.ep) (h7 : h.ep ≤ 4294967295) (h8 : h.ct < 1) :
    Calls Try.prog 14 #[.agg #[.int .u8 h.s0, .int .u8 h.s1, .int .u8 h.s2, .int .u8 h.s3, .int .u8 h.s4, .int .u8 h.s5, .int .u8 h.s6, .int .u8 h.s7, .int .i64 h.K, .int .i64 h.M, .int .i64 h.B, .string h.key, .int .i64 h.size, .int .i64 h.idx, .int .i64 h.ep, .int .i64 h.ct]] w fun e w' => e = .returned (.int .i64 2) ∧ Below w.heap.size w w' := by
  have H0 := Lib.hid h0; clear h0
  have e1 : ((h.key.size : Int) == 0) = false := by rw [beq_eq_false_iff_ne]; omega
  have H3 := Lib.hid h3; clear h3
  have hm := H0.out
  obtain ⟨a1, a2, a3, a4, a5, a6⟩ := hm
  go_enter Try.func14, Try.ntmps14
  go_wp2_with fail
  refine (fits_yes _ _ _ _ H0.out).mono ?_
  rintro e w1 ⟨rfl, hb1⟩
  have hH1 := (HdAt.new w h).below hb1 (by simp)
  have hz1 : w.heap.size + 1 ≤ w1.heap.size := by have := hb1.size; simpa using this
  have hbel1 : Below w.heap.size w w1 := ((Below.refl _ _).alloc (Nat.le_refl _) _).trans (hb1.mono (by simp))
  obtain ⟨c0, c1, c2, c3, c4, c5, c6, c7, c8, c9, c10, c11, c12, c13, c14, c15⟩ := hH1
  clear hb1
  go_wp2_with fail
  refine (rsizes_all h.K h.M h.B h.size _).mono ?_
  rintro e w2 ⟨v, rfl, hown, hb2⟩
  obtain ⟨A, cap, rfl, _, _, _, _⟩ := hown.rd
  have hH2 := HdAt.below (show HdAt w1 w.heap.size h from ⟨c0, c1, c2, c3, c4, c5, c6, c7, c8, c9, c10, c11, c12, c13, c14, c15⟩) hb2 (by omega)
  have hbel2 := hbel1.trans (hb2.mono (by omega))
  clear c0 c1 c2 c3 c4 c5 c6 c7 c8 c9 c10 c11 c12 c13 c14 c15 hb2 hbel1
  obtain ⟨c0, c1, c2, c3, c4, c5, c6, c7, c8, c9, c10, c11, c12, c13, c14, c15⟩ := hH2
  rw [H3.out]
  go_wp2
  go_ret
  exact ⟨rfl, hbel2⟩
set_option maxHeartbeats 800000 in
theorem rcheck_9 (h : Hd) (w : World) (h0 : MayS h.K h.M h.B) (h1 : 0 < h.key.size) (h2 : h.key.size ≤ 255) (h3 : sizeE h.K h.M h.B h.size = 0) (h4 : 0 ≤ h.idx) (h5 : h.idx < h.K + h.M) (h6 : 1 ≤ h.ep) (h7 : h.ep ≤ 4294967295) (h8 : 1 ≤ h.ct) (h9 : 4294967295 < h.ct) :
    Calls Try.prog 14 #[.agg #[.int .u8 h.s0, .int .u8 h.s1, .int .u8 h.s2, .int .u8 h.s3, .int .u8 h.s4, .int .u8 h.s5, .int .u8 h.s6, .int .u8 h.s7, .int .i64 h.K, .int .i64 h.M, .int .i64 h.B, .string h.key, .int .i64 h.size, .int .i64 h.idx, .int .i64 h.ep, .int .i64 h.ct]] w fun e w' => e = .returned (.int .i64 2) ∧ Below w.heap.size w w' := by
  have H0 := Lib.hid h0; clear h0
  have e1 : ((h.key.size : Int) == 0) = false := by rw [beq_eq_false_iff_ne]; omega
  have H3 := Lib.hid h3; clear h3
  have hm := H0.out
  obtain ⟨a1, a2, a3, a4, a5, a6⟩ := hm
  go_enter Try.func14, Try.ntmps14
  go_wp2_with fail
  refine (fits_yes _ _ _ _ H0.out).mono ?_
  rintro e w1 ⟨rfl, hb1⟩
  have hH1 := (HdAt.new w h).below hb1 (by simp)
  have hz1 : w.heap.size + 1 ≤ w1.heap.size := by have := hb1.size; simpa using this
  have hbel1 : Below w.heap.size w w1 := ((Below.refl _ _).alloc (Nat.le_refl _) _).trans (hb1.mono (by simp))
  obtain ⟨c0, c1, c2, c3, c4, c5, c6, c7, c8, c9, c10, c11, c12, c13, c14, c15⟩ := hH1
  clear hb1
  go_wp2_with fail
  refine (rsizes_all h.K h.M h.B h.size _).mono ?_
  rintro e w2 ⟨v, rfl, hown, hb2⟩
  obtain ⟨A, cap, rfl, _, _, _, _⟩ := hown.rd
  have hH2 := HdAt.below (show HdAt w1 w.heap.size h from ⟨c0, c1, c2, c3, c4, c5, c6, c7, c8, c9, c10, c11, c12, c13, c14, c15⟩) hb2 (by omega)
  have hbel2 := hbel1.trans (hb2.mono (by omega))
  clear c0 c1 c2 c3 c4 c5 c6 c7 c8 c9 c10 c11 c12 c13 c14 c15 hb2 hbel1
  obtain ⟨c0, c1, c2, c3, c4, c5, c6, c7, c8, c9, c10, c11, c12, c13, c14, c15⟩ := hH2
  rw [H3.out]
  go_wp2
  go_ret
  exact ⟨rfl, hbel2⟩
set_option maxHeartbeats 800000 in
theorem rcheck_10 (h : Hd) (w : World) (h0 : MayS h.K h.M h.B) (h1 : 0 < h.key.size) (h2 : h.key.size ≤ 255) (h3 : sizeE h.K h.M h.B h.size = 0) (h4 : 0 ≤ h.idx) (h5 : h.idx < h.K + h.M) (h6 : 1 ≤ h.ep) (h7 : h.ep ≤ 4294967295) (h8 : 1 ≤ h.ct) (h9 : h.ct ≤ 4294967295) :
    Calls Try.prog 14 #[.agg #[.int .u8 h.s0, .int .u8 h.s1, .int .u8 h.s2, .int .u8 h.s3, .int .u8 h.s4, .int .u8 h.s5, .int .u8 h.s6, .int .u8 h.s7, .int .i64 h.K, .int .i64 h.M, .int .i64 h.B, .string h.key, .int .i64 h.size, .int .i64 h.idx, .int .i64 h.ep, .int .i64 h.ct]] w fun e w' => e = .returned (.int .i64 0) ∧ Below w.heap.size w w' := by
  have H0 := Lib.hid h0; clear h0
  have e1 : ((h.key.size : Int) == 0) = false := by rw [beq_eq_false_iff_ne]; omega
  have H3 := Lib.hid h3; clear h3
  have hm := H0.out
  obtain ⟨a1, a2, a3, a4, a5, a6⟩ := hm
  go_enter Try.func14, Try.ntmps14
  go_wp2_with fail
  refine (fits_yes _ _ _ _ H0.out).mono ?_
  rintro e w1 ⟨rfl, hb1⟩
  have hH1 := (HdAt.new w h).below hb1 (by simp)
  have hz1 : w.heap.size + 1 ≤ w1.heap.size := by have := hb1.size; simpa using this
  have hbel1 : Below w.heap.size w w1 := ((Below.refl _ _).alloc (Nat.le_refl _) _).trans (hb1.mono (by simp))
  obtain ⟨c0, c1, c2, c3, c4, c5, c6, c7, c8, c9, c10, c11, c12, c13, c14, c15⟩ := hH1
  clear hb1
  go_wp2_with fail
  refine (rsizes_all h.K h.M h.B h.size _).mono ?_
  rintro e w2 ⟨v, rfl, hown, hb2⟩
  obtain ⟨A, cap, rfl, _, _, _, _⟩ := hown.rd
  have hH2 := HdAt.below (show HdAt w1 w.heap.size h from ⟨c0, c1, c2, c3, c4, c5, c6, c7, c8, c9, c10, c11, c12, c13, c14, c15⟩) hb2 (by omega)
  have hbel2 := hbel1.trans (hb2.mono (by omega))
  clear c0 c1 c2 c3 c4 c5 c6 c7 c8 c9 c10 c11 c12 c13 c14 c15 hb2 hbel1
  obtain ⟨c0, c1, c2, c3, c4, c5, c6, c7, c8, c9, c10, c11, c12, c13, c14, c15⟩ := hH2
  rw [H3.out]
  go_wp2
  go_ret
  exact ⟨rfl, hbel2⟩

theorem rcheck_any (h : Hd) (w : World) :
    Calls Try.prog 14 #[.agg #[.int .u8 h.s0, .int .u8 h.s1, .int .u8 h.s2, .int .u8 h.s3, .int .u8 h.s4, .int .u8 h.s5, .int .u8 h.s6, .int .u8 h.s7, .int .i64 h.K, .int .i64 h.M, .int .i64 h.B, .string h.key, .int .i64 h.size, .int .i64 h.idx, .int .i64 h.ep, .int .i64 h.ct]] w fun e w' => e = .returned (.int .i64 (checkE h)) ∧ Below w.heap.size w w' := by
  unfold checkE
  by_cases h0 : MayS h.K h.M h.B
  · rw [if_neg (by simpa using h0)]
    by_cases h1 : 0 < h.key.size
    · by_cases h2 : h.key.size ≤ 255
      · rw [if_neg (by omega)]
        by_cases h3 : sizeE h.K h.M h.B h.size = 0
        · rw [if_neg (by simpa using h3)]
          by_cases h4 : 0 ≤ h.idx
          · by_cases h5 : h.idx < h.K + h.M
            · rw [if_neg (by omega)]
              by_cases h6 : 1 ≤ h.ep
              · by_cases h7 : h.ep ≤ 4294967295
                · by_cases h8 : 1 ≤ h.ct
                  · by_cases h9 : h.ct ≤ 4294967295
                    · rw [if_neg (by omega)]
                      exact rcheck_10 h w h0 h1 h2 h3 h4 h5 h6 h7 h8 h9
                    · rw [if_pos (by omega)]
                      exact rcheck_9 h w h0 h1 h2 h3 h4 h5 h6 h7 h8 (by omega)
                  · rw [if_pos (by omega)]
                    exact rcheck_8 h w h0 h1 h2 h3 h4 h5 h6 h7 (by omega)
                · rw [if_pos (by omega)]
                  exact rcheck_7 h w h0 h1 h2 h3 h4 h5 h6 (by omega)
              · rw [if_pos (by omega)]
                exact rcheck_6 h w h0 h1 h2 h3 h4 h5 (by omega)
            · rw [if_pos (by omega)]
              exact rcheck_5 h w h0 h1 h2 h3 h4 (by omega)
          · rw [if_pos (by omega)]
            exact rcheck_4 h w h0 h1 h2 h3 (by omega)
        · rw [if_pos h3]
          exact rcheck_3 h w h0 h1 h2 h3
      · rw [if_pos (by omega)]
        exact rcheck_2 h w h0 h1 (by omega)
    · rw [if_pos (by omega)]
      exact rcheck_1 h w h0 (by omega)
  · rw [if_pos h0]
    exact rcheck_0 h w h0
set_option maxHeartbeats 800000 in
theorem fcheck_0 (h : Hd) (w : World) (h0 : ¬ MayS h.K h.M h.B) :
    Calls Try.prog 20 #[.agg #[.int .u8 h.s0, .int .u8 h.s1, .int .u8 h.s2, .int .u8 h.s3, .int .u8 h.s4, .int .u8 h.s5, .int .u8 h.s6, .int .u8 h.s7, .int .i64 h.K, .int .i64 h.M, .int .i64 h.B, .string h.key, .int .i64 h.size, .int .i64 h.idx, .int .i64 h.ep, .int .i64 h.ct]] w fun e w' => e = .returned (.int .i64 4) ∧ Below w.heap.size w w' := by
  have H0 := Lib.hid h0; clear h0
  go_enter Try.func20, Try.ntmps20
  go_wp2_with fail
  refine (may_no _ _ _ _ H0.out).mono ?_
  rintro e w1 ⟨rfl, hb1⟩
  have hH1 := (HdAt.new w h).below hb1 (by simp)
  have hz1 : w.heap.size + 1 ≤ w1.heap.size := by have := hb1.size; simpa using this
  have hbel1 : Below w.heap.size w w1 := ((Below.refl _ _).alloc (Nat.le_refl _) _).trans (hb1.mono (by simp))
  obtain ⟨c0, c1, c2, c3, c4, c5, c6, c7, c8, c9, c10, c11, c12, c13, c14, c15⟩ := hH1
  clear hb1
  go_wp2
  go_ret
  exact ⟨rfl, hbel1⟩
set_option maxHeartbeats 800000 in
theorem fcheck_1 (h : Hd) (w : World) (h0 : MayS h.K h.M h.B) (h1 : h.key.size = 0) :
    Calls Try.prog 20 #[.agg #[.int .u8 h.s0, .int .u8 h.s1, .int .u8 h.s2, .int .u8 h.s3, .int .u8 h.s4, .int .u8 h.s5, .int .u8 h.s6, .int .u8 h.s7, .int .i64 h.K, .int .i64 h.M, .int .i64 h.B, .string h.key, .int .i64 h.size, .int .i64 h.idx, .int .i64 h.ep, .int .i64 h.ct]] w fun e w' => e = .returned (.int .i64 90) ∧ Below w.heap.size w w' := by
  have H0 := Lib.hid h0; clear h0
  have H1 := Lib.hid h1; have e1 : ((h.key.size : Int) == 0) = true := by simp [h1]
  have l1 : (h.key.size : Int) < 1 := by omega
  clear h1
  go_enter Try.func20, Try.ntmps20
  go_wp2_with fail
  refine (may_yes _ _ _ _ H0.out).mono ?_
  rintro e w1 ⟨rfl, hb1⟩
  have hH1 := (HdAt.new w h).below hb1 (by simp)
  have hz1 : w.heap.size + 1 ≤ w1.heap.size := by have := hb1.size; simpa using this
  have hbel1 : Below w.heap.size w w1 := ((Below.refl _ _).alloc (Nat.le_refl _) _).trans (hb1.mono (by simp))
  obtain ⟨c0, c1, c2, c3, c4, c5, c6, c7, c8, c9, c10, c11, c12, c13, c14, c15⟩ := hH1
  clear hb1
  go_wp2
  go_ret
  exact ⟨rfl, hbel1⟩
set_option maxHeartbeats 800000 in
theorem fcheck_2 (h : Hd) (w : World) (h0 : MayS h.K h.M h.B) (_h1 : 0 < h.key.size) (h2 : 255 < h.key.size) :
    Calls Try.prog 20 #[.agg #[.int .u8 h.s0, .int .u8 h.s1, .int .u8 h.s2, .int .u8 h.s3, .int .u8 h.s4, .int .u8 h.s5, .int .u8 h.s6, .int .u8 h.s7, .int .i64 h.K, .int .i64 h.M, .int .i64 h.B, .string h.key, .int .i64 h.size, .int .i64 h.idx, .int .i64 h.ep, .int .i64 h.ct]] w fun e w' => e = .returned (.int .i64 90) ∧ Below w.heap.size w w' := by
  have H0 := Lib.hid h0; clear h0
  have e1 : ((h.key.size : Int) == 0) = false := by rw [beq_eq_false_iff_ne]; omega
  go_enter Try.func20, Try.ntmps20
  go_wp2_with fail
  refine (may_yes _ _ _ _ H0.out).mono ?_
  rintro e w1 ⟨rfl, hb1⟩
  have hH1 := (HdAt.new w h).below hb1 (by simp)
  have hz1 : w.heap.size + 1 ≤ w1.heap.size := by have := hb1.size; simpa using this
  have hbel1 : Below w.heap.size w w1 := ((Below.refl _ _).alloc (Nat.le_refl _) _).trans (hb1.mono (by simp))
  obtain ⟨c0, c1, c2, c3, c4, c5, c6, c7, c8, c9, c10, c11, c12, c13, c14, c15⟩ := hH1
  clear hb1
  go_wp2
  go_ret
  exact ⟨rfl, hbel1⟩
set_option maxHeartbeats 800000 in
theorem fcheck_3 (h : Hd) (w : World) (h0 : MayS h.K h.M h.B) (h1 : 0 < h.key.size) (h2 : h.key.size ≤ 255) (h3 : sizeE h.K h.M h.B h.size ≠ 0) :
    Calls Try.prog 20 #[.agg #[.int .u8 h.s0, .int .u8 h.s1, .int .u8 h.s2, .int .u8 h.s3, .int .u8 h.s4, .int .u8 h.s5, .int .u8 h.s6, .int .u8 h.s7, .int .i64 h.K, .int .i64 h.M, .int .i64 h.B, .string h.key, .int .i64 h.size, .int .i64 h.idx, .int .i64 h.ep, .int .i64 h.ct]] w fun e w' => e = .returned (.int .i64 (sizeE h.K h.M h.B h.size)) ∧ Below w.heap.size w w' := by
  have H0 := Lib.hid h0; clear h0
  have e1 : ((h.key.size : Int) == 0) = false := by rw [beq_eq_false_iff_ne]; omega
  have H3 := Lib.hid h3; clear h3
  have hm := H0.out
  obtain ⟨a1, a2, a3, a4, a5, a6⟩ := hm
  go_enter Try.func20, Try.ntmps20
  go_wp2_with fail
  refine (may_yes _ _ _ _ H0.out).mono ?_
  rintro e w1 ⟨rfl, hb1⟩
  have hH1 := (HdAt.new w h).below hb1 (by simp)
  have hz1 : w.heap.size + 1 ≤ w1.heap.size := by have := hb1.size; simpa using this
  have hbel1 : Below w.heap.size w w1 := ((Below.refl _ _).alloc (Nat.le_refl _) _).trans (hb1.mono (by simp))
  obtain ⟨c0, c1, c2, c3, c4, c5, c6, c7, c8, c9, c10, c11, c12, c13, c14, c15⟩ := hH1
  clear hb1
  go_wp2_with fail
  refine (ffits_all h.K h.M h.B h.size _ H0.out).mono ?_
  rintro e w2 ⟨rfl, hb2⟩
  have hH2 := HdAt.below (show HdAt w1 w.heap.size h from ⟨c0, c1, c2, c3, c4, c5, c6, c7, c8, c9, c10, c11, c12, c13, c14, c15⟩) hb2 (by omega)
  have hbel2 := hbel1.trans (hb2.mono (by omega))
  clear c0 c1 c2 c3 c4 c5 c6 c7 c8 c9 c10 c11 c12 c13 c14 c15 hb2 hbel1
  obtain ⟨c0, c1, c2, c3, c4, c5, c6, c7, c8, c9, c10, c11, c12, c13, c14, c15⟩ := hH2
  have hne : (sizeE h.K h.M h.B h.size == 0) = false := by simpa using H3.out
  have hne' : (sizeE h.K h.M h.B h.size != 0) = true := by simpa using H3.out
  go_wp2
  go_ret
  exact ⟨rfl, hbel2⟩
set_option maxHeartbeats 800000 in
theorem fcheck_4 (h : Hd) (w : World) (h0 : MayS h.K h.M h.B) (h1 : 0 < h.key.size) (h2 : h.key.size ≤ 255) (h3 : sizeE h.K h.M h.B h.size = 0) (h4 : h.idx < 0) :
    Calls Try.prog 20 #[.agg #[.int .u8 h.s0, .int .u8 h.s1, .int .u8 h.s2, .int .u8 h.s3, .int .u8 h.s4, .int .u8 h.s5, .int .u8 h.s6, .int .u8 h.s7, .int .i64 h.K, .int .i64 h.M, .int .i64 h.B, .string h.key, .int .i64 h.size, .int .i64 h.idx, .int .i64 h.ep, .int .i64 h.ct]] w fun e w' => e = .returned (.int .i64 2) ∧ Below w.heap.size w w' := by
  have H0 := Lib.hid h0; clear h0
  have e1 : ((h.key.size : Int) == 0) = false := by rw [beq_eq_false_iff_ne]; omega
  have H3 := Lib.hid h3; clear h3
  have hm := H0.out
  obtain ⟨a1, a2, a3, a4, a5, a6⟩ := hm
  go_enter Try.func20, Try.ntmps20
  go_wp2_with fail
  refine (may_yes _ _ _ _ H0.out).mono ?_
  rintro e w1 ⟨rfl, hb1⟩
  have hH1 := (HdAt.new w h).below hb1 (by simp)
  have hz1 : w.heap.size + 1 ≤ w1.heap.size := by have := hb1.size; simpa using this
  have hbel1 : Below w.heap.size w w1 := ((Below.refl _ _).alloc (Nat.le_refl _) _).trans (hb1.mono (by simp))
  obtain ⟨c0, c1, c2, c3, c4, c5, c6, c7, c8, c9, c10, c11, c12, c13, c14, c15⟩ := hH1
  clear hb1
  go_wp2_with fail
  refine (ffits_all h.K h.M h.B h.size _ H0.out).mono ?_
  rintro e w2 ⟨rfl, hb2⟩
  have hH2 := HdAt.below (show HdAt w1 w.heap.size h from ⟨c0, c1, c2, c3, c4, c5, c6, c7, c8, c9, c10, c11, c12, c13, c14, c15⟩) hb2 (by omega)
  have hbel2 := hbel1.trans (hb2.mono (by omega))
  clear c0 c1 c2 c3 c4 c5 c6 c7 c8 c9 c10 c11 c12 c13 c14 c15 hb2 hbel1
  obtain ⟨c0, c1, c2, c3, c4, c5, c6, c7, c8, c9, c10, c11, c12, c13, c14, c15⟩ := hH2
  rw [H3.out]
  go_wp2
  go_ret
  exact ⟨rfl, hbel2⟩
set_option maxHeartbeats 800000 in
theorem fcheck_5 (h : Hd) (w : World) (h0 : MayS h.K h.M h.B) (h1 : 0 < h.key.size) (h2 : h.key.size ≤ 255) (h3 : sizeE h.K h.M h.B h.size = 0) (h4 : 0 ≤ h.idx) (h5 : h.K + h.M ≤ h.idx) :
    Calls Try.prog 20 #[.agg #[.int .u8 h.s0, .int .u8 h.s1, .int .u8 h.s2, .int .u8 h.s3, .int .u8 h.s4, .int .u8 h.s5, .int .u8 h.s6, .int .u8 h.s7, .int .i64 h.K, .int .i64 h.M, .int .i64 h.B, .string h.key, .int .i64 h.size, .int .i64 h.idx, .int .i64 h.ep, .int .i64 h.ct]] w fun e w' => e = .returned (.int .i64 2) ∧ Below w.heap.size w w' := by
  have H0 := Lib.hid h0; clear h0
  have e1 : ((h.key.size : Int) == 0) = false := by rw [beq_eq_false_iff_ne]; omega
  have H3 := Lib.hid h3; clear h3
  have hm := H0.out
  obtain ⟨a1, a2, a3, a4, a5, a6⟩ := hm
  go_enter Try.func20, Try.ntmps20
  go_wp2_with fail
  refine (may_yes _ _ _ _ H0.out).mono ?_
  rintro e w1 ⟨rfl, hb1⟩
  have hH1 := (HdAt.new w h).below hb1 (by simp)
  have hz1 : w.heap.size + 1 ≤ w1.heap.size := by have := hb1.size; simpa using this
  have hbel1 : Below w.heap.size w w1 := ((Below.refl _ _).alloc (Nat.le_refl _) _).trans (hb1.mono (by simp))
  obtain ⟨c0, c1, c2, c3, c4, c5, c6, c7, c8, c9, c10, c11, c12, c13, c14, c15⟩ := hH1
  clear hb1
  go_wp2_with fail
  refine (ffits_all h.K h.M h.B h.size _ H0.out).mono ?_
  rintro e w2 ⟨rfl, hb2⟩
  have hH2 := HdAt.below (show HdAt w1 w.heap.size h from ⟨c0, c1, c2, c3, c4, c5, c6, c7, c8, c9, c10, c11, c12, c13, c14, c15⟩) hb2 (by omega)
  have hbel2 := hbel1.trans (hb2.mono (by omega))
  clear c0 c1 c2 c3 c4 c5 c6 c7 c8 c9 c10 c11 c12 c13 c14 c15 hb2 hbel1
  obtain ⟨c0, c1, c2, c3, c4, c5, c6, c7, c8, c9, c10, c11, c12, c13, c14, c15⟩ := hH2
  rw [H3.out]
  go_wp2
  go_ret
  exact ⟨rfl, hbel2⟩
set_option maxHeartbeats 800000 in
theorem fcheck_6 (h : Hd) (w : World) (h0 : MayS h.K h.M h.B) (h1 : 0 < h.key.size) (h2 : h.key.size ≤ 255) (h3 : sizeE h.K h.M h.B h.size = 0) (h4 : 0 ≤ h.idx) (h5 : h.idx < h.K + h.M) (h6 : h.ep < 1) :
    Calls Try.prog 20 #[.agg #[.int .u8 h.s0, .int .u8 h.s1, .int .u8 h.s2, .int .u8 h.s3, .int .u8 h.s4, .int .u8 h.s5, .int .u8 h.s6, .int .u8 h.s7, .int .i64 h.K, .int .i64 h.M, .int .i64 h.B, .string h.key, .int .i64 h.size, .int .i64 h.idx, .int .i64 h.ep, .int .i64 h.ct]] w fun e w' => e = .returned (.int .i64 2) ∧ Below w.heap.size w w' := by
  have H0 := Lib.hid h0; clear h0
  have e1 : ((h.key.size : Int) == 0) = false := by rw [beq_eq_false_iff_ne]; omega
  have H3 := Lib.hid h3; clear h3
  have hm := H0.out
  obtain ⟨a1, a2, a3, a4, a5, a6⟩ := hm
  go_enter Try.func20, Try.ntmps20
  go_wp2_with fail
  refine (may_yes _ _ _ _ H0.out).mono ?_
  rintro e w1 ⟨rfl, hb1⟩
  have hH1 := (HdAt.new w h).below hb1 (by simp)
  have hz1 : w.heap.size + 1 ≤ w1.heap.size := by have := hb1.size; simpa using this
  have hbel1 : Below w.heap.size w w1 := ((Below.refl _ _).alloc (Nat.le_refl _) _).trans (hb1.mono (by simp))
  obtain ⟨c0, c1, c2, c3, c4, c5, c6, c7, c8, c9, c10, c11, c12, c13, c14, c15⟩ := hH1
  clear hb1
  go_wp2_with fail
  refine (ffits_all h.K h.M h.B h.size _ H0.out).mono ?_
  rintro e w2 ⟨rfl, hb2⟩
  have hH2 := HdAt.below (show HdAt w1 w.heap.size h from ⟨c0, c1, c2, c3, c4, c5, c6, c7, c8, c9, c10, c11, c12, c13, c14, c15⟩) hb2 (by omega)
  have hbel2 := hbel1.trans (hb2.mono (by omega))
  clear c0 c1 c2 c3 c4 c5 c6 c7 c8 c9 c10 c11 c12 c13 c14 c15 hb2 hbel1
  obtain ⟨c0, c1, c2, c3, c4, c5, c6, c7, c8, c9, c10, c11, c12, c13, c14, c15⟩ := hH2
  rw [H3.out]
  go_wp2
  go_ret
  exact ⟨rfl, hbel2⟩
set_option maxHeartbeats 800000 in
theorem fcheck_7 (h : Hd) (w : World) (h0 : MayS h.K h.M h.B) (h1 : 0 < h.key.size) (h2 : h.key.size ≤ 255) (h3 : sizeE h.K h.M h.B h.size = 0) (h4 : 0 ≤ h.idx) (h5 : h.idx < h.K + h.M) (h6 : 1 ≤ h.ep) (h7 : 4294967295 < h.ep) :
    Calls Try.prog 20 #[.agg #[.int .u8 h.s0, .int .u8 h.s1, .int .u8 h.s2, .int .u8 h.s3, .int .u8 h.s4, .int .u8 h.s5, .int .u8 h.s6, .int .u8 h.s7, .int .i64 h.K, .int .i64 h.M, .int .i64 h.B, .string h.key, .int .i64 h.size, .int .i64 h.idx, .int .i64 h.ep, .int .i64 h.ct]] w fun e w' => e = .returned (.int .i64 2) ∧ Below w.heap.size w w' := by
  have H0 := Lib.hid h0; clear h0
  have e1 : ((h.key.size : Int) == 0) = false := by rw [beq_eq_false_iff_ne]; omega
  have H3 := Lib.hid h3; clear h3
  have hm := H0.out
  obtain ⟨a1, a2, a3, a4, a5, a6⟩ := hm
  go_enter Try.func20, Try.ntmps20
  go_wp2_with fail
  refine (may_yes _ _ _ _ H0.out).mono ?_
  rintro e w1 ⟨rfl, hb1⟩
  have hH1 := (HdAt.new w h).below hb1 (by simp)
  have hz1 : w.heap.size + 1 ≤ w1.heap.size := by have := hb1.size; simpa using this
  have hbel1 : Below w.heap.size w w1 := ((Below.refl _ _).alloc (Nat.le_refl _) _).trans (hb1.mono (by simp))
  obtain ⟨c0, c1, c2, c3, c4, c5, c6, c7, c8, c9, c10, c11, c12, c13, c14, c15⟩ := hH1
  clear hb1
  go_wp2_with fail
  refine (ffits_all h.K h.M h.B h.size _ H0.out).mono ?_
  rintro e w2 ⟨rfl, hb2⟩
  have hH2 := HdAt.below (show HdAt w1 w.heap.size h from ⟨c0, c1, c2, c3, c4, c5, c6, c7, c8, c9, c10, c11, c12, c13, c14, c15⟩) hb2 (by omega)
  have hbel2 := hbel1.trans (hb2.mono (by omega))
  clear c0 c1 c2 c3 c4 c5 c6 c7 c8 c9 c10 c11 c12 c13 c14 c15 hb2 hbel1
  obtain ⟨c0, c1, c2, c3, c4, c5, c6, c7, c8, c9, c10, c11, c12, c13, c14, c15⟩ := hH2
  rw [H3.out]
  go_wp2
  go_ret
  exact ⟨rfl, hbel2⟩
set_option maxHeartbeats 800000 in
theorem fcheck_8 (h : Hd) (w : World) (h0 : MayS h.K h.M h.B) (h1 : 0 < h.key.size) (h2 : h.key.size ≤ 255) (h3 : sizeE h.K h.M h.B h.size = 0) (h4 : 0 ≤ h.idx) (h5 : h.idx < h.K + h.M) (h6 : 1 ≤ h.ep) (h7 : h.ep ≤ 4294967295) (h8 : h.ct < 1) :
    Calls Try.prog 20 #[.agg #[.int .u8 h.s0, .int .u8 h.s1, .int .u8 h.s2, .int .u8 h.s3, .int .u8 h.s4, .int .u8 h.s5, .int .u8 h.s6, .int .u8 h.s7, .int .i64 h.K, .int .i64 h.M, .int .i64 h.B, .string h.key, .int .i64 h.size, .int .i64 h.idx, .int .i64 h.ep, .int .i64 h.ct]] w fun e w' => e = .returned (.int .i64 2) ∧ Below w.heap.size w w' := by
  have H0 := Lib.hid h0; clear h0
  have e1 : ((h.key.size : Int) == 0) = false := by rw [beq_eq_false_iff_ne]; omega
  have H3 := Lib.hid h3; clear h3
  have hm := H0.out
  obtain ⟨a1, a2, a3, a4, a5, a6⟩ := hm
  go_enter Try.func20, Try.ntmps20
  go_wp2_with fail
  refine (may_yes _ _ _ _ H0.out).mono ?_
  rintro e w1 ⟨rfl, hb1⟩
  have hH1 := (HdAt.new w h).below hb1 (by simp)
  have hz1 : w.heap.size + 1 ≤ w1.heap.size := by have := hb1.size; simpa using this
  have hbel1 : Below w.heap.size w w1 := ((Below.refl _ _).alloc (Nat.le_refl _) _).trans (hb1.mono (by simp))
  obtain ⟨c0, c1, c2, c3, c4, c5, c6, c7, c8, c9, c10, c11, c12, c13, c14, c15⟩ := hH1
  clear hb1
  go_wp2_with fail
  refine (ffits_all h.K h.M h.B h.size _ H0.out).mono ?_
  rintro e w2 ⟨rfl, hb2⟩
  have hH2 := HdAt.below (show HdAt w1 w.heap.size h from ⟨c0, c1, c2, c3, c4, c5, c6, c7, c8, c9, c10, c11, c12, c13, c14, c15⟩) hb2 (by omega)
  have hbel2 := hbel1.trans (hb2.mono (by omega))
  clear c0 c1 c2 c3 c4 c5 c6 c7 c8 c9 c10 c11 c12 c13 c14 c15 hb2 hbel1
  obtain ⟨c0, c1, c2, c3, c4, c5, c6, c7, c8, c9, c10, c11, c12, c13, c14, c15⟩ := hH2
  rw [H3.out]
  go_wp2
  go_ret
  exact ⟨rfl, hbel2⟩
set_option maxHeartbeats 800000 in
theorem fcheck_9 (h : Hd) (w : World) (h0 : MayS h.K h.M h.B) (h1 : 0 < h.key.size) (h2 : h.key.size ≤ 255) (h3 : sizeE h.K h.M h.B h.size = 0) (h4 : 0 ≤ h.idx) (h5 : h.idx < h.K + h.M) (h6 : 1 ≤ h.ep) (h7 : h.ep ≤ 4294967295) (h8 : 1 ≤ h.ct) (h9 : 4294967295 < h.ct) :
    Calls Try.prog 20 #[.agg #[.int .u8 h.s0, .int .u8 h.s1, .int .u8 h.s2, .int .u8 h.s3, .int .u8 h.s4, .int .u8 h.s5, .int .u8 h.s6, .int .u8 h.s7, .int .i64 h.K, .int .i64 h.M, .int .i64 h.B, .string h.key, .int .i64 h.size, .int .i64 h.idx, .int .i64 h.ep, .int .i64 h.ct]] w fun e w' => e = .returned (.int .i64 2) ∧ Below w.heap.size w w' := by
  have H0 := Lib.hid h0; clear h0
  have e1 : ((h.key.size : Int) == 0) = false := by rw [beq_eq_false_iff_ne]; omega
  have H3 := Lib.hid h3; clear h3
  have hm := H0.out
  obtain ⟨a1, a2, a3, a4, a5, a6⟩ := hm
  go_enter Try.func20, Try.ntmps20
  go_wp2_with fail
  refine (may_yes _ _ _ _ H0.out).mono ?_
  rintro e w1 ⟨rfl, hb1⟩
  have hH1 := (HdAt.new w h).below hb1 (by simp)
  have hz1 : w.heap.size + 1 ≤ w1.heap.size := by have := hb1.size; simpa using this
  have hbel1 : Below w.heap.size w w1 := ((Below.refl _ _).alloc (Nat.le_refl _) _).trans (hb1.mono (by simp))
  obtain ⟨c0, c1, c2, c3, c4, c5, c6, c7, c8, c9, c10, c11, c12, c13, c14, c15⟩ := hH1
  clear hb1
  go_wp2_with fail
  refine (ffits_all h.K h.M h.B h.size _ H0.out).mono ?_
  rintro e w2 ⟨rfl, hb2⟩
  have hH2 := HdAt.below (show HdAt w1 w.heap.size h from ⟨c0, c1, c2, c3, c4, c5, c6, c7, c8, c9, c10, c11, c12, c13, c14, c15⟩) hb2 (by omega)
  have hbel2 := hbel1.trans (hb2.mono (by omega))
  clear c0 c1 c2 c3 c4 c5 c6 c7 c8 c9 c10 c11 c12 c13 c14 c15 hb2 hbel1
  obtain ⟨c0, c1, c2, c3, c4, c5, c6, c7, c8, c9, c10, c11, c12, c13, c14, c15⟩ := hH2
  rw [H3.out]
  go_wp2
  go_ret
  exact ⟨rfl, hbel2⟩
set_option maxHeartbeats 800000 in
theorem fcheck_10 (h : Hd) (w : World) (h0 : MayS h.K h.M h.B) (h1 : 0 < h.key.size) (h2 : h.key.size ≤ 255) (h3 : sizeE h.K h.M h.B h.size = 0) (h4 : 0 ≤ h.idx) (h5 : h.idx < h.K + h.M) (h6 : 1 ≤ h.ep) (h7 : h.ep ≤ 4294967295) (h8 : 1 ≤ h.ct) (h9 : h.ct ≤ 4294967295) :
    Calls Try.prog 20 #[.agg #[.int .u8 h.s0, .int .u8 h.s1, .int .u8 h.s2, .int .u8 h.s3, .int .u8 h.s4, .int .u8 h.s5, .int .u8 h.s6, .int .u8 h.s7, .int .i64 h.K, .int .i64 h.M, .int .i64 h.B, .string h.key, .int .i64 h.size, .int .i64 h.idx, .int .i64 h.ep, .int .i64 h.ct]] w fun e w' => e = .returned (.int .i64 0) ∧ Below w.heap.size w w' := by
  have H0 := Lib.hid h0; clear h0
  have e1 : ((h.key.size : Int) == 0) = false := by rw [beq_eq_false_iff_ne]; omega
  have H3 := Lib.hid h3; clear h3
  have hm := H0.out
  obtain ⟨a1, a2, a3, a4, a5, a6⟩ := hm
  go_enter Try.func20, Try.ntmps20
  go_wp2_with fail
  refine (may_yes _ _ _ _ H0.out).mono ?_
  rintro e w1 ⟨rfl, hb1⟩
  have hH1 := (HdAt.new w h).below hb1 (by simp)
  have hz1 : w.heap.size + 1 ≤ w1.heap.size := by have := hb1.size; simpa using this
  have hbel1 : Below w.heap.size w w1 := ((Below.refl _ _).alloc (Nat.le_refl _) _).trans (hb1.mono (by simp))
  obtain ⟨c0, c1, c2, c3, c4, c5, c6, c7, c8, c9, c10, c11, c12, c13, c14, c15⟩ := hH1
  clear hb1
  go_wp2_with fail
  refine (ffits_all h.K h.M h.B h.size _ H0.out).mono ?_
  rintro e w2 ⟨rfl, hb2⟩
  have hH2 := HdAt.below (show HdAt w1 w.heap.size h from ⟨c0, c1, c2, c3, c4, c5, c6, c7, c8, c9, c10, c11, c12, c13, c14, c15⟩) hb2 (by omega)
  have hbel2 := hbel1.trans (hb2.mono (by omega))
  clear c0 c1 c2 c3 c4 c5 c6 c7 c8 c9 c10 c11 c12 c13 c14 c15 hb2 hbel1
  obtain ⟨c0, c1, c2, c3, c4, c5, c6, c7, c8, c9, c10, c11, c12, c13, c14, c15⟩ := hH2
  rw [H3.out]
  go_wp2
  go_ret
  exact ⟨rfl, hbel2⟩

theorem fcheck_any (h : Hd) (w : World) :
    Calls Try.prog 20 #[.agg #[.int .u8 h.s0, .int .u8 h.s1, .int .u8 h.s2, .int .u8 h.s3, .int .u8 h.s4, .int .u8 h.s5, .int .u8 h.s6, .int .u8 h.s7, .int .i64 h.K, .int .i64 h.M, .int .i64 h.B, .string h.key, .int .i64 h.size, .int .i64 h.idx, .int .i64 h.ep, .int .i64 h.ct]] w fun e w' => e = .returned (.int .i64 (checkE h)) ∧ Below w.heap.size w w' := by
  unfold checkE
  by_cases h0 : MayS h.K h.M h.B
  · rw [if_neg (by simpa using h0)]
    by_cases h1 : 0 < h.key.size
    · by_cases h2 : h.key.size ≤ 255
      · rw [if_neg (by omega)]
        by_cases h3 : sizeE h.K h.M h.B h.size = 0
        · rw [if_neg (by simpa using h3)]
          by_cases h4 : 0 ≤ h.idx
          · by_cases h5 : h.idx < h.K + h.M
            · rw [if_neg (by omega)]
              by_cases h6 : 1 ≤ h.ep
              · by_cases h7 : h.ep ≤ 4294967295
                · by_cases h8 : 1 ≤ h.ct
                  · by_cases h9 : h.ct ≤ 4294967295
                    · rw [if_neg (by omega)]
                      exact fcheck_10 h w h0 h1 h2 h3 h4 h5 h6 h7 h8 h9
                    · rw [if_pos (by omega)]
                      exact fcheck_9 h w h0 h1 h2 h3 h4 h5 h6 h7 h8 (by omega)
                  · rw [if_pos (by omega)]
                    exact fcheck_8 h w h0 h1 h2 h3 h4 h5 h6 h7 (by omega)
                · rw [if_pos (by omega)]
                  exact fcheck_7 h w h0 h1 h2 h3 h4 h5 h6 (by omega)
              · rw [if_pos (by omega)]
                exact fcheck_6 h w h0 h1 h2 h3 h4 h5 (by omega)
            · rw [if_pos (by omega)]
              exact fcheck_5 h w h0 h1 h2 h3 h4 (by omega)
          · rw [if_pos (by omega)]
            exact fcheck_4 h w h0 h1 h2 h3 (by omega)
        · rw [if_pos h3]
          exact fcheck_3 h w h0 h1 h2 h3
      · rw [if_pos (by omega)]
        exact fcheck_2 h w h0 h1 (by omega)
    · rw [if_pos (by omega)]
      exact fcheck_1 h w h0 (by omega)
  · rw [if_pos h0]
    exact fcheck_0 h w h0
end Go.Proofs.Ytbioanbokbhmgaa
