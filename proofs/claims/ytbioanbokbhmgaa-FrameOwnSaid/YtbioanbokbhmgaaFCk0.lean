/- Length, Check of both; numbers of the laws: the walks. Conditions: as the theorems have them. -/
import Derived.Test.YtbioanbokbhmgaaFCkf
namespace Go.Proofs.Ytbioanbokbhmgaa
open Go.RowKit

def LenPost (w : World) (h : Hd) (e : Ending) (w' : World) : Prop := e = .returned (.tuple #[.int .i64 (lenE h), .int .i64 (checkE h)]) ∧ Below w.heap.size w w'

set_option maxHeartbeats 1000000 in
theorem rlength_ok (h : Hd) (w : World) (e0 : checkE h = 0) :
    Calls Try.prog 16 #[.agg #[.int .u8 h.s0, .int .u8 h.s1, .int .u8 h.s2, .int .u8 h.s3, .int .u8 h.s4, .int .u8 h.s5, .int .u8 h.s6, .int .u8 h.s7, .int .i64 h.K, .int .i64 h.M, .int .i64 h.B, .string h.key, .int .i64 h.size, .int .i64 h.idx, .int .i64 h.ep, .int .i64 h.ct]] w (LenPost w h) := by
  obtain ⟨hm, k0, k1, hE, _, _, _, _, _, _⟩ := check_facts e0
  obtain ⟨a1, a2, a3, a4, a5, a6⟩ := hm
  have E0 := Lib.hid e0; have HE := Lib.hid hE; clear e0 hE
  have hbl : ∀ j, blen h.K.toNat h.B.toNat h.size.toNat j + 4 ≤ 65540 := fun j => by have := blen_le (K := h.K.toNat) (B := h.B.toNat) (s := h.size.toNat) (j := j) (by omega); omega
  have HB := Lib.hid hbl; clear hbl
  have hn := sizeN_le h.K h.M h.B h.size
  go_enter Try.func16, Try.ntmps16
  go_wp2_with fail
  refine (rcheck_any h _).mono ?_
  rintro e w1 ⟨rfl, hb1⟩
  rw [E0.out]
  have hH1 := (HdAt.new w h).below hb1 (by simp)
  have hz1 : w.heap.size + 1 ≤ w1.heap.size := by have := hb1.size; simpa using this
  have hbel1 : Below w.heap.size w w1 := ((Below.refl _ _).alloc (Nat.le_refl _) _).trans (hb1.mono (by simp))
  obtain ⟨c0, c1, c2, c3, c4, c5, c6, c7, c8, c9, c10, c11, c12, c13, c14, c15⟩ := hH1
  clear hb1
  go_wp2_with fail
  refine (rsizes_all h.K h.M h.B h.size _).mono ?_
  rintro e w2 ⟨v, rfl, hown, hb2⟩
  obtain ⟨A, cap, rfl, _, _, hr, _⟩ := hown.rd
  rw [HE.out]
  have hH2 := HdAt.below (show HdAt w1 w.heap.size h from ⟨c0, c1, c2, c3, c4, c5, c6, c7, c8, c9, c10, c11, c12, c13, c14, c15⟩) hb2 (by omega)
  have hbel2 := hbel1.trans (hb2.mono (by omega))
  clear c0 c1 c2 c3 c4 c5 c6 c7 c8 c9 c10 c11 c12 c13 c14 c15 hb2 hbel1 hown
  obtain ⟨c0, c1, c2, c3, c4, c5, c6, c7, c8, c9, c10, c11, c12, c13, c14, c15⟩ := hH2
  go_wp2
  go_loopg [7, 8] (sizeN h.K h.M h.B h.size) (fun g x i wr => wr = w2 ∧ ∃ k : Nat, k ≤ sizeN h.K h.M h.B h.size ∧ g = sizeN h.K h.M h.B h.size - k ∧ i = .int .i64 k ∧ x = .int .i64 (40 + h.key.size + sumN (fun j => blen h.K.toNat h.B.toNat h.size.toNat j + 4) k : Nat))
  case atStart => exact ⟨rfl, 0, Nat.zero_le _, rfl, rfl, by simp [sumN]⟩
  case round =>
    obtain ⟨rfl, k, hk, rfl, rfl, rfl⟩ := hrel
    have hs1 := sumN_le (fun j => HB.out j) k
    have hs2 : k * 65540 ≤ 4096 * 65540 := Nat.mul_le_mul_right _ (by omega)
    by_cases hlt : k < sizeN h.K h.M h.B h.size
    · obtain ⟨b, o, rfl, _, hc⟩ := hr k hlt
      have hb4 := HB.out k
      have hs : 40 + h.key.size + sumN (fun j => blen h.K.toNat h.B.toNat h.size.toNat j + 4) k ≤ 300000000 := by omega
      obtain ⟨T, hT⟩ : ∃ T, T = 40 + h.key.size + sumN (fun j => blen h.K.toNat h.B.toNat h.size.toNat j + 4) k := ⟨_, rfl⟩
      rw [← hT] at hs ⊢
      have HT := Lib.hid hT; clear hT hs1 hs2
      go_wp2
      go_roundg (sizeN h.K h.M h.B h.size - (k + 1))
      case measure => omega
      case rel => exact ⟨rfl, k + 1, by omega, rfl, by go_num, by simp only [sumN]; rw [HT.out]; congr 1; omega⟩
    · have hkn : k = sizeN h.K h.M h.B h.size := by omega
      have HK := Lib.hid hkn; clear hkn
      go_wp2
      go_ret2
      refine ⟨?_, hbel2⟩
      unfold lenE
      rw [if_pos E0.out, E0.out, ← HK.out]
      rfl

theorem rlength_any (h : Hd) (w : World) : Calls Try.prog 16 #[.agg #[.int .u8 h.s0, .int .u8 h.s1, .int .u8 h.s2, .int .u8 h.s3, .int .u8 h.s4, .int .u8 h.s5, .int .u8 h.s6, .int .u8 h.s7, .int .i64 h.K, .int .i64 h.M, .int .i64 h.B, .string h.key, .int .i64 h.size, .int .i64 h.idx, .int .i64 h.ep, .int .i64 h.ct]] w fun e w' => e = .returned (.tuple #[.int .i64 (lenE h), .int .i64 (checkE h)]) ∧ Below w.heap.size w w' := by
  by_cases e0 : checkE h = 0
  · exact rlength_ok h w e0
  · have hl : lenE h = 0 := by unfold lenE; rw [if_neg e0]
    rw [hl]
    have hne : (checkE h == 0) = false := by simpa using e0
    have hne' : (checkE h != 0) = true := by simpa using e0
    have E0 := Lib.hid e0; clear e0 hl
    go_enter Try.func16, Try.ntmps16
    go_wp2_with fail
    refine (rcheck_any h _).mono ?_
    rintro e w1 ⟨rfl, hb1⟩
    have hbel1 : Below w.heap.size w w1 := ((Below.refl _ _).alloc (Nat.le_refl _) _).trans (hb1.mono (by simp))
    clear hb1
    go_wp2
    go_ret2
    exact ⟨rfl, hbel1⟩
theorem flength_any (h : Hd) (w : World) : Calls Try.prog 18 #[.agg #[.int .u8 h.s0, .int .u8 h.s1, .int .u8 h.s2, .int .u8 h.s3, .int .u8 h.s4, .int .u8 h.s5, .int .u8 h.s6, .int .u8 h.s7, .int .i64 h.K, .int .i64 h.M, .int .i64 h.B, .string h.key, .int .i64 h.size, .int .i64 h.idx, .int .i64 h.ep, .int .i64 h.ct]] w fun e w' => e = .returned (.tuple #[.int .i64 (lenE h), .int .i64 (checkE h)]) ∧ Below w.heap.size w w' := by
  by_cases e0 : checkE h = 0
  · have E0 := Lib.hid e0; clear e0
    go_enter Try.func18, Try.ntmps18
    go_wp2_with fail
    refine (fcheck_any h _).mono ?_
    rintro e w1 ⟨rfl, hb1⟩
    rw [E0.out]
    have hH1 := (HdAt.new w h).below hb1 (by simp)
    have hz1 : w.heap.size + 1 ≤ w1.heap.size := by have := hb1.size; simpa using this
    have hbel1 : Below w.heap.size w w1 := ((Below.refl _ _).alloc (Nat.le_refl _) _).trans (hb1.mono (by simp))
    obtain ⟨c0, c1, c2, c3, c4, c5, c6, c7, c8, c9, c10, c11, c12, c13, c14, c15⟩ := hH1
    clear hb1
    go_wp2_with fail
    refine (flen_ok h _ E0.out).mono ?_
    rintro e w2 ⟨rfl, hb2⟩
    have hbel2 := hbel1.trans (hb2.mono (by omega))
    clear hb2 c0 c1 c2 c3 c4 c5 c6 c7 c8 c9 c10 c11 c12 c13 c14 c15 hbel1
    go_wp2
    go_ret2
    exact ⟨by rw [E0.out]; rfl, hbel2⟩
  · have hl : lenE h = 0 := by unfold lenE; rw [if_neg e0]
    rw [hl]
    have hne : (checkE h == 0) = false := by simpa using e0
    have hne' : (checkE h != 0) = true := by simpa using e0
    have E0 := Lib.hid e0; clear e0 hl
    go_enter Try.func18, Try.ntmps18
    go_wp2_with fail
    refine (fcheck_any h _).mono ?_
    rintro e w1 ⟨rfl, hb1⟩
    have hbel1 : Below w.heap.size w w1 := ((Below.refl _ _).alloc (Nat.le_refl _) _).trans (hb1.mono (by simp))
    clear hb1
    go_wp2
    go_ret2
    exact ⟨rfl, hbel1⟩
theorem num_any (n : Int) (w : World) : Calls Try.prog 19 #[.int .i64 n] w fun e w' => e = .returned (.int .i64 n) ∧ w = w' := by
  go_enter Try.func19, Try.ntmps19
  go_wp2
  go_ret
  exact ⟨rfl, rfl⟩

set_option maxHeartbeats 400000 in
/-- sameInts, of the same numbers. -/
theorem sameInts_any (A1 A2 : Option Addr) (n c1 c2 : Nat) (g : Nat → Int) (w : World) (hn : n ≤ 1000000000000000) (h1 : Rd w A1 n fun i => .int .i64 (g i)) (h2 : Rd w A2 n fun i => .int .i64 (g i)) :
    Calls Try.prog 21 #[.slice A1 n c1, .slice A2 n c2] w fun e w' => e = .returned (.bool true) ∧ Dr w w' := by
  go_enter Try.func21, Try.ntmps21
  go_wp2
  go_loopg [5] n (fun gk i wr => ∃ k : Nat, k ≤ n ∧ gk = n - k ∧ i = .int .i64 k ∧ Dr w wr)
  case atStart => exact ⟨0, Nat.zero_le _, rfl, rfl, Dr.refl _⟩
  case round =>
    obtain ⟨k, hk, rfl, rfl, hw⟩ := hrel
    by_cases hlt : k < n
    · obtain ⟨b1, o1, rfl, _, hc1⟩ := hw.rd h1 k hlt
      obtain ⟨b2, o2, rfl, _, hc2⟩ := hw.rd h2 k hlt
      go_wp2
      go_quiet (fail)
      go_wp2
      go_roundg (n - (k + 1))
      case measure => omega
      case rel => exact ⟨k + 1, by omega, rfl, by go_num, hw.drewN _⟩
    · have : k = n := by omega
      subst this
      go_wp2
      go_ret
      exact ⟨rfl, hw⟩
end Go.Proofs.Ytbioanbokbhmgaa
