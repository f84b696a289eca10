/- Lengths of forms; num, sameInts. Conditions: none. -/
import Derived.Test.YtbioanbokbhmgaaHd
namespace Go.Proofs.Ytbioanbokbhmgaa
open Go.RowKit

/-- The sum of the first n numbers. -/
def sumN (f : Nat → Nat) : Nat → Nat
  | 0 => 0
  | n + 1 => sumN f n + f n
theorem sumN_le {f : Nat → Nat} {b : Nat} (h : ∀ i, f i ≤ b) : ∀ n, sumN f n ≤ n * b
  | 0 => by simp [sumN]
  | n + 1 => by have := sumN_le h n; have := h n; rw [Nat.add_mul]; simp only [sumN]; omega
theorem blen_le {K B s j : Nat} (hK : 1 ≤ K) : blen K B s j ≤ B := by
  unfold blen
  split
  · rename_i h
    have hlt : s % (K * B) < K * B := by
      refine Nat.mod_lt _ ?_
      rcases Nat.eq_zero_or_pos (K * B) with h0 | h0
      · obtain ⟨h1, h2⟩ := h
        unfold nblk at h1
        rw [h0] at h1
        simp at h1
      · exact h0
    have : (s % (K * B) + K - 1) / K < B + 1 := (Nat.div_lt_iff_lt_mul (by omega)).2 (by rw [Nat.add_mul, Nat.mul_comm B K]; omega)
    omega
  · exact Nat.le_refl _

/-- How many bytes a form has (0 beside an error). -/
def lenE (h : Hd) : Int := if checkE h = 0 then (40 + h.key.size + sumN (fun j => blen h.K.toNat h.B.toNat h.size.toNat j + 4) (sizeN h.K h.M h.B h.size) : Nat) else 0

theorem check_facts {h : Hd} (e : checkE h = 0) : MayS h.K h.M h.B ∧ 0 < h.key.size ∧ h.key.size ≤ 255 ∧ sizeE h.K h.M h.B h.size = 0 ∧ 0 ≤ h.idx ∧ h.idx < h.K + h.M ∧ 1 ≤ h.ep ∧ h.ep ≤ 4294967295 ∧ 1 ≤ h.ct ∧ h.ct ≤ 4294967295 := by
  unfold checkE at e
  by_cases h0 : MayS h.K h.M h.B
  · rw [if_neg (by simpa using h0)] at e
    by_cases h1 : h.key.size = 0 ∨ 255 < h.key.size
    · rw [if_pos h1] at e; omega
    · rw [if_neg h1] at e
      by_cases h2 : sizeE h.K h.M h.B h.size = 0
      · rw [if_neg (by simpa using h2)] at e
        by_cases h3 : h.idx < 0 ∨ h.K + h.M ≤ h.idx
        · rw [if_pos h3] at e; omega
        · rw [if_neg h3] at e
          by_cases h4 : h.ep < 1 ∨ 4294967295 < h.ep ∨ h.ct < 1 ∨ 4294967295 < h.ct
          · rw [if_pos h4] at e; omega
          · exact ⟨h0, by omega, by omega, h2, by omega, by omega, by omega, by omega, by omega, by omega⟩
      · rw [if_pos h2] at e; exact absurd e h2
  · rw [if_pos h0] at e; omega
theorem size_facts {K M B s : Int} (h : sizeE K M B s = 0) : 0 ≤ s ∧ s ≤ 1048576 ∧ MayS K M B := by
  unfold sizeE at h
  by_cases hm : MayS K M B
  · rw [if_pos hm] at h
    unfold fitE at h
    by_cases h1 : s < 0
    · rw [if_pos h1] at h; omega
    · rw [if_neg h1] at h
      by_cases h2 : 1048576 < s ∨ 4096 < nblk (K.toNat * B.toNat) s.toNat
      · rw [if_pos h2] at h; omega
      · exact ⟨by omega, by omega, hm⟩
  · rw [if_neg hm] at h; omega
theorem sizeN_le (K M B s : Int) : sizeN K M B s ≤ 4096 := by
  unfold sizeN
  by_cases h : sizeE K M B s = 0
  · rw [if_pos h]
    unfold sizeE at h
    by_cases hm : MayS K M B
    · rw [if_pos hm] at h
      unfold fitE at h
      by_cases h1 : s < 0
      · rw [if_pos h1] at h; omega
      · rw [if_neg h1] at h
        by_cases h2 : 1048576 < s ∨ 4096 < nblk (K.toNat * B.toNat) s.toNat
        · rw [if_pos h2] at h; omega
        · omega
    · rw [if_neg hm] at h; omega
  · rw [if_neg h]; omega

def LenPost (w : World) (h : Hd) (e : Ending) (w' : World) : Prop := e = .returned (.tuple #[.int .i64 (lenE h), .int .i64 (checkE h)]) ∧ Below w.heap.size w w'

set_option maxHeartbeats 1000000 in
theorem rlength_ok (h : Hd) (w : World) (e0 : checkE h = 0) :
    Calls Try.prog 16 #[.agg #[.int .u8 h.s0, .int .u8 h.s1, .int .u8 h.s2, .int .u8 h.s3, .int .u8 h.s4, .int .u8 h.s5, .int .u8 h.s6, .int .u8 h.s7, .int .i64 h.K, .int .i64 h.M, .int .i64 h.B, .string h.key, .int .i64 h.size, .int .i64 h.idx, .int .i64 h.ep, .int .i64 h.ct]] w (LenPost w h) := by
  obtain ⟨hm, k0, k1, hE, _, _, _, _, _, _⟩ := check_facts e0
  obtain ⟨a1, a2, a3, a4, a5, a6⟩ := hm
  have E0 := Lib.hid e0; have HE := Lib.hid hE; clear e0 hE
  have hbl : ∀ j, blen h.K.toNat h.B.toNat h.size.toNat j + 4 ≤ 65540 := fun j => by have := blen_le (K := h.K.toNat) (B := h.B.toNat) (s := h.size.toNat) (j := j) (by omega); omega
  have HB := Lib.hid hbl; clear hbl
  have hn := sizeN_le h.K h.M h.B h.size
  go_enter Try.func16, Try.ntmps16
  go_wp2_with fail
  refine (rcheck_any h _).mono ?_
  rintro e w1 ⟨rfl, hb1⟩
  rw [E0.out]
  have hH1 := (HdAt.new w h).below hb1 (by simp)
  have hz1 : w.heap.size + 1 ≤ w1.heap.size := by have := hb1.size; simpa using this
  have hbel1 : Below w.heap.size w w1 := ((Below.refl _ _).alloc (Nat.le_refl _) _).trans (hb1.mono (by simp))
  obtain ⟨c0, c1, c2, c3, c4, c5, c6, c7, c8, c9, c10, c11, c12, c13, c14, c15⟩ := hH1
  clear hb1
  go_wp2_with fail
  refine (rsizes_all h.K h.M h.B h.size _).mono ?_
  rintro e w2 ⟨v, rfl, hown, hb2⟩
  obtain ⟨A, cap, rfl, _, _, hr, _⟩ := hown.rd
  rw [HE.out]
  have hH2 := HdAt.below (show HdAt w1 w.heap.size h from ⟨c0, c1, c2, c3, c4, c5, c6, c7, c8, c9, c10, c11, c12, c13, c14, c15⟩) hb2 (by omega)
  have hbel2 := hbel1.trans (hb2.mono (by omega))
  clear c0 c1 c2 c3 c4 c5 c6 c7 c8 c9 c10 c11 c12 c13 c14 c15 hb2 hbel1 hown
  obtain ⟨c0, c1, c2, c3, c4, c5, c6, c7, c8, c9, c10, c11, c12, c13, c14, c15⟩ := hH2
  go_wp2
  go_loopg [7, 8] (sizeN h.K h.M h.B h.size) (fun g x i wr => wr = w2 ∧ ∃ k : Nat, k ≤ sizeN h.K h.M h.B h.size ∧ g = sizeN h.K h.M h.B h.size - k ∧ i = .int .i64 k ∧ x = .int .i64 (40 + h.key.size + sumN (fun j => blen h.K.toNat h.B.toNat h.size.toNat j + 4) k : Nat))
  case atStart => exact ⟨rfl, 0, Nat.zero_le _, rfl, rfl, by simp [sumN]⟩
  case round =>
    obtain ⟨rfl, k, hk, rfl, rfl, rfl⟩ := hrel
    have hs1 := sumN_le (fun j => HB.out j) k
    have hs2 : k * 65540 ≤ 4096 * 65540 := Nat.mul_le_mul_right _ (by omega)
    by_cases hlt : k < sizeN h.K h.M h.B h.size
    · obtain ⟨b, o, rfl, _, hc⟩ := hr k hlt
      have hb4 := HB.out k
      have hs : 40 + h.key.size + sumN (fun j => blen h.K.toNat h.B.toNat h.size.toNat j + 4) k ≤ 300000000 := by omega
      obtain ⟨T, hT⟩ : ∃ T, T = 40 + h.key.size + sumN (fun j => blen h.K.toNat h.B.toNat h.size.toNat j + 4) k := ⟨_, rfl⟩
      rw [← hT] at hs ⊢
      have HT := Lib.hid hT; clear hT hs1 hs2
      go_wp2
      go_roundg (sizeN h.K h.M h.B h.size - (k + 1))
      case measure => omega
      case rel => exact ⟨rfl, k + 1, by omega, rfl, by go_num, by simp only [sumN]; rw [HT.out]; congr 1; omega⟩
    · have hkn : k = sizeN h.K h.M h.B h.size := by omega
      have HK := Lib.hid hkn; clear hkn
      go_wp2
      go_ret2
      refine ⟨?_, hbel2⟩
      unfold lenE
      rw [if_pos E0.out, E0.out, ← HK.out]
      rfl

def SumPost (w : World) (h : Hd) (e : Ending) (w' : World) : Prop := e = .returned (.int .i64 (lenE h)) ∧ Below w.heap.size w w'
set_option maxHeartbeats 1000000 in
theorem flen_ok (h : Hd) (w : World) (e0 : checkE h = 0) :
    Calls Try.prog 47 #[.agg #[.int .u8 h.s0, .int .u8 h.s1, .int .u8 h.s2, .int .u8 h.s3, .int .u8 h.s4, .int .u8 h.s5, .int .u8 h.s6, .int .u8 h.s7, .int .i64 h.K, .int .i64 h.M, .int .i64 h.B, .string h.key, .int .i64 h.size, .int .i64 h.idx, .int .i64 h.ep, .int .i64 h.ct]] w (SumPost w h) := by
  obtain ⟨hm, k0, k1, hE, _, _, _, _, _, _⟩ := check_facts e0
  have hmay := hm
  obtain ⟨hs0, hs1, _⟩ := size_facts hE
  obtain ⟨a1, a2, a3, a4, a5, a6⟩ := hm
  have E0 := Lib.hid e0; clear e0
  have hN : sizeN h.K h.M h.B h.size = nblk (h.K.toNat * h.B.toNat) h.size.toNat := by unfold sizeN; rw [if_pos hE]
  have hbl : ∀ j, blen h.K.toNat h.B.toNat h.size.toNat j + 4 ≤ 65540 := fun j => by have := blen_le (K := h.K.toNat) (B := h.B.toNat) (s := h.size.toNat) (j := j) (by omega); omega
  have HB := Lib.hid hbl; clear hbl
  have hn := sizeN_le h.K h.M h.B h.size
  have HN := Lib.hid hN; clear hN
  obtain ⟨n, hn0⟩ : ∃ n, n = sizeN h.K h.M h.B h.size := ⟨_, rfl⟩
  rw [← hn0] at hn
  have HN0 := Lib.hid hn0; clear hn0 hE
  have hlen : Calls Try.prog 46 #[.agg #[.int .i64 h.K, .int .i64 h.M, .int .i64 h.B], .int .i64 h.size] (w.alloc (.cells #[.int .u8 h.s0, .int .u8 h.s1, .int .u8 h.s2, .int .u8 h.s3, .int .u8 h.s4, .int .u8 h.s5, .int .u8 h.s6, .int .u8 h.s7, .int .i64 h.K, .int .i64 h.M, .int .i64 h.B, .string h.key, .int .i64 h.size, .int .i64 h.idx, .int .i64 h.ep, .int .i64 h.ct] 28)) fun e w' =>
      e = .returned (.slice (some ⟨(w.alloc (.cells #[.int .u8 h.s0, .int .u8 h.s1, .int .u8 h.s2, .int .u8 h.s3, .int .u8 h.s4, .int .u8 h.s5, .int .u8 h.s6, .int .u8 h.s7, .int .i64 h.K, .int .i64 h.M, .int .i64 h.B, .string h.key, .int .i64 h.size, .int .i64 h.idx, .int .i64 h.ep, .int .i64 h.ct] 28)).heap.size + 1, 0, none⟩) n n) ∧ w'.rowIs ((w.alloc (.cells #[.int .u8 h.s0, .int .u8 h.s1, .int .u8 h.s2, .int .u8 h.s3, .int .u8 h.s4, .int .u8 h.s5, .int .u8 h.s6, .int .u8 h.s7, .int .i64 h.K, .int .i64 h.M, .int .i64 h.B, .string h.key, .int .i64 h.size, .int .i64 h.idx, .int .i64 h.ep, .int .i64 h.ct] 28)).heap.size + 1) 3 n (fun j => .int .i64 (blen h.K.toNat h.B.toNat h.size.toNat j)) ∧ Below (w.alloc (.cells #[.int .u8 h.s0, .int .u8 h.s1, .int .u8 h.s2, .int .u8 h.s3, .int .u8 h.s4, .int .u8 h.s5, .int .u8 h.s6, .int .u8 h.s7, .int .i64 h.K, .int .i64 h.M, .int .i64 h.B, .string h.key, .int .i64 h.size, .int .i64 h.idx, .int .i64 h.ep, .int .i64 h.ct] 28)).heap.size (w.alloc (.cells #[.int .u8 h.s0, .int .u8 h.s1, .int .u8 h.s2, .int .u8 h.s3, .int .u8 h.s4, .int .u8 h.s5, .int .u8 h.s6, .int .u8 h.s7, .int .i64 h.K, .int .i64 h.M, .int .i64 h.B, .string h.key, .int .i64 h.size, .int .i64 h.idx, .int .i64 h.ep, .int .i64 h.ct] 28)) w' := by
    have := lengths_any h.K.toNat h.M.toNat h.B.toNat h.size.toNat (w.alloc (.cells #[.int .u8 h.s0, .int .u8 h.s1, .int .u8 h.s2, .int .u8 h.s3, .int .u8 h.s4, .int .u8 h.s5, .int .u8 h.s6, .int .u8 h.s7, .int .i64 h.K, .int .i64 h.M, .int .i64 h.B, .string h.key, .int .i64 h.size, .int .i64 h.idx, .int .i64 h.ep, .int .i64 h.ct] 28)) (by unfold MayS; omega) (by omega)
    rw [← HN.out, ← HN0.out] at this
    simpa only [Int.toNat_of_nonneg (show 0 ≤ h.K by omega), Int.toNat_of_nonneg (show 0 ≤ h.M by omega), Int.toNat_of_nonneg (show 0 ≤ h.B by omega), Int.toNat_of_nonneg hs0] using this
  have HL := Lib.hid hlen; clear hlen
  go_enter Try.func47, Try.ntmps47
  go_wp2_with fail
  refine HL.out.mono ?_
  rintro e w2 ⟨rfl, hrow, hb2⟩
  have hbel2 : Below w.heap.size w w2 := ((Below.refl _ _).alloc (Nat.le_refl _) _).trans (hb2.mono (by simp))
  have hr := row_rd hrow
  simp only [World.size_alloc] at hr
  clear hb2 hrow HL
  go_wp2
  go_loopg [3, 5, 17] n (fun g x _ i wr => wr = w2 ∧ ∃ k : Nat, k ≤ n ∧ g = n - k ∧ i = .int .i64 k ∧ x = .int .i64 (40 + h.key.size + sumN (fun j => blen h.K.toNat h.B.toNat h.size.toNat j + 4) k : Nat))
  case atStart =>
    refine ⟨rfl, 0, Nat.zero_le _, rfl, rfl, ?_⟩
    simp only [sumN]; congr 1; omega
  case round =>
    obtain ⟨rfl, k, hk, rfl, rfl, rfl⟩ := hrel
    have hs1 := sumN_le (fun j => HB.out j) k
    have hs2 : k * 65540 ≤ 4096 * 65540 := Nat.mul_le_mul_right _ (by omega)
    have hs : 40 + h.key.size + sumN (fun j => blen h.K.toNat h.B.toNat h.size.toNat j + 4) k ≤ 300000000 := by omega
    obtain ⟨T, hT⟩ : ∃ T, T = 40 + h.key.size + sumN (fun j => blen h.K.toNat h.B.toNat h.size.toNat j + 4) k := ⟨_, rfl⟩
    rw [← hT] at hs ⊢
    have HT := Lib.hid hT; clear hT hs1 hs2
    by_cases hlt : k < n
    · obtain ⟨b, o, e1, _, hc⟩ := hr k hlt
      injection e1 with e1; injection e1 with e1 e2; subst e1 e2
      have hc' := hc
      rw [Nat.zero_add] at hc'
      clear hc
      have hb4 := HB.out k
      go_wp2
      go_roundg (n - (k + 1))
      case measure => omega
      case rel => exact ⟨rfl, k + 1, by omega, rfl, by go_num, by simp only [sumN]; rw [HT.out]; congr 1; omega⟩
    · have hkn : k = n := by omega
      have HK := Lib.hid hkn; clear hkn
      go_wp2
      go_ret
      refine ⟨?_, hbel2⟩
      unfold lenE
      rw [if_pos E0.out, ← HN0.out, ← HK.out, ← HT.out]
      rfl

theorem rlength_any (h : Hd) (w : World) : Calls Try.prog 16 #[.agg #[.int .u8 h.s0, .int .u8 h.s1, .int .u8 h.s2, .int .u8 h.s3, .int .u8 h.s4, .int .u8 h.s5, .int .u8 h.s6, .int .u8 h.s7, .int .i64 h.K, .int .i64 h.M, .int .i64 h.B, .string h.key, .int .i64 h.size, .int .i64 h.idx, .int .i64 h.ep, .int .i64 h.ct]] w fun e w' => e = .returned (.tuple #[.int .i64 (lenE h), .int .i64 (checkE h)]) ∧ Below w.heap.size w w' := by
  by_cases e0 : checkE h = 0
  · exact rlength_ok h w e0
  · have hl : lenE h = 0 := by unfold lenE; rw [if_neg e0]
    rw [hl]
    have hne : (checkE h == 0) = false := by simpa using e0
    have hne' : (checkE h != 0) = true := by simpa using e0
    have E0 := Lib.hid e0; clear e0 hl
    go_enter Try.func16, Try.ntmps16
    go_wp2_with fail
    refine (rcheck_any h _).mono ?_
    rintro e w1 ⟨rfl, hb1⟩
    have hbel1 : Below w.heap.size w w1 := ((Below.refl _ _).alloc (Nat.le_refl _) _).trans (hb1.mono (by simp))
    clear hb1
    go_wp2
    go_ret2
    exact ⟨rfl, hbel1⟩
theorem flength_any (h : Hd) (w : World) : Calls Try.prog 18 #[.agg #[.int .u8 h.s0, .int .u8 h.s1, .int .u8 h.s2, .int .u8 h.s3, .int .u8 h.s4, .int .u8 h.s5, .int .u8 h.s6, .int .u8 h.s7, .int .i64 h.K, .int .i64 h.M, .int .i64 h.B, .string h.key, .int .i64 h.size, .int .i64 h.idx, .int .i64 h.ep, .int .i64 h.ct]] w fun e w' => e = .returned (.tuple #[.int .i64 (lenE h), .int .i64 (checkE h)]) ∧ Below w.heap.size w w' := by
  by_cases e0 : checkE h = 0
  · have E0 := Lib.hid e0; clear e0
    go_enter Try.func18, Try.ntmps18
    go_wp2_with fail
    refine (fcheck_any h _).mono ?_
    rintro e w1 ⟨rfl, hb1⟩
    rw [E0.out]
    have hH1 := (HdAt.new w h).below hb1 (by simp)
    have hz1 : w.heap.size + 1 ≤ w1.heap.size := by have := hb1.size; simpa using this
    have hbel1 : Below w.heap.size w w1 := ((Below.refl _ _).alloc (Nat.le_refl _) _).trans (hb1.mono (by simp))
    obtain ⟨c0, c1, c2, c3, c4, c5, c6, c7, c8, c9, c10, c11, c12, c13, c14, c15⟩ := hH1
    clear hb1
    go_wp2_with fail
    refine (flen_ok h _ E0.out).mono ?_
    rintro e w2 ⟨rfl, hb2⟩
    have hbel2 := hbel1.trans (hb2.mono (by omega))
    clear hb2 c0 c1 c2 c3 c4 c5 c6 c7 c8 c9 c10 c11 c12 c13 c14 c15 hbel1
    go_wp2
    go_ret2
    exact ⟨by rw [E0.out]; rfl, hbel2⟩
  · have hl : lenE h = 0 := by unfold lenE; rw [if_neg e0]
    rw [hl]
    have hne : (checkE h == 0) = false := by simpa using e0
    have hne' : (checkE h != 0) = true := by simpa using e0
    have E0 := Lib.hid e0; clear e0 hl
    go_enter Try.func18, Try.ntmps18
    go_wp2_with fail
    refine (fcheck_any h _).mono ?_
    rintro e w1 ⟨rfl, hb1⟩
    have hbel1 : Below w.heap.size w w1 := ((Below.refl _ _).alloc (Nat.le_refl _) _).trans (hb1.mono (by simp))
    clear hb1
    go_wp2
    go_ret2
    exact ⟨rfl, hbel1⟩
theorem num_any (n : Int) (w : World) : Calls Try.prog 19 #[.int .i64 n] w fun e w' => e = .returned (.int .i64 n) ∧ w = w' := by
  go_enter Try.func19, Try.ntmps19
  go_wp2
  go_ret
  exact ⟨rfl, rfl⟩

set_option maxHeartbeats 400000 in
/-- sameInts, of the same numbers. -/
theorem sameInts_any (A1 A2 : Option Addr) (n c1 c2 : Nat) (g : Nat → Int) (w : World) (hn : n ≤ 1000000000000000) (h1 : Rd w A1 n fun i => .int .i64 (g i)) (h2 : Rd w A2 n fun i => .int .i64 (g i)) :
    Calls Try.prog 21 #[.slice A1 n c1, .slice A2 n c2] w fun e w' => e = .returned (.bool true) ∧ Dr w w' := by
  go_enter Try.func21, Try.ntmps21
  go_wp2
  go_loopg [5] n (fun gk i wr => ∃ k : Nat, k ≤ n ∧ gk = n - k ∧ i = .int .i64 k ∧ Dr w wr)
  case atStart => exact ⟨0, Nat.zero_le _, rfl, rfl, Dr.refl _⟩
  case round =>
    obtain ⟨k, hk, rfl, rfl, hw⟩ := hrel
    by_cases hlt : k < n
    · obtain ⟨b1, o1, rfl, _, hc1⟩ := hw.rd h1 k hlt
      obtain ⟨b2, o2, rfl, _, hc2⟩ := hw.rd h2 k hlt
      go_wp2
      go_quiet (fail)
      go_wp2
      go_roundg (n - (k + 1))
      case measure => omega
      case rel => exact ⟨k + 1, by omega, rfl, by go_num, hw.drewN _⟩
    · have : k = n := by omega
      subst this
      go_wp2
      go_ret
      exact ⟨rfl, hw⟩

end Go.Proofs.Ytbioanbokbhmgaa
