/- frame.length: the walk. Conditions: a head that may be. -/
import Derived.Test.YtbioanbokbhmgaaFCkp
namespace Go.Proofs.Ytbioanbokbhmgaa
open Go.RowKit

def SumPost (w : World) (h : Hd) (e : Ending) (w' : World) : Prop := e = .returned (.int .i64 (lenE h)) ∧ Below w.heap.size w w'
set_option maxHeartbeats 1000000 in
theorem flen_ok (h : Hd) (w : World) (e0 : checkE h = 0) :
    Calls Try.prog 47 #[.agg #[.int .u8 h.s0, .int .u8 h.s1, .int .u8 h.s2, .int .u8 h.s3, .int .u8 h.s4, .int .u8 h.s5, .int .u8 h.s6, .int .u8 h.s7, .int .i64 h.K, .int .i64 h.M, .int .i64 h.B, .string h.key, .int .i64 h.size, .int .i64 h.idx, .int .i64 h.ep, .int .i64 h.ct]] w (SumPost w h) := by
  obtain ⟨hm, k0, k1, hE, _, _, _, _, _, _⟩ := check_facts e0
  have hmay := hm
  obtain ⟨hs0, hs1, _⟩ := size_facts hE
  obtain ⟨a1, a2, a3, a4, a5, a6⟩ := hm
  have E0 := Lib.hid e0; clear e0
  have hN : sizeN h.K h.M h.B h.size = nblk (h.K.toNat * h.B.toNat) h.size.toNat := by unfold sizeN; rw [if_pos hE]
  have hbl : ∀ j, blen h.K.toNat h.B.toNat h.size.toNat j + 4 ≤ 65540 := fun j => by have := blen_le (K := h.K.toNat) (B := h.B.toNat) (s := h.size.toNat) (j := j) (by omega); omega
  have HB := Lib.hid hbl; clear hbl
  have hn := sizeN_le h.K h.M h.B h.size
  have HN := Lib.hid hN; clear hN
  obtain ⟨n, hn0⟩ : ∃ n, n = sizeN h.K h.M h.B h.size := ⟨_, rfl⟩
  rw [← hn0] at hn
  have HN0 := Lib.hid hn0; clear hn0 hE
  have hlen : Calls Try.prog 46 #[.agg #[.int .i64 h.K, .int .i64 h.M, .int .i64 h.B], .int .i64 h.size] (w.alloc (.cells #[.int .u8 h.s0, .int .u8 h.s1, .int .u8 h.s2, .int .u8 h.s3, .int .u8 h.s4, .int .u8 h.s5, .int .u8 h.s6, .int .u8 h.s7, .int .i64 h.K, .int .i64 h.M, .int .i64 h.B, .string h.key, .int .i64 h.size, .int .i64 h.idx, .int .i64 h.ep, .int .i64 h.ct] 28)) fun e w' =>
      e = .returned (.slice (some ⟨(w.alloc (.cells #[.int .u8 h.s0, .int .u8 h.s1, .int .u8 h.s2, .int .u8 h.s3, .int .u8 h.s4, .int .u8 h.s5, .int .u8 h.s6, .int .u8 h.s7, .int .i64 h.K, .int .i64 h.M, .int .i64 h.B, .string h.key, .int .i64 h.size, .int .i64 h.idx, .int .i64 h.ep, .int .i64 h.ct] 28)).heap.size + 1, 0, none⟩) n n) ∧ w'.rowIs ((w.alloc (.cells #[.int .u8 h.s0, .int .u8 h.s1, .int .u8 h.s2, .int .u8 h.s3, .int .u8 h.s4, .int .u8 h.s5, .int .u8 h.s6, .int .u8 h.s7, .int .i64 h.K, .int .i64 h.M, .int .i64 h.B, .string h.key, .int .i64 h.size, .int .i64 h.idx, .int .i64 h.ep, .int .i64 h.ct] 28)).heap.size + 1) 3 n (fun j => .int .i64 (blen h.K.toNat h.B.toNat h.size.toNat j)) ∧ Below (w.alloc (.cells #[.int .u8 h.s0, .int .u8 h.s1, .int .u8 h.s2, .int .u8 h.s3, .int .u8 h.s4, .int .u8 h.s5, .int .u8 h.s6, .int .u8 h.s7, .int .i64 h.K, .int .i64 h.M, .int .i64 h.B, .string h.key, .int .i64 h.size, .int .i64 h.idx, .int .i64 h.ep, .int .i64 h.ct] 28)).heap.size (w.alloc (.cells #[.int .u8 h.s0, .int .u8 h.s1, .int .u8 h.s2, .int .u8 h.s3, .int .u8 h.s4, .int .u8 h.s5, .int .u8 h.s6, .int .u8 h.s7, .int .i64 h.K, .int .i64 h.M, .int .i64 h.B, .string h.key, .int .i64 h.size, .int .i64 h.idx, .int .i64 h.ep, .int .i64 h.ct] 28)) w' := by
    have := lengths_any h.K.toNat h.M.toNat h.B.toNat h.size.toNat (w.alloc (.cells #[.int .u8 h.s0, .int .u8 h.s1, .int .u8 h.s2, .int .u8 h.s3, .int .u8 h.s4, .int .u8 h.s5, .int .u8 h.s6, .int .u8 h.s7, .int .i64 h.K, .int .i64 h.M, .int .i64 h.B, .string h.key, .int .i64 h.size, .int .i64 h.idx, .int .i64 h.ep, .int .i64 h.ct] 28)) (by unfold MayS; omega) (by omega)
    rw [← HN.out, ← HN0.out] at this
    simpa only [Int.toNat_of_nonneg (show 0 ≤ h.K by omega), Int.toNat_of_nonneg (show 0 ≤ h.M by omega), Int.toNat_of_nonneg (show 0 ≤ h.B by omega), Int.toNat_of_nonneg hs0] using this
  have HL := Lib.hid hlen; clear hlen
  go_enter Try.func47, Try.ntmps47
  go_wp2_with fail
  refine HL.out.mono ?_
  rintro e w2 ⟨rfl, hrow, hb2⟩
  have hbel2 : Below w.heap.size w w2 := ((Below.refl _ _).alloc (Nat.le_refl _) _).trans (hb2.mono (by simp))
  have hr := row_rd hrow
  simp only [World.size_alloc] at hr
  clear hb2 hrow HL
  go_wp2
  go_loopg [3, 5, 17] n (fun g x _ i wr => wr = w2 ∧ ∃ k : Nat, k ≤ n ∧ g = n - k ∧ i = .int .i64 k ∧ x = .int .i64 (40 + h.key.size + sumN (fun j => blen h.K.toNat h.B.toNat h.size.toNat j + 4) k : Nat))
  case atStart =>
    refine ⟨rfl, 0, Nat.zero_le _, rfl, rfl, ?_⟩
    simp only [sumN]; congr 1; omega
  case round =>
    obtain ⟨rfl, k, hk, rfl, rfl, rfl⟩ := hrel
    have hs1 := sumN_le (fun j => HB.out j) k
    have hs2 : k * 65540 ≤ 4096 * 65540 := Nat.mul_le_mul_right _ (by omega)
    have hs : 40 + h.key.size + sumN (fun j => blen h.K.toNat h.B.toNat h.size.toNat j + 4) k ≤ 300000000 := by omega
    obtain ⟨T, hT⟩ : ∃ T, T = 40 + h.key.size + sumN (fun j => blen h.K.toNat h.B.toNat h.size.toNat j + 4) k := ⟨_, rfl⟩
    rw [← hT] at hs ⊢
    have HT := Lib.hid hT; clear hT hs1 hs2
    by_cases hlt : k < n
    · obtain ⟨b, o, e1, _, hc⟩ := hr k hlt
      injection e1 with e1; injection e1 with e1 e2; subst e1 e2
      have hc' := hc
      rw [Nat.zero_add] at hc'
      clear hc
      have hb4 := HB.out k
      go_wp2
      go_roundg (n - (k + 1))
      case measure => omega
      case rel => exact ⟨rfl, k + 1, by omega, rfl, by go_num, by simp only [sumN]; rw [HT.out]; congr 1; omega⟩
    · have hkn : k = n := by omega
      have HK := Lib.hid hkn; clear hkn
      go_wp2
      go_ret
      refine ⟨?_, hbel2⟩
      unfold lenE
      rw [if_pos E0.out, ← HN0.out, ← HK.out, ← HT.out]
      rfl
end Go.Proofs.Ytbioanbokbhmgaa
