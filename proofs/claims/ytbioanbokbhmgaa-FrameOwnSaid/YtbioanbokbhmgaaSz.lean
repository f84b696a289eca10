/- Shapes, sizes, the lengths of blocks: the walks of the program's layer 8 and of the document's, and what they come to. Conditions: none beyond the cases that each theorem names. -/
import Derived.Test.YtbioanbokbhmgaaMem2
namespace Go.Proofs.Ytbioanbokbhmgaa
open Go.RowKit

theorem ret_int {k : IntKind} {a b : Int} (h : a = b) : Ending.returned (.int k a) = .returned (.int k b) := by rw [h]
theorem ret_bool {a b : Bool} (h : a = b) : Ending.returned (.bool a) = .returned (.bool b) := by rw [h]
theorem intInfo : (Try.prog.info? 3).map (fun i => (i.zero, i.size, i.bytes)) = some (some (.int .i64 0), 1, 8) := by kernel_rfl

/-- A shape that may be. -/
def MayS (K M B : Int) : Prop := 1 ≤ M ∧ M ≤ K ∧ K ≤ 255 ∧ K + M ≤ 255 ∧ 1 ≤ B ∧ B ≤ 65536
instance (K M B : Int) : Decidable (MayS K M B) := by unfold MayS; infer_instance
theorem may_0 (K M B : Int) (w : World) (h0 : M < 1) :
    Calls Try.prog 44 #[.agg #[.int .i64 K, .int .i64 M, .int .i64 B]] w fun e w' => e = .returned (.bool false) ∧ Below w.heap.size w w' := by
  go_enter Try.func44, Try.ntmps44
  go_wp2
  go_ret
  exact ⟨by first | rfl | (refine ret_bool ?_; simp; omega), (Below.refl _ _).alloc (Nat.le_refl _) _⟩
theorem may_1 (K M B : Int) (w : World) (h0 : 1 ≤ M) (h1 : K < M) :
    Calls Try.prog 44 #[.agg #[.int .i64 K, .int .i64 M, .int .i64 B]] w fun e w' => e = .returned (.bool false) ∧ Below w.heap.size w w' := by
  go_enter Try.func44, Try.ntmps44
  go_wp2
  go_ret
  exact ⟨by first | rfl | (refine ret_bool ?_; simp; omega), (Below.refl _ _).alloc (Nat.le_refl _) _⟩
theorem may_2 (K M B : Int) (w : World) (h0 : 1 ≤ M) (h1 : M ≤ K) (h2 : 255 < K) :
    Calls Try.prog 44 #[.agg #[.int .i64 K, .int .i64 M, .int .i64 B]] w fun e w' => e = .returned (.bool false) ∧ Below w.heap.size w w' := by
  go_enter Try.func44, Try.ntmps44
  go_wp2
  go_ret
  exact ⟨by first | rfl | (refine ret_bool ?_; simp; omega), (Below.refl _ _).alloc (Nat.le_refl _) _⟩
theorem may_3 (K M B : Int) (w : World) (h0 : 1 ≤ M) (h1 : M ≤ K) (h2 : K ≤ 255) (h3 : 255 < K + M) :
    Calls Try.prog 44 #[.agg #[.int .i64 K, .int .i64 M, .int .i64 B]] w fun e w' => e = .returned (.bool false) ∧ Below w.heap.size w w' := by
  go_enter Try.func44, Try.ntmps44
  go_wp2
  go_ret
  exact ⟨by first | rfl | (refine ret_bool ?_; simp; omega), (Below.refl _ _).alloc (Nat.le_refl _) _⟩
theorem may_4 (K M B : Int) (w : World) (h0 : 1 ≤ M) (h1 : M ≤ K) (h2 : K ≤ 255) (h3 : K + M ≤ 255) (h4 : B < 1) :
    Calls Try.prog 44 #[.agg #[.int .i64 K, .int .i64 M, .int .i64 B]] w fun e w' => e = .returned (.bool false) ∧ Below w.heap.size w w' := by
  go_enter Try.func44, Try.ntmps44
  go_wp2
  go_ret
  exact ⟨by first | rfl | (refine ret_bool ?_; simp; omega), (Below.refl _ _).alloc (Nat.le_refl _) _⟩
theorem may_5 (K M B : Int) (w : World) (h0 : 1 ≤ M) (h1 : M ≤ K) (h2 : K ≤ 255) (h3 : K + M ≤ 255) (h4 : 1 ≤ B) (h5 : 65536 < B) :
    Calls Try.prog 44 #[.agg #[.int .i64 K, .int .i64 M, .int .i64 B]] w fun e w' => e = .returned (.bool false) ∧ Below w.heap.size w w' := by
  go_enter Try.func44, Try.ntmps44
  go_wp2
  go_ret
  exact ⟨by first | rfl | (refine ret_bool ?_; simp; omega), (Below.refl _ _).alloc (Nat.le_refl _) _⟩
theorem may_6 (K M B : Int) (w : World) (h0 : 1 ≤ M) (h1 : M ≤ K) (h2 : K ≤ 255) (h3 : K + M ≤ 255) (h4 : 1 ≤ B) (h5 : B ≤ 65536) :
    Calls Try.prog 44 #[.agg #[.int .i64 K, .int .i64 M, .int .i64 B]] w fun e w' => e = .returned (.bool true) ∧ Below w.heap.size w w' := by
  go_enter Try.func44, Try.ntmps44
  go_wp2
  go_ret
  exact ⟨by first | rfl | (refine ret_bool ?_; simp; omega), (Below.refl _ _).alloc (Nat.le_refl _) _⟩
theorem may_yes (K M B : Int) (w : World) (h : MayS K M B) :
    Calls Try.prog 44 #[.agg #[.int .i64 K, .int .i64 M, .int .i64 B]] w fun e w' => e = .returned (.bool true) ∧ Below w.heap.size w w' :=
  may_6 K M B w h.1 h.2.1 h.2.2.1 h.2.2.2.1 h.2.2.2.2.1 h.2.2.2.2.2
theorem may_no (K M B : Int) (w : World) (h : ¬ MayS K M B) :
    Calls Try.prog 44 #[.agg #[.int .i64 K, .int .i64 M, .int .i64 B]] w fun e w' => e = .returned (.bool false) ∧ Below w.heap.size w w' := by
  unfold MayS at h
  by_cases h0 : 1 ≤ M
  · by_cases h1 : M ≤ K
    · by_cases h2 : K ≤ 255
      · by_cases h3 : K + M ≤ 255
        · by_cases h4 : 1 ≤ B
          · exact may_5 K M B w h0 h1 h2 h3 h4 (by omega)
          · exact may_4 K M B w h0 h1 h2 h3 (by omega)
        · exact may_3 K M B w h0 h1 h2 (by omega)
      · exact may_2 K M B w h0 h1 (by omega)
    · exact may_1 K M B w h0 (by omega)
  · exact may_0 K M B w (by omega)

theorem fits_0 (K M B : Int) (w : World) (h0 : M < 1) :
    Calls Try.prog 43 #[.agg #[.int .i64 K, .int .i64 M, .int .i64 B]] w fun e w' => e = .returned (.bool false) ∧ Below w.heap.size w w' := by
  go_enter Try.func43, Try.ntmps43
  go_wp2
  go_ret
  exact ⟨by first | rfl | (refine ret_bool ?_; simp; omega), (Below.refl _ _).alloc (Nat.le_refl _) _⟩
theorem fits_1 (K M B : Int) (w : World) (h0 : 1 ≤ M) (h1 : K < M) :
    Calls Try.prog 43 #[.agg #[.int .i64 K, .int .i64 M, .int .i64 B]] w fun e w' => e = .returned (.bool false) ∧ Below w.heap.size w w' := by
  go_enter Try.func43, Try.ntmps43
  go_wp2
  go_ret
  exact ⟨by first | rfl | (refine ret_bool ?_; simp; omega), (Below.refl _ _).alloc (Nat.le_refl _) _⟩
theorem fits_2 (K M B : Int) (w : World) (h0 : 1 ≤ M) (h1 : M ≤ K) (h2 : 255 < K) :
    Calls Try.prog 43 #[.agg #[.int .i64 K, .int .i64 M, .int .i64 B]] w fun e w' => e = .returned (.bool false) ∧ Below w.heap.size w w' := by
  go_enter Try.func43, Try.ntmps43
  go_wp2
  go_ret
  exact ⟨by first | rfl | (refine ret_bool ?_; simp; omega), (Below.refl _ _).alloc (Nat.le_refl _) _⟩
theorem fits_3 (K M B : Int) (w : World) (h0 : 1 ≤ M) (h1 : M ≤ K) (h2 : K ≤ 255) (h3 : 255 < K + M) :
    Calls Try.prog 43 #[.agg #[.int .i64 K, .int .i64 M, .int .i64 B]] w fun e w' => e = .returned (.bool false) ∧ Below w.heap.size w w' := by
  go_enter Try.func43, Try.ntmps43
  go_wp2
  go_ret
  exact ⟨by first | rfl | (refine ret_bool ?_; simp; omega), (Below.refl _ _).alloc (Nat.le_refl _) _⟩
theorem fits_4 (K M B : Int) (w : World) (h0 : 1 ≤ M) (h1 : M ≤ K) (h2 : K ≤ 255) (h3 : K + M ≤ 255) (h4 : B < 1) :
    Calls Try.prog 43 #[.agg #[.int .i64 K, .int .i64 M, .int .i64 B]] w fun e w' => e = .returned (.bool false) ∧ Below w.heap.size w w' := by
  go_enter Try.func43, Try.ntmps43
  go_wp2
  go_ret
  exact ⟨by first | rfl | (refine ret_bool ?_; simp; omega), (Below.refl _ _).alloc (Nat.le_refl _) _⟩
theorem fits_5 (K M B : Int) (w : World) (h0 : 1 ≤ M) (h1 : M ≤ K) (h2 : K ≤ 255) (h3 : K + M ≤ 255) (h4 : 1 ≤ B) (h5 : 65536 < B) :
    Calls Try.prog 43 #[.agg #[.int .i64 K, .int .i64 M, .int .i64 B]] w fun e w' => e = .returned (.bool false) ∧ Below w.heap.size w w' := by
  go_enter Try.func43, Try.ntmps43
  go_wp2
  go_ret
  exact ⟨by first | rfl | (refine ret_bool ?_; simp; omega), (Below.refl _ _).alloc (Nat.le_refl _) _⟩
theorem fits_6 (K M B : Int) (w : World) (h0 : 1 ≤ M) (h1 : M ≤ K) (h2 : K ≤ 255) (h3 : K + M ≤ 255) (h4 : 1 ≤ B) (h5 : B ≤ 65536) :
    Calls Try.prog 43 #[.agg #[.int .i64 K, .int .i64 M, .int .i64 B]] w fun e w' => e = .returned (.bool true) ∧ Below w.heap.size w w' := by
  go_enter Try.func43, Try.ntmps43
  go_wp2
  go_ret
  exact ⟨by first | rfl | (refine ret_bool ?_; simp; omega), (Below.refl _ _).alloc (Nat.le_refl _) _⟩
theorem fits_yes (K M B : Int) (w : World) (h : MayS K M B) :
    Calls Try.prog 43 #[.agg #[.int .i64 K, .int .i64 M, .int .i64 B]] w fun e w' => e = .returned (.bool true) ∧ Below w.heap.size w w' :=
  fits_6 K M B w h.1 h.2.1 h.2.2.1 h.2.2.2.1 h.2.2.2.2.1 h.2.2.2.2.2
theorem fits_no (K M B : Int) (w : World) (h : ¬ MayS K M B) :
    Calls Try.prog 43 #[.agg #[.int .i64 K, .int .i64 M, .int .i64 B]] w fun e w' => e = .returned (.bool false) ∧ Below w.heap.size w w' := by
  unfold MayS at h
  by_cases h0 : 1 ≤ M
  · by_cases h1 : M ≤ K
    · by_cases h2 : K ≤ 255
      · by_cases h3 : K + M ≤ 255
        · by_cases h4 : 1 ≤ B
          · exact fits_5 K M B w h0 h1 h2 h3 h4 (by omega)
          · exact fits_4 K M B w h0 h1 h2 h3 (by omega)
        · exact fits_3 K M B w h0 h1 h2 (by omega)
      · exact fits_2 K M B w h0 h1 (by omega)
    · exact fits_1 K M B w h0 (by omega)
  · exact fits_0 K M B w (by omega)


/-- How many blocks an object of s bytes has, a stripe being S bytes. -/
def nblk (S s : Nat) : Nat := (s + S - 1) / S
/-- The length of the block j. -/
def blen (K B s j : Nat) : Nat := if j + 1 = nblk (K * B) s ∧ 0 < s % (K * B) then (s % (K * B) + K - 1) / K else B
/-- What frame.fits answers, of a shape that may be. -/
def fitE (K B : Nat) (s : Int) : Int := if s < 0 then 2 else if 1048576 < s ∨ 4096 < nblk (K * B) s.toNat then 3 else 0

theorem nblk_le {S s : Nat} (hS : 1 ≤ S) : nblk S s ≤ s := by
  unfold nblk
  rcases Nat.eq_zero_or_pos s with rfl | hs
  · rw [Nat.div_eq_of_lt (by omega)]; omega
  · have h : s + S - 1 < (s + 1) * S := by
      have : s ≤ s * S := Nat.le_mul_of_pos_right s (by omega)
      rw [Nat.add_mul]; omega
    have := (Nat.div_lt_iff_lt_mul (by omega)).2 h
    omega

set_option maxHeartbeats 400000 in
theorem ffits_any (K M B : Nat) (s : Int) (w : World) (h : MayS K M B) :
    Calls Try.prog 45 #[.agg #[.int .i64 K, .int .i64 M, .int .i64 B], .int .i64 s] w fun e w' => e = .returned (.int .i64 (fitE K B s)) ∧ Below w.heap.size w w' := by
  obtain ⟨a1, a2, a3, a4, a5, a6⟩ := h
  have hS : K * B ≤ 255 * 65536 := Nat.mul_le_mul (by omega) (by omega)
  have hS1 : 1 ≤ K * B := Nat.mul_pos (by omega) (by omega)
  have b1 : (K : Int) * (B : Int) ≤ 16711680 := by rw [← Int.natCast_mul]; omega
  have b0 : 1 ≤ (K : Int) * (B : Int) := by rw [← Int.natCast_mul]; omega
  by_cases c1 : s < 0
  · go_enter Try.func45, Try.ntmps45
    go_wp2
    go_ret
    exact ⟨ret_int (by unfold fitE; rw [if_pos (by omega)]), (Below.refl _ _).alloc (Nat.le_refl _) _⟩
  · by_cases c2 : 1048576 < s
    · go_enter Try.func45, Try.ntmps45
      go_wp2
      go_ret
      exact ⟨ret_int (by unfold fitE; rw [if_neg (by omega), if_pos (.inl (by omega))]), (Below.refl _ _).alloc (Nat.le_refl _) _⟩
    · obtain ⟨t, rfl⟩ := Int.eq_ofNat_of_zero_le (show 0 ≤ s by omega)
      have hq : ((t : Int) + (K : Int) * (B : Int) - 1) / ((K : Int) * (B : Int)) = (nblk (K * B) t : Nat) := by
        unfold nblk
        rw [show ((t : Int) + (K : Int) * (B : Int) - 1) = ((t + K * B - 1 : Nat) : Int) by rw [← Int.natCast_mul]; omega, ← Int.natCast_mul]
        rfl
      have hnb := nblk_le (S := K * B) (s := t) hS1
      by_cases c3 : 4096 < nblk (K * B) t
      · have d3 : (4096 : Int) < ((t : Int) + (K : Int) * (B : Int) - 1) / ((K : Int) * (B : Int)) := by rw [hq]; omega
        have HQ := Lib.hid hq; clear hq
        go_enter Try.func45, Try.ntmps45
        go_wp2
        go_ret
        exact ⟨ret_int (by unfold fitE; rw [if_neg (by omega), if_pos (.inr (by simpa using c3))]), (Below.refl _ _).alloc (Nat.le_refl _) _⟩
      · have d3 : ((t : Int) + (K : Int) * (B : Int) - 1) / ((K : Int) * (B : Int)) ≤ 4096 := by rw [hq]; omega
        have HQ := Lib.hid hq; clear hq
        go_enter Try.func45, Try.ntmps45
        go_wp2
        go_ret
        exact ⟨ret_int (by unfold fitE; rw [if_neg (by omega), if_neg (by simp; omega)]), (Below.refl _ _).alloc (Nat.le_refl _) _⟩
end Go.Proofs.Ytbioanbokbhmgaa
