/- StripeSizes: stripe.Blocks, the comparison of lists, the law's walk. Conditions: none. -/
import Derived.Test.YtjaaldandgfkgaaFCkp
namespace Go.Proofs.Ytjaaldandgfkgaa
open Go.RowKit

set_option maxHeartbeats 400000 in
theorem blocks_all (K M B s : Int) (w : World) :
    Calls Try.prog 16 #[.agg #[.int .i64 K, .int .i64 M, .int .i64 B], .int .i64 s] w fun e w' => ∃ v, e = .returned (.tuple #[v, .int .i64 (sizeE K M B s)]) ∧
      Own w' w.heap.size 3 1 v (sizeN K M B s) (fun j => [.int .i64 (blen K.toNat B.toNat s.toNat j)]) ∧ Below w.heap.size w w' := by
  go_enter Try.func16, Try.ntmps16
  go_wp2_with fail
  refine (fsizes_all K M B s _).mono ?_
  rintro e w1 ⟨v, rfl, hown, hb1⟩
  obtain ⟨A, c, rfl, _, _, _, _⟩ := hown.rd
  have hb : Below w.heap.size w w1 := ((Below.refl _ _).alloc (Nat.le_refl _) _).trans (hb1.mono (by simp))
  clear hb1
  go_wp2
  go_ret2
  exact ⟨_, rfl, hown.mono (by simp), hb⟩

set_option maxHeartbeats 400000 in
/-- sameNumbers, of the same numbers. -/
theorem sameNumbers_any (A1 A2 : Option Addr) (n c1 c2 : Nat) (g : Nat → Int) (w : World) (hn : n ≤ 1000000000000000) (h1 : Rd w A1 n fun i => .int .i64 (g i)) (h2 : Rd w A2 n fun i => .int .i64 (g i)) :
    Calls Try.prog 17 #[.slice A1 n c1, .slice A2 n c2] w fun e w' => e = .returned (.bool true) ∧ Dr w w' := by
  go_enter Try.func17, Try.ntmps17
  go_wp2
  go_loopg [5] n (fun gk i wr => ∃ k : Nat, k ≤ n ∧ gk = n - k ∧ i = .int .i64 k ∧ Dr w wr)
  case atStart => exact ⟨0, Nat.zero_le _, rfl, rfl, Dr.refl _⟩
  case round =>
    obtain ⟨k, hk, rfl, rfl, hw⟩ := hrel
    by_cases hlt : k < n
    · obtain ⟨b1, o1, rfl, _, hc1⟩ := hw.rd h1 k hlt
      obtain ⟨b2, o2, rfl, _, hc2⟩ := hw.rd h2 k hlt
      go_wp2
      go_quiet (fail)
      go_wp2
      go_roundg (n - (k + 1))
      case measure => omega
      case rel => exact ⟨k + 1, by omega, rfl, by go_num, hw.drewN _⟩
    · have : k = n := by omega
      subst this
      go_wp2
      go_ret
      exact ⟨rfl, hw⟩

set_option maxHeartbeats 400000 in
theorem lawSizes (K M B s : Int) (w : World) :
    Calls Try.prog 4 #[.agg #[.int .i64 K, .int .i64 M, .int .i64 B], .int .i64 s] w fun e w' => e = .returned (.bool true) ∧ Below w.heap.size w w' := by
  go_enter Try.func4, Try.ntmps4
  go_wp2_with fail
  refine (rsizes_all K M B s _).mono ?_
  rintro e w1 ⟨v, rfl, hown, hb1⟩
  obtain ⟨A, c, rfl, _, _, hr1, _⟩ := hown.rd
  have hb : Below w.heap.size w w1 := ((Below.refl _ _).alloc (Nat.le_refl _) _).trans (hb1.mono (by simp))
  have k1 : ∀ i, w1.cell? ⟨w.heap.size, i, none⟩ = (w.alloc (.cells #[.int .i64 K, .int .i64 M, .int .i64 B] 24)).cell? ⟨w.heap.size, i, none⟩ := fun i => hb1.cell (by simp)
  have c0 : w1.cell? ⟨w.heap.size, 0, none⟩ = some (.int .i64 K) := by rw [k1]; go_simp
  have c1 : w1.cell? ⟨w.heap.size, 1, none⟩ = some (.int .i64 M) := by rw [k1]; go_simp
  have c2 : w1.cell? ⟨w.heap.size, 2, none⟩ = some (.int .i64 B) := by rw [k1]; go_simp
  have hz1 : w.heap.size + 1 ≤ w1.heap.size := by have := hb1.size; simpa using this
  clear hb1 hown k1
  go_wp2_with fail
  refine (blocks_all K M B s _).mono ?_
  rintro e w2 ⟨v, rfl, hown2, hb2⟩
  obtain ⟨A2, c2', rfl, _, _, hr2, _⟩ := hown2.rd
  have hr1' := hr1.below hb2
  have hbF := hb.trans (hb2.mono (by omega))
  have hle := sizeN_le K M B s
  clear hb2 hown2 hr1 hb c0 c1 c2
  go_wp2_with fail
  refine (sameNumbers_any _ _ _ _ _ _ _ (by omega) hr2 hr1').mono ?_
  rintro e w3 ⟨rfl, hd⟩
  go_wp2
  go_ret
  exact ⟨rfl, hd.below' hbF⟩
end Go.Proofs.Ytjaaldandgfkgaa
