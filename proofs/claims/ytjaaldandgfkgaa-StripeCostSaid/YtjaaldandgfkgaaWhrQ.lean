/- StripeWheres: where a range lies, the program's answer and the document's; the law's walk. Conditions: none. -/
import Derived.Test.YtjaaldandgfkgaaSizQ
namespace Go.Proofs.Ytjaaldandgfkgaa
open Go.RowKit

theorem results_tmp4 {fn : Func} {t u v x : Tmp} (h : fn.results = #[.tmp t, .tmp u, .tmp v, .tmp x]) (tmps : Array Value) (P : Program) (w : World) :
    (results fn tmps).run P w = .ok (.tuple #[tmps.getD t undef, tmps.getD u undef, tmps.getD v undef, tmps.getD x undef]) w := by simp [results, h]
theorem ret4 {a b c d a' b' c' d' : Int} (h1 : a = a') (h2 : b = b') (h3 : c = c') (h4 : d = d') : Ending.returned (.tuple #[.int .i64 a, .int .i64 b, .int .i64 c, .int .i64 d]) = .returned (.tuple #[.int .i64 a', .int .i64 b', .int .i64 c', .int .i64 d']) := by rw [h1, h2, h3, h4]
theorem below_drewN' {B : Nat} {a w : World} (h : Below B a w) (n : Nat) : Below B a (w.drewN n) := ⟨h.os, h.tape, h.output, h.size, h.block⟩
theorem ceil_last {e S : Nat} (hS : 1 ≤ S) (he : 1 ≤ e) : (e + S - 1) / S = (e - 1) / S + 1 := by
  rw [show e + S - 1 = (e - 1) + S by omega, Nat.add_div_right _ (by omega)]

theorem rwhere_err (K M B s off n : Int) (w : World) (hE : sizeE K M B s ≠ 0) :
    Calls Try.prog 18 #[.agg #[.int .i64 K, .int .i64 M, .int .i64 B], .int .i64 s, .int .i64 off, .int .i64 n] w fun e w' => e = .returned (.tuple #[.int .i64 0, .int .i64 0, .int .i64 0, .int .i64 (sizeE K M B s)]) ∧ Below w.heap.size w w' := by
  have hne : (sizeE K M B s == 0) = false := by simpa using hE
  have hne' : (sizeE K M B s != 0) = true := by simpa using hE
  go_enter Try.func18, Try.ntmps18
  go_wp2_with fail
  refine (rsizes_all K M B s _).mono ?_
  rintro e w1 ⟨v, rfl, hown, hb1⟩
  obtain ⟨A, c, rfl, _, _, _, _⟩ := hown.rd
  have hb : Below w.heap.size w w1 := ((Below.refl _ _).alloc (Nat.le_refl _) _).trans (hb1.mono (by simp))
  have k1 : ∀ i, w1.cell? ⟨w.heap.size, i, none⟩ = (w.alloc (.cells #[.int .i64 K, .int .i64 M, .int .i64 B] 24)).cell? ⟨w.heap.size, i, none⟩ := fun i => hb1.cell (by simp)
  have c0 : w1.cell? ⟨w.heap.size, 0, none⟩ = some (.int .i64 K) := by rw [k1]; go_simp
  have c2 : w1.cell? ⟨w.heap.size, 2, none⟩ = some (.int .i64 B) := by rw [k1]; go_simp
  clear hb1 hown k1
  go_wp2
  refine bodyPost_ret (results_tmp4 rfl _ _ _) rfl ?_
  exact ⟨rfl, hb⟩
theorem rwhere_arg1 (K M B s off n : Int) (w : World) (hE : sizeE K M B s = 0) (h1 : off < 0) :
    Calls Try.prog 18 #[.agg #[.int .i64 K, .int .i64 M, .int .i64 B], .int .i64 s, .int .i64 off, .int .i64 n] w fun e w' => e = .returned (.tuple #[.int .i64 0, .int .i64 0, .int .i64 0, .int .i64 2]) ∧ Below w.heap.size w w' := by
  have HE := Lib.hid hE; clear hE
  go_enter Try.func18, Try.ntmps18
  go_wp2_with fail
  refine (rsizes_all K M B s _).mono ?_
  rintro e w1 ⟨v, rfl, hown, hb1⟩
  obtain ⟨A, c, rfl, _, _, _, _⟩ := hown.rd
  have hb : Below w.heap.size w w1 := ((Below.refl _ _).alloc (Nat.le_refl _) _).trans (hb1.mono (by simp))
  have k1 : ∀ i, w1.cell? ⟨w.heap.size, i, none⟩ = (w.alloc (.cells #[.int .i64 K, .int .i64 M, .int .i64 B] 24)).cell? ⟨w.heap.size, i, none⟩ := fun i => hb1.cell (by simp)
  have c0 : w1.cell? ⟨w.heap.size, 0, none⟩ = some (.int .i64 K) := by rw [k1]; go_simp
  have c2 : w1.cell? ⟨w.heap.size, 2, none⟩ = some (.int .i64 B) := by rw [k1]; go_simp
  clear hb1 hown k1
  rw [HE.out]
  go_wp2
  refine bodyPost_ret (results_tmp4 rfl _ _ _) rfl ?_
  exact ⟨rfl, hb⟩
theorem rwhere_arg2 (K M B s off n : Int) (w : World) (hE : sizeE K M B s = 0) (h1 : 0 ≤ off) (h2 : n < 0) :
    Calls Try.prog 18 #[.agg #[.int .i64 K, .int .i64 M, .int .i64 B], .int .i64 s, .int .i64 off, .int .i64 n] w fun e w' => e = .returned (.tuple #[.int .i64 0, .int .i64 0, .int .i64 0, .int .i64 2]) ∧ Below w.heap.size w w' := by
  have HE := Lib.hid hE; clear hE
  go_enter Try.func18, Try.ntmps18
  go_wp2_with fail
  refine (rsizes_all K M B s _).mono ?_
  rintro e w1 ⟨v, rfl, hown, hb1⟩
  obtain ⟨A, c, rfl, _, _, _, _⟩ := hown.rd
  have hb : Below w.heap.size w w1 := ((Below.refl _ _).alloc (Nat.le_refl _) _).trans (hb1.mono (by simp))
  have k1 : ∀ i, w1.cell? ⟨w.heap.size, i, none⟩ = (w.alloc (.cells #[.int .i64 K, .int .i64 M, .int .i64 B] 24)).cell? ⟨w.heap.size, i, none⟩ := fun i => hb1.cell (by simp)
  have c0 : w1.cell? ⟨w.heap.size, 0, none⟩ = some (.int .i64 K) := by rw [k1]; go_simp
  have c2 : w1.cell? ⟨w.heap.size, 2, none⟩ = some (.int .i64 B) := by rw [k1]; go_simp
  clear hb1 hown k1
  rw [HE.out]
  go_wp2
  refine bodyPost_ret (results_tmp4 rfl _ _ _) rfl ?_
  exact ⟨rfl, hb⟩
theorem rwhere_none1 (K M B s off n : Int) (w : World) (hE : sizeE K M B s = 0) (h1 : 0 ≤ off) (h2 : n = 0) :
    Calls Try.prog 18 #[.agg #[.int .i64 K, .int .i64 M, .int .i64 B], .int .i64 s, .int .i64 off, .int .i64 n] w fun e w' => e = .returned (.tuple #[.int .i64 0, .int .i64 0, .int .i64 0, .int .i64 0]) ∧ Below w.heap.size w w' := by
  subst h2
  have HE := Lib.hid hE; clear hE
  go_enter Try.func18, Try.ntmps18
  go_wp2_with fail
  refine (rsizes_all K M B s _).mono ?_
  rintro e w1 ⟨v, rfl, hown, hb1⟩
  obtain ⟨A, c, rfl, _, _, _, _⟩ := hown.rd
  have hb : Below w.heap.size w w1 := ((Below.refl _ _).alloc (Nat.le_refl _) _).trans (hb1.mono (by simp))
  have k1 : ∀ i, w1.cell? ⟨w.heap.size, i, none⟩ = (w.alloc (.cells #[.int .i64 K, .int .i64 M, .int .i64 B] 24)).cell? ⟨w.heap.size, i, none⟩ := fun i => hb1.cell (by simp)
  have c0 : w1.cell? ⟨w.heap.size, 0, none⟩ = some (.int .i64 K) := by rw [k1]; go_simp
  have c2 : w1.cell? ⟨w.heap.size, 2, none⟩ = some (.int .i64 B) := by rw [k1]; go_simp
  clear hb1 hown k1
  rw [HE.out]
  go_wp2
  refine bodyPost_ret (results_tmp4 rfl _ _ _) rfl ?_
  exact ⟨rfl, hb⟩
theorem rwhere_none2 (K M B s off n : Int) (w : World) (hE : sizeE K M B s = 0) (h1 : 0 ≤ off) (h2 : 0 < n) (h3 : s ≤ off) :
    Calls Try.prog 18 #[.agg #[.int .i64 K, .int .i64 M, .int .i64 B], .int .i64 s, .int .i64 off, .int .i64 n] w fun e w' => e = .returned (.tuple #[.int .i64 0, .int .i64 0, .int .i64 0, .int .i64 0]) ∧ Below w.heap.size w w' := by
  have HE := Lib.hid hE; clear hE
  go_enter Try.func18, Try.ntmps18
  go_wp2_with fail
  refine (rsizes_all K M B s _).mono ?_
  rintro e w1 ⟨v, rfl, hown, hb1⟩
  obtain ⟨A, c, rfl, _, _, _, _⟩ := hown.rd
  have hb : Below w.heap.size w w1 := ((Below.refl _ _).alloc (Nat.le_refl _) _).trans (hb1.mono (by simp))
  have k1 : ∀ i, w1.cell? ⟨w.heap.size, i, none⟩ = (w.alloc (.cells #[.int .i64 K, .int .i64 M, .int .i64 B] 24)).cell? ⟨w.heap.size, i, none⟩ := fun i => hb1.cell (by simp)
  have c0 : w1.cell? ⟨w.heap.size, 0, none⟩ = some (.int .i64 K) := by rw [k1]; go_simp
  have c2 : w1.cell? ⟨w.heap.size, 2, none⟩ = some (.int .i64 B) := by rw [k1]; go_simp
  clear hb1 hown k1
  rw [HE.out]
  go_wp2
  refine bodyPost_ret (results_tmp4 rfl _ _ _) rfl ?_
  exact ⟨rfl, hb⟩
set_option maxHeartbeats 1000000 in
theorem rwhere_in (K M B s off n : Nat) (w : World) (hE : sizeE K M B s = 0) (h2 : 0 < n) (h3 : off < s) (h5 : (n : Int) < (s : Int) - (off : Int)) (hn : n ≤ 9223372036854775807) :
    Calls Try.prog 18 #[.agg #[.int .i64 K, .int .i64 M, .int .i64 B], .int .i64 s, .int .i64 off, .int .i64 n] w fun e w' =>
      e = .returned (.tuple #[.int .i64 (off / (K * B) : Nat), .int .i64 (((off + n) - 1) / (K * B) + 1 : Nat), .int .i64 (off % (K * B) : Nat), .int .i64 0]) ∧ Below w.heap.size w w' := by
  obtain ⟨hs0, hs1, hm⟩ := size_facts hE
  obtain ⟨a1, a2, a3, a4, a5, a6⟩ := hm
  have hS : K * B ≤ 255 * 65536 := Nat.mul_le_mul (by omega) (by omega)
  have hS1 : 1 ≤ K * B := Nat.mul_pos (by omega) (by omega)
  obtain ⟨S, hSd⟩ : ∃ S, S = K * B := ⟨_, rfl⟩
  rw [← hSd] at hS hS1 ⊢
  have hKB : (K : Int) * (B : Int) = (S : Int) := by rw [hSd, Int.natCast_mul]
  have HS := Lib.hid hSd; clear hSd
  have HE := Lib.hid hE; clear hE
  have f1 : ((n : Int) == 0) = false := by rw [beq_eq_false_iff_ne]; omega
  have f2 : decide (s ≤ off) = false := by simp; omega
  have f3 : decide ((off : Int) < 0) = false := by simp
  have f4 : decide ((n : Int) < 0) = false := by simp
  have b0 : 1 ≤ (S : Int) := by omega
  have b1 : (S : Int) ≤ 16711680 := by omega
  have q1 : (off : Int) / (S : Int) ≤ off := Int.ediv_le_self _ (by omega)
  have q0 : 0 ≤ (off : Int) / (S : Int) := Int.ediv_nonneg (by omega) (by omega)
  have q3 : ((off : Int) + (n : Int) - 1) / (S : Int) ≤ ((off : Int) + (n : Int) - 1) := Int.ediv_le_self _ (by omega)
  have q2 : 0 ≤ ((off : Int) + (n : Int) - 1) / (S : Int) := Int.ediv_nonneg (by omega) (by omega)
  go_enter Try.func18, Try.ntmps18
  go_wp2_with fail
  refine (rsizes_all K M B s _).mono ?_
  rintro e w1 ⟨v, rfl, hown, hb1⟩
  obtain ⟨A, c, rfl, _, _, _, _⟩ := hown.rd
  have hb : Below w.heap.size w w1 := ((Below.refl _ _).alloc (Nat.le_refl _) _).trans (hb1.mono (by simp))
  have k1 : ∀ i, w1.cell? ⟨w.heap.size, i, none⟩ = (w.alloc (.cells #[.int .i64 K, .int .i64 M, .int .i64 B] 24)).cell? ⟨w.heap.size, i, none⟩ := fun i => hb1.cell (by simp)
  have c0 : w1.cell? ⟨w.heap.size, 0, none⟩ = some (.int .i64 K) := by rw [k1]; go_simp
  have c2 : w1.cell? ⟨w.heap.size, 2, none⟩ = some (.int .i64 B) := by rw [k1]; go_simp
  clear hb1 hown k1
  rw [HE.out]
  go_wp2
  go_quiet (fail)
  go_wp2
  refine bodyPost_ret (results_tmp4 rfl _ _ _) rfl ?_
  refine ⟨ret4 rfl ?_ rfl rfl, below_drewN' hb _⟩
  rw [show ((off : Int) + (n : Int) - 1) = (((off + n) - 1 : Nat) : Int) by omega]
  rfl
set_option maxHeartbeats 1000000 in
theorem rwhere_end (K M B s off n : Nat) (w : World) (hE : sizeE K M B s = 0) (h2 : 0 < n) (h3 : off < s) (h5 : (s : Int) - (off : Int) ≤ (n : Int)) (hn : n ≤ 9223372036854775807) :
    Calls Try.prog 18 #[.agg #[.int .i64 K, .int .i64 M, .int .i64 B], .int .i64 s, .int .i64 off, .int .i64 n] w fun e w' =>
      e = .returned (.tuple #[.int .i64 (off / (K * B) : Nat), .int .i64 ((s - 1) / (K * B) + 1 : Nat), .int .i64 (off % (K * B) : Nat), .int .i64 0]) ∧ Below w.heap.size w w' := by
  obtain ⟨hs0, hs1, hm⟩ := size_facts hE
  obtain ⟨a1, a2, a3, a4, a5, a6⟩ := hm
  have hS : K * B ≤ 255 * 65536 := Nat.mul_le_mul (by omega) (by omega)
  have hS1 : 1 ≤ K * B := Nat.mul_pos (by omega) (by omega)
  obtain ⟨S, hSd⟩ : ∃ S, S = K * B := ⟨_, rfl⟩
  rw [← hSd] at hS hS1 ⊢
  have hKB : (K : Int) * (B : Int) = (S : Int) := by rw [hSd, Int.natCast_mul]
  have HS := Lib.hid hSd; clear hSd
  have HE := Lib.hid hE; clear hE
  have f1 : ((n : Int) == 0) = false := by rw [beq_eq_false_iff_ne]; omega
  have f2 : decide (s ≤ off) = false := by simp; omega
  have f3 : decide ((off : Int) < 0) = false := by simp
  have f4 : decide ((n : Int) < 0) = false := by simp
  have b0 : 1 ≤ (S : Int) := by omega
  have b1 : (S : Int) ≤ 16711680 := by omega
  have q1 : (off : Int) / (S : Int) ≤ off := Int.ediv_le_self _ (by omega)
  have q0 : 0 ≤ (off : Int) / (S : Int) := Int.ediv_nonneg (by omega) (by omega)
  have q3 : ((s : Int) - 1) / (S : Int) ≤ ((s : Int) - 1) := Int.ediv_le_self _ (by omega)
  have q2 : 0 ≤ ((s : Int) - 1) / (S : Int) := Int.ediv_nonneg (by omega) (by omega)
  go_enter Try.func18, Try.ntmps18
  go_wp2_with fail
  refine (rsizes_all K M B s _).mono ?_
  rintro e w1 ⟨v, rfl, hown, hb1⟩
  obtain ⟨A, c, rfl, _, _, _, _⟩ := hown.rd
  have hb : Below w.heap.size w w1 := ((Below.refl _ _).alloc (Nat.le_refl _) _).trans (hb1.mono (by simp))
  have k1 : ∀ i, w1.cell? ⟨w.heap.size, i, none⟩ = (w.alloc (.cells #[.int .i64 K, .int .i64 M, .int .i64 B] 24)).cell? ⟨w.heap.size, i, none⟩ := fun i => hb1.cell (by simp)
  have c0 : w1.cell? ⟨w.heap.size, 0, none⟩ = some (.int .i64 K) := by rw [k1]; go_simp
  have c2 : w1.cell? ⟨w.heap.size, 2, none⟩ = some (.int .i64 B) := by rw [k1]; go_simp
  clear hb1 hown k1
  rw [HE.out]
  go_wp2
  go_quiet (fail)
  go_wp2
  refine bodyPost_ret (results_tmp4 rfl _ _ _) rfl ?_
  refine ⟨ret4 rfl ?_ rfl rfl, below_drewN' hb _⟩
  rw [show ((s : Int) - 1) = ((s - 1 : Nat) : Int) by omega]
  rfl
theorem fwhere_err (K M B s off n : Int) (w : World) (hE : sizeE K M B s ≠ 0) :
    Calls Try.prog 19 #[.agg #[.int .i64 K, .int .i64 M, .int .i64 B], .int .i64 s, .int .i64 off, .int .i64 n] w fun e w' => e = .returned (.tuple #[.int .i64 0, .int .i64 0, .int .i64 0, .int .i64 (sizeE K M B s)]) ∧ Below w.heap.size w w' := by
  have hne : (sizeE K M B s == 0) = false := by simpa using hE
  have hne' : (sizeE K M B s != 0) = true := by simpa using hE
  go_enter Try.func19, Try.ntmps19
  go_wp2_with fail
  refine (fsizes_all K M B s _).mono ?_
  rintro e w1 ⟨v, rfl, hown, hb1⟩
  obtain ⟨A, c, rfl, _, _, _, _⟩ := hown.rd
  have hb : Below w.heap.size w w1 := ((Below.refl _ _).alloc (Nat.le_refl _) _).trans (hb1.mono (by simp))
  have k1 : ∀ i, w1.cell? ⟨w.heap.size, i, none⟩ = (w.alloc (.cells #[.int .i64 K, .int .i64 M, .int .i64 B] 24)).cell? ⟨w.heap.size, i, none⟩ := fun i => hb1.cell (by simp)
  have c0 : w1.cell? ⟨w.heap.size, 0, none⟩ = some (.int .i64 K) := by rw [k1]; go_simp
  have c2 : w1.cell? ⟨w.heap.size, 2, none⟩ = some (.int .i64 B) := by rw [k1]; go_simp
  clear hb1 hown k1
  go_wp2
  refine bodyPost_ret (results_tmp4 rfl _ _ _) rfl ?_
  exact ⟨rfl, hb⟩
theorem fwhere_arg1 (K M B s off n : Int) (w : World) (hE : sizeE K M B s = 0) (h1 : off < 0) :
    Calls Try.prog 19 #[.agg #[.int .i64 K, .int .i64 M, .int .i64 B], .int .i64 s, .int .i64 off, .int .i64 n] w fun e w' => e = .returned (.tuple #[.int .i64 0, .int .i64 0, .int .i64 0, .int .i64 2]) ∧ Below w.heap.size w w' := by
  have HE := Lib.hid hE; clear hE
  go_enter Try.func19, Try.ntmps19
  go_wp2_with fail
  refine (fsizes_all K M B s _).mono ?_
  rintro e w1 ⟨v, rfl, hown, hb1⟩
  obtain ⟨A, c, rfl, _, _, _, _⟩ := hown.rd
  have hb : Below w.heap.size w w1 := ((Below.refl _ _).alloc (Nat.le_refl _) _).trans (hb1.mono (by simp))
  have k1 : ∀ i, w1.cell? ⟨w.heap.size, i, none⟩ = (w.alloc (.cells #[.int .i64 K, .int .i64 M, .int .i64 B] 24)).cell? ⟨w.heap.size, i, none⟩ := fun i => hb1.cell (by simp)
  have c0 : w1.cell? ⟨w.heap.size, 0, none⟩ = some (.int .i64 K) := by rw [k1]; go_simp
  have c2 : w1.cell? ⟨w.heap.size, 2, none⟩ = some (.int .i64 B) := by rw [k1]; go_simp
  clear hb1 hown k1
  rw [HE.out]
  go_wp2
  refine bodyPost_ret (results_tmp4 rfl _ _ _) rfl ?_
  exact ⟨rfl, hb⟩
theorem fwhere_arg2 (K M B s off n : Int) (w : World) (hE : sizeE K M B s = 0) (h1 : 0 ≤ off) (h2 : n < 0) :
    Calls Try.prog 19 #[.agg #[.int .i64 K, .int .i64 M, .int .i64 B], .int .i64 s, .int .i64 off, .int .i64 n] w fun e w' => e = .returned (.tuple #[.int .i64 0, .int .i64 0, .int .i64 0, .int .i64 2]) ∧ Below w.heap.size w w' := by
  have HE := Lib.hid hE; clear hE
  go_enter Try.func19, Try.ntmps19
  go_wp2_with fail
  refine (fsizes_all K M B s _).mono ?_
  rintro e w1 ⟨v, rfl, hown, hb1⟩
  obtain ⟨A, c, rfl, _, _, _, _⟩ := hown.rd
  have hb : Below w.heap.size w w1 := ((Below.refl _ _).alloc (Nat.le_refl _) _).trans (hb1.mono (by simp))
  have k1 : ∀ i, w1.cell? ⟨w.heap.size, i, none⟩ = (w.alloc (.cells #[.int .i64 K, .int .i64 M, .int .i64 B] 24)).cell? ⟨w.heap.size, i, none⟩ := fun i => hb1.cell (by simp)
  have c0 : w1.cell? ⟨w.heap.size, 0, none⟩ = some (.int .i64 K) := by rw [k1]; go_simp
  have c2 : w1.cell? ⟨w.heap.size, 2, none⟩ = some (.int .i64 B) := by rw [k1]; go_simp
  clear hb1 hown k1
  rw [HE.out]
  go_wp2
  refine bodyPost_ret (results_tmp4 rfl _ _ _) rfl ?_
  exact ⟨rfl, hb⟩
theorem fwhere_none1 (K M B s off n : Int) (w : World) (hE : sizeE K M B s = 0) (h1 : 0 ≤ off) (h2 : n = 0) :
    Calls Try.prog 19 #[.agg #[.int .i64 K, .int .i64 M, .int .i64 B], .int .i64 s, .int .i64 off, .int .i64 n] w fun e w' => e = .returned (.tuple #[.int .i64 0, .int .i64 0, .int .i64 0, .int .i64 0]) ∧ Below w.heap.size w w' := by
  subst h2
  have HE := Lib.hid hE; clear hE
  go_enter Try.func19, Try.ntmps19
  go_wp2_with fail
  refine (fsizes_all K M B s _).mono ?_
  rintro e w1 ⟨v, rfl, hown, hb1⟩
  obtain ⟨A, c, rfl, _, _, _, _⟩ := hown.rd
  have hb : Below w.heap.size w w1 := ((Below.refl _ _).alloc (Nat.le_refl _) _).trans (hb1.mono (by simp))
  have k1 : ∀ i, w1.cell? ⟨w.heap.size, i, none⟩ = (w.alloc (.cells #[.int .i64 K, .int .i64 M, .int .i64 B] 24)).cell? ⟨w.heap.size, i, none⟩ := fun i => hb1.cell (by simp)
  have c0 : w1.cell? ⟨w.heap.size, 0, none⟩ = some (.int .i64 K) := by rw [k1]; go_simp
  have c2 : w1.cell? ⟨w.heap.size, 2, none⟩ = some (.int .i64 B) := by rw [k1]; go_simp
  clear hb1 hown k1
  rw [HE.out]
  go_wp2
  refine bodyPost_ret (results_tmp4 rfl _ _ _) rfl ?_
  exact ⟨rfl, hb⟩
theorem fwhere_none2 (K M B s off n : Int) (w : World) (hE : sizeE K M B s = 0) (h1 : 0 ≤ off) (h2 : 0 < n) (h3 : s ≤ off) :
    Calls Try.prog 19 #[.agg #[.int .i64 K, .int .i64 M, .int .i64 B], .int .i64 s, .int .i64 off, .int .i64 n] w fun e w' => e = .returned (.tuple #[.int .i64 0, .int .i64 0, .int .i64 0, .int .i64 0]) ∧ Below w.heap.size w w' := by
  have HE := Lib.hid hE; clear hE
  go_enter Try.func19, Try.ntmps19
  go_wp2_with fail
  refine (fsizes_all K M B s _).mono ?_
  rintro e w1 ⟨v, rfl, hown, hb1⟩
  obtain ⟨A, c, rfl, _, _, _, _⟩ := hown.rd
  have hb : Below w.heap.size w w1 := ((Below.refl _ _).alloc (Nat.le_refl _) _).trans (hb1.mono (by simp))
  have k1 : ∀ i, w1.cell? ⟨w.heap.size, i, none⟩ = (w.alloc (.cells #[.int .i64 K, .int .i64 M, .int .i64 B] 24)).cell? ⟨w.heap.size, i, none⟩ := fun i => hb1.cell (by simp)
  have c0 : w1.cell? ⟨w.heap.size, 0, none⟩ = some (.int .i64 K) := by rw [k1]; go_simp
  have c2 : w1.cell? ⟨w.heap.size, 2, none⟩ = some (.int .i64 B) := by rw [k1]; go_simp
  clear hb1 hown k1
  rw [HE.out]
  go_wp2
  refine bodyPost_ret (results_tmp4 rfl _ _ _) rfl ?_
  exact ⟨rfl, hb⟩
set_option maxHeartbeats 1000000 in
theorem fwhere_in (K M B s off n : Nat) (w : World) (hE : sizeE K M B s = 0) (h2 : 0 < n) (h3 : off < s) (h5 : (n : Int) < (s : Int) - (off : Int)) (hn : n ≤ 9223372036854775807) :
    Calls Try.prog 19 #[.agg #[.int .i64 K, .int .i64 M, .int .i64 B], .int .i64 s, .int .i64 off, .int .i64 n] w fun e w' =>
      e = .returned (.tuple #[.int .i64 (off / (K * B) : Nat), .int .i64 (((off + n) - 1) / (K * B) + 1 : Nat), .int .i64 (off % (K * B) : Nat), .int .i64 0]) ∧ Below w.heap.size w w' := by
  obtain ⟨hs0, hs1, hm⟩ := size_facts hE
  obtain ⟨a1, a2, a3, a4, a5, a6⟩ := hm
  have hS : K * B ≤ 255 * 65536 := Nat.mul_le_mul (by omega) (by omega)
  have hS1 : 1 ≤ K * B := Nat.mul_pos (by omega) (by omega)
  obtain ⟨S, hSd⟩ : ∃ S, S = K * B := ⟨_, rfl⟩
  rw [← hSd] at hS hS1 ⊢
  have hKB : (K : Int) * (B : Int) = (S : Int) := by rw [hSd, Int.natCast_mul]
  have HS := Lib.hid hSd; clear hSd
  have HE := Lib.hid hE; clear hE
  have f1 : ((n : Int) == 0) = false := by rw [beq_eq_false_iff_ne]; omega
  have f2 : decide (s ≤ off) = false := by simp; omega
  have f3 : decide ((off : Int) < 0) = false := by simp
  have f4 : decide ((n : Int) < 0) = false := by simp
  have b0 : 1 ≤ (S : Int) := by omega
  have b1 : (S : Int) ≤ 16711680 := by omega
  have q1 : (off : Int) / (S : Int) ≤ off := Int.ediv_le_self _ (by omega)
  have q0 : 0 ≤ (off : Int) / (S : Int) := Int.ediv_nonneg (by omega) (by omega)
  go_enter Try.func19, Try.ntmps19
  go_wp2_with fail
  refine (fsizes_all K M B s _).mono ?_
  rintro e w1 ⟨v, rfl, hown, hb1⟩
  obtain ⟨A, c, rfl, _, _, _, _⟩ := hown.rd
  have hb : Below w.heap.size w w1 := ((Below.refl _ _).alloc (Nat.le_refl _) _).trans (hb1.mono (by simp))
  have k1 : ∀ i, w1.cell? ⟨w.heap.size, i, none⟩ = (w.alloc (.cells #[.int .i64 K, .int .i64 M, .int .i64 B] 24)).cell? ⟨w.heap.size, i, none⟩ := fun i => hb1.cell (by simp)
  have c0 : w1.cell? ⟨w.heap.size, 0, none⟩ = some (.int .i64 K) := by rw [k1]; go_simp
  have c2 : w1.cell? ⟨w.heap.size, 2, none⟩ = some (.int .i64 B) := by rw [k1]; go_simp
  clear hb1 hown k1
  rw [HE.out]
  go_wp2
  go_region
  all_goals go_wp2
  all_goals go_quiet (fail)
  all_goals go_wp2
  all_goals refine bodyPost_ret (results_tmp4 rfl _ _ _) rfl ?_
  all_goals refine ⟨ret4 rfl ?_ rfl rfl, below_drewN' hb.drew _⟩
  all_goals rw [← ceil_last (e := (off + n)) (by omega) (by omega)]
  all_goals first
    | (rw [show ((off : Int) + (n : Int) + (S : Int) - 1) = (((off + n) + S - 1 : Nat) : Int) by omega]; rfl)
    | (rw [show ((off : Int) + ((s : Int) - (off : Int)) + (S : Int) - 1) = (((off + n) + S - 1 : Nat) : Int) by omega]; rfl)
set_option maxHeartbeats 1000000 in
theorem fwhere_end (K M B s off n : Nat) (w : World) (hE : sizeE K M B s = 0) (h2 : 0 < n) (h3 : off < s) (h5 : (s : Int) - (off : Int) ≤ (n : Int)) (hn : n ≤ 9223372036854775807) :
    Calls Try.prog 19 #[.agg #[.int .i64 K, .int .i64 M, .int .i64 B], .int .i64 s, .int .i64 off, .int .i64 n] w fun e w' =>
      e = .returned (.tuple #[.int .i64 (off / (K * B) : Nat), .int .i64 ((s - 1) / (K * B) + 1 : Nat), .int .i64 (off % (K * B) : Nat), .int .i64 0]) ∧ Below w.heap.size w w' := by
  obtain ⟨hs0, hs1, hm⟩ := size_facts hE
  obtain ⟨a1, a2, a3, a4, a5, a6⟩ := hm
  have hS : K * B ≤ 255 * 65536 := Nat.mul_le_mul (by omega) (by omega)
  have hS1 : 1 ≤ K * B := Nat.mul_pos (by omega) (by omega)
  obtain ⟨S, hSd⟩ : ∃ S, S = K * B := ⟨_, rfl⟩
  rw [← hSd] at hS hS1 ⊢
  have hKB : (K : Int) * (B : Int) = (S : Int) := by rw [hSd, Int.natCast_mul]
  have HS := Lib.hid hSd; clear hSd
  have HE := Lib.hid hE; clear hE
  have f1 : ((n : Int) == 0) = false := by rw [beq_eq_false_iff_ne]; omega
  have f2 : decide (s ≤ off) = false := by simp; omega
  have f3 : decide ((off : Int) < 0) = false := by simp
  have f4 : decide ((n : Int) < 0) = false := by simp
  have b0 : 1 ≤ (S : Int) := by omega
  have b1 : (S : Int) ≤ 16711680 := by omega
  have q1 : (off : Int) / (S : Int) ≤ off := Int.ediv_le_self _ (by omega)
  have q0 : 0 ≤ (off : Int) / (S : Int) := Int.ediv_nonneg (by omega) (by omega)
  go_enter Try.func19, Try.ntmps19
  go_wp2_with fail
  refine (fsizes_all K M B s _).mono ?_
  rintro e w1 ⟨v, rfl, hown, hb1⟩
  obtain ⟨A, c, rfl, _, _, _, _⟩ := hown.rd
  have hb : Below w.heap.size w w1 := ((Below.refl _ _).alloc (Nat.le_refl _) _).trans (hb1.mono (by simp))
  have k1 : ∀ i, w1.cell? ⟨w.heap.size, i, none⟩ = (w.alloc (.cells #[.int .i64 K, .int .i64 M, .int .i64 B] 24)).cell? ⟨w.heap.size, i, none⟩ := fun i => hb1.cell (by simp)
  have c0 : w1.cell? ⟨w.heap.size, 0, none⟩ = some (.int .i64 K) := by rw [k1]; go_simp
  have c2 : w1.cell? ⟨w.heap.size, 2, none⟩ = some (.int .i64 B) := by rw [k1]; go_simp
  clear hb1 hown k1
  rw [HE.out]
  go_wp2
  go_region
  all_goals go_wp2
  all_goals go_quiet (fail)
  all_goals go_wp2
  all_goals refine bodyPost_ret (results_tmp4 rfl _ _ _) rfl ?_
  all_goals refine ⟨ret4 rfl ?_ rfl rfl, below_drewN' hb.drew _⟩
  all_goals rw [← ceil_last (e := s) (by omega) (by omega)]
  all_goals first
    | (rw [show ((off : Int) + (n : Int) + (S : Int) - 1) = ((s + S - 1 : Nat) : Int) by omega]; rfl)
    | (rw [show ((off : Int) + ((s : Int) - (off : Int)) + (S : Int) - 1) = ((s + S - 1 : Nat) : Int) by omega]; rfl)

set_option maxHeartbeats 1000000 in
/-- The two answer the same, whatever they are asked. -/
theorem where_all (K M B s off n : Int) (wn : n ≤ 9223372036854775807) : ∃ a b c e : Int,
    (∀ w, Calls Try.prog 18 #[.agg #[.int .i64 K, .int .i64 M, .int .i64 B], .int .i64 s, .int .i64 off, .int .i64 n] w fun x w' => x = .returned (.tuple #[.int .i64 a, .int .i64 b, .int .i64 c, .int .i64 e]) ∧ Below w.heap.size w w') ∧
    (∀ w, Calls Try.prog 19 #[.agg #[.int .i64 K, .int .i64 M, .int .i64 B], .int .i64 s, .int .i64 off, .int .i64 n] w fun x w' => x = .returned (.tuple #[.int .i64 a, .int .i64 b, .int .i64 c, .int .i64 e]) ∧ Below w.heap.size w w') := by
  by_cases hE : sizeE K M B s = 0
  · by_cases h1 : off < 0
    · exact ⟨0, 0, 0, 2, fun w => rwhere_arg1 K M B s off n w hE h1, fun w => fwhere_arg1 K M B s off n w hE h1⟩
    · by_cases h2 : n < 0
      · exact ⟨0, 0, 0, 2, fun w => rwhere_arg2 K M B s off n w hE (by omega) h2, fun w => fwhere_arg2 K M B s off n w hE (by omega) h2⟩
      · by_cases h3 : n = 0
        · exact ⟨0, 0, 0, 0, fun w => rwhere_none1 K M B s off n w hE (by omega) h3, fun w => fwhere_none1 K M B s off n w hE (by omega) h3⟩
        · by_cases h4 : s ≤ off
          · exact ⟨0, 0, 0, 0, fun w => rwhere_none2 K M B s off n w hE (by omega) (by omega) h4, fun w => fwhere_none2 K M B s off n w hE (by omega) (by omega) h4⟩
          · obtain ⟨hs0, hs1, hm⟩ := size_facts hE
            obtain ⟨a1, a2, a3, a4, a5, a6⟩ := hm
            obtain ⟨K', rfl⟩ := Int.eq_ofNat_of_zero_le (show 0 ≤ K by omega)
            obtain ⟨M', rfl⟩ := Int.eq_ofNat_of_zero_le (show 0 ≤ M by omega)
            obtain ⟨B', rfl⟩ := Int.eq_ofNat_of_zero_le (show 0 ≤ B by omega)
            obtain ⟨s', rfl⟩ := Int.eq_ofNat_of_zero_le hs0
            obtain ⟨o', rfl⟩ := Int.eq_ofNat_of_zero_le (show 0 ≤ off by omega)
            obtain ⟨n', rfl⟩ := Int.eq_ofNat_of_zero_le (show 0 ≤ n by omega)
            by_cases h5 : (n' : Int) < (s' : Int) - (o' : Int)
            · exact ⟨_, _, _, _, fun w => rwhere_in K' M' B' s' o' n' w hE (by omega) (by omega) h5 (by omega), fun w => fwhere_in K' M' B' s' o' n' w hE (by omega) (by omega) h5 (by omega)⟩
            · exact ⟨_, _, _, _, fun w => rwhere_end K' M' B' s' o' n' w hE (by omega) (by omega) (by omega) (by omega), fun w => fwhere_end K' M' B' s' o' n' w hE (by omega) (by omega) (by omega) (by omega)⟩
  · exact ⟨0, 0, 0, _, fun w => rwhere_err K M B s off n w hE, fun w => fwhere_err K M B s off n w hE⟩

set_option maxHeartbeats 400000 in
theorem lawWheres (K M B s off n : Int) (wn : n ≤ 9223372036854775807) (w : World) :
    Calls Try.prog 5 #[.agg #[.int .i64 K, .int .i64 M, .int .i64 B], .int .i64 s, .int .i64 off, .int .i64 n] w fun e w' => e = .returned (.bool true) ∧ Below w.heap.size w w' := by
  obtain ⟨a, b, c, e, hr, hf⟩ := where_all K M B s off n wn
  have HR := Lib.hid hr; have HF := Lib.hid hf; clear hr hf
  go_enter Try.func5, Try.ntmps5
  go_wp2_with fail
  refine (HR.out _).mono ?_
  rintro e1 w1 ⟨rfl, hb1⟩
  have hb : Below w.heap.size w w1 := ((Below.refl _ _).alloc (Nat.le_refl _) _).trans (hb1.mono (by simp))
  have k1 : ∀ i, w1.cell? ⟨w.heap.size, i, none⟩ = (w.alloc (.cells #[.int .i64 K, .int .i64 M, .int .i64 B] 24)).cell? ⟨w.heap.size, i, none⟩ := fun i => hb1.cell (by simp)
  have c0 : w1.cell? ⟨w.heap.size, 0, none⟩ = some (.int .i64 K) := by rw [k1]; go_simp
  have c1 : w1.cell? ⟨w.heap.size, 1, none⟩ = some (.int .i64 M) := by rw [k1]; go_simp
  have c2 : w1.cell? ⟨w.heap.size, 2, none⟩ = some (.int .i64 B) := by rw [k1]; go_simp
  have hz1 : w.heap.size + 1 ≤ w1.heap.size := by have := hb1.size; simpa using this
  clear hb1 k1
  go_wp2_with fail
  refine (HF.out _).mono ?_
  rintro e2 w2 ⟨rfl, hb2⟩
  have hbF := hb.trans (hb2.mono (by omega))
  clear hb2 hb c0 c1 c2
  go_wp2
  go_ret
  exact ⟨rfl, hbF⟩
end Go.Proofs.Ytjaaldandgfkgaa
