/- Walks of the law's helpers: numbers as elements; are two lists, two matrices alike (where they are). Conditions: numbers below the field's size. -/
import Derived.Test.YtpocjpodeahanaaBase
namespace Go.Proofs.Ytpocjpodeahanaa
open Go.RowKit

theorem below_drewN {B : Nat} {a w : World} (h : Below B a w) (n : Nat) : Below B a (w.drewN n) := ⟨h.os, h.tape, h.output, h.size, h.block⟩
theorem Rd.drewN {w : World} {A : Option Addr} {n : Nat} {f : Nat → Value} (h : Rd w A n f) (m : Nat) : Rd (w.drewN m) A n f := h

theorem elem_any (n : Nat) (w : World) (h : n < 256) :
    Calls Try.prog 19 #[.int .i64 n] w fun e w' => e = .returned (.int .u8 n) ∧ w' = w := by
  go_enter Try.func19, Try.ntmps19
  go_wp2
  go_ret
  refine ⟨ret_int ?_, rfl⟩
  first | rfl | (rw [IntKind.wrap_u8]; omega)

def bB (n : Nat) : Bool := ((n : Int) == 1)
theorem bit_any (n : Nat) (w : World) :
    Calls Try.prog 22 #[.int .i64 n] w fun e w' => e = .returned (.bool (bB n)) ∧ w' = w := by
  go_enter Try.func22, Try.ntmps22
  go_wp2
  go_ret
  exact ⟨rfl, rfl⟩

def f0 (n : Nat) : Bool := bits BinOp.and IntKind.i64 n 1 == 1
def f1 (n : Nat) : Bool := bits BinOp.and IntKind.i64 n 2 == 2
theorem four_any (n : Nat) (w : World) :
    Calls Try.prog 25 #[.int .i64 n] w fun e w' => e = .returned (.agg #[.bool (f0 n), .bool (f1 n)]) ∧ Below w.heap.size w w' := by
  go_enter Try.func25, Try.ntmps25
  go_wp2
  exact bodyPost_ret (v := .agg #[.bool (f0 n), .bool (f1 n)]) (by simp [results, Try.results25, go_sem, f0, f1]) rfl ⟨rfl, (Below.refl _ _).alloc (Nat.le_refl _) _⟩

set_option maxHeartbeats 400000 in
/-- likeElems, of the same numbers. -/
theorem likeElems_any (A1 A2 : Option Addr) (n c1 c2 : Nat) (g : Nat → Nat) (w : World) (hn : n ≤ 1000000000000000) (hg : ∀ i, i < n → g i < 256) (h1 : Rd w A1 n fun i => .int .u8 (g i)) (h2 : Rd w A2 n fun i => .int .i64 (g i)) :
    Calls Try.prog 53 #[.slice A1 n c1, .slice A2 n c2] w fun e w' => e = .returned (.bool true) ∧ Dr w w' := by
  go_enter Try.func53, Try.ntmps53
  go_wp2
  go_loopg [5] n (fun gk i wr => ∃ k : Nat, k ≤ n ∧ gk = n - k ∧ i = .int .i64 k ∧ Dr w wr)
  case atStart => exact ⟨0, Nat.zero_le _, rfl, rfl, Dr.refl _⟩
  case round =>
    obtain ⟨k, hk, rfl, rfl, hw⟩ := hrel
    by_cases hlt : k < n
    · obtain ⟨b1, o1, rfl, _, hc1⟩ := hw.rd h1 k hlt
      obtain ⟨b2, o2, rfl, _, hc2⟩ := hw.rd h2 k hlt
      have hgk := hg k hlt
      clear hg
      go_wp2
      go_quiet ((go_at_call 19; exact Calls.quiet_of_same (elem_any _ _ hgk)))
      go_wp2
      go_roundg (n - (k + 1))
      case measure => omega
      case rel => exact ⟨k + 1, by omega, rfl, by go_num, hw.drewN _⟩
    · have : k = n := by omega
      subst this
      go_wp2
      go_ret
      exact ⟨rfl, hw⟩
set_option maxHeartbeats 400000 in
/-- likeBits, of the same numbers. -/
theorem likeBits_any (A1 A2 : Option Addr) (n c1 c2 : Nat) (g : Nat → Nat) (w : World) (hn : n ≤ 1000000000000000) (h1 : Rd w A1 n fun i => .bool (bB (g i))) (h2 : Rd w A2 n fun i => .int .i64 (g i)) :
    Calls Try.prog 55 #[.slice A1 n c1, .slice A2 n c2] w fun e w' => e = .returned (.bool true) ∧ Dr w w' := by
  go_enter Try.func55, Try.ntmps55
  go_wp2
  go_loopg [5] n (fun gk i wr => ∃ k : Nat, k ≤ n ∧ gk = n - k ∧ i = .int .i64 k ∧ Dr w wr)
  case atStart => exact ⟨0, Nat.zero_le _, rfl, rfl, Dr.refl _⟩
  case round =>
    obtain ⟨k, hk, rfl, rfl, hw⟩ := hrel
    by_cases hlt : k < n
    · obtain ⟨b1, o1, rfl, _, hc1⟩ := hw.rd h1 k hlt
      obtain ⟨b2, o2, rfl, _, hc2⟩ := hw.rd h2 k hlt
      go_wp2
      go_quiet ((go_at_call 22; exact Calls.quiet_of_same (bit_any _ _)))
      go_wp2
      go_roundg (n - (k + 1))
      case measure => omega
      case rel => exact ⟨k + 1, by omega, rfl, by go_num, hw.drewN _⟩
    · have : k = n := by omega
      subst this
      go_wp2
      go_ret
      exact ⟨rfl, hw⟩
set_option maxHeartbeats 400000 in
/-- likeElemss, of the same numbers. -/
theorem likeElemss_any (A1 A2 : Option Addr) (n c1 c2 : Nat) (L : Nat → Nat) (g : Nat → Nat → Nat) (w : World) (hn : n ≤ 1000000000000000) (hL : ∀ i, i < n → L i ≤ 1000000000000000) (hg : ∀ i, i < n → ∀ j, j < L i → g i j < 256)
    (h1 : RdM w A1 n L fun i j => .int .u8 (g i j)) (h2 : RdM w A2 n L fun i j => .int .i64 (g i j)) :
    Calls Try.prog 20 #[.slice A1 n c1, .slice A2 n c2] w fun e w' => e = .returned (.bool true) ∧ Dr w w' := by
  obtain ⟨S1, C1, t1, r1⟩ := h1
  obtain ⟨S2, C2, t2, r2⟩ := h2
  go_enter Try.func20, Try.ntmps20
  go_wp2
  go_loopg [5] n (fun gk i wr => ∃ k : Nat, k ≤ n ∧ gk = n - k ∧ i = .int .i64 k ∧ Dr w wr)
  case atStart => exact ⟨0, Nat.zero_le _, rfl, rfl, Dr.refl _⟩
  case round =>
    obtain ⟨k, hk, rfl, rfl, hw⟩ := hrel
    by_cases hlt : k < n
    · obtain ⟨b1, o1, rfl, _, hc1⟩ := hw.rd t1 k hlt
      obtain ⟨b2, o2, rfl, _, hc2⟩ := hw.rd t2 k hlt
      have q1 := hw.rd (r1 k hlt)
      have q2 := hw.rd (r2 k hlt)
      have hLk := hL k hlt
      have hgk := hg k hlt
      clear hL
      go_wp2
      go_quiet ((go_at_call 53; exact quiet_dr (likeElems_any _ _ _ _ _ _ _ hLk hgk (q1.drewN _) (q2.drewN _))))
      go_wp2
      go_roundg (n - (k + 1))
      case measure => omega
      case rel => exact ⟨k + 1, by omega, rfl, by go_num, hw.drewN _⟩
    · have : k = n := by omega
      subst this
      go_wp2
      go_ret
      exact ⟨rfl, hw⟩
set_option maxHeartbeats 400000 in
/-- likeBitss, of the same numbers. -/
theorem likeBitss_any (A1 A2 : Option Addr) (n c1 c2 : Nat) (L : Nat → Nat) (g : Nat → Nat → Nat) (w : World) (hn : n ≤ 1000000000000000) (hL : ∀ i, i < n → L i ≤ 1000000000000000)
    (h1 : RdM w A1 n L fun i j => .bool (bB (g i j))) (h2 : RdM w A2 n L fun i j => .int .i64 (g i j)) :
    Calls Try.prog 23 #[.slice A1 n c1, .slice A2 n c2] w fun e w' => e = .returned (.bool true) ∧ Dr w w' := by
  obtain ⟨S1, C1, t1, r1⟩ := h1
  obtain ⟨S2, C2, t2, r2⟩ := h2
  go_enter Try.func23, Try.ntmps23
  go_wp2
  go_loopg [5] n (fun gk i wr => ∃ k : Nat, k ≤ n ∧ gk = n - k ∧ i = .int .i64 k ∧ Dr w wr)
  case atStart => exact ⟨0, Nat.zero_le _, rfl, rfl, Dr.refl _⟩
  case round =>
    obtain ⟨k, hk, rfl, rfl, hw⟩ := hrel
    by_cases hlt : k < n
    · obtain ⟨b1, o1, rfl, _, hc1⟩ := hw.rd t1 k hlt
      obtain ⟨b2, o2, rfl, _, hc2⟩ := hw.rd t2 k hlt
      have q1 := hw.rd (r1 k hlt)
      have q2 := hw.rd (r2 k hlt)
      have hLk := hL k hlt
      clear hL
      go_wp2
      go_quiet ((go_at_call 55; exact quiet_dr (likeBits_any _ _ _ _ _ _ _ hLk (q1.drewN _) (q2.drewN _))))
      go_wp2
      go_roundg (n - (k + 1))
      case measure => omega
      case rel => exact ⟨k + 1, by omega, rfl, by go_num, hw.drewN _⟩
    · have : k = n := by omega
      subst this
      go_wp2
      go_ret
      exact ⟨rfl, hw⟩
end Go.Proofs.Ytpocjpodeahanaa

/- Walks of likeFours, likeFourss (where they are alike). Conditions: none beyond lengths that memory bears. -/
namespace Go.Proofs.Ytpocjpodeahanaa
open Go.RowKit

set_option maxHeartbeats 1000000 in
theorem likeFours_any (A1 A2 : Option Addr) (n c1 c2 : Nat) (g : Nat → Nat) (w : World) (hn : n ≤ 1000000000000000) (h1 : Rd2 w A1 n (fun i => .bool (f0 (g i))) (fun i => .bool (f1 (g i)))) (h2 : Rd w A2 n fun i => .int .i64 (g i)) :
    Calls Try.prog 57 #[.slice A1 n c1, .slice A2 n c2] w fun e w' => e = .returned (.bool true) ∧ Below w.heap.size w w' := by
  go_enter Try.func57, Try.ntmps57
  go_wp2
  go_loopg [5] n (fun gk i wr => ∃ k : Nat, k ≤ n ∧ gk = n - k ∧ i = .int .i64 k ∧ Below w.heap.size w wr)
  case atStart => exact ⟨0, Nat.zero_le _, rfl, rfl, Below.refl _ _⟩
  case round =>
    obtain ⟨k, hk, rfl, rfl, hw⟩ := hrel
    by_cases hlt : k < n
    · obtain ⟨b1, o1, rfl, l1, hc1, hc1'⟩ := h1 k hlt
      obtain ⟨b2, o2, rfl, l2, hc2⟩ := h2 k hlt
      have d1 := (hw.cell (p := ⟨b1, o1 + k * 2, none⟩) l1).trans hc1
      have d1' := (hw.cell (p := ⟨b1, o1 + k * 2 + 1, none⟩) l1).trans hc1'
      have d2 := (hw.cell (p := ⟨b2, o2 + k, none⟩) l2).trans hc2
      have hs := hw.size
      have m1 : b1 < wr.heap.size := by omega
      have m2 : b2 < wr.heap.size := by omega
      have hk0 : (0 : Int) ≤ (k : Int) := Int.natCast_nonneg _
      have hk1 : (k : Int) < (n : Int) := by omega
      clear hc1 hc1' hc2
      go_wp2
      go_region_held3 (fun w' => w'.cell? ⟨b1, o1 + k * 2, none⟩ = some (.bool (f0 (g k))) ∧ w'.cell? ⟨b1, o1 + k * 2 + 1, none⟩ = some (.bool (f1 (g k))) ∧ w'.cell? ⟨b2, o2 + k, none⟩ = some (.int .i64 (g k)))
        (first | go_keep | (exact ⟨(hb1.cell m1).trans d1, (hb1.cell m1).trans d1', (hb1.cell m2).trans d2⟩))
        (first | (go_at_call 25; refine (four_any (g k) _).mono ?_; rintro e w1 ⟨rfl, hb1⟩))
      have hb2 : Below w.heap.size w w1 := hw.drew.trans (hb1.mono hs)
      clear hb1 d1 d1' d2 hw
      go_wp2
      go_roundg (n - (k + 1))
      case measure => omega
      case rel => exact ⟨k + 1, by omega, rfl, by go_num, hb2⟩
    · have : k = n := by omega
      subst this
      go_wp2
      go_ret
      exact ⟨rfl, hw⟩

set_option maxHeartbeats 1000000 in
theorem likeFourss_any (A1 A2 : Option Addr) (n c1 c2 : Nat) (L : Nat → Nat) (g : Nat → Nat → Nat) (w : World) (hn : n ≤ 1000000000000000) (hL : ∀ i, i < n → L i ≤ 1000000000000000)
    (h1 : RdM2 w A1 n L (fun i j => .bool (f0 (g i j))) (fun i j => .bool (f1 (g i j)))) (h2 : RdM w A2 n L fun i j => .int .i64 (g i j)) :
    Calls Try.prog 26 #[.slice A1 n c1, .slice A2 n c2] w fun e w' => e = .returned (.bool true) ∧ Below w.heap.size w w' := by
  obtain ⟨S1, C1, t1, r1⟩ := h1
  obtain ⟨S2, C2, t2, r2⟩ := h2
  go_enter Try.func26, Try.ntmps26
  go_wp2
  go_loopg [5] n (fun gk i wr => ∃ k : Nat, k ≤ n ∧ gk = n - k ∧ i = .int .i64 k ∧ Below w.heap.size w wr)
  case atStart => exact ⟨0, Nat.zero_le _, rfl, rfl, Below.refl _ _⟩
  case round =>
    obtain ⟨k, hk, rfl, rfl, hw⟩ := hrel
    by_cases hlt : k < n
    · obtain ⟨b1, o1, rfl, l1, hc1⟩ := t1 k hlt
      obtain ⟨b2, o2, rfl, l2, hc2⟩ := t2 k hlt
      have q1 := (r1 k hlt).below hw
      have q2 := (r2 k hlt).below hw
      have hLk := hL k hlt
      have d1 := (hw.cell (p := ⟨b1, o1 + k, none⟩) l1).trans hc1
      have d2 := (hw.cell (p := ⟨b2, o2 + k, none⟩) l2).trans hc2
      have hs := hw.size
      have m1 : b1 < wr.heap.size := by omega
      have m2 : b2 < wr.heap.size := by omega
      have hk0 : (0 : Int) ≤ (k : Int) := Int.natCast_nonneg _
      have hk1 : (k : Int) < (n : Int) := by omega
      clear hc1 hc2 hL
      go_wp2
      go_region_held3 (fun w' => w'.cell? ⟨b1, o1 + k, none⟩ = some (.slice (S1 k) (L k) (C1 k)) ∧ w'.cell? ⟨b2, o2 + k, none⟩ = some (.slice (S2 k) (L k) (C2 k)))
        (first | go_keep | (exact ⟨(hb1.cell m1).trans d1, (hb1.cell m2).trans d2⟩))
        (first | (go_at_call 57; refine (likeFours_any _ _ _ _ _ (g k) wr.drew hLk q1 q2).mono ?_; rintro e w1 ⟨rfl, hb1⟩))
      have hb2 : Below w.heap.size w w1 := hw.drew.trans (hb1.mono hs)
      clear hb1 d1 d2 hw q1 q2
      go_wp2
      go_roundg (n - (k + 1))
      case measure => omega
      case rel => exact ⟨k + 1, by omega, rfl, by go_num, hb2⟩
    · have : k = n := by omega
      subst this
      go_wp2
      go_ret
      exact ⟨rfl, hw⟩
end Go.Proofs.Ytpocjpodeahanaa
