/- MatrixIdentities: the law's walk. Conditions: none. -/
import Derived.Test.YtpocjpodeahanaaZid
namespace Go.Proofs.Ytpocjpodeahanaa
open Go.RowKit

/-- The identity's numbers. -/
def gid (one i j : Nat) : Nat := if i = j then one else 0
theorem gid_lt {one m : Nat} (h : one < m) (i j : Nat) : gid one i j < m := by unfold gid; split <;> omega
theorem bB0 : bB 0 = false := by decide
theorem f00 : f0 0 = false := by decide +kernel
theorem f10 : f1 0 = false := by decide +kernel
theorem gidB (one i j : Nat) : bB (gid one i j) = if i = j then bB one else false := by unfold gid; split <;> simp [bB0]
theorem gid0 (one i j : Nat) : f0 (gid one i j) = if i = j then f0 one else false := by unfold gid; split <;> simp [f00]
theorem gid1 (one i j : Nat) : f1 (gid one i j) = if i = j then f1 one else false := by unfold gid; split <;> simp [f10]

set_option maxHeartbeats 1000000 in
theorem lawId_E_ok (F N One : Int) (A B At V : Value) (hA : A.oneCell' = true) (hB : B.oneCell' = true) (hAt : At.oneCell' = true) (hV : V.oneCell' = true) (w : World) (hF : fsz F = 256) (h0 : 0 ≤ N) (h1 : N ≤ 255) :
    Calls Try.prog 3 #[.agg #[.int .i64 F, A, B, At, V, .int .i64 N, .int .i64 One]] w fun e w' => e = .returned (.bool true) ∧ Below w.heap.size w w' := by
  have hoc := And.intro hA (And.intro hB (And.intro hAt hV))
  clear hoc
  obtain ⟨n, rfl⟩ := Int.eq_ofNat_of_zero_le h0
  have HF := Lib.hid hF; clear hF
  have hlow : lowN 256 One < 256 := by have := lowN_lt (s := 256) (by decide) One; omega
  go_enter Try.func3, Try.ntmps3
  go_wp2_with fail
  refine (size_any _ 256 HF.out _).mono ?_
  rintro e w' ⟨rfl, rfl⟩
  go_wp2_with fail
  refine (low_any _ _ _ (by omega) (by omega)).mono ?_
  rintro e w' ⟨rfl, rfl⟩
  go_wp2_with fail
  refine (rident n _ _ (by omega)).mono ?_
  rintro e w1 ⟨v, S, C, rfl, hO, hb1⟩
  obtain ⟨A1, c1, rfl, _, hR⟩ := hO.rdm
  have hc5 : w1.cell? ⟨w.heap.size, 5, none⟩ = some (.int .i64 n) := by rw [hb1.cell (by simp)]; go_simp
  have hz1 := hb1.size
  simp only [World.size_alloc] at hz1
  have m1 : w.heap.size < w1.heap.size := by omega
  have hb1' : Below w.heap.size w w1 := ((Below.refl _ _).alloc (Nat.le_refl _) _).trans (hb1.mono (by simp))
  clear hb1
  go_wp2_with fail
  go_region_held3 (fun w' => w'.cell? ⟨w.heap.size, 5, none⟩ = some (.int .i64 n))
    (first | go_keep | (exact (hb2.cell m1).trans hc5))
    (first | (go_at_call 19; refine (elem_any _ _ hlow).mono ?_; rintro e w2 ⟨rfl, rfl⟩) | (go_at_call 18; refine (identE n _ _ (by omega)).mono ?_; rintro e w3 ⟨b2, S2, rfl, hM2, hb2⟩))
  have hbF : Below w.heap.size w w3 := hb1'.drew.trans (hb2.mono hb1'.size)
  have q1 : RdM w3 (some ⟨b2, 0, none⟩) n (fun _ => n) (fun i j => .int .u8 (gid (lowN 256 One) i j)) := hM2.rdm.congr fun i _ j _ => by unfold gid; split <;> rfl
  have q2 : RdM w3 A1 n (fun _ => n) (fun i j => .int .i64 (gid (lowN 256 One) i j)) := (hR.drew.below hb2).congr fun i _ j _ => by
    unfold gid; by_cases e : i = j
    · simp [e]
    · have e' : ¬ j = i := fun h => e h.symm
      simp [e, e']
  clear hM2 hb2 hR hO hb1' hc5
  go_wp2_with fail
  refine (likeElemss_any _ _ _ _ _ _ _ _ (by omega) (fun _ _ => by omega) (fun i _ j _ => gid_lt hlow i j) q1 q2).mono ?_
  rintro e w4 ⟨rfl, hd⟩
  go_wp2
  go_ret
  exact ⟨rfl, hd.below' hbF⟩

set_option maxHeartbeats 1000000 in
theorem lawId_E_neg (F N One : Int) (A B At V : Value) (hA : A.oneCell' = true) (hB : B.oneCell' = true) (hAt : At.oneCell' = true) (hV : V.oneCell' = true) (w : World) (hF : fsz F = 256) (h : N < 0) :
    Calls Try.prog 3 #[.agg #[.int .i64 F, A, B, At, V, .int .i64 N, .int .i64 One]] w fun e w' => e = .returned (.bool true) ∧ Below w.heap.size w w' := by
  have hoc := And.intro hA (And.intro hB (And.intro hAt hV))
  clear hoc
  have HF := Lib.hid hF; clear hF
  have hlow : lowN 256 One < 256 := by have := lowN_lt (s := 256) (by decide) One; omega
  go_enter Try.func3, Try.ntmps3
  go_wp2_with fail
  refine (size_any _ 256 HF.out _).mono ?_
  rintro e w' ⟨rfl, rfl⟩
  go_wp2_with fail
  refine (low_any _ _ _ (by omega) (by omega)).mono ?_
  rintro e w' ⟨rfl, rfl⟩
  go_wp2_with fail
  refine (rident_neg _ _ _ h).mono ?_
  rintro e w1 ⟨rfl, hw1⟩
  have hb1 : Below (w.alloc (.cells #[.int .i64 F, A, B, At, V, .int .i64 N, .int .i64 One] 25)).heap.size (w.alloc (.cells #[.int .i64 F, A, B, At, V, .int .i64 N, .int .i64 One] 25)) w1 := by rw [← hw1]; exact Below.refl _ _
  clear hw1
  have hc5 : w1.cell? ⟨w.heap.size, 5, none⟩ = some (.int .i64 N) := by rw [hb1.cell (by simp)]; go_simp
  have hz1 := hb1.size
  simp only [World.size_alloc] at hz1
  have m1 : w.heap.size < w1.heap.size := by omega
  have hb1' : Below w.heap.size w w1 := ((Below.refl _ _).alloc (Nat.le_refl _) _).trans (hb1.mono (by simp))
  clear hb1
  go_wp2_with fail
  go_region_held3 (fun w' => w'.cell? ⟨w.heap.size, 5, none⟩ = some (.int .i64 N))
    (first | go_keep | (exact (hb2.cell m1).trans hc5))
    (first | (go_at_call 19; refine (elem_any _ _ hlow).mono ?_; rintro e w2 ⟨rfl, rfl⟩) | (go_at_call 18; refine (identE_neg N _ _ h).mono ?_; rintro e w3 ⟨rfl, hb2⟩))
  have hbF : Below w.heap.size w w3 := hb1'.drew.trans (hb2.mono hb1'.size)
  clear hb2 hb1' hc5
  go_wp2_with fail
  refine (likeElemss_any _ _ 0 _ _ (fun _ => 0) (fun _ _ => 0) _ (by omega) (fun _ _ => by omega) (fun _ h => absurd h (by omega)) (RdM.zero _ _ _ _) (RdM.zero _ _ _ _)).mono ?_
  rintro e w4 ⟨rfl, hd⟩
  go_wp2
  go_ret
  exact ⟨rfl, hd.below' hbF⟩

set_option maxHeartbeats 1000000 in
theorem lawId_E_big (F N One : Int) (A B At V : Value) (hA : A.oneCell' = true) (hB : B.oneCell' = true) (hAt : At.oneCell' = true) (hV : V.oneCell' = true) (w : World) (hF : fsz F = 256) (h : 255 < N) :
    Calls Try.prog 3 #[.agg #[.int .i64 F, A, B, At, V, .int .i64 N, .int .i64 One]] w fun e w' => e = .returned (.bool true) ∧ Below w.heap.size w w' := by
  have hoc := And.intro hA (And.intro hB (And.intro hAt hV))
  clear hoc
  have HF := Lib.hid hF; clear hF
  have hlow : lowN 256 One < 256 := by have := lowN_lt (s := 256) (by decide) One; omega
  go_enter Try.func3, Try.ntmps3
  go_wp2_with fail
  refine (size_any _ 256 HF.out _).mono ?_
  rintro e w' ⟨rfl, rfl⟩
  go_wp2_with fail
  refine (low_any _ _ _ (by omega) (by omega)).mono ?_
  rintro e w' ⟨rfl, rfl⟩
  go_wp2_with fail
  refine (rident_big _ _ _ h).mono ?_
  rintro e w1 ⟨rfl, hw1⟩
  have hb1 : Below (w.alloc (.cells #[.int .i64 F, A, B, At, V, .int .i64 N, .int .i64 One] 25)).heap.size (w.alloc (.cells #[.int .i64 F, A, B, At, V, .int .i64 N, .int .i64 One] 25)) w1 := by rw [← hw1]; exact Below.refl _ _
  clear hw1
  have hc5 : w1.cell? ⟨w.heap.size, 5, none⟩ = some (.int .i64 N) := by rw [hb1.cell (by simp)]; go_simp
  have hz1 := hb1.size
  simp only [World.size_alloc] at hz1
  have m1 : w.heap.size < w1.heap.size := by omega
  have hb1' : Below w.heap.size w w1 := ((Below.refl _ _).alloc (Nat.le_refl _) _).trans (hb1.mono (by simp))
  clear hb1
  go_wp2_with fail
  go_region_held3 (fun w' => w'.cell? ⟨w.heap.size, 5, none⟩ = some (.int .i64 N))
    (first | go_keep | (exact (hb2.cell m1).trans hc5))
    (first | (go_at_call 19; refine (elem_any _ _ hlow).mono ?_; rintro e w2 ⟨rfl, rfl⟩) | (go_at_call 18; refine (identE_big N _ _ h).mono ?_; rintro e w3 ⟨rfl, hb2⟩))
  have hbF : Below w.heap.size w w3 := hb1'.drew.trans (hb2.mono hb1'.size)
  clear hb2 hb1' hc5
  go_wp2_with fail
  refine (likeElemss_any _ _ 0 _ _ (fun _ => 0) (fun _ _ => 0) _ (by omega) (fun _ _ => by omega) (fun _ h => absurd h (by omega)) (RdM.zero _ _ _ _) (RdM.zero _ _ _ _)).mono ?_
  rintro e w4 ⟨rfl, hd⟩
  go_wp2
  go_ret
  exact ⟨rfl, hd.below' hbF⟩

set_option maxHeartbeats 1000000 in
theorem lawId_B_ok (F N One : Int) (A B At V : Value) (hA : A.oneCell' = true) (hB : B.oneCell' = true) (hAt : At.oneCell' = true) (hV : V.oneCell' = true) (w : World) (hF : fsz F = 2) (h0 : 0 ≤ N) (h1 : N ≤ 255) :
    Calls Try.prog 3 #[.agg #[.int .i64 F, A, B, At, V, .int .i64 N, .int .i64 One]] w fun e w' => e = .returned (.bool true) ∧ Below w.heap.size w w' := by
  have hoc := And.intro hA (And.intro hB (And.intro hAt hV))
  clear hoc
  obtain ⟨n, rfl⟩ := Int.eq_ofNat_of_zero_le h0
  have HF := Lib.hid hF; clear hF
  have hlow : lowN 2 One < 2 := by have := lowN_lt (s := 2) (by decide) One; omega
  go_enter Try.func3, Try.ntmps3
  go_wp2_with fail
  refine (size_any _ 2 HF.out _).mono ?_
  rintro e w' ⟨rfl, rfl⟩
  go_wp2_with fail
  refine (low_any _ _ _ (by omega) (by omega)).mono ?_
  rintro e w' ⟨rfl, rfl⟩
  go_wp2_with fail
  refine (rident n _ _ (by omega)).mono ?_
  rintro e w1 ⟨v, S, C, rfl, hO, hb1⟩
  obtain ⟨A1, c1, rfl, _, hR⟩ := hO.rdm
  have hc5 : w1.cell? ⟨w.heap.size, 5, none⟩ = some (.int .i64 n) := by rw [hb1.cell (by simp)]; go_simp
  have hz1 := hb1.size
  simp only [World.size_alloc] at hz1
  have m1 : w.heap.size < w1.heap.size := by omega
  have hb1' : Below w.heap.size w w1 := ((Below.refl _ _).alloc (Nat.le_refl _) _).trans (hb1.mono (by simp))
  clear hb1
  go_wp2_with fail
  go_region_held3 (fun w' => w'.cell? ⟨w.heap.size, 5, none⟩ = some (.int .i64 n))
    (first | go_keep | (exact (hb2.cell m1).trans hc5))
    (first | (go_at_call 22; refine (bit_any _ _).mono ?_; rintro e w2 ⟨rfl, rfl⟩) | (go_at_call 21; refine (identB n _ _ (by omega)).mono ?_; rintro e w3 ⟨b2, S2, rfl, hM2, hb2⟩))
  have hbF : Below w.heap.size w w3 := hb1'.drew.trans (hb2.mono hb1'.size)
  have q1 : RdM w3 (some ⟨b2, 0, none⟩) n (fun _ => n) (fun i j => .bool (bB (gid (lowN 2 One) i j))) := hM2.rdm.congr fun i _ j _ => by rw [gidB]; split <;> rfl
  have q2 : RdM w3 A1 n (fun _ => n) (fun i j => .int .i64 (gid (lowN 2 One) i j)) := (hR.drew.below hb2).congr fun i _ j _ => by
    unfold gid; by_cases e : i = j
    · simp [e]
    · have e' : ¬ j = i := fun h => e h.symm
      simp [e, e']
  clear hM2 hb2 hR hO hb1' hc5
  go_wp2_with fail
  refine (likeBitss_any _ _ _ _ _ _ _ _ (by omega) (fun _ _ => by omega) q1 q2).mono ?_
  rintro e w4 ⟨rfl, hd⟩
  go_wp2
  go_ret
  exact ⟨rfl, hd.below' hbF⟩

set_option maxHeartbeats 1000000 in
theorem lawId_B_neg (F N One : Int) (A B At V : Value) (hA : A.oneCell' = true) (hB : B.oneCell' = true) (hAt : At.oneCell' = true) (hV : V.oneCell' = true) (w : World) (hF : fsz F = 2) (h : N < 0) :
    Calls Try.prog 3 #[.agg #[.int .i64 F, A, B, At, V, .int .i64 N, .int .i64 One]] w fun e w' => e = .returned (.bool true) ∧ Below w.heap.size w w' := by
  have hoc := And.intro hA (And.intro hB (And.intro hAt hV))
  clear hoc
  have HF := Lib.hid hF; clear hF
  have hlow : lowN 2 One < 2 := by have := lowN_lt (s := 2) (by decide) One; omega
  go_enter Try.func3, Try.ntmps3
  go_wp2_with fail
  refine (size_any _ 2 HF.out _).mono ?_
  rintro e w' ⟨rfl, rfl⟩
  go_wp2_with fail
  refine (low_any _ _ _ (by omega) (by omega)).mono ?_
  rintro e w' ⟨rfl, rfl⟩
  go_wp2_with fail
  refine (rident_neg _ _ _ h).mono ?_
  rintro e w1 ⟨rfl, hw1⟩
  have hb1 : Below (w.alloc (.cells #[.int .i64 F, A, B, At, V, .int .i64 N, .int .i64 One] 25)).heap.size (w.alloc (.cells #[.int .i64 F, A, B, At, V, .int .i64 N, .int .i64 One] 25)) w1 := by rw [← hw1]; exact Below.refl _ _
  clear hw1
  have hc5 : w1.cell? ⟨w.heap.size, 5, none⟩ = some (.int .i64 N) := by rw [hb1.cell (by simp)]; go_simp
  have hz1 := hb1.size
  simp only [World.size_alloc] at hz1
  have m1 : w.heap.size < w1.heap.size := by omega
  have hb1' : Below w.heap.size w w1 := ((Below.refl _ _).alloc (Nat.le_refl _) _).trans (hb1.mono (by simp))
  clear hb1
  go_wp2_with fail
  go_region_held3 (fun w' => w'.cell? ⟨w.heap.size, 5, none⟩ = some (.int .i64 N))
    (first | go_keep | (exact (hb2.cell m1).trans hc5))
    (first | (go_at_call 22; refine (bit_any _ _).mono ?_; rintro e w2 ⟨rfl, rfl⟩) | (go_at_call 21; refine (identB_neg N _ _ h).mono ?_; rintro e w3 ⟨rfl, hb2⟩))
  have hbF : Below w.heap.size w w3 := hb1'.drew.trans (hb2.mono hb1'.size)
  clear hb2 hb1' hc5
  go_wp2_with fail
  refine (likeBitss_any _ _ 0 _ _ (fun _ => 0) (fun _ _ => 0) _ (by omega) (fun _ _ => by omega) (RdM.zero _ _ _ _) (RdM.zero _ _ _ _)).mono ?_
  rintro e w4 ⟨rfl, hd⟩
  go_wp2
  go_ret
  exact ⟨rfl, hd.below' hbF⟩

set_option maxHeartbeats 1000000 in
theorem lawId_B_big (F N One : Int) (A B At V : Value) (hA : A.oneCell' = true) (hB : B.oneCell' = true) (hAt : At.oneCell' = true) (hV : V.oneCell' = true) (w : World) (hF : fsz F = 2) (h : 255 < N) :
    Calls Try.prog 3 #[.agg #[.int .i64 F, A, B, At, V, .int .i64 N, .int .i64 One]] w fun e w' => e = .returned (.bool true) ∧ Below w.heap.size w w' := by
  have hoc := And.intro hA (And.intro hB (And.intro hAt hV))
  clear hoc
  have HF := Lib.hid hF; clear hF
  have hlow : lowN 2 One < 2 := by have := lowN_lt (s := 2) (by decide) One; omega
  go_enter Try.func3, Try.ntmps3
  go_wp2_with fail
  refine (size_any _ 2 HF.out _).mono ?_
  rintro e w' ⟨rfl, rfl⟩
  go_wp2_with fail
  refine (low_any _ _ _ (by omega) (by omega)).mono ?_
  rintro e w' ⟨rfl, rfl⟩
  go_wp2_with fail
  refine (rident_big _ _ _ h).mono ?_
  rintro e w1 ⟨rfl, hw1⟩
  have hb1 : Below (w.alloc (.cells #[.int .i64 F, A, B, At, V, .int .i64 N, .int .i64 One] 25)).heap.size (w.alloc (.cells #[.int .i64 F, A, B, At, V, .int .i64 N, .int .i64 One] 25)) w1 := by rw [← hw1]; exact Below.refl _ _
  clear hw1
  have hc5 : w1.cell? ⟨w.heap.size, 5, none⟩ = some (.int .i64 N) := by rw [hb1.cell (by simp)]; go_simp
  have hz1 := hb1.size
  simp only [World.size_alloc] at hz1
  have m1 : w.heap.size < w1.heap.size := by omega
  have hb1' : Below w.heap.size w w1 := ((Below.refl _ _).alloc (Nat.le_refl _) _).trans (hb1.mono (by simp))
  clear hb1
  go_wp2_with fail
  go_region_held3 (fun w' => w'.cell? ⟨w.heap.size, 5, none⟩ = some (.int .i64 N))
    (first | go_keep | (exact (hb2.cell m1).trans hc5))
    (first | (go_at_call 22; refine (bit_any _ _).mono ?_; rintro e w2 ⟨rfl, rfl⟩) | (go_at_call 21; refine (identB_big N _ _ h).mono ?_; rintro e w3 ⟨rfl, hb2⟩))
  have hbF : Below w.heap.size w w3 := hb1'.drew.trans (hb2.mono hb1'.size)
  clear hb2 hb1' hc5
  go_wp2_with fail
  refine (likeBitss_any _ _ 0 _ _ (fun _ => 0) (fun _ _ => 0) _ (by omega) (fun _ _ => by omega) (RdM.zero _ _ _ _) (RdM.zero _ _ _ _)).mono ?_
  rintro e w4 ⟨rfl, hd⟩
  go_wp2
  go_ret
  exact ⟨rfl, hd.below' hbF⟩

set_option maxHeartbeats 1000000 in
theorem lawId_F_ok (F N One : Int) (A B At V : Value) (hA : A.oneCell' = true) (hB : B.oneCell' = true) (hAt : At.oneCell' = true) (hV : V.oneCell' = true) (w : World) (hF : fsz F = 4) (h0 : 0 ≤ N) (h1 : N ≤ 255) :
    Calls Try.prog 3 #[.agg #[.int .i64 F, A, B, At, V, .int .i64 N, .int .i64 One]] w fun e w' => e = .returned (.bool true) ∧ Below w.heap.size w w' := by
  have hoc := And.intro hA (And.intro hB (And.intro hAt hV))
  clear hoc
  obtain ⟨n, rfl⟩ := Int.eq_ofNat_of_zero_le h0
  have HF := Lib.hid hF; clear hF
  have hlow : lowN 4 One < 4 := by have := lowN_lt (s := 4) (by decide) One; omega
  go_enter Try.func3, Try.ntmps3
  go_wp2_with fail
  refine (size_any _ 4 HF.out _).mono ?_
  rintro e w' ⟨rfl, rfl⟩
  go_wp2_with fail
  refine (low_any _ _ _ (by omega) (by omega)).mono ?_
  rintro e w' ⟨rfl, rfl⟩
  go_wp2_with fail
  refine (rident n _ _ (by omega)).mono ?_
  rintro e w1 ⟨v, S, C, rfl, hO, hb1⟩
  obtain ⟨A1, c1, rfl, _, hR⟩ := hO.rdm
  have hc5 : w1.cell? ⟨w.heap.size, 5, none⟩ = some (.int .i64 n) := by rw [hb1.cell (by simp)]; go_simp
  have hz1 := hb1.size
  simp only [World.size_alloc] at hz1
  have m1 : w.heap.size < w1.heap.size := by omega
  have hb1' : Below w.heap.size w w1 := ((Below.refl _ _).alloc (Nat.le_refl _) _).trans (hb1.mono (by simp))
  clear hb1
  go_wp2_with fail
  go_region_held3 (fun w' => w'.cell? ⟨w.heap.size, 5, none⟩ = some (.int .i64 n))
    (first | go_keep | (exact (hbq.cell m1).trans hc5) | (exact (hb2.cell (Nat.lt_of_lt_of_le m1 hbq.size)).trans ((hbq.cell m1).trans hc5)))
    (first | (go_at_call 25; refine (four_any _ _).mono ?_; rintro e w2 ⟨rfl, hbq⟩) | (go_at_call 24; refine (identF n _ _ _ (by omega)).mono ?_; rintro e w3 ⟨b2, S2, rfl, hM2, hb2⟩))
  have hbF : Below w.heap.size w w3 := (hb1'.drew.trans (hbq.mono hb1'.size)).trans (hb2.mono (Nat.le_trans hb1'.size hbq.size))
  have q1 : RdM2 w3 (some ⟨b2, 0, none⟩) n (fun _ => n) (fun i j => .bool (f0 (gid (lowN 4 One) i j))) (fun i j => .bool (f1 (gid (lowN 4 One) i j))) := hM2.rdm2.congr (fun i _ j _ => by rw [gid0]; by_cases e : i = j <;> simp [fcell, e]) (fun i _ j _ => by rw [gid1, show (j * 2 + 1) / 2 = j by omega]; by_cases e : i = j <;> simp [fcell, e])
  have q2 : RdM w3 A1 n (fun _ => n) (fun i j => .int .i64 (gid (lowN 4 One) i j)) := ((hR.drew.below hbq).below hb2).congr fun i _ j _ => by
    unfold gid; by_cases e : i = j
    · simp [e]
    · have e' : ¬ j = i := fun h => e h.symm
      simp [e, e']
  clear hM2 hb2 hR hO hb1' hc5 hbq
  go_wp2_with fail
  refine (likeFourss_any _ _ _ _ _ _ _ _ (by omega) (fun _ _ => by omega) q1 q2).mono ?_
  rintro e w4 ⟨rfl, hd⟩
  go_wp2
  go_ret
  exact ⟨rfl, hbF.trans (hd.mono hbF.size)⟩

set_option maxHeartbeats 1000000 in
theorem lawId_F_neg (F N One : Int) (A B At V : Value) (hA : A.oneCell' = true) (hB : B.oneCell' = true) (hAt : At.oneCell' = true) (hV : V.oneCell' = true) (w : World) (hF : fsz F = 4) (h : N < 0) :
    Calls Try.prog 3 #[.agg #[.int .i64 F, A, B, At, V, .int .i64 N, .int .i64 One]] w fun e w' => e = .returned (.bool true) ∧ Below w.heap.size w w' := by
  have hoc := And.intro hA (And.intro hB (And.intro hAt hV))
  clear hoc
  have HF := Lib.hid hF; clear hF
  have hlow : lowN 4 One < 4 := by have := lowN_lt (s := 4) (by decide) One; omega
  go_enter Try.func3, Try.ntmps3
  go_wp2_with fail
  refine (size_any _ 4 HF.out _).mono ?_
  rintro e w' ⟨rfl, rfl⟩
  go_wp2_with fail
  refine (low_any _ _ _ (by omega) (by omega)).mono ?_
  rintro e w' ⟨rfl, rfl⟩
  go_wp2_with fail
  refine (rident_neg _ _ _ h).mono ?_
  rintro e w1 ⟨rfl, hw1⟩
  have hb1 : Below (w.alloc (.cells #[.int .i64 F, A, B, At, V, .int .i64 N, .int .i64 One] 25)).heap.size (w.alloc (.cells #[.int .i64 F, A, B, At, V, .int .i64 N, .int .i64 One] 25)) w1 := by rw [← hw1]; exact Below.refl _ _
  clear hw1
  have hc5 : w1.cell? ⟨w.heap.size, 5, none⟩ = some (.int .i64 N) := by rw [hb1.cell (by simp)]; go_simp
  have hz1 := hb1.size
  simp only [World.size_alloc] at hz1
  have m1 : w.heap.size < w1.heap.size := by omega
  have hb1' : Below w.heap.size w w1 := ((Below.refl _ _).alloc (Nat.le_refl _) _).trans (hb1.mono (by simp))
  clear hb1
  go_wp2_with fail
  go_region_held3 (fun w' => w'.cell? ⟨w.heap.size, 5, none⟩ = some (.int .i64 N))
    (first | go_keep | (exact (hbq.cell m1).trans hc5) | (exact (hb2.cell (Nat.lt_of_lt_of_le m1 hbq.size)).trans ((hbq.cell m1).trans hc5)))
    (first | (go_at_call 25; refine (four_any _ _).mono ?_; rintro e w2 ⟨rfl, hbq⟩) | (go_at_call 24; refine (identF_neg N _ _ _ h).mono ?_; rintro e w3 ⟨rfl, hb2⟩))
  have hbF : Below w.heap.size w w3 := (hb1'.drew.trans (hbq.mono hb1'.size)).trans (hb2.mono (Nat.le_trans hb1'.size hbq.size))
  clear hb2 hb1' hc5 hbq
  go_wp2_with fail
  refine (likeFourss_any _ _ 0 _ _ (fun _ => 0) (fun _ _ => 0) _ (by omega) (fun _ _ => by omega) (RdM2.zero _ _ _ _ _) (RdM.zero _ _ _ _)).mono ?_
  rintro e w4 ⟨rfl, hd⟩
  go_wp2
  go_ret
  exact ⟨rfl, hbF.trans (hd.mono hbF.size)⟩

set_option maxHeartbeats 1000000 in
theorem lawId_F_big (F N One : Int) (A B At V : Value) (hA : A.oneCell' = true) (hB : B.oneCell' = true) (hAt : At.oneCell' = true) (hV : V.oneCell' = true) (w : World) (hF : fsz F = 4) (h : 255 < N) :
    Calls Try.prog 3 #[.agg #[.int .i64 F, A, B, At, V, .int .i64 N, .int .i64 One]] w fun e w' => e = .returned (.bool true) ∧ Below w.heap.size w w' := by
  have hoc := And.intro hA (And.intro hB (And.intro hAt hV))
  clear hoc
  have HF := Lib.hid hF; clear hF
  have hlow : lowN 4 One < 4 := by have := lowN_lt (s := 4) (by decide) One; omega
  go_enter Try.func3, Try.ntmps3
  go_wp2_with fail
  refine (size_any _ 4 HF.out _).mono ?_
  rintro e w' ⟨rfl, rfl⟩
  go_wp2_with fail
  refine (low_any _ _ _ (by omega) (by omega)).mono ?_
  rintro e w' ⟨rfl, rfl⟩
  go_wp2_with fail
  refine (rident_big _ _ _ h).mono ?_
  rintro e w1 ⟨rfl, hw1⟩
  have hb1 : Below (w.alloc (.cells #[.int .i64 F, A, B, At, V, .int .i64 N, .int .i64 One] 25)).heap.size (w.alloc (.cells #[.int .i64 F, A, B, At, V, .int .i64 N, .int .i64 One] 25)) w1 := by rw [← hw1]; exact Below.refl _ _
  clear hw1
  have hc5 : w1.cell? ⟨w.heap.size, 5, none⟩ = some (.int .i64 N) := by rw [hb1.cell (by simp)]; go_simp
  have hz1 := hb1.size
  simp only [World.size_alloc] at hz1
  have m1 : w.heap.size < w1.heap.size := by omega
  have hb1' : Below w.heap.size w w1 := ((Below.refl _ _).alloc (Nat.le_refl _) _).trans (hb1.mono (by simp))
  clear hb1
  go_wp2_with fail
  go_region_held3 (fun w' => w'.cell? ⟨w.heap.size, 5, none⟩ = some (.int .i64 N))
    (first | go_keep | (exact (hbq.cell m1).trans hc5) | (exact (hb2.cell (Nat.lt_of_lt_of_le m1 hbq.size)).trans ((hbq.cell m1).trans hc5)))
    (first | (go_at_call 25; refine (four_any _ _).mono ?_; rintro e w2 ⟨rfl, hbq⟩) | (go_at_call 24; refine (identF_big N _ _ _ h).mono ?_; rintro e w3 ⟨rfl, hb2⟩))
  have hbF : Below w.heap.size w w3 := (hb1'.drew.trans (hbq.mono hb1'.size)).trans (hb2.mono (Nat.le_trans hb1'.size hbq.size))
  clear hb2 hb1' hc5 hbq
  go_wp2_with fail
  refine (likeFourss_any _ _ 0 _ _ (fun _ => 0) (fun _ _ => 0) _ (by omega) (fun _ _ => by omega) (RdM2.zero _ _ _ _ _) (RdM.zero _ _ _ _)).mono ?_
  rintro e w4 ⟨rfl, hd⟩
  go_wp2
  go_ret
  exact ⟨rfl, hbF.trans (hd.mono hbF.size)⟩

theorem lawId (F N One : Int) (A B At V : Value) (hA : A.oneCell' = true) (hB : B.oneCell' = true) (hAt : At.oneCell' = true) (hV : V.oneCell' = true) (w : World) :
    Calls Try.prog 3 #[.agg #[.int .i64 F, A, B, At, V, .int .i64 N, .int .i64 One]] w fun e w' => e = .returned (.bool true) ∧ Below w.heap.size w w' := by
  rcases Int.lt_or_le N 0 with h | h
  · rcases fsz_cases F with e | e | e
    · exact lawId_E_neg F N One A B At V hA hB hAt hV w e h
    · exact lawId_B_neg F N One A B At V hA hB hAt hV w e h
    · exact lawId_F_neg F N One A B At V hA hB hAt hV w e h
  · rcases Int.lt_or_le 255 N with h' | h'
    · rcases fsz_cases F with e | e | e
      · exact lawId_E_big F N One A B At V hA hB hAt hV w e h'
      · exact lawId_B_big F N One A B At V hA hB hAt hV w e h'
      · exact lawId_F_big F N One A B At V hA hB hAt hV w e h'
    · rcases fsz_cases F with e | e | e
      · exact lawId_E_ok F N One A B At V hA hB hAt hV w e h h'
      · exact lawId_B_ok F N One A B At V hA hB hAt hV w e h h'
      · exact lawId_F_ok F N One A B At V hA hB hAt hV w e h h'
end Go.Proofs.Ytpocjpodeahanaa
