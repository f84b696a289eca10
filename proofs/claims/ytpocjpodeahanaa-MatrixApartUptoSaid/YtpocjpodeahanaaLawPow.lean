/- MatrixPowers: what Powers answers in every case; the law's walk. Conditions: none. -/
import Derived.Test.YtpocjpodeahanaaPow3
import Derived.Test.YtpocjpodeahanaaMat1
namespace Go.Proofs.Ytpocjpodeahanaa
open Go.RowKit

/-- Powers' error. -/
def perr (n : Nat) (cols : Int) : Int := if cols < 0 then 2 else if 255 < cols ∨ 255 < n then 3 else 0
/-- How many rows it gives. -/
def pk (n : Nat) (cols : Int) : Nat := if perr n cols = 0 then n else 0
theorem perr_neg {n : Nat} {cols : Int} (h : cols < 0) : perr n cols = 2 ∧ pk n cols = 0 := by
  have e : perr n cols = 2 := by unfold perr; rw [if_pos h]
  exact ⟨e, by unfold pk; rw [e]; rfl⟩
theorem perr_big {n : Nat} {cols : Int} (h0 : ¬ cols < 0) (h : 255 < cols ∨ 255 < n) : perr n cols = 3 ∧ pk n cols = 0 := by
  have e : perr n cols = 3 := by unfold perr; rw [if_neg h0, if_pos h]
  exact ⟨e, by unfold pk; rw [e]; rfl⟩
theorem perr_ok {n : Nat} {cols : Int} (h0 : ¬ cols < 0) (h : ¬ (255 < cols ∨ 255 < n)) : perr n cols = 0 ∧ pk n cols = n := by
  have e : perr n cols = 0 := by unfold perr; rw [if_neg h0, if_neg h]
  exact ⟨e, by unfold pk; rw [e]; rfl⟩
theorem pk_good {n : Nat} {cols : Int} {i : Nat} (h : i < pk n cols) : i < n ∧ pk n cols ≤ 255 ∧ cols.toNat ≤ 255 := by
  by_cases h0 : cols < 0
  · rw [(perr_neg h0).2] at h; omega
  · by_cases h1 : 255 < cols ∨ 255 < n
    · rw [(perr_big h0 h1).2] at h; omega
    · rw [(perr_ok h0 h1).2] at h ⊢; omega
theorem pk_le (n : Nat) (cols : Int) : pk n cols ≤ 255 := by
  rcases Nat.eq_zero_or_pos (pk n cols) with h | h
  · omega
  · exact (pk_good h).2.1

theorem powE_neg (A : Option Addr) (n c : Nat) (cols : Int) (one : Nat) (w : World) (h : cols < 0) :
    Calls Try.prog 37 #[.slice A n c, .int .i64 cols, .int .u8 one] w fun e w' => e = .returned (.tuple #[.slice none 0 0, .int .i64 2]) ∧ Below w.heap.size w w' := by
  go_enter Try.func37, Try.ntmps37
  go_wp2
  go_ret2
  exact ⟨rfl, Below.refl _ _⟩
theorem powE_bigc (A : Option Addr) (n c : Nat) (cols : Int) (one : Nat) (w : World) (h0 : ¬ cols < 0) (h : 255 < cols) :
    Calls Try.prog 37 #[.slice A n c, .int .i64 cols, .int .u8 one] w fun e w' => e = .returned (.tuple #[.slice none 0 0, .int .i64 3]) ∧ Below w.heap.size w w' := by
  go_enter Try.func37, Try.ntmps37
  go_wp2
  go_ret2
  exact ⟨rfl, Below.refl _ _⟩
theorem powE_bign (A : Option Addr) (n c : Nat) (cols : Int) (one : Nat) (w : World) (h0 : ¬ cols < 0) (h : ¬ 255 < cols) (h2 : 255 < n) :
    Calls Try.prog 37 #[.slice A n c, .int .i64 cols, .int .u8 one] w fun e w' => e = .returned (.tuple #[.slice none 0 0, .int .i64 3]) ∧ Below w.heap.size w w' := by
  go_enter Try.func37, Try.ntmps37
  go_wp2
  go_ret2
  exact ⟨rfl, Below.refl _ _⟩
theorem powE_all (A : Option Addr) (n c : Nat) (cols : Int) (one : Nat) (g : Nat → Nat) (w : World) (h1 : one < 256) (hg : ∀ i, i < n → g i < 256) (hA : Rd w A n fun i => .int .u8 (g i)) :
    Calls Try.prog 37 #[.slice A n c, .int .i64 cols, .int .u8 one] w fun e w' => ∃ Av cv, e = .returned (.tuple #[.slice Av (pk n cols) cv, .int .i64 (perr n cols)]) ∧ ME w' Av (pk n cols) (fun _ => cols.toNat) (fun i j => pw 256 one (g i) j) ∧ Below w.heap.size w w' := by
  by_cases h0 : cols < 0
  · refine (powE_neg A n c cols one w h0).mono ?_
    rintro e w' ⟨he, hb⟩
    rw [(perr_neg h0).1, (perr_neg h0).2]
    exact ⟨none, 0, he, RdM.zero _ _ _ _, hb⟩
  · by_cases h2 : 255 < cols
    · refine (powE_bigc A n c cols one w h0 h2).mono ?_
      rintro e w' ⟨he, hb⟩
      rw [(perr_big h0 (Or.inl h2)).1, (perr_big h0 (Or.inl h2)).2]
      exact ⟨none, 0, he, RdM.zero _ _ _ _, hb⟩
    · by_cases h3 : 255 < n
      · refine (powE_bign A n c cols one w h0 h2 h3).mono ?_
        rintro e w' ⟨he, hb⟩
        rw [(perr_big h0 (Or.inr h3)).1, (perr_big h0 (Or.inr h3)).2]
        exact ⟨none, 0, he, RdM.zero _ _ _ _, hb⟩
      · have hk := perr_ok (n := n) h0 (fun h => h.elim h2 h3)
        rw [hk.1, hk.2]
        obtain ⟨cn, rfl⟩ := Int.eq_ofNat_of_zero_le (show 0 ≤ cols by omega)
        refine (powE A n c cn one g w (by omega) (by omega) h1 hg hA).mono ?_
        rintro e w' ⟨b, S, he, hM, hb⟩
        exact ⟨_, _, he, hM.rdm, hb⟩
theorem powB_neg (A : Option Addr) (n c : Nat) (cols : Int) (one : Nat) (w : World) (h : cols < 0) :
    Calls Try.prog 39 #[.slice A n c, .int .i64 cols, .bool (bB one)] w fun e w' => e = .returned (.tuple #[.slice none 0 0, .int .i64 2]) ∧ Below w.heap.size w w' := by
  go_enter Try.func39, Try.ntmps39
  go_wp2
  go_ret2
  exact ⟨rfl, Below.refl _ _⟩
theorem powB_bigc (A : Option Addr) (n c : Nat) (cols : Int) (one : Nat) (w : World) (h0 : ¬ cols < 0) (h : 255 < cols) :
    Calls Try.prog 39 #[.slice A n c, .int .i64 cols, .bool (bB one)] w fun e w' => e = .returned (.tuple #[.slice none 0 0, .int .i64 3]) ∧ Below w.heap.size w w' := by
  go_enter Try.func39, Try.ntmps39
  go_wp2
  go_ret2
  exact ⟨rfl, Below.refl _ _⟩
theorem powB_bign (A : Option Addr) (n c : Nat) (cols : Int) (one : Nat) (w : World) (h0 : ¬ cols < 0) (h : ¬ 255 < cols) (h2 : 255 < n) :
    Calls Try.prog 39 #[.slice A n c, .int .i64 cols, .bool (bB one)] w fun e w' => e = .returned (.tuple #[.slice none 0 0, .int .i64 3]) ∧ Below w.heap.size w w' := by
  go_enter Try.func39, Try.ntmps39
  go_wp2
  go_ret2
  exact ⟨rfl, Below.refl _ _⟩
theorem powB_all (A : Option Addr) (n c : Nat) (cols : Int) (one : Nat) (g : Nat → Nat) (w : World) (h1 : one < 2) (hg : ∀ i, i < n → g i < 2) (hA : Rd w A n fun i => .bool (bB (g i))) :
    Calls Try.prog 39 #[.slice A n c, .int .i64 cols, .bool (bB one)] w fun e w' => ∃ Av cv, e = .returned (.tuple #[.slice Av (pk n cols) cv, .int .i64 (perr n cols)]) ∧ MB w' Av (pk n cols) (fun _ => cols.toNat) (fun i j => pw 2 one (g i) j) ∧ Below w.heap.size w w' := by
  by_cases h0 : cols < 0
  · refine (powB_neg A n c cols one w h0).mono ?_
    rintro e w' ⟨he, hb⟩
    rw [(perr_neg h0).1, (perr_neg h0).2]
    exact ⟨none, 0, he, RdM.zero _ _ _ _, hb⟩
  · by_cases h2 : 255 < cols
    · refine (powB_bigc A n c cols one w h0 h2).mono ?_
      rintro e w' ⟨he, hb⟩
      rw [(perr_big h0 (Or.inl h2)).1, (perr_big h0 (Or.inl h2)).2]
      exact ⟨none, 0, he, RdM.zero _ _ _ _, hb⟩
    · by_cases h3 : 255 < n
      · refine (powB_bign A n c cols one w h0 h2 h3).mono ?_
        rintro e w' ⟨he, hb⟩
        rw [(perr_big h0 (Or.inr h3)).1, (perr_big h0 (Or.inr h3)).2]
        exact ⟨none, 0, he, RdM.zero _ _ _ _, hb⟩
      · have hk := perr_ok (n := n) h0 (fun h => h.elim h2 h3)
        rw [hk.1, hk.2]
        obtain ⟨cn, rfl⟩ := Int.eq_ofNat_of_zero_le (show 0 ≤ cols by omega)
        refine (powB A n c cn one g w (by omega) (by omega) h1 hg hA).mono ?_
        rintro e w' ⟨b, S, he, hM, hb⟩
        exact ⟨_, _, he, hM.rdm, hb⟩
theorem powF_neg (A : Option Addr) (n c : Nat) (cols : Int) (one : Nat) (w : World) (h : cols < 0) :
    Calls Try.prog 41 #[.slice A n c, .int .i64 cols, .agg #[.bool (f0 one), .bool (f1 one)]] w fun e w' => e = .returned (.tuple #[.slice none 0 0, .int .i64 2]) ∧ Below w.heap.size w w' := by
  go_enter Try.func41, Try.ntmps41
  go_wp2
  go_ret2
  exact ⟨rfl, (Below.refl _ _).alloc (Nat.le_refl _) _⟩
theorem powF_bigc (A : Option Addr) (n c : Nat) (cols : Int) (one : Nat) (w : World) (h0 : ¬ cols < 0) (h : 255 < cols) :
    Calls Try.prog 41 #[.slice A n c, .int .i64 cols, .agg #[.bool (f0 one), .bool (f1 one)]] w fun e w' => e = .returned (.tuple #[.slice none 0 0, .int .i64 3]) ∧ Below w.heap.size w w' := by
  go_enter Try.func41, Try.ntmps41
  go_wp2
  go_ret2
  exact ⟨rfl, (Below.refl _ _).alloc (Nat.le_refl _) _⟩
theorem powF_bign (A : Option Addr) (n c : Nat) (cols : Int) (one : Nat) (w : World) (h0 : ¬ cols < 0) (h : ¬ 255 < cols) (h2 : 255 < n) :
    Calls Try.prog 41 #[.slice A n c, .int .i64 cols, .agg #[.bool (f0 one), .bool (f1 one)]] w fun e w' => e = .returned (.tuple #[.slice none 0 0, .int .i64 3]) ∧ Below w.heap.size w w' := by
  go_enter Try.func41, Try.ntmps41
  go_wp2
  go_ret2
  exact ⟨rfl, (Below.refl _ _).alloc (Nat.le_refl _) _⟩
theorem powF_all (A : Option Addr) (n c : Nat) (cols : Int) (one : Nat) (g : Nat → Nat) (w : World) (h1 : one < 4) (hg : ∀ i, i < n → g i < 4) (hA : Rd2 w A n (fun i => .bool (f0 (g i))) (fun i => .bool (f1 (g i)))) :
    Calls Try.prog 41 #[.slice A n c, .int .i64 cols, .agg #[.bool (f0 one), .bool (f1 one)]] w fun e w' => ∃ Av cv, e = .returned (.tuple #[.slice Av (pk n cols) cv, .int .i64 (perr n cols)]) ∧ MF w' Av (pk n cols) (fun _ => cols.toNat) (fun i j => pw 4 one (g i) j) ∧ Below w.heap.size w w' := by
  by_cases h0 : cols < 0
  · refine (powF_neg A n c cols one w h0).mono ?_
    rintro e w' ⟨he, hb⟩
    rw [(perr_neg h0).1, (perr_neg h0).2]
    exact ⟨none, 0, he, RdM2.zero _ _ _ _ _, hb⟩
  · by_cases h2 : 255 < cols
    · refine (powF_bigc A n c cols one w h0 h2).mono ?_
      rintro e w' ⟨he, hb⟩
      rw [(perr_big h0 (Or.inl h2)).1, (perr_big h0 (Or.inl h2)).2]
      exact ⟨none, 0, he, RdM2.zero _ _ _ _ _, hb⟩
    · by_cases h3 : 255 < n
      · refine (powF_bign A n c cols one w h0 h2 h3).mono ?_
        rintro e w' ⟨he, hb⟩
        rw [(perr_big h0 (Or.inr h3)).1, (perr_big h0 (Or.inr h3)).2]
        exact ⟨none, 0, he, RdM2.zero _ _ _ _ _, hb⟩
      · have hk := perr_ok (n := n) h0 (fun h => h.elim h2 h3)
        rw [hk.1, hk.2]
        obtain ⟨cn, rfl⟩ := Int.eq_ofNat_of_zero_le (show 0 ≤ cols by omega)
        refine (powF A n c cn one g w (by omega) (by omega) h1 hg hA).mono ?_
        rintro e w' ⟨b, S, he, hM, hb⟩
        exact ⟨_, _, he, hM.rdm2.congr (fun i _ j _ => by simp [pcell, Nat.mul_div_cancel]) (fun i _ j _ => by simp [pcell, show (j * 2 + 1) / 2 = j by omega]), hb⟩
theorem rpow_neg (s : Nat) (A : Option Addr) (n c : Nat) (cols : Int) (one : Nat) (w : World) (h : cols < 0) :
    Calls Try.prog 36 #[.int .i64 s, .slice A n c, .int .i64 cols, .int .i64 one] w fun e w' => e = .returned (.tuple #[.slice none 0 0, .int .i64 2]) ∧ Below w.heap.size w w' := by
  go_enter Try.func36, Try.ntmps36
  go_wp2
  go_ret2
  exact ⟨rfl, Below.refl _ _⟩
theorem rpow_bigc (s : Nat) (A : Option Addr) (n c : Nat) (cols : Int) (one : Nat) (w : World) (h0 : ¬ cols < 0) (h : 255 < cols) :
    Calls Try.prog 36 #[.int .i64 s, .slice A n c, .int .i64 cols, .int .i64 one] w fun e w' => e = .returned (.tuple #[.slice none 0 0, .int .i64 3]) ∧ Below w.heap.size w w' := by
  go_enter Try.func36, Try.ntmps36
  go_wp2
  go_ret2
  exact ⟨rfl, Below.refl _ _⟩
theorem rpow_bign (s : Nat) (A : Option Addr) (n c : Nat) (cols : Int) (one : Nat) (w : World) (h0 : ¬ cols < 0) (h : ¬ 255 < cols) (h2 : 255 < n) :
    Calls Try.prog 36 #[.int .i64 s, .slice A n c, .int .i64 cols, .int .i64 one] w fun e w' => e = .returned (.tuple #[.slice none 0 0, .int .i64 3]) ∧ Below w.heap.size w w' := by
  go_enter Try.func36, Try.ntmps36
  go_wp2
  go_ret2
  exact ⟨rfl, Below.refl _ _⟩
theorem rpow_all (s : Nat) (A : Option Addr) (n c : Nat) (cols : Int) (one : Nat) (g : Nat → Nat) (w : World) (hpw : ∀ i, i < n → ∀ j, pw s one (g i) j < 256) (hg : ∀ i, i < n → g i < 256) (hA : Rd w A n fun i => .int .i64 (g i)) :
    Calls Try.prog 36 #[.int .i64 s, .slice A n c, .int .i64 cols, .int .i64 one] w fun e w' => ∃ Av cv, e = .returned (.tuple #[.slice Av (pk n cols) cv, .int .i64 (perr n cols)]) ∧ MI w' Av (pk n cols) (fun _ => cols.toNat) (fun i j => pw s one (g i) j) ∧ Below w.heap.size w w' := by
  by_cases h0 : cols < 0
  · refine (rpow_neg s A n c cols one w h0).mono ?_
    rintro e w' ⟨he, hb⟩
    rw [(perr_neg h0).1, (perr_neg h0).2]
    exact ⟨none, 0, he, RdM.zero _ _ _ _, hb⟩
  · by_cases h2 : 255 < cols
    · refine (rpow_bigc s A n c cols one w h0 h2).mono ?_
      rintro e w' ⟨he, hb⟩
      rw [(perr_big h0 (Or.inl h2)).1, (perr_big h0 (Or.inl h2)).2]
      exact ⟨none, 0, he, RdM.zero _ _ _ _, hb⟩
    · by_cases h3 : 255 < n
      · refine (rpow_bign s A n c cols one w h0 h2 h3).mono ?_
        rintro e w' ⟨he, hb⟩
        rw [(perr_big h0 (Or.inr h3)).1, (perr_big h0 (Or.inr h3)).2]
        exact ⟨none, 0, he, RdM.zero _ _ _ _, hb⟩
      · have hk := perr_ok (n := n) h0 (fun h => h.elim h2 h3)
        rw [hk.1, hk.2]
        obtain ⟨cn, rfl⟩ := Int.eq_ofNat_of_zero_le (show 0 ≤ cols by omega)
        refine (rpow s A n c cn one g w (by omega) (by omega) hpw hg hA).mono ?_
        rintro e w' ⟨v, S, C, he, hO, hb⟩
        obtain ⟨Av, cv, rfl, _, _, hR⟩ := hO.rdm
        exact ⟨Av, cv, he, hR, hb⟩

set_option maxRecDepth 20000 in
set_option maxHeartbeats 1000000 in
theorem lawPow_E (F : Int) (A B At : Value) (Av : Option Addr) (n cv : Nat) (f : Nat → Int) (N One : Int) (hA : A.oneCell' = true) (hB : B.oneCell' = true) (hAt : At.oneCell' = true) (w : World) (hF : fsz F = 256)
    (hn : n * 8 ≤ 140737488351232) (hV : Rd w Av n (fun i => .int .i64 (f i))) :
    Calls Try.prog 5 #[.agg #[.int .i64 F, A, B, At, .slice Av n cv, .int .i64 N, .int .i64 One]] w fun e w' => e = .returned (.bool true) ∧ Below w.heap.size w w' := by
  have HF := Lib.hid hF; clear hF
  have hlow : ∀ i, lowN 256 i < 256 := fun i => by have := lowN_lt (s := 256) (by decide) i; omega
  have HLOW := Lib.hid hlow
  have HPW : Hid (∀ i, i < n → ∀ j, pw 256 (lowN 256 One) (lowN 256 (f i)) j < 256) := fun i _ j => pw_lt256 (hlow One) j
  have HG2 : Hid (∀ i, i < n → lowN 256 (f i) < 256) := fun i _ => Nat.lt_of_lt_of_le (hlow (f i)) (by decide)
  clear hlow
  go_enter Try.func5, Try.ntmps5
  go_wp2_with fail
  refine (size_any _ 256 HF.out _).mono ?_
  rintro e w' ⟨rfl, rfl⟩
  go_wp2_with fail
  refine (low_any _ _ _ (by omega) (by omega)).mono ?_
  rintro e w' ⟨rfl, rfl⟩
  have hb0 : Below w.heap.size w (w.alloc (.cells #[.int .i64 F, A, B, At, .slice Av n cv, .int .i64 N, .int .i64 One] 25)) := (Below.refl _ _).alloc (Nat.le_refl _) _
  have hV0 := hV.below hb0
  clear hV
  go_wp2_with fail
  refine (list_any 256 Av n cv f _ (by omega) (by omega) hn hV0).mono ?_
  rintro e w1 ⟨v, rfl, hO, hb1⟩
  obtain ⟨A1, c1, rfl, _, _, hR, _⟩ := hO.rd
  have hc5 : w1.cell? ⟨w.heap.size, 5, none⟩ = some (.int .i64 N) := by rw [hb1.cell (by simp)]; go_simp
  have hz1 := hb1.size
  simp only [World.size_alloc] at hz1
  have m1 : w.heap.size < w1.heap.size := by omega
  have hb1' : Below w.heap.size w w1 := hb0.trans (hb1.mono (by simp))
  clear hb1 hb0 hV0 hO
  go_wp2_with fail
  refine (rpow_all 256 A1 n c1 N (lowN 256 One) (fun i => lowN 256 (f i)) _ HPW.out HG2.out hR).mono ?_
  rintro e w2 ⟨A2, c2, rfl, hW, hb2⟩
  have hc5' : w2.cell? ⟨w.heap.size, 5, none⟩ = some (.int .i64 N) := (hb2.cell m1).trans hc5
  have hR2 : Rd w2 A1 n (fun i => .int .i64 (lowN 256 (f i))) := hR.below hb2
  have m2 : w.heap.size < w2.heap.size := Nat.lt_of_lt_of_le m1 hb2.size
  have hb2' : Below w.heap.size w w2 := hb1'.trans (hb2.mono (Nat.le_of_lt m1))
  clear hb2 hb1' hR hc5 m1 hz1
  go_wp2_with fail
  go_region_held3 (fun w' => w'.cell? ⟨w.heap.size, 5, none⟩ = some (.int .i64 N))
    (first | go_keep | (exact (hb3.cell m2).trans hc5') | (exact (hb4.cell (Nat.lt_of_lt_of_le m2 hb3.size)).trans ((hb3.cell m2).trans hc5')))
    (first | (go_at_call 38; refine (elems_any A1 n c1 (fun i => lowN 256 (f i)) _ hn (fun i _ => HLOW.out (f i)) (hR2.drewN 1)).mono ?_; rintro e w3 ⟨v3, rfl, hO3, hb3⟩; obtain ⟨A3, c3, rfl, _, _, hR3, _⟩ := hO3.rd) | (go_at_call 19; refine (elem_any _ _ (HLOW.out One)).mono ?_; rintro e w5 ⟨rfl, rfl⟩) | (go_at_call 37; refine (powE_all A3 n c3 N (lowN 256 One) (fun i => lowN 256 (f i)) _ (HLOW.out One) (fun i _ => HLOW.out (f i)) hR3).mono ?_; rintro e w4 ⟨A4, c4, rfl, hM4, hb4⟩))
  have hbF : Below w.heap.size w w4 := (hb2'.drew.trans (hb3.mono hb2'.size)).trans (hb4.mono (Nat.le_trans hb2'.size hb3.size))
  have q2 : MI w4 A2 (pk n N) (fun _ => N.toNat) (fun i j => pw 256 (lowN 256 One) (lowN 256 (f i)) j) := MI.below (MI.below (RdM.drew hW) hb3) hb4
  have HK : Hid (pk n N ≤ 1000000000000000) := by have := pk_le n N; show _ ≤ _; omega
  have HL : Hid (∀ i, i < pk n N → N.toNat ≤ 1000000000000000) := fun i hi => by have := (pk_good hi).2.2; omega
  clear hb4 hb3 hR3 hO3 hR2 hW hc5' hb2'
  go_wp2_with fail
  refine (likeElemss_any _ _ _ _ _ _ _ _ HK.out HL.out (fun i hi j hj => HPW.out i (pk_good hi).1 j) hM4 q2).mono ?_
  rintro e w6 ⟨rfl, hd⟩
  go_wp2
  go_ret
  exact ⟨rfl, hd.below' hbF⟩

set_option maxRecDepth 20000 in
set_option maxHeartbeats 1000000 in
theorem lawPow_B (F : Int) (A B At : Value) (Av : Option Addr) (n cv : Nat) (f : Nat → Int) (N One : Int) (hA : A.oneCell' = true) (hB : B.oneCell' = true) (hAt : At.oneCell' = true) (w : World) (hF : fsz F = 2)
    (hn : n * 8 ≤ 140737488351232) (hV : Rd w Av n (fun i => .int .i64 (f i))) :
    Calls Try.prog 5 #[.agg #[.int .i64 F, A, B, At, .slice Av n cv, .int .i64 N, .int .i64 One]] w fun e w' => e = .returned (.bool true) ∧ Below w.heap.size w w' := by
  have HF := Lib.hid hF; clear hF
  have hlow : ∀ i, lowN 2 i < 2 := fun i => by have := lowN_lt (s := 2) (by decide) i; omega
  have HLOW := Lib.hid hlow
  have HPW : Hid (∀ i, i < n → ∀ j, pw 2 (lowN 2 One) (lowN 2 (f i)) j < 256) := fun i _ j => Nat.lt_of_lt_of_le (pw_lt2 (hlow One) (hlow (f i)) j) (by decide)
  have HG2 : Hid (∀ i, i < n → lowN 2 (f i) < 256) := fun i _ => Nat.lt_of_lt_of_le (hlow (f i)) (by decide)
  clear hlow
  go_enter Try.func5, Try.ntmps5
  go_wp2_with fail
  refine (size_any _ 2 HF.out _).mono ?_
  rintro e w' ⟨rfl, rfl⟩
  go_wp2_with fail
  refine (low_any _ _ _ (by omega) (by omega)).mono ?_
  rintro e w' ⟨rfl, rfl⟩
  have hb0 : Below w.heap.size w (w.alloc (.cells #[.int .i64 F, A, B, At, .slice Av n cv, .int .i64 N, .int .i64 One] 25)) := (Below.refl _ _).alloc (Nat.le_refl _) _
  have hV0 := hV.below hb0
  clear hV
  go_wp2_with fail
  refine (list_any 2 Av n cv f _ (by omega) (by omega) hn hV0).mono ?_
  rintro e w1 ⟨v, rfl, hO, hb1⟩
  obtain ⟨A1, c1, rfl, _, _, hR, _⟩ := hO.rd
  have hc5 : w1.cell? ⟨w.heap.size, 5, none⟩ = some (.int .i64 N) := by rw [hb1.cell (by simp)]; go_simp
  have hz1 := hb1.size
  simp only [World.size_alloc] at hz1
  have m1 : w.heap.size < w1.heap.size := by omega
  have hb1' : Below w.heap.size w w1 := hb0.trans (hb1.mono (by simp))
  clear hb1 hb0 hV0 hO
  go_wp2_with fail
  refine (rpow_all 2 A1 n c1 N (lowN 2 One) (fun i => lowN 2 (f i)) _ HPW.out HG2.out hR).mono ?_
  rintro e w2 ⟨A2, c2, rfl, hW, hb2⟩
  have hc5' : w2.cell? ⟨w.heap.size, 5, none⟩ = some (.int .i64 N) := (hb2.cell m1).trans hc5
  have hR2 : Rd w2 A1 n (fun i => .int .i64 (lowN 2 (f i))) := hR.below hb2
  have m2 : w.heap.size < w2.heap.size := Nat.lt_of_lt_of_le m1 hb2.size
  have hb2' : Below w.heap.size w w2 := hb1'.trans (hb2.mono (Nat.le_of_lt m1))
  clear hb2 hb1' hR hc5 m1 hz1
  go_wp2_with fail
  go_region_held3 (fun w' => w'.cell? ⟨w.heap.size, 5, none⟩ = some (.int .i64 N))
    (first | go_keep | (exact (hb3.cell m2).trans hc5') | (exact (hb4.cell (Nat.lt_of_lt_of_le m2 hb3.size)).trans ((hb3.cell m2).trans hc5')))
    (first | (go_at_call 40; refine (bits_any A1 n c1 (fun i => lowN 2 (f i)) _ hn (hR2.drewN 1)).mono ?_; rintro e w3 ⟨v3, rfl, hO3, hb3⟩; obtain ⟨A3, c3, rfl, _, _, hR3, _⟩ := hO3.rd) | (go_at_call 22; refine (bit_any _ _).mono ?_; rintro e w5 ⟨rfl, rfl⟩) | (go_at_call 39; refine (powB_all A3 n c3 N (lowN 2 One) (fun i => lowN 2 (f i)) _ (HLOW.out One) (fun i _ => HLOW.out (f i)) hR3).mono ?_; rintro e w4 ⟨A4, c4, rfl, hM4, hb4⟩))
  have hbF : Below w.heap.size w w4 := (hb2'.drew.trans (hb3.mono hb2'.size)).trans (hb4.mono (Nat.le_trans hb2'.size hb3.size))
  have q2 : MI w4 A2 (pk n N) (fun _ => N.toNat) (fun i j => pw 2 (lowN 2 One) (lowN 2 (f i)) j) := MI.below (MI.below (RdM.drew hW) hb3) hb4
  have HK : Hid (pk n N ≤ 1000000000000000) := by have := pk_le n N; show _ ≤ _; omega
  have HL : Hid (∀ i, i < pk n N → N.toNat ≤ 1000000000000000) := fun i hi => by have := (pk_good hi).2.2; omega
  clear hb4 hb3 hR3 hO3 hR2 hW hc5' hb2'
  go_wp2_with fail
  refine (likeBitss_any _ _ _ _ _ _ _ _ HK.out HL.out hM4 q2).mono ?_
  rintro e w6 ⟨rfl, hd⟩
  go_wp2
  go_ret
  exact ⟨rfl, hd.below' hbF⟩

set_option maxRecDepth 20000 in
set_option maxHeartbeats 1000000 in
theorem lawPow_F (F : Int) (A B At : Value) (Av : Option Addr) (n cv : Nat) (f : Nat → Int) (N One : Int) (hA : A.oneCell' = true) (hB : B.oneCell' = true) (hAt : At.oneCell' = true) (w : World) (hF : fsz F = 4)
    (hn : n * 8 ≤ 140737488351232) (hV : Rd w Av n (fun i => .int .i64 (f i))) :
    Calls Try.prog 5 #[.agg #[.int .i64 F, A, B, At, .slice Av n cv, .int .i64 N, .int .i64 One]] w fun e w' => e = .returned (.bool true) ∧ Below w.heap.size w w' := by
  have HF := Lib.hid hF; clear hF
  have hlow : ∀ i, lowN 4 i < 4 := fun i => by have := lowN_lt (s := 4) (by decide) i; omega
  have HLOW := Lib.hid hlow
  have HPW : Hid (∀ i, i < n → ∀ j, pw 4 (lowN 4 One) (lowN 4 (f i)) j < 256) := fun i _ j => Nat.lt_of_lt_of_le (pw_lt4 (hlow One) (hlow (f i)) j) (by decide)
  have HG2 : Hid (∀ i, i < n → lowN 4 (f i) < 256) := fun i _ => Nat.lt_of_lt_of_le (hlow (f i)) (by decide)
  clear hlow
  go_enter Try.func5, Try.ntmps5
  go_wp2_with fail
  refine (size_any _ 4 HF.out _).mono ?_
  rintro e w' ⟨rfl, rfl⟩
  go_wp2_with fail
  refine (low_any _ _ _ (by omega) (by omega)).mono ?_
  rintro e w' ⟨rfl, rfl⟩
  have hb0 : Below w.heap.size w (w.alloc (.cells #[.int .i64 F, A, B, At, .slice Av n cv, .int .i64 N, .int .i64 One] 25)) := (Below.refl _ _).alloc (Nat.le_refl _) _
  have hV0 := hV.below hb0
  clear hV
  go_wp2_with fail
  refine (list_any 4 Av n cv f _ (by omega) (by omega) hn hV0).mono ?_
  rintro e w1 ⟨v, rfl, hO, hb1⟩
  obtain ⟨A1, c1, rfl, _, _, hR, _⟩ := hO.rd
  have hc5 : w1.cell? ⟨w.heap.size, 5, none⟩ = some (.int .i64 N) := by rw [hb1.cell (by simp)]; go_simp
  have hz1 := hb1.size
  simp only [World.size_alloc] at hz1
  have m1 : w.heap.size < w1.heap.size := by omega
  have hb1' : Below w.heap.size w w1 := hb0.trans (hb1.mono (by simp))
  clear hb1 hb0 hV0 hO
  go_wp2_with fail
  refine (rpow_all 4 A1 n c1 N (lowN 4 One) (fun i => lowN 4 (f i)) _ HPW.out HG2.out hR).mono ?_
  rintro e w2 ⟨A2, c2, rfl, hW, hb2⟩
  have hc5' : w2.cell? ⟨w.heap.size, 5, none⟩ = some (.int .i64 N) := (hb2.cell m1).trans hc5
  have hR2 : Rd w2 A1 n (fun i => .int .i64 (lowN 4 (f i))) := hR.below hb2
  have m2 : w.heap.size < w2.heap.size := Nat.lt_of_lt_of_le m1 hb2.size
  have hb2' : Below w.heap.size w w2 := hb1'.trans (hb2.mono (Nat.le_of_lt m1))
  clear hb2 hb1' hR hc5 m1 hz1
  go_wp2_with fail
  go_region_held3 (fun w' => w'.cell? ⟨w.heap.size, 5, none⟩ = some (.int .i64 N))
    (first | go_keep | (exact (hb3.cell m2).trans hc5') | (exact (hbq.cell (Nat.lt_of_lt_of_le m2 hb3.size)).trans ((hb3.cell m2).trans hc5')) | (exact (hb4.cell (Nat.lt_of_lt_of_le m2 (Nat.le_trans hb3.size hbq.size))).trans ((hbq.cell (Nat.lt_of_lt_of_le m2 hb3.size)).trans ((hb3.cell m2).trans hc5'))))
    (first | (go_at_call 42; refine (fours_any A1 n c1 (fun i => lowN 4 (f i)) _ hn (hR2.drewN 1)).mono ?_; rintro e w3 ⟨v3, rfl, hO3, hb3⟩; obtain ⟨A3, c3, rfl, _, _, hR3⟩ := hO3.rd2) | (go_at_call 25; refine (four_any _ _).mono ?_; rintro e w5 ⟨rfl, hbq⟩; have hR5 := hR3.below hbq) | (go_at_call 41; refine (powF_all A3 n c3 N (lowN 4 One) (fun i => lowN 4 (f i)) _ (HLOW.out One) (fun i _ => HLOW.out (f i)) hR5).mono ?_; rintro e w4 ⟨A4, c4, rfl, hM4, hb4⟩))
  have hbF : Below w.heap.size w w4 := ((hb2'.drew.trans (hb3.mono hb2'.size)).trans (hbq.mono (Nat.le_trans hb2'.size hb3.size))).trans (hb4.mono (Nat.le_trans hb2'.size (Nat.le_trans hb3.size hbq.size)))
  have q2 : MI w4 A2 (pk n N) (fun _ => N.toNat) (fun i j => pw 4 (lowN 4 One) (lowN 4 (f i)) j) := MI.below (MI.below (MI.below (RdM.drew hW) hb3) hbq) hb4
  have HK : Hid (pk n N ≤ 1000000000000000) := by have := pk_le n N; show _ ≤ _; omega
  have HL : Hid (∀ i, i < pk n N → N.toNat ≤ 1000000000000000) := fun i hi => by have := (pk_good hi).2.2; omega
  clear hb4 hbq hb3 hR3 hO3 hR2 hW hc5' hb2'
  go_wp2_with fail
  refine (likeFourss_any _ _ _ _ _ _ _ _ HK.out HL.out hM4 q2).mono ?_
  rintro e w6 ⟨rfl, hd⟩
  go_wp2
  go_ret
  exact ⟨rfl, hbF.trans (hd.mono hbF.size)⟩

theorem lawPow (F : Int) (A B At : Value) (Av : Option Addr) (n cv : Nat) (f : Nat → Int) (N One : Int) (hA : A.oneCell' = true) (hB : B.oneCell' = true) (hAt : At.oneCell' = true) (w : World)
    (hn : n * 8 ≤ 140737488351232) (hV : Rd w Av n (fun i => .int .i64 (f i))) :
    Calls Try.prog 5 #[.agg #[.int .i64 F, A, B, At, .slice Av n cv, .int .i64 N, .int .i64 One]] w fun e w' => e = .returned (.bool true) ∧ Below w.heap.size w w' := by
  rcases fsz_cases F with e | e | e
  · exact lawPow_E F A B At Av n cv f N One hA hB hAt w e hn hV
  · exact lawPow_B F A B At Av n cv f N One hA hB hAt w e hn hV
  · exact lawPow_F F A B At Av n cv f N One hA hB hAt w e hn hV
end Go.Proofs.Ytpocjpodeahanaa
