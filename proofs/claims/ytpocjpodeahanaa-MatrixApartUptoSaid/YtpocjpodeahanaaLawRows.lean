/- MatrixRows: what Rows answers in every case; the law's walk. Conditions: none. -/
import Derived.Test.YtpocjpodeahanaaRowsM
import Derived.Test.YtpocjpodeahanaaLawId
namespace Go.Proofs.Ytpocjpodeahanaa
open Go.RowKit

/-- Rows' error. -/
def rerr (n m : Nat) (L : Nat → Nat) (t : Nat → Int) : Int :=
  if faultE n L = 0 then (if 255 < m then 3 else if (List.range m).all (fun i => decide (0 ≤ t i ∧ t i < n)) then 0 else 2) else faultE n L
/-- How many rows it gives. -/
def rk (n m : Nat) (L : Nat → Nat) (t : Nat → Int) : Nat := if rerr n m L t = 0 then m else 0
theorem rerr_fault {n m : Nat} {L : Nat → Nat} {t : Nat → Int} (h : faultE n L ≠ 0) : rerr n m L t = faultE n L ∧ rk n m L t = 0 := by
  have e : rerr n m L t = faultE n L := by unfold rerr; rw [if_neg h]
  exact ⟨e, by unfold rk; rw [e, if_neg h]⟩
theorem rerr_big {n m : Nat} {L : Nat → Nat} {t : Nat → Int} (h : faultE n L = 0) (hm : 255 < m) : rerr n m L t = 3 ∧ rk n m L t = 0 := by
  have e : rerr n m L t = 3 := by unfold rerr; rw [if_pos h, if_pos hm]
  exact ⟨e, by unfold rk; rw [e]; rfl⟩
theorem rerr_bad {n m : Nat} {L : Nat → Nat} {t : Nat → Int} (h : faultE n L = 0) (hm : ¬ 255 < m) {p : Nat} (hp : p < m) (hb : t p < 0 ∨ n ≤ t p) : rerr n m L t = 2 ∧ rk n m L t = 0 := by
  have e : rerr n m L t = 2 := by
    unfold rerr; rw [if_pos h, if_neg hm, if_neg]
    intro hall
    have := List.all_eq_true.1 hall p (List.mem_range.2 hp)
    simp at this; omega
  exact ⟨e, by unfold rk; rw [e]; rfl⟩
theorem rerr_good {n m : Nat} {L : Nat → Nat} {t : Nat → Int} (h : faultE n L = 0) (hm : ¬ 255 < m) (hg : ∀ i, i < m → 0 ≤ t i ∧ t i < n) : rerr n m L t = 0 ∧ rk n m L t = m := by
  have e : rerr n m L t = 0 := by
    unfold rerr; rw [if_pos h, if_neg hm, if_pos]
    exact List.all_eq_true.2 fun i hi => by have := hg i (List.mem_range.1 hi); simp [this]
  exact ⟨e, by unfold rk; rw [e]; rfl⟩
theorem rk_good {n m : Nat} {L : Nat → Nat} {t : Nat → Int} {i : Nat} (h : i < rk n m L t) : (t i).toNat < n ∧ rk n m L t ≤ 255 := by
  by_cases hf : faultE n L = 0
  · by_cases hm : 255 < m
    · rw [(rerr_big hf hm).2] at h; omega
    · by_cases hg : ∀ i, i < m → 0 ≤ t i ∧ t i < n
      · rw [(rerr_good hf hm hg).2] at h ⊢
        have := hg i h
        omega
      · have h0 : rerr n m L t ≠ 0 := by
          unfold rerr; rw [if_pos hf, if_neg hm, if_neg]
          · decide
          · intro hall
            refine hg fun j hj => ?_
            have := List.all_eq_true.1 hall j (List.mem_range.2 hj)
            simpa using this
        unfold rk at h; rw [if_neg h0] at h; omega
  · rw [(rerr_fault hf).2] at h; omega
theorem rk_le (n m : Nat) (L : Nat → Nat) (t : Nat → Int) : rk n m L t ≤ 255 := by
  rcases Nat.eq_zero_or_pos (rk n m L t) with h | h
  · omega
  · exact (rk_good h).2
theorem first_bad (n : Nat) (t : Nat → Int) : ∀ m, ∃ p, p ≤ m ∧ (∀ i, i < p → 0 ≤ t i ∧ t i < n) ∧ (p < m → t p < 0 ∨ n ≤ t p) := by
  intro m
  induction m with
  | zero => exact ⟨0, Nat.le_refl _, fun i hi => absurd hi (by omega), fun h => absurd h (by omega)⟩
  | succ m ih =>
    obtain ⟨p, hp, hg, hb⟩ := ih
    rcases Nat.lt_or_ge p m with h | h
    · exact ⟨p, by omega, hg, fun _ => hb h⟩
    · have : p = m := by omega
      subst this
      by_cases h0 : 0 ≤ t p ∧ t p < n
      · exact ⟨p + 1, Nat.le_refl _, fun i hi => by
          rcases Nat.lt_or_ge i p with h1 | h1
          · exact hg i h1
          · have : i = p := by omega
            subst this; exact h0, fun h => absurd h (by omega)⟩
      · exact ⟨p, by omega, hg, fun _ => by omega⟩

theorem rowsE_all (A At : Option Addr) (n m cA cAt : Nat) (L : Nat → Nat) (g : Nat → Nat → Nat) (t : Nat → Int) (w : World) (hn : n ≤ 9223372036854775807) (hL : ∀ i, i < n → L i ≤ 9223372036854775807) (hA : ME w A n L g) (hAt : Rd w At m (fun i => .int .i64 (t i))) :
    Calls Try.prog 29 #[.slice A n cA, .slice At m cAt] w fun e w' => ∃ Av c, e = .returned (.tuple #[.slice Av (rk n m L t) c, .int .i64 (rerr n m L t)]) ∧ ME w' Av (rk n m L t) (fun i => L (t i).toNat) (fun i j => g (t i).toNat j) ∧ Below w.heap.size w w' := by
  by_cases hf : faultE n L = 0
  · by_cases hm : 255 < m
    · refine (rowsE_big A At n m cA cAt L w hn hL hA.top hf hm).mono ?_
      rintro e w' ⟨he, hb⟩
      rw [(rerr_big hf hm).1, (rerr_big hf hm).2]
      exact ⟨none, 0, he, RdM.zero _ _ _ _, hb⟩
    · obtain ⟨p, hp, hg, hbad⟩ := first_bad n t m
      refine (rowsE A At n m p cA cAt L g t w hf (by omega) hp hA hAt hg hbad).mono ?_
      rintro e w' ⟨h1, h2, hb⟩
      rcases Nat.lt_or_ge p m with hlt | hge
      · rw [(rerr_bad hf hm hlt (hbad hlt)).1, (rerr_bad hf hm hlt (hbad hlt)).2]
        exact ⟨none, 0, h2 hlt, RdM.zero _ _ _ _, hb⟩
      · have hpm : p = m := by omega
        subst hpm
        rw [(rerr_good hf hm hg).1, (rerr_good hf hm hg).2]
        obtain ⟨v, S, C, he, hO⟩ := h1 rfl
        obtain ⟨Av, c, rfl, _, _, hR⟩ := hO.rdm
        exact ⟨Av, c, he, hR, hb⟩
  · refine (rowsE_fault A At n m cA cAt L w hn hL hA.top hf).mono ?_
    rintro e w' ⟨he, hb⟩
    rw [(rerr_fault hf).1, (rerr_fault hf).2]
    exact ⟨none, 0, he, RdM.zero _ _ _ _, hb⟩
theorem rowsB_all (A At : Option Addr) (n m cA cAt : Nat) (L : Nat → Nat) (g : Nat → Nat → Nat) (t : Nat → Int) (w : World) (hn : n ≤ 9223372036854775807) (hL : ∀ i, i < n → L i ≤ 9223372036854775807) (hA : MB w A n L g) (hAt : Rd w At m (fun i => .int .i64 (t i))) :
    Calls Try.prog 31 #[.slice A n cA, .slice At m cAt] w fun e w' => ∃ Av c, e = .returned (.tuple #[.slice Av (rk n m L t) c, .int .i64 (rerr n m L t)]) ∧ MB w' Av (rk n m L t) (fun i => L (t i).toNat) (fun i j => g (t i).toNat j) ∧ Below w.heap.size w w' := by
  by_cases hf : faultE n L = 0
  · by_cases hm : 255 < m
    · refine (rowsB_big A At n m cA cAt L w hn hL hA.top hf hm).mono ?_
      rintro e w' ⟨he, hb⟩
      rw [(rerr_big hf hm).1, (rerr_big hf hm).2]
      exact ⟨none, 0, he, RdM.zero _ _ _ _, hb⟩
    · obtain ⟨p, hp, hg, hbad⟩ := first_bad n t m
      refine (rowsB A At n m p cA cAt L g t w hf (by omega) hp hA hAt hg hbad).mono ?_
      rintro e w' ⟨h1, h2, hb⟩
      rcases Nat.lt_or_ge p m with hlt | hge
      · rw [(rerr_bad hf hm hlt (hbad hlt)).1, (rerr_bad hf hm hlt (hbad hlt)).2]
        exact ⟨none, 0, h2 hlt, RdM.zero _ _ _ _, hb⟩
      · have hpm : p = m := by omega
        subst hpm
        rw [(rerr_good hf hm hg).1, (rerr_good hf hm hg).2]
        obtain ⟨v, S, C, he, hO⟩ := h1 rfl
        obtain ⟨Av, c, rfl, _, _, hR⟩ := hO.rdm
        exact ⟨Av, c, he, hR, hb⟩
  · refine (rowsB_fault A At n m cA cAt L w hn hL hA.top hf).mono ?_
    rintro e w' ⟨he, hb⟩
    rw [(rerr_fault hf).1, (rerr_fault hf).2]
    exact ⟨none, 0, he, RdM.zero _ _ _ _, hb⟩
theorem rowsF_all (A At : Option Addr) (n m cA cAt : Nat) (L : Nat → Nat) (g : Nat → Nat → Nat) (t : Nat → Int) (w : World) (hn : n ≤ 9223372036854775807) (hL : ∀ i, i < n → L i ≤ 9223372036854775807) (hA : MF w A n L g) (hAt : Rd w At m (fun i => .int .i64 (t i))) :
    Calls Try.prog 33 #[.slice A n cA, .slice At m cAt] w fun e w' => ∃ Av c, e = .returned (.tuple #[.slice Av (rk n m L t) c, .int .i64 (rerr n m L t)]) ∧ MF w' Av (rk n m L t) (fun i => L (t i).toNat) (fun i j => g (t i).toNat j) ∧ Below w.heap.size w w' := by
  by_cases hf : faultE n L = 0
  · by_cases hm : 255 < m
    · refine (rowsF_big A At n m cA cAt L w hn hL hA.top hf hm).mono ?_
      rintro e w' ⟨he, hb⟩
      rw [(rerr_big hf hm).1, (rerr_big hf hm).2]
      exact ⟨none, 0, he, RdM2.zero _ _ _ _ _, hb⟩
    · obtain ⟨p, hp, hg, hbad⟩ := first_bad n t m
      refine (rowsF A At n m p cA cAt L g t w hf (by omega) hp hA hAt hg hbad).mono ?_
      rintro e w' ⟨h1, h2, hb⟩
      rcases Nat.lt_or_ge p m with hlt | hge
      · rw [(rerr_bad hf hm hlt (hbad hlt)).1, (rerr_bad hf hm hlt (hbad hlt)).2]
        exact ⟨none, 0, h2 hlt, RdM2.zero _ _ _ _ _, hb⟩
      · have hpm : p = m := by omega
        subst hpm
        rw [(rerr_good hf hm hg).1, (rerr_good hf hm hg).2]
        obtain ⟨v, S, C, he, hO⟩ := h1 rfl
        obtain ⟨Av, c, rfl, _, _, hR⟩ := hO.rdm2
        exact ⟨Av, c, he, hR, hb⟩
  · refine (rowsF_fault A At n m cA cAt L w hn hL hA.top hf).mono ?_
    rintro e w' ⟨he, hb⟩
    rw [(rerr_fault hf).1, (rerr_fault hf).2]
    exact ⟨none, 0, he, RdM2.zero _ _ _ _ _, hb⟩
theorem rrows_all (A At : Option Addr) (n m cA cAt : Nat) (L : Nat → Nat) (g : Nat → Nat → Nat) (t : Nat → Int) (w : World) (hn : n ≤ 9223372036854775807) (hL : ∀ i, i < n → L i ≤ 9223372036854775807) (hA : MI w A n L g) (hAt : Rd w At m (fun i => .int .i64 (t i))) :
    Calls Try.prog 28 #[.slice A n cA, .slice At m cAt] w fun e w' => ∃ Av c, e = .returned (.tuple #[.slice Av (rk n m L t) c, .int .i64 (rerr n m L t)]) ∧ MI w' Av (rk n m L t) (fun i => L (t i).toNat) (fun i j => g (t i).toNat j) ∧ Below w.heap.size w w' := by
  by_cases hf : faultE n L = 0
  · by_cases hm : 255 < m
    · refine (rrows_big A At n m cA cAt L w hn hL hA.top hf hm).mono ?_
      rintro e w' ⟨he, hb⟩
      rw [(rerr_big hf hm).1, (rerr_big hf hm).2]
      exact ⟨none, 0, he, RdM.zero _ _ _ _, hb⟩
    · obtain ⟨p, hp, hg, hbad⟩ := first_bad n t m
      refine (rrows A At n m p cA cAt L g t w hf (by omega) hp hA hAt hg hbad).mono ?_
      rintro e w' ⟨h1, h2, hb⟩
      rcases Nat.lt_or_ge p m with hlt | hge
      · rw [(rerr_bad hf hm hlt (hbad hlt)).1, (rerr_bad hf hm hlt (hbad hlt)).2]
        exact ⟨none, 0, h2 hlt, RdM.zero _ _ _ _, hb⟩
      · have hpm : p = m := by omega
        subst hpm
        rw [(rerr_good hf hm hg).1, (rerr_good hf hm hg).2]
        obtain ⟨v, S, C, he, hO⟩ := h1 rfl
        obtain ⟨Av, c, rfl, _, _, hR⟩ := hO.rdm
        exact ⟨Av, c, he, hR, hb⟩
  · refine (rrows_fault A At n m cA cAt L w hn hL hA.top hf).mono ?_
    rintro e w' ⟨he, hb⟩
    rw [(rerr_fault hf).1, (rerr_fault hf).2]
    exact ⟨none, 0, he, RdM.zero _ _ _ _, hb⟩
set_option maxRecDepth 20000 in
set_option maxHeartbeats 1000000 in
theorem lawRows_E (F : Int) (A At : Option Addr) (n cA m cAt : Nat) (L : Nat → Nat) (f : Nat → Nat → Int) (t : Nat → Int) (B V N One : Value) (hB : B.oneCell' = true) (hV : V.oneCell' = true) (hN : N.oneCell' = true) (hO : One.oneCell' = true) (w : World) (hF : fsz F = 256)
    (hn : n * 24 ≤ 140737488351232) (hL : ∀ i, i < n → L i * 8 ≤ 140737488351232) (hA : RdM w A n L fun i j => .int .i64 (f i j)) (hAt : Rd w At m (fun i => .int .i64 (t i))) :
    Calls Try.prog 4 #[.agg #[.int .i64 F, .slice A n cA, B, .slice At m cAt, V, N, One]] w fun e w' => e = .returned (.bool true) ∧ Below w.heap.size w w' := by
  have HF := Lib.hid hF; clear hF
  have hlow : ∀ i j, lowN 256 (f i j) < 256 := fun i j => by have := lowN_lt (s := 256) (by decide) (f i j); omega
  have hL9 : ∀ i, i < n → L i ≤ 9223372036854775807 := fun i hi => by have := hL i hi; omega
  have HLB := Lib.hid hL; have HL9 := Lib.hid hL9; have HLOW := Lib.hid hlow; clear hL hL9 hlow
  have hn9 : n ≤ 9223372036854775807 := by omega
  go_enter Try.func4, Try.ntmps4
  go_wp2_with fail
  refine (size_any _ 256 HF.out _).mono ?_
  rintro e w' ⟨rfl, rfl⟩
  have hb0 : Below w.heap.size w (w.alloc (.cells #[.int .i64 F, .slice A n cA, B, .slice At m cAt, V, N, One] 25)) := (Below.refl _ _).alloc (Nat.le_refl _) _
  have hA0 := RdM.below hA hb0
  have hAt0 := hAt.below hb0
  clear hA hAt
  go_wp2_with fail
  refine (rows_any 256 A n cA L f _ (by omega) (by omega) hn HLB.out hA0).mono ?_
  rintro e w1 ⟨v, S, C, rfl, hO, hb1⟩
  obtain ⟨A1, c1, rfl, _, hR⟩ := hO.rdm
  have hc3 : w1.cell? ⟨w.heap.size, 3, none⟩ = some (.slice At m cAt) := by rw [hb1.cell (by simp)]; go_simp
  have hAt1 := hAt0.below hb1
  have hz1 := hb1.size
  simp only [World.size_alloc] at hz1
  have m1 : w.heap.size < w1.heap.size := by omega
  have hb1' : Below w.heap.size w w1 := hb0.trans (hb1.mono (by simp))
  clear hb1 hb0 hA0 hAt0 hO
  go_wp2_with fail
  refine (rrows_all A1 At n m c1 cAt L (fun i j => lowN 256 (f i j)) t _ hn9 HL9.out hR hAt1).mono ?_
  rintro e w2 ⟨A2, c2, rfl, hW, hb2⟩
  have hc3' : w2.cell? ⟨w.heap.size, 3, none⟩ = some (.slice At m cAt) := (hb2.cell m1).trans hc3
  have hR2 : MI w2 A1 n L (fun i j => lowN 256 (f i j)) := MI.below hR hb2
  have hAt2 := hAt1.below hb2
  have m2 : w.heap.size < w2.heap.size := Nat.lt_of_lt_of_le m1 hb2.size
  have hb2' : Below w.heap.size w w2 := hb1'.trans (hb2.mono (Nat.le_of_lt m1))
  clear hb2 hb1' hR hAt1 hc3 m1 hz1
  go_wp2_with fail
  go_region_held3 (fun w' => w'.cell? ⟨w.heap.size, 3, none⟩ = some (.slice At m cAt))
    (first | go_keep | (exact (hb3.cell m2).trans hc3') | (exact (hb4.cell (Nat.lt_of_lt_of_le m2 hb3.size)).trans ((hb3.cell m2).trans hc3')))
    (first | (go_at_call 30; refine (elemss_any A1 n c1 L (fun i j => lowN 256 (f i j)) _ hn HLB.out (fun i _ j _ => HLOW.out i j) (RdM.drew hR2)).mono ?_; rintro e w3 ⟨v3, S3, C3, rfl, hO3, hb3⟩; obtain ⟨A3, c3, rfl, _, _, hR3⟩ := hO3.rdm) | (go_at_call 29; refine (rowsE_all A3 At n m c3 cAt L (fun i j => lowN 256 (f i j)) t _ hn9 HL9.out hR3 ((hAt2.drewN 1).below hb3)).mono ?_; rintro e w4 ⟨A4, c4, rfl, hM4, hb4⟩))
  have hbF : Below w.heap.size w w4 := (hb2'.drew.trans (hb3.mono hb2'.size)).trans (hb4.mono (Nat.le_trans hb2'.size hb3.size))
  have q2 : MI w4 A2 (rk n m L t) (fun i => L (t i).toNat) (fun i j => lowN 256 (f (t i).toNat j)) := MI.below (MI.below (RdM.drew hW) hb3) hb4
  have hk9 : rk n m L t ≤ 1000000000000000 := by have := rk_le n m L t; omega
  have hl9 : ∀ i, i < rk n m L t → L (t i).toNat ≤ 1000000000000000 := fun i hi => by have := HLB.out _ (rk_good hi).1; omega
  have HK := Lib.hid hk9; have HL := Lib.hid hl9; clear hk9 hl9
  clear hb4 hb3 hR3 hO3 hR2 hAt2 hW hc3' hb2'
  go_wp2_with fail
  refine (likeElemss_any _ _ _ _ _ _ _ _ HK.out HL.out (fun i hi j hj => HLOW.out _ _) hM4 q2).mono ?_
  rintro e w5 ⟨rfl, hd⟩
  go_wp2
  go_ret
  exact ⟨rfl, hd.below' hbF⟩

set_option maxRecDepth 20000 in
set_option maxHeartbeats 1000000 in
theorem lawRows_B (F : Int) (A At : Option Addr) (n cA m cAt : Nat) (L : Nat → Nat) (f : Nat → Nat → Int) (t : Nat → Int) (B V N One : Value) (hB : B.oneCell' = true) (hV : V.oneCell' = true) (hN : N.oneCell' = true) (hO : One.oneCell' = true) (w : World) (hF : fsz F = 2)
    (hn : n * 24 ≤ 140737488351232) (hL : ∀ i, i < n → L i * 8 ≤ 140737488351232) (hA : RdM w A n L fun i j => .int .i64 (f i j)) (hAt : Rd w At m (fun i => .int .i64 (t i))) :
    Calls Try.prog 4 #[.agg #[.int .i64 F, .slice A n cA, B, .slice At m cAt, V, N, One]] w fun e w' => e = .returned (.bool true) ∧ Below w.heap.size w w' := by
  have HF := Lib.hid hF; clear hF
  have hlow : ∀ i j, lowN 2 (f i j) < 2 := fun i j => by have := lowN_lt (s := 2) (by decide) (f i j); omega
  have hL9 : ∀ i, i < n → L i ≤ 9223372036854775807 := fun i hi => by have := hL i hi; omega
  have HLB := Lib.hid hL; have HL9 := Lib.hid hL9; have HLOW := Lib.hid hlow; clear hL hL9 hlow
  have hn9 : n ≤ 9223372036854775807 := by omega
  go_enter Try.func4, Try.ntmps4
  go_wp2_with fail
  refine (size_any _ 2 HF.out _).mono ?_
  rintro e w' ⟨rfl, rfl⟩
  have hb0 : Below w.heap.size w (w.alloc (.cells #[.int .i64 F, .slice A n cA, B, .slice At m cAt, V, N, One] 25)) := (Below.refl _ _).alloc (Nat.le_refl _) _
  have hA0 := RdM.below hA hb0
  have hAt0 := hAt.below hb0
  clear hA hAt
  go_wp2_with fail
  refine (rows_any 2 A n cA L f _ (by omega) (by omega) hn HLB.out hA0).mono ?_
  rintro e w1 ⟨v, S, C, rfl, hO, hb1⟩
  obtain ⟨A1, c1, rfl, _, hR⟩ := hO.rdm
  have hc3 : w1.cell? ⟨w.heap.size, 3, none⟩ = some (.slice At m cAt) := by rw [hb1.cell (by simp)]; go_simp
  have hAt1 := hAt0.below hb1
  have hz1 := hb1.size
  simp only [World.size_alloc] at hz1
  have m1 : w.heap.size < w1.heap.size := by omega
  have hb1' : Below w.heap.size w w1 := hb0.trans (hb1.mono (by simp))
  clear hb1 hb0 hA0 hAt0 hO
  go_wp2_with fail
  refine (rrows_all A1 At n m c1 cAt L (fun i j => lowN 2 (f i j)) t _ hn9 HL9.out hR hAt1).mono ?_
  rintro e w2 ⟨A2, c2, rfl, hW, hb2⟩
  have hc3' : w2.cell? ⟨w.heap.size, 3, none⟩ = some (.slice At m cAt) := (hb2.cell m1).trans hc3
  have hR2 : MI w2 A1 n L (fun i j => lowN 2 (f i j)) := MI.below hR hb2
  have hAt2 := hAt1.below hb2
  have m2 : w.heap.size < w2.heap.size := Nat.lt_of_lt_of_le m1 hb2.size
  have hb2' : Below w.heap.size w w2 := hb1'.trans (hb2.mono (Nat.le_of_lt m1))
  clear hb2 hb1' hR hAt1 hc3 m1 hz1
  go_wp2_with fail
  go_region_held3 (fun w' => w'.cell? ⟨w.heap.size, 3, none⟩ = some (.slice At m cAt))
    (first | go_keep | (exact (hb3.cell m2).trans hc3') | (exact (hb4.cell (Nat.lt_of_lt_of_le m2 hb3.size)).trans ((hb3.cell m2).trans hc3')))
    (first | (go_at_call 32; refine (bitss_any A1 n c1 L (fun i j => lowN 2 (f i j)) _ hn HLB.out (RdM.drew hR2)).mono ?_; rintro e w3 ⟨v3, S3, C3, rfl, hO3, hb3⟩; obtain ⟨A3, c3, rfl, _, _, hR3⟩ := hO3.rdm) | (go_at_call 31; refine (rowsB_all A3 At n m c3 cAt L (fun i j => lowN 2 (f i j)) t _ hn9 HL9.out hR3 ((hAt2.drewN 1).below hb3)).mono ?_; rintro e w4 ⟨A4, c4, rfl, hM4, hb4⟩))
  have hbF : Below w.heap.size w w4 := (hb2'.drew.trans (hb3.mono hb2'.size)).trans (hb4.mono (Nat.le_trans hb2'.size hb3.size))
  have q2 : MI w4 A2 (rk n m L t) (fun i => L (t i).toNat) (fun i j => lowN 2 (f (t i).toNat j)) := MI.below (MI.below (RdM.drew hW) hb3) hb4
  have hk9 : rk n m L t ≤ 1000000000000000 := by have := rk_le n m L t; omega
  have hl9 : ∀ i, i < rk n m L t → L (t i).toNat ≤ 1000000000000000 := fun i hi => by have := HLB.out _ (rk_good hi).1; omega
  have HK := Lib.hid hk9; have HL := Lib.hid hl9; clear hk9 hl9
  clear hb4 hb3 hR3 hO3 hR2 hAt2 hW hc3' hb2'
  go_wp2_with fail
  refine (likeBitss_any _ _ _ _ _ _ _ _ HK.out HL.out hM4 q2).mono ?_
  rintro e w5 ⟨rfl, hd⟩
  go_wp2
  go_ret
  exact ⟨rfl, hd.below' hbF⟩

set_option maxRecDepth 20000 in
set_option maxHeartbeats 1000000 in
theorem lawRows_F (F : Int) (A At : Option Addr) (n cA m cAt : Nat) (L : Nat → Nat) (f : Nat → Nat → Int) (t : Nat → Int) (B V N One : Value) (hB : B.oneCell' = true) (hV : V.oneCell' = true) (hN : N.oneCell' = true) (hO : One.oneCell' = true) (w : World) (hF : fsz F = 4)
    (hn : n * 24 ≤ 140737488351232) (hL : ∀ i, i < n → L i * 8 ≤ 140737488351232) (hA : RdM w A n L fun i j => .int .i64 (f i j)) (hAt : Rd w At m (fun i => .int .i64 (t i))) :
    Calls Try.prog 4 #[.agg #[.int .i64 F, .slice A n cA, B, .slice At m cAt, V, N, One]] w fun e w' => e = .returned (.bool true) ∧ Below w.heap.size w w' := by
  have HF := Lib.hid hF; clear hF
  have hlow : ∀ i j, lowN 4 (f i j) < 4 := fun i j => by have := lowN_lt (s := 4) (by decide) (f i j); omega
  have hL9 : ∀ i, i < n → L i ≤ 9223372036854775807 := fun i hi => by have := hL i hi; omega
  have HLB := Lib.hid hL; have HL9 := Lib.hid hL9; have HLOW := Lib.hid hlow; clear hL hL9 hlow
  have hn9 : n ≤ 9223372036854775807 := by omega
  go_enter Try.func4, Try.ntmps4
  go_wp2_with fail
  refine (size_any _ 4 HF.out _).mono ?_
  rintro e w' ⟨rfl, rfl⟩
  have hb0 : Below w.heap.size w (w.alloc (.cells #[.int .i64 F, .slice A n cA, B, .slice At m cAt, V, N, One] 25)) := (Below.refl _ _).alloc (Nat.le_refl _) _
  have hA0 := RdM.below hA hb0
  have hAt0 := hAt.below hb0
  clear hA hAt
  go_wp2_with fail
  refine (rows_any 4 A n cA L f _ (by omega) (by omega) hn HLB.out hA0).mono ?_
  rintro e w1 ⟨v, S, C, rfl, hO, hb1⟩
  obtain ⟨A1, c1, rfl, _, hR⟩ := hO.rdm
  have hc3 : w1.cell? ⟨w.heap.size, 3, none⟩ = some (.slice At m cAt) := by rw [hb1.cell (by simp)]; go_simp
  have hAt1 := hAt0.below hb1
  have hz1 := hb1.size
  simp only [World.size_alloc] at hz1
  have m1 : w.heap.size < w1.heap.size := by omega
  have hb1' : Below w.heap.size w w1 := hb0.trans (hb1.mono (by simp))
  clear hb1 hb0 hA0 hAt0 hO
  go_wp2_with fail
  refine (rrows_all A1 At n m c1 cAt L (fun i j => lowN 4 (f i j)) t _ hn9 HL9.out hR hAt1).mono ?_
  rintro e w2 ⟨A2, c2, rfl, hW, hb2⟩
  have hc3' : w2.cell? ⟨w.heap.size, 3, none⟩ = some (.slice At m cAt) := (hb2.cell m1).trans hc3
  have hR2 : MI w2 A1 n L (fun i j => lowN 4 (f i j)) := MI.below hR hb2
  have hAt2 := hAt1.below hb2
  have m2 : w.heap.size < w2.heap.size := Nat.lt_of_lt_of_le m1 hb2.size
  have hb2' : Below w.heap.size w w2 := hb1'.trans (hb2.mono (Nat.le_of_lt m1))
  clear hb2 hb1' hR hAt1 hc3 m1 hz1
  go_wp2_with fail
  go_region_held3 (fun w' => w'.cell? ⟨w.heap.size, 3, none⟩ = some (.slice At m cAt))
    (first | go_keep | (exact (hb3.cell m2).trans hc3') | (exact (hb4.cell (Nat.lt_of_lt_of_le m2 hb3.size)).trans ((hb3.cell m2).trans hc3')))
    (first | (go_at_call 34; refine (fourss_any A1 n c1 L (fun i j => lowN 4 (f i j)) _ hn HLB.out (RdM.drew hR2)).mono ?_; rintro e w3 ⟨v3, S3, C3, rfl, hO3, hb3⟩; obtain ⟨A3, c3, rfl, _, _, hR3⟩ := hO3.rdm2) | (go_at_call 33; refine (rowsF_all A3 At n m c3 cAt L (fun i j => lowN 4 (f i j)) t _ hn9 HL9.out hR3 ((hAt2.drewN 1).below hb3)).mono ?_; rintro e w4 ⟨A4, c4, rfl, hM4, hb4⟩))
  have hbF : Below w.heap.size w w4 := (hb2'.drew.trans (hb3.mono hb2'.size)).trans (hb4.mono (Nat.le_trans hb2'.size hb3.size))
  have q2 : MI w4 A2 (rk n m L t) (fun i => L (t i).toNat) (fun i j => lowN 4 (f (t i).toNat j)) := MI.below (MI.below (RdM.drew hW) hb3) hb4
  have hk9 : rk n m L t ≤ 1000000000000000 := by have := rk_le n m L t; omega
  have hl9 : ∀ i, i < rk n m L t → L (t i).toNat ≤ 1000000000000000 := fun i hi => by have := HLB.out _ (rk_good hi).1; omega
  have HK := Lib.hid hk9; have HL := Lib.hid hl9; clear hk9 hl9
  clear hb4 hb3 hR3 hO3 hR2 hAt2 hW hc3' hb2'
  go_wp2_with fail
  refine (likeFourss_any _ _ _ _ _ _ _ _ HK.out HL.out hM4 q2).mono ?_
  rintro e w5 ⟨rfl, hd⟩
  go_wp2
  go_ret
  exact ⟨rfl, hbF.trans (hd.mono hbF.size)⟩

theorem lawRows (F : Int) (A At : Option Addr) (n cA m cAt : Nat) (L : Nat → Nat) (f : Nat → Nat → Int) (t : Nat → Int) (B V N One : Value) (hB : B.oneCell' = true) (hV : V.oneCell' = true) (hN : N.oneCell' = true) (hO : One.oneCell' = true) (w : World)
    (hn : n * 24 ≤ 140737488351232) (hL : ∀ i, i < n → L i * 8 ≤ 140737488351232) (hA : RdM w A n L fun i j => .int .i64 (f i j)) (hAt : Rd w At m (fun i => .int .i64 (t i))) :
    Calls Try.prog 4 #[.agg #[.int .i64 F, .slice A n cA, B, .slice At m cAt, V, N, One]] w fun e w' => e = .returned (.bool true) ∧ Below w.heap.size w w' := by
  rcases fsz_cases F with e | e | e
  · exact lawRows_E F A At n cA m cAt L f t B V N One hB hV hN hO w e hn hL hA hAt
  · exact lawRows_B F A At n cA m cAt L f t B V N One hB hV hN hO w e hn hL hA hAt
  · exact lawRows_F F A At n cA m cAt L f t B V N One hB hV hN hO w e hn hL hA hAt
end Go.Proofs.Ytpocjpodeahanaa
