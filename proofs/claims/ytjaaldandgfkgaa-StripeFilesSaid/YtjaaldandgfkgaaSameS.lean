/- The law's helpers that compare: same, unmarked, keptRows; turned. Conditions: bytes. -/
import Derived.Test.YtjaaldandgfkgaaLentS
import Derived.Test.YtjaaldandgfkgaaStrN
import Derived.Test.YtjaaldandgfkgaaFactG
namespace Go.Proofs.Ytjaaldandgfkgaa
open Go.RowKit

set_option maxRecDepth 20000 in
set_option maxHeartbeats 1000000 in
theorem same_any (A1 A2 : Option Addr) (n c1 c2 : Nat) (L : Nat → Nat) (g : Nat → Nat → Nat) (w : World) (hn : n ≤ 1000000000000000) (hg : ∀ i, i < n → ∀ j, j < L i → g i j < 256) (h1 : RdM w A1 n L fun i j => .int .u8 (g i j)) (h2 : RdM w A2 n L fun i j => .int .u8 (g i j)) :
    Calls Try.prog 38 #[.slice A1 n c1, .slice A2 n c2] w fun e w' => e = .returned (.bool true) ∧ Dr w w' := by
  obtain ⟨SA, CA, hA1, hA2⟩ := h1
  obtain ⟨SB, CB, hB1, hB2⟩ := h2
  have HG := Lib.hid hg; clear hg
  have HA1 := Lib.hid hA1; have HA2 := Lib.hid hA2; have HB1 := Lib.hid hB1; have HB2 := Lib.hid hB2
  clear hA1 hA2 hB1 hB2
  go_enter Try.func38, Try.ntmps38
  go_wp2
  go_loopg [5] n (fun gk i wr => Dr w wr ∧ ∃ k : Nat, k ≤ n ∧ gk = n - k ∧ i = .int .i64 k)
  case atStart => exact ⟨Dr.refl _, 0, Nat.zero_le _, rfl, rfl⟩
  case round =>
    obtain ⟨hd, k, hk, rfl, rfl⟩ := hrel
    by_cases hlt : k < n
    · obtain ⟨b1, o1, rfl, hb1, hx1⟩ := HA1.out k hlt
      obtain ⟨b2, o2, rfl, hb2, hx2⟩ := HB1.out k hlt
      have hbel := hd.below w.heap.size
      have hy1 : wr.cell? ⟨b1, o1 + k, none⟩ = some (.slice (SA k) (L k) (CA k)) := (hbel.cell hb1).trans hx1
      have hy2 : wr.cell? ⟨b2, o2 + k, none⟩ = some (.slice (SB k) (L k) (CB k)) := (hbel.cell hb2).trans hx2
      have hy3 : wr.drew.cell? ⟨b1, o1 + k, none⟩ = some (.slice (SA k) (L k) (CA k)) := hy1
      have hy4 : wr.drew.cell? ⟨b2, o2 + k, none⟩ = some (.slice (SB k) (L k) (CB k)) := hy2
      have hs1 := conv_str (P := Try.prog) wr.drew 43 9 5 (SA k) (L k) (CA k) (g k) Try.underlying43 Try.underlying5 Try.underlying9 (HG.out k hlt) ((HA2.out k hlt).below (hd.drew.below _))
      have hs2 := conv_str (P := Try.prog) wr.drew 43 9 5 (SB k) (L k) (CB k) (g k) Try.underlying43 Try.underlying5 Try.underlying9 (HG.out k hlt) ((HB2.out k hlt).below (hd.drew.below _))
      have HD := Lib.hid hd.drew
      clear hx1 hx2 hd hbel
      go_wp2_with fail
      refine wp_region_mix [(true, true, false), (true, true, false), (true, true, false), (true, true, true), (true, true, true), (true, true, false), (true, true, false), (true, true, false), (true, true, true), (true, true, true), (true, true, false)] mixed (by kernel_rfl) (fun w4 => w4 = wr.drew) (rfl) ?_
      intro hSw0
      simp only [hdM, tlM, List.cons_append, List.nil_append]
      repeat (first
        | (refine mix_look hSw0.out ?_ (by rfl) (fun w4 hSw => ?_) ?_; rotate_left; (focus (subst hSw; go_simp; try with_reducible rfl)); simp only [Act.put, List.setIfInBounds_toArray, List.set_cons_zero, List.set_cons_succ])
        | (refine mix_pure ?_ (by rfl) (fun w4 => ?_) ?_; rotate_left; (focus (go_simp; try with_reducible rfl)); simp only [Act.put, List.setIfInBounds_toArray, List.set_cons_zero, List.set_cons_succ]))
      refine mix_nil ?_
      clear hs1 hs2 hy1 hy2 hy3 hy4
      go_wp2
      go_roundg (n - (k + 1))
      case measure => omega
      case rel => exact ⟨HD.out, k + 1, by omega, rfl, by go_num⟩
    · have hkn : k = n := by omega
      subst k
      go_wp2
      go_ret
      exact ⟨rfl, hd⟩

set_option maxRecDepth 20000 in
set_option maxHeartbeats 1000000 in
theorem unmarked_any (S C : Nat) (A2 : Option Addr) (n c2 B0 : Nat) (g : Nat → Nat) (w : World) (hn : n ≤ 1000000000000000) (hg : ∀ j, j < n → g j < 256) (hC : n + 64 ≤ C) (h1 : Own w B0 5 1 (.slice (some ⟨S, 0, none⟩) (n + 64) C) (n + 64) (fun j => [.int .u8 (mkd n g j)])) (h2 : Rd w A2 n fun j => .int .u8 (g j)) :
    Calls Try.prog 24 #[.slice (some ⟨S, 0, none⟩) n C, .slice A2 n c2] w fun e w' => e = .returned (.bool true) ∧ w' = w := by
  have hl := (h1.lt S rfl).2
  have hs1 := conv_str (P := Try.prog) w 43 9 5 (some ⟨S, 0, none⟩) n C g Try.underlying43 Try.underlying5 Try.underlying9 hg (fun j hj => ⟨S, 0, rfl, hl, by rw [Nat.zero_add, h1.cell1 (by omega)]; unfold mkd; rw [if_pos hj]⟩)
  have hs2 := conv_str (P := Try.prog) w 43 9 5 A2 n c2 g Try.underlying43 Try.underlying5 Try.underlying9 hg h2
  have H1 := Lib.hid h1
  have hw1 : IntKind.i64.wrap ((n : Int) + 64) = (n : Int) + 64 := i64_small _ (by omega) (by omega)
  have hb1 : (0 : Int) ≤ (n : Int) + 64 := by omega
  have hb2 : (n : Int) + 64 ≤ (C : Int) := by omega
  have hb3 : ((n : Int) + 64).toNat = n + 64 := by omega
  clear h1 h2 hg
  go_enter Try.func24, Try.ntmps24
  go_wp2
  clear hs1 hs2 hw1 hb1 hb2 hb3
  go_loopg [6] 64 (fun gk i wr => wr = w ∧ ∃ k : Nat, k ≤ 64 ∧ gk = 64 - k ∧ i = .int .i64 ((n + k : Nat) : Int))
  case atStart => exact ⟨rfl, 0, Nat.zero_le _, rfl, rfl⟩
  case round =>
    obtain ⟨rfl, k, hk, rfl, rfl⟩ := hrel
    by_cases hlt : k < 64
    · have hc : wr.cell? ⟨S, n + k, none⟩ = some (.int .u8 (201 + (k : Int) % 7)) := by
        rw [H1.out.cell1 (by omega)]; unfold mkd; rw [if_neg (by omega), show n + k - n = k by omega]; rfl
      have hsub : IntKind.i64.wrap (((n + k : Nat) : Int) - (n : Int)) = (k : Int) := by rw [i64_small _ (by omega) (by omega)]; omega
      have hsub2 : ((n + k : Nat) : Int) - (n : Int) = (k : Int) := by omega
      go_wp2
      go_roundg (64 - (k + 1))
      case measure => omega
      case rel => exact ⟨rfl, k + 1, by omega, rfl, by go_num⟩
    · have hk64 : k = 64 := by omega
      subst hk64
      go_wp2
      go_ret
      exact ⟨rfl, rfl⟩

theorem lnF_row {n : Nat} {L : Nat → Nat} {g : Nat → Nat → Nat} {i : Nat} (hi : i < n) (j : Nat) : lnF n L g i j = mkd (L i) (g i) j := if_pos hi
set_option maxRecDepth 20000 in
set_option maxHeartbeats 1000000 in
theorem kept_any (T cT : Nat) (A2 : Option Addr) (n c2 B0 : Nat) (S L C : Nat → Nat) (g : Nat → Nat → Nat) (w : World) (hn : n ≤ 1000000000000000) (hL : ∀ i, i < n → L i ≤ 1000000000000000) (hg : ∀ i, i < n → ∀ j, j < L i → g i j < 256) (hcT : n + 64 ≤ cT) (hC : ∀ i, i < n + 64 → lnM n L i ≤ C i)
    (h1 : LentW w B0 (.slice (some ⟨T, 0, none⟩) (n + 64) cT) (n + 64) S (lnL n L) C (lnM n L) (lnF n L g)) (h2 : RdM w A2 n L fun i j => .int .u8 (g i j)) :
    Calls Try.prog 65 #[.slice (some ⟨T, 0, none⟩) n cT, .slice A2 n c2] w fun e w' => e = .returned (.bool true) ∧ Dr w w' := by
  obtain ⟨SB, CB, hB1, hB2⟩ := h2
  have H1 := Lib.hid h1; have HL := Lib.hid hL; have HG := Lib.hid hg; have HC := Lib.hid hC
  have HB1 := Lib.hid hB1; have HB2 := Lib.hid hB2
  have hTl := (h1.top.lt T rfl).2
  clear h1 hL hg hC hB1 hB2
  go_enter Try.func65, Try.ntmps65
  go_wp2
  go_loopg [5] n (fun gk i wr => Dr w wr ∧ ∃ k : Nat, k ≤ n ∧ gk = n - k ∧ i = .int .i64 k)
  case atStart => exact ⟨Dr.refl _, 0, Nat.zero_le _, rfl, rfl⟩
  case round =>
    obtain ⟨hd, k, hk, rfl, rfl⟩ := hrel
    by_cases hlt : k < n
    · obtain ⟨b2, o2, rfl, hb2, hx2⟩ := HB1.out k hlt
      have hbel := hd.below w.heap.size
      have hy1 : wr.cell? ⟨T, k, none⟩ = some (.slice (some ⟨S k, 0, none⟩) (L k) (C k)) := by
        rw [hd.cell, H1.out.top.cell1 (by omega)]; unfold lnL; rw [if_pos hlt]
      have hy2 : wr.cell? ⟨b2, o2 + k, none⟩ = some (.slice (SB k) (L k) (CB k)) := (hbel.cell hb2).trans hx2
      have KS : Hid (∀ w4, Dr wr w4 → w4.cell? ⟨T, k, none⟩ = some (.slice (some ⟨S k, 0, none⟩) (L k) (C k)) ∧ w4.cell? ⟨b2, o2 + k, none⟩ = some (.slice (SB k) (L k) (CB k))) := fun w4 hd4 => ⟨(hd4.cell _).trans hy1, (hd4.cell _).trans hy2⟩
      have hrow : Own wr.drew B0 5 1 (.slice (some ⟨S k, 0, none⟩) (L k + 64) (C k)) (L k + 64) (fun j => [.int .u8 (mkd (L k) (g k) j)]) := by
        have h := ((H1.out.row k (by omega)).kept (hd.drew.below _)).congr (g := fun j => [.int .u8 (mkd (L k) (g k) j)]) fun j _ => by rw [lnF_row hlt]
        unfold lnM at h; rw [if_pos hlt] at h; exact h
      have hCk : L k + 64 ≤ C k := by have h := HC.out k (by omega); unfold lnM at h; rw [if_pos hlt] at h; exact h
      have HU := Lib.hid (unmarked_any (S k) (C k) (SB k) (L k) (CB k) B0 (g k) wr.drew (HL.out k hlt) (HG.out k hlt) hCk hrow ((HB2.out k hlt).below (hd.drew.below _)))
      have HD := Lib.hid hd
      clear hx2 hd hbel hrow
      go_wp2_with fail
      clear hy1 hy2
      refine wp_region_mix [(true, true, false), (true, true, false), (true, true, false), (true, true, true), (true, true, false), (true, true, false), (true, true, false), (true, true, true), (false, false, false), (false, true, false)] mixed (by kernel_rfl) (fun w4 => w4.cell? ⟨T, k, none⟩ = some (.slice (some ⟨S k, 0, none⟩) (L k) (C k)) ∧ w4.cell? ⟨b2, o2 + k, none⟩ = some (.slice (SB k) (L k) (CB k))) (KS.out _ (Dr.refl _).drew) ?_
      intro hSw0
      simp only [hdM, tlM, List.cons_append, List.nil_append]
      repeat (first
        | (refine mix_look hSw0.out ?_ (by rfl) (fun w4 hSw => ?_) ?_; rotate_left; (focus (obtain ⟨s1, s2⟩ := hSw; go_simp; try with_reducible rfl)); simp only [Act.put, List.setIfInBounds_toArray, List.set_cons_zero, List.set_cons_succ])
        | (refine mix_pure ?_ (by rfl) (fun w4 => ?_) ?_; rotate_left; (focus (go_simp; try with_reducible rfl)); simp only [Act.put, List.setIfInBounds_toArray, List.set_cons_zero, List.set_cons_succ]))
      refine mix_step (fun K hK => ?_)
      go_simp
      refine HU.out.mono ?_
      rintro e w5 ⟨rfl, rfl⟩
      dsimp only
      refine hK.out _ _ (fun _ h => h) ?_
      clear hK K
      try simp only [Act.put, List.setIfInBounds_toArray, List.set_cons_zero, List.set_cons_succ]
      repeat (refine mix_pure ?_ (by rfl) (fun w4 => ?_) ?_; rotate_left; (focus (go_simp; try with_reducible rfl)); simp only [Act.put, List.setIfInBounds_toArray, List.set_cons_zero, List.set_cons_succ])
      refine mix_nil ?_
      go_wp2
      go_roundg (n - (k + 1))
      case measure => omega
      case rel => exact ⟨HD.out.drew, k + 1, by omega, rfl, by go_num⟩
    · have hkn : k = n := by omega
      subst k
      have hw1 : IntKind.i64.wrap ((n : Int) + 64) = (n : Int) + 64 := i64_small _ (by omega) (by omega)
      have hb1 : (0 : Int) ≤ (n : Int) + 64 := by omega
      have hb2 : (n : Int) + 64 ≤ (cT : Int) := by omega
      have hb3 : ((n : Int) + 64).toNat = n + 64 := by omega
      have HD := Lib.hid hd
      clear hd
      go_wp2
      clear hw1 hb1 hb2 hb3
      go_loopg [7] 64 (fun gk i w2 => w2 = wr ∧ ∃ k : Nat, k ≤ 64 ∧ gk = 64 - k ∧ i = .int .i64 ((n + k : Nat) : Int))
      case atStart => exact ⟨rfl, 0, Nat.zero_le _, rfl, rfl⟩
      case round =>
        obtain ⟨rfl, k, hk, rfl, rfl⟩ := hrel
        by_cases hlt : k < 64
        · have hc0 := HD.out.cell ⟨T, n + k, none⟩
          rw [H1.out.top.cell1 (by omega)] at hc0
          have e1 : lnL n L (n + k) = 1 := if_neg (by omega)
          rw [e1] at hc0
          have hc1 := HD.out.cell ⟨S (n + k), 0, none⟩
          rw [(H1.out.row (n + k) (by omega)).cell1 (show 0 < lnM n L (n + k) by unfold lnM; rw [if_neg (by omega)]; omega)] at hc1
          have e2 : lnF n L g (n + k) 0 = 77 := if_neg (by omega)
          rw [e2] at hc1
          clear e1 e2
          go_wp2
          go_roundg (64 - (k + 1))
          case measure => omega
          case rel => exact ⟨rfl, k + 1, by omega, rfl, by go_num⟩
        · have hk64 : k = 64 := by omega
          subst hk64
          go_wp2
          go_ret
          exact ⟨rfl, HD.out⟩
end Go.Proofs.Ytjaaldandgfkgaa
