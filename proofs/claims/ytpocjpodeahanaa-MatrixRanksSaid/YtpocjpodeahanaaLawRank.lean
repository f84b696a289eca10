/- MatrixRanks: the law's walk. Conditions: none. -/
import Derived.Test.YtpocjpodeahanaaTwin
import Derived.Test.YtpocjpodeahanaaRef3
import Derived.Test.YtpocjpodeahanaaMat1
namespace Go.Proofs.Ytpocjpodeahanaa
open Go.RowKit

/-- A number brought below the field's size, as a number of the field. -/
def lowF (s : Nat) (hs : 2 ≤ s) (i : Int) : Fin s := ⟨lowN s i, by have := lowN_lt (s := (s : Int)) (by omega) i; omega⟩
theorem ranks_eq {s : Nat} {F : Fd (Fin s)} {n st r : Nat} {L : Nat → Nat} {G : Nat → Nat → Fin s} (h1 : faultE n L ≠ 0 → st = 0) (h2 : faultE n L = 0 → ∃ G' p, F.RR n (colsN n L) (colsN n L) G G' st p)
    (h3 : faultE n L ≠ 0 → r = 0) (h4 : faultE n L = 0 → ∃ R p, F.BS n r (colsN n L) (colsN n L) G R p) : st = r := by
  by_cases h : faultE n L = 0
  · obtain ⟨G', p, hR⟩ := h2 h
    obtain ⟨R, q, hB⟩ := h4 h
    exact Fd.rank_eq hR hB
  · rw [h1 h, h3 h]

set_option maxRecDepth 20000 in
set_option maxHeartbeats 1000000 in
theorem lawRank_E (F : Int) (A : Option Addr) (n cA : Nat) (L : Nat → Nat) (f : Nat → Nat → Int) (B At V N One : Value) (hB : B.oneCell' = true) (hAt : At.oneCell' = true) (hV : V.oneCell' = true) (hN : N.oneCell' = true) (hO : One.oneCell' = true) (w : World) (hF : fsz F = 256)
    (hn : n * 24 ≤ 140737488351232) (hL : ∀ i, i < n → L i * 8 ≤ 140737488351232) (hA : RdM w A n L fun i j => .int .i64 (f i j)) :
    Calls Try.prog 7 #[.agg #[.int .i64 F, .slice A n cA, B, At, V, N, One]] w fun e w' => e = .returned (.bool true) ∧ Below w.heap.size w w' := by
  have HF := Lib.hid hF; clear hF
  have hL9 : ∀ i, i < n → L i ≤ 9223372036854775807 := fun i hi => by have := hL i hi; omega
  have HL := Lib.hid hL; have HL9 := Lib.hid hL9; clear hL hL9
  have hn9 : n ≤ 9223372036854775807 := by omega
  go_enter Try.func7, Try.ntmps7
  go_wp2_with fail
  refine (size_any _ 256 HF.out _).mono ?_
  rintro e w' ⟨rfl, rfl⟩
  have hb0 : Below w.heap.size w (w.alloc (.cells #[.int .i64 F, .slice A n cA, B, At, V, N, One] 25)) := (Below.refl _ _).alloc (Nat.le_refl _) _
  have hA0 := RdM.below hA hb0
  clear hA
  go_wp2_with fail
  refine (rows_any 256 A n cA L f _ (by omega) (by omega) hn HL.out hA0).mono ?_
  rintro e w1 ⟨v, S, C, rfl, hO, hb1⟩
  obtain ⟨A1, c1, rfl, _, hR⟩ := hO.rdm
  have hR : MI w1 A1 n L (fun i j => (lowF 256 (by decide) (f i j)).val) := hR
  have hbb1 : Below w.heap.size w w1 := hb0.trans (hb1.mono (by simp))
  clear hb1 hb0 hA0 hO
  go_wp2_with fail
  refine (rrank_any okE A1 n c1 L (fun i j => lowF 256 (by decide) (f i j)) _ hn9 HL9.out hR).mono ?_
  rintro e w2 ⟨r, rfl, hb2, hr1, hr2⟩
  have hR2 := MI.below hR hb2
  have hbb2 := hbb1.trans (hb2.mono hbb1.size)
  have HR1 := Lib.hid hr1; have HR2 := Lib.hid hr2
  clear hb2 hbb1 hR hr1 hr2
  go_wp2_with fail
  refine (elemss_any A1 n c1 L (fun i j => (lowF 256 (by decide) (f i j)).val) _ hn HL.out (fun i _ j _ => (lowF 256 (by decide) (f i j)).isLt) hR2).mono ?_
  rintro e w4 ⟨v4, S4, C4, rfl, hO4, hb4⟩
  obtain ⟨A4, c4, rfl, _, _, hE4⟩ := hO4.rdm
  have hbb4 := hbb2.trans (hb4.mono hbb2.size)
  clear hb4 hbb2 hR2 hO4
  go_wp2_with fail
  refine (rankE_any A4 n c4 L (fun i j => lowF 256 (by decide) (f i j)) _ hn9 HL9.out hE4).mono ?_
  rintro e w6 ⟨st, rfl, hb6, hs1, hs2⟩
  have hbF := hbb4.trans (hb6.mono hbb4.size)
  have hst : st = r := ranks_eq hs1 hs2 HR1.out HR2.out
  subst hst
  clear hb6 hE4 hbb4 hs1 hs2
  go_wp2
  go_ret
  exact ⟨rfl, hbF⟩

set_option maxRecDepth 20000 in
set_option maxHeartbeats 1000000 in
theorem lawRank_B (F : Int) (A : Option Addr) (n cA : Nat) (L : Nat → Nat) (f : Nat → Nat → Int) (B At V N One : Value) (hB : B.oneCell' = true) (hAt : At.oneCell' = true) (hV : V.oneCell' = true) (hN : N.oneCell' = true) (hO : One.oneCell' = true) (w : World) (hF : fsz F = 2)
    (hn : n * 24 ≤ 140737488351232) (hL : ∀ i, i < n → L i * 8 ≤ 140737488351232) (hA : RdM w A n L fun i j => .int .i64 (f i j)) :
    Calls Try.prog 7 #[.agg #[.int .i64 F, .slice A n cA, B, At, V, N, One]] w fun e w' => e = .returned (.bool true) ∧ Below w.heap.size w w' := by
  have HF := Lib.hid hF; clear hF
  have hL9 : ∀ i, i < n → L i ≤ 9223372036854775807 := fun i hi => by have := hL i hi; omega
  have HL := Lib.hid hL; have HL9 := Lib.hid hL9; clear hL hL9
  have hn9 : n ≤ 9223372036854775807 := by omega
  go_enter Try.func7, Try.ntmps7
  go_wp2_with fail
  refine (size_any _ 2 HF.out _).mono ?_
  rintro e w' ⟨rfl, rfl⟩
  have hb0 : Below w.heap.size w (w.alloc (.cells #[.int .i64 F, .slice A n cA, B, At, V, N, One] 25)) := (Below.refl _ _).alloc (Nat.le_refl _) _
  have hA0 := RdM.below hA hb0
  clear hA
  go_wp2_with fail
  refine (rows_any 2 A n cA L f _ (by omega) (by omega) hn HL.out hA0).mono ?_
  rintro e w1 ⟨v, S, C, rfl, hO, hb1⟩
  obtain ⟨A1, c1, rfl, _, hR⟩ := hO.rdm
  have hR : MI w1 A1 n L (fun i j => (lowF 2 (by decide) (f i j)).val) := hR
  have hbb1 : Below w.heap.size w w1 := hb0.trans (hb1.mono (by simp))
  clear hb1 hb0 hA0 hO
  go_wp2_with fail
  refine (rrank_any okB A1 n c1 L (fun i j => lowF 2 (by decide) (f i j)) _ hn9 HL9.out hR).mono ?_
  rintro e w2 ⟨r, rfl, hb2, hr1, hr2⟩
  have hR2 := MI.below hR hb2
  have hbb2 := hbb1.trans (hb2.mono hbb1.size)
  have HR1 := Lib.hid hr1; have HR2 := Lib.hid hr2
  clear hb2 hbb1 hR hr1 hr2
  go_wp2_with fail
  refine (bitss_any A1 n c1 L (fun i j => (lowF 2 (by decide) (f i j)).val) _ hn HL.out hR2).mono ?_
  rintro e w4 ⟨v4, S4, C4, rfl, hO4, hb4⟩
  obtain ⟨A4, c4, rfl, _, _, hE4⟩ := hO4.rdm
  have hbb4 := hbb2.trans (hb4.mono hbb2.size)
  clear hb4 hbb2 hR2 hO4
  go_wp2_with fail
  refine (rankB_any A4 n c4 L (fun i j => lowF 2 (by decide) (f i j)) _ hn9 HL9.out hE4).mono ?_
  rintro e w6 ⟨st, rfl, hb6, hs1, hs2⟩
  have hbF := hbb4.trans (hb6.mono hbb4.size)
  have hst : st = r := ranks_eq hs1 hs2 HR1.out HR2.out
  subst hst
  clear hb6 hE4 hbb4 hs1 hs2
  go_wp2
  go_ret
  exact ⟨rfl, hbF⟩

set_option maxRecDepth 20000 in
set_option maxHeartbeats 1000000 in
theorem lawRank_F (F : Int) (A : Option Addr) (n cA : Nat) (L : Nat → Nat) (f : Nat → Nat → Int) (B At V N One : Value) (hB : B.oneCell' = true) (hAt : At.oneCell' = true) (hV : V.oneCell' = true) (hN : N.oneCell' = true) (hO : One.oneCell' = true) (w : World) (hF : fsz F = 4)
    (hn : n * 24 ≤ 140737488351232) (hL : ∀ i, i < n → L i * 8 ≤ 140737488351232) (hA : RdM w A n L fun i j => .int .i64 (f i j)) :
    Calls Try.prog 7 #[.agg #[.int .i64 F, .slice A n cA, B, At, V, N, One]] w fun e w' => e = .returned (.bool true) ∧ Below w.heap.size w w' := by
  have HF := Lib.hid hF; clear hF
  have hL9 : ∀ i, i < n → L i ≤ 9223372036854775807 := fun i hi => by have := hL i hi; omega
  have HL := Lib.hid hL; have HL9 := Lib.hid hL9; clear hL hL9
  have hn9 : n ≤ 9223372036854775807 := by omega
  go_enter Try.func7, Try.ntmps7
  go_wp2_with fail
  refine (size_any _ 4 HF.out _).mono ?_
  rintro e w' ⟨rfl, rfl⟩
  have hb0 : Below w.heap.size w (w.alloc (.cells #[.int .i64 F, .slice A n cA, B, At, V, N, One] 25)) := (Below.refl _ _).alloc (Nat.le_refl _) _
  have hA0 := RdM.below hA hb0
  clear hA
  go_wp2_with fail
  refine (rows_any 4 A n cA L f _ (by omega) (by omega) hn HL.out hA0).mono ?_
  rintro e w1 ⟨v, S, C, rfl, hO, hb1⟩
  obtain ⟨A1, c1, rfl, _, hR⟩ := hO.rdm
  have hR : MI w1 A1 n L (fun i j => (lowF 4 (by decide) (f i j)).val) := hR
  have hbb1 : Below w.heap.size w w1 := hb0.trans (hb1.mono (by simp))
  clear hb1 hb0 hA0 hO
  go_wp2_with fail
  refine (rrank_any okF A1 n c1 L (fun i j => lowF 4 (by decide) (f i j)) _ hn9 HL9.out hR).mono ?_
  rintro e w2 ⟨r, rfl, hb2, hr1, hr2⟩
  have hR2 := MI.below hR hb2
  have hbb2 := hbb1.trans (hb2.mono hbb1.size)
  have HR1 := Lib.hid hr1; have HR2 := Lib.hid hr2
  clear hb2 hbb1 hR hr1 hr2
  go_wp2_with fail
  refine (fourss_any A1 n c1 L (fun i j => (lowF 4 (by decide) (f i j)).val) _ hn HL.out hR2).mono ?_
  rintro e w4 ⟨v4, S4, C4, rfl, hO4, hb4⟩
  obtain ⟨A4, c4, rfl, _, _, hE4⟩ := hO4.rdm2
  have hbb4 := hbb2.trans (hb4.mono hbb2.size)
  clear hb4 hbb2 hR2 hO4
  go_wp2_with fail
  refine (rankF_any A4 n c4 L (fun i j => lowF 4 (by decide) (f i j)) _ hn9 HL9.out hE4).mono ?_
  rintro e w6 ⟨st, rfl, hb6, hs1, hs2⟩
  have hbF := hbb4.trans (hb6.mono hbb4.size)
  have hst : st = r := ranks_eq hs1 hs2 HR1.out HR2.out
  subst hst
  clear hb6 hE4 hbb4 hs1 hs2
  go_wp2
  go_ret
  exact ⟨rfl, hbF⟩

theorem lawRank (F : Int) (A : Option Addr) (n cA : Nat) (L : Nat → Nat) (f : Nat → Nat → Int) (B At V N One : Value) (hB : B.oneCell' = true) (hAt : At.oneCell' = true) (hV : V.oneCell' = true) (hN : N.oneCell' = true) (hO : One.oneCell' = true) (w : World)
    (hn : n * 24 ≤ 140737488351232) (hL : ∀ i, i < n → L i * 8 ≤ 140737488351232) (hA : RdM w A n L fun i j => .int .i64 (f i j)) :
    Calls Try.prog 7 #[.agg #[.int .i64 F, .slice A n cA, B, At, V, N, One]] w fun e w' => e = .returned (.bool true) ∧ Below w.heap.size w w' := by
  rcases fsz_cases F with e | e | e
  · exact lawRank_E F A n cA L f B At V N One hB hAt hV hN hO w e hn hL hA
  · exact lawRank_B F A n cA L f B At V N One hB hAt hV hN hO w e hn hL hA
  · exact lawRank_F F A n cA L f B At V N One hB hAt hV hN hO w e hn hL hA
end Go.Proofs.Ytpocjpodeahanaa
