/- MatrixSolves: the law's walk. Conditions: none. -/
import Derived.Test.YtpocjpodeahanaaSolR
import Derived.Test.YtpocjpodeahanaaSol
import Derived.Test.YtpocjpodeahanaaMat1
import Derived.Test.YtpocjpodeahanaaLikeF
namespace Go.Proofs.Ytpocjpodeahanaa
open Go.RowKit

set_option maxRecDepth 20000 in
set_option maxHeartbeats 1000000 in
theorem lawSol_E (F : Int) (A V : Option Addr) (n cA m cV : Nat) (L : Nat → Nat) (f : Nat → Nat → Int) (vv : Nat → Int) (B At N One : Value) (hB : B.oneCell' = true) (hAt : At.oneCell' = true) (hN : N.oneCell' = true) (hO : One.oneCell' = true) (w : World) (hF : fsz F = 256)
    (hn : n * 24 ≤ 140737488351232) (hL : ∀ i, i < n → L i * 8 ≤ 140737488351232) (hm : m * 8 ≤ 140737488351232) (hA : RdM w A n L fun i j => .int .i64 (f i j)) (hV : Rd w V m fun i => .int .i64 (vv i)) :
    Calls Try.prog 8 #[.agg #[.int .i64 F, .slice A n cA, B, At, .slice V m cV, N, One]] w fun e w' => e = .returned (.bool true) ∧ Below w.heap.size w w' := by
  have HF := Lib.hid hF; clear hF
  have hoc := And.intro hB (And.intro hAt (And.intro hN hO))
  clear hoc
  have hL9 : ∀ i, i < n → L i ≤ 9223372036854775807 := fun i hi => by have := hL i hi; omega
  have HL := Lib.hid hL; have HL9 := Lib.hid hL9; clear hL hL9
  have hn9 : n ≤ 9223372036854775807 := by omega
  go_enter Try.func8, Try.ntmps8
  go_wp2_with fail
  refine (size_any _ 256 HF.out _).mono ?_
  rintro e w' ⟨rfl, rfl⟩
  have hb0 : Below w.heap.size w (w.alloc (.cells #[.int .i64 F, .slice A n cA, B, At, .slice V m cV, N, One] 25)) := (Below.refl _ _).alloc (Nat.le_refl _) _
  have hA0 := RdM.below hA hb0
  have hV0 := hV.below hb0
  clear hA hV
  go_wp2_with fail
  refine (rows_any 256 A n cA L f _ (by omega) (by omega) hn HL.out hA0).mono ?_
  rintro e w1 ⟨v, S, C, rfl, hO, hb1⟩
  obtain ⟨A1, c1, rfl, _, hR⟩ := hO.rdm
  have hR : MI w1 A1 n L (fun i j => (lowF 256 (by decide) (f i j)).val) := hR
  have hc4 : w1.cell? ⟨w.heap.size, 4, none⟩ = some (.slice V m cV) := by rw [hb1.cell (by simp)]; go_simp
  have hV1 := hV0.below hb1
  have hbb1 : Below w.heap.size w w1 := hb0.trans (hb1.mono (by simp))
  clear hb1 hb0 hA0 hO hV0
  go_wp2_with fail
  refine (list_any 256 V m cV vv _ (by omega) (by omega) hm hV1).mono ?_
  rintro e w2 ⟨v, rfl, hO, hb2⟩
  obtain ⟨A2, c2, rfl, _, _, hV2, _⟩ := hO.rd
  have hV2 : Rd w2 A2 m (fun i => .int .i64 ((lowF 256 (by decide) (vv i)).val : Nat)) := hV2
  have hR2 := MI.below hR hb2
  have hbb2 := hbb1.trans (hb2.mono hbb1.size)
  clear hb2 hbb1 hR hV1 hO hc4
  go_wp2_with fail
  refine (rsol_any okE A1 A2 n c1 m c2 L (fun i j => lowF 256 (by decide) (f i j)) (fun i => lowF 256 (by decide) (vv i)) _ hn9 HL9.out hR2 hV2).mono ?_
  rintro e w3 ⟨er', x', Av, cv, rfl, hIR, hb3, hX'⟩
  have hR3 := MI.below hR2 hb3
  have hV3 := hV2.below hb3
  have hbb3 := hbb2.trans (hb3.mono hbb2.size)
  generalize hk : (if er' = 0 then n else 0) = K at *
  have HIR := Lib.hid hIR; have HX' := Lib.hid hX'; have HKK := Lib.hid hk
  clear hb3 hbb2 hR2 hV2 hIR hX' hk
  go_wp2_with fail
  refine (elemss_any A1 n c1 L (fun i j => (lowF 256 (by decide) (f i j)).val) _ hn HL.out (fun i _ j _ => (lowF 256 (by decide) (f i j)).isLt) hR3).mono ?_
  rintro e w4 ⟨v4, S4, C4, rfl, hO4, hb4⟩
  obtain ⟨A4, c4, rfl, _, _, hE4⟩ := hO4.rdm
  have hbb4 := hbb3.trans (hb4.mono hbb3.size)
  have hV4 := hV3.below hb4
  have HX4 := Lib.hid (HX'.out.below hb4)
  clear hb4 hbb3 hR3 hO4 HX' hV3
  go_wp2_with fail
  refine (elems_any A2 m c2 (fun i => (lowF 256 (by decide) (vv i)).val) _ hm (fun i _ => (lowF 256 (by decide) (vv i)).isLt) hV4).mono ?_
  rintro e w5 ⟨v5, rfl, hO5, hb5⟩
  obtain ⟨A5, c5, rfl, hcap5, _, hV5, _⟩ := hO5.rd
  have hbb5 := hbb4.trans (hb5.mono hbb4.size)
  have hE5 := ME.below hE4 hb5
  have HX5 := Lib.hid (HX4.out.below hb5)
  clear hb5 hbb4 hV4 hO5 hE4 HX4
  go_wp2_with fail
  refine (solE_any A4 A5 n c4 m c5 L (fun i j => lowF 256 (by decide) (f i j)) (fun i => lowF 256 (by decide) (vv i)) _ hn9 HL9.out hE5 hV5 hcap5).mono ?_
  rintro e w6 ⟨er, x6, A6, c6, rfl, hIP, hb6, hX6⟩
  have hbF := hbb5.trans (hb6.mono hbb5.size)
  obtain ⟨he, hx⟩ := sol_same hIP HIR.out
  subst he
  have hsm := hIP.small
  rw [HKK.out] at hsm hX6 ⊢
  have hW6 : Rd w6 Av K (fun i => .int .i64 ((x6 i).val : Nat)) := (HX5.out.below hb6).congr fun i hi => by
    by_cases e : er = 0
    · show Value.int .i64 ((x' i).val : Int) = Value.int .i64 ((x6 i).val : Int)
      rw [hx e i (by have := HKK.out; rw [if_pos e] at this; omega)]
    · have := HKK.out; rw [if_neg e] at this; omega
  have HZ1 : Hid (K ≤ 1000000000000000) := by show _ ≤ _; omega
  clear hb6 hE5 hV5 hbb5 hIP HIR HX5 hx hsm HKK hcap5
  go_wp2_with fail
  refine (likeElems_any _ _ _ _ _ (fun i => (x6 i).val) _ HZ1.out (fun i _ => (x6 i).isLt) hX6 hW6).mono ?_
  rintro e w7 ⟨rfl, hd⟩
  go_wp2
  go_ret
  exact ⟨rfl, hd.below' hbF⟩

set_option maxRecDepth 20000 in
set_option maxHeartbeats 1000000 in
theorem lawSol_B (F : Int) (A V : Option Addr) (n cA m cV : Nat) (L : Nat → Nat) (f : Nat → Nat → Int) (vv : Nat → Int) (B At N One : Value) (hB : B.oneCell' = true) (hAt : At.oneCell' = true) (hN : N.oneCell' = true) (hO : One.oneCell' = true) (w : World) (hF : fsz F = 2)
    (hn : n * 24 ≤ 140737488351232) (hL : ∀ i, i < n → L i * 8 ≤ 140737488351232) (hm : m * 8 ≤ 140737488351232) (hA : RdM w A n L fun i j => .int .i64 (f i j)) (hV : Rd w V m fun i => .int .i64 (vv i)) :
    Calls Try.prog 8 #[.agg #[.int .i64 F, .slice A n cA, B, At, .slice V m cV, N, One]] w fun e w' => e = .returned (.bool true) ∧ Below w.heap.size w w' := by
  have HF := Lib.hid hF; clear hF
  have hoc := And.intro hB (And.intro hAt (And.intro hN hO))
  clear hoc
  have hL9 : ∀ i, i < n → L i ≤ 9223372036854775807 := fun i hi => by have := hL i hi; omega
  have HL := Lib.hid hL; have HL9 := Lib.hid hL9; clear hL hL9
  have hn9 : n ≤ 9223372036854775807 := by omega
  go_enter Try.func8, Try.ntmps8
  go_wp2_with fail
  refine (size_any _ 2 HF.out _).mono ?_
  rintro e w' ⟨rfl, rfl⟩
  have hb0 : Below w.heap.size w (w.alloc (.cells #[.int .i64 F, .slice A n cA, B, At, .slice V m cV, N, One] 25)) := (Below.refl _ _).alloc (Nat.le_refl _) _
  have hA0 := RdM.below hA hb0
  have hV0 := hV.below hb0
  clear hA hV
  go_wp2_with fail
  refine (rows_any 2 A n cA L f _ (by omega) (by omega) hn HL.out hA0).mono ?_
  rintro e w1 ⟨v, S, C, rfl, hO, hb1⟩
  obtain ⟨A1, c1, rfl, _, hR⟩ := hO.rdm
  have hR : MI w1 A1 n L (fun i j => (lowF 2 (by decide) (f i j)).val) := hR
  have hc4 : w1.cell? ⟨w.heap.size, 4, none⟩ = some (.slice V m cV) := by rw [hb1.cell (by simp)]; go_simp
  have hV1 := hV0.below hb1
  have hbb1 : Below w.heap.size w w1 := hb0.trans (hb1.mono (by simp))
  clear hb1 hb0 hA0 hO hV0
  go_wp2_with fail
  refine (list_any 2 V m cV vv _ (by omega) (by omega) hm hV1).mono ?_
  rintro e w2 ⟨v, rfl, hO, hb2⟩
  obtain ⟨A2, c2, rfl, _, _, hV2, _⟩ := hO.rd
  have hV2 : Rd w2 A2 m (fun i => .int .i64 ((lowF 2 (by decide) (vv i)).val : Nat)) := hV2
  have hR2 := MI.below hR hb2
  have hbb2 := hbb1.trans (hb2.mono hbb1.size)
  clear hb2 hbb1 hR hV1 hO hc4
  go_wp2_with fail
  refine (rsol_any okB A1 A2 n c1 m c2 L (fun i j => lowF 2 (by decide) (f i j)) (fun i => lowF 2 (by decide) (vv i)) _ hn9 HL9.out hR2 hV2).mono ?_
  rintro e w3 ⟨er', x', Av, cv, rfl, hIR, hb3, hX'⟩
  have hR3 := MI.below hR2 hb3
  have hV3 := hV2.below hb3
  have hbb3 := hbb2.trans (hb3.mono hbb2.size)
  generalize hk : (if er' = 0 then n else 0) = K at *
  have HIR := Lib.hid hIR; have HX' := Lib.hid hX'; have HKK := Lib.hid hk
  clear hb3 hbb2 hR2 hV2 hIR hX' hk
  go_wp2_with fail
  refine (bitss_any A1 n c1 L (fun i j => (lowF 2 (by decide) (f i j)).val) _ hn HL.out hR3).mono ?_
  rintro e w4 ⟨v4, S4, C4, rfl, hO4, hb4⟩
  obtain ⟨A4, c4, rfl, _, _, hE4⟩ := hO4.rdm
  have hbb4 := hbb3.trans (hb4.mono hbb3.size)
  have hV4 := hV3.below hb4
  have HX4 := Lib.hid (HX'.out.below hb4)
  clear hb4 hbb3 hR3 hO4 HX' hV3
  go_wp2_with fail
  refine (bits_any A2 m c2 (fun i => (lowF 2 (by decide) (vv i)).val) _ hm hV4).mono ?_
  rintro e w5 ⟨v5, rfl, hO5, hb5⟩
  obtain ⟨A5, c5, rfl, hcap5, _, hV5, _⟩ := hO5.rd
  have hbb5 := hbb4.trans (hb5.mono hbb4.size)
  have hE5 := MB.below hE4 hb5
  have HX5 := Lib.hid (HX4.out.below hb5)
  clear hb5 hbb4 hV4 hO5 hE4 HX4
  go_wp2_with fail
  refine (solB_any A4 A5 n c4 m c5 L (fun i j => lowF 2 (by decide) (f i j)) (fun i => lowF 2 (by decide) (vv i)) _ hn9 HL9.out hE5 hV5 hcap5).mono ?_
  rintro e w6 ⟨er, x6, A6, c6, rfl, hIP, hb6, hX6⟩
  have hbF := hbb5.trans (hb6.mono hbb5.size)
  obtain ⟨he, hx⟩ := sol_same hIP HIR.out
  subst he
  have hsm := hIP.small
  rw [HKK.out] at hsm hX6 ⊢
  have hW6 : Rd w6 Av K (fun i => .int .i64 ((x6 i).val : Nat)) := (HX5.out.below hb6).congr fun i hi => by
    by_cases e : er = 0
    · show Value.int .i64 ((x' i).val : Int) = Value.int .i64 ((x6 i).val : Int)
      rw [hx e i (by have := HKK.out; rw [if_pos e] at this; omega)]
    · have := HKK.out; rw [if_neg e] at this; omega
  have HZ1 : Hid (K ≤ 1000000000000000) := by show _ ≤ _; omega
  clear hb6 hE5 hV5 hbb5 hIP HIR HX5 hx hsm HKK hcap5
  go_wp2_with fail
  refine (likeBits_any _ _ _ _ _ (fun i => (x6 i).val) _ HZ1.out hX6 hW6).mono ?_
  rintro e w7 ⟨rfl, hd⟩
  go_wp2
  go_ret
  exact ⟨rfl, hd.below' hbF⟩

set_option maxRecDepth 20000 in
set_option maxHeartbeats 1000000 in
theorem lawSol_F (F : Int) (A V : Option Addr) (n cA m cV : Nat) (L : Nat → Nat) (f : Nat → Nat → Int) (vv : Nat → Int) (B At N One : Value) (hB : B.oneCell' = true) (hAt : At.oneCell' = true) (hN : N.oneCell' = true) (hO : One.oneCell' = true) (w : World) (hF : fsz F = 4)
    (hn : n * 24 ≤ 140737488351232) (hL : ∀ i, i < n → L i * 8 ≤ 140737488351232) (hm : m * 8 ≤ 140737488351232) (hA : RdM w A n L fun i j => .int .i64 (f i j)) (hV : Rd w V m fun i => .int .i64 (vv i)) :
    Calls Try.prog 8 #[.agg #[.int .i64 F, .slice A n cA, B, At, .slice V m cV, N, One]] w fun e w' => e = .returned (.bool true) ∧ Below w.heap.size w w' := by
  have HF := Lib.hid hF; clear hF
  have hoc := And.intro hB (And.intro hAt (And.intro hN hO))
  clear hoc
  have hL9 : ∀ i, i < n → L i ≤ 9223372036854775807 := fun i hi => by have := hL i hi; omega
  have HL := Lib.hid hL; have HL9 := Lib.hid hL9; clear hL hL9
  have hn9 : n ≤ 9223372036854775807 := by omega
  go_enter Try.func8, Try.ntmps8
  go_wp2_with fail
  refine (size_any _ 4 HF.out _).mono ?_
  rintro e w' ⟨rfl, rfl⟩
  have hb0 : Below w.heap.size w (w.alloc (.cells #[.int .i64 F, .slice A n cA, B, At, .slice V m cV, N, One] 25)) := (Below.refl _ _).alloc (Nat.le_refl _) _
  have hA0 := RdM.below hA hb0
  have hV0 := hV.below hb0
  clear hA hV
  go_wp2_with fail
  refine (rows_any 4 A n cA L f _ (by omega) (by omega) hn HL.out hA0).mono ?_
  rintro e w1 ⟨v, S, C, rfl, hO, hb1⟩
  obtain ⟨A1, c1, rfl, _, hR⟩ := hO.rdm
  have hR : MI w1 A1 n L (fun i j => (lowF 4 (by decide) (f i j)).val) := hR
  have hc4 : w1.cell? ⟨w.heap.size, 4, none⟩ = some (.slice V m cV) := by rw [hb1.cell (by simp)]; go_simp
  have hV1 := hV0.below hb1
  have hbb1 : Below w.heap.size w w1 := hb0.trans (hb1.mono (by simp))
  clear hb1 hb0 hA0 hO hV0
  go_wp2_with fail
  refine (list_any 4 V m cV vv _ (by omega) (by omega) hm hV1).mono ?_
  rintro e w2 ⟨v, rfl, hO, hb2⟩
  obtain ⟨A2, c2, rfl, _, _, hV2, _⟩ := hO.rd
  have hV2 : Rd w2 A2 m (fun i => .int .i64 ((lowF 4 (by decide) (vv i)).val : Nat)) := hV2
  have hR2 := MI.below hR hb2
  have hbb2 := hbb1.trans (hb2.mono hbb1.size)
  clear hb2 hbb1 hR hV1 hO hc4
  go_wp2_with fail
  refine (rsol_any okF A1 A2 n c1 m c2 L (fun i j => lowF 4 (by decide) (f i j)) (fun i => lowF 4 (by decide) (vv i)) _ hn9 HL9.out hR2 hV2).mono ?_
  rintro e w3 ⟨er', x', Av, cv, rfl, hIR, hb3, hX'⟩
  have hR3 := MI.below hR2 hb3
  have hV3 := hV2.below hb3
  have hbb3 := hbb2.trans (hb3.mono hbb2.size)
  generalize hk : (if er' = 0 then n else 0) = K at *
  have HIR := Lib.hid hIR; have HX' := Lib.hid hX'; have HKK := Lib.hid hk
  clear hb3 hbb2 hR2 hV2 hIR hX' hk
  go_wp2_with fail
  refine (fourss_any A1 n c1 L (fun i j => (lowF 4 (by decide) (f i j)).val) _ hn HL.out hR3).mono ?_
  rintro e w4 ⟨v4, S4, C4, rfl, hO4, hb4⟩
  obtain ⟨A4, c4, rfl, _, _, hE4⟩ := hO4.rdm2
  have hbb4 := hbb3.trans (hb4.mono hbb3.size)
  have hV4 := hV3.below hb4
  have HX4 := Lib.hid (HX'.out.below hb4)
  clear hb4 hbb3 hR3 hO4 HX' hV3
  go_wp2_with fail
  refine (fours_any A2 m c2 (fun i => (lowF 4 (by decide) (vv i)).val) _ hm hV4).mono ?_
  rintro e w5 ⟨v5, rfl, hO5, hb5⟩
  obtain ⟨A5, c5, rfl, hcap5, _, hV5⟩ := hO5.rd2
  have hbb5 := hbb4.trans (hb5.mono hbb4.size)
  have hE5 := MF.below hE4 hb5
  have HX5 := Lib.hid (HX4.out.below hb5)
  clear hb5 hbb4 hV4 hO5 hE4 HX4
  go_wp2_with fail
  refine (solF_any A4 A5 n c4 m c5 L (fun i j => lowF 4 (by decide) (f i j)) (fun i => lowF 4 (by decide) (vv i)) _ hn9 HL9.out hE5 (hV5.cells.congr fun j _ => two_cF (fun i => lowF 4 (by decide) (vv i)) j) hcap5).mono ?_
  rintro e w6 ⟨er, x6, A6, c6, rfl, hIP, hb6, hX6⟩
  have hbF := hbb5.trans (hb6.mono hbb5.size)
  obtain ⟨he, hx⟩ := sol_same hIP HIR.out
  subst he
  have hsm := hIP.small
  rw [HKK.out] at hsm hX6 ⊢
  have hW6 : Rd w6 Av K (fun i => .int .i64 ((x6 i).val : Nat)) := (HX5.out.below hb6).congr fun i hi => by
    by_cases e : er = 0
    · show Value.int .i64 ((x' i).val : Int) = Value.int .i64 ((x6 i).val : Int)
      rw [hx e i (by have := HKK.out; rw [if_pos e] at this; omega)]
    · have := HKK.out; rw [if_neg e] at this; omega
  have HZ1 : Hid (K ≤ 1000000000000000) := by show _ ≤ _; omega
  clear hb6 hE5 hV5 hbb5 hIP HIR HX5 hx hsm HKK hcap5
  go_wp2_with fail
  refine (likeFours_any _ _ _ _ _ (fun i => (x6 i).val) _ HZ1.out hX6 hW6).mono ?_
  rintro e w7 ⟨rfl, hd⟩
  go_wp2
  go_ret
  exact ⟨rfl, hbF.trans (hd.mono hbF.size)⟩

theorem lawSol (F : Int) (A V : Option Addr) (n cA m cV : Nat) (L : Nat → Nat) (f : Nat → Nat → Int) (vv : Nat → Int) (B At N One : Value) (hB : B.oneCell' = true) (hAt : At.oneCell' = true) (hN : N.oneCell' = true) (hO : One.oneCell' = true) (w : World)
    (hn : n * 24 ≤ 140737488351232) (hL : ∀ i, i < n → L i * 8 ≤ 140737488351232) (hm : m * 8 ≤ 140737488351232) (hA : RdM w A n L fun i j => .int .i64 (f i j)) (hV : Rd w V m fun i => .int .i64 (vv i)) :
    Calls Try.prog 8 #[.agg #[.int .i64 F, .slice A n cA, B, At, .slice V m cV, N, One]] w fun e w' => e = .returned (.bool true) ∧ Below w.heap.size w w' := by
  rcases fsz_cases F with e | e | e
  · exact lawSol_E F A V n cA m cV L f vv B At N One hB hAt hN hO w e hn hL hm hA hV
  · exact lawSol_B F A V n cA m cV L f vv B At N One hB hAt hN hO w e hn hL hm hA hV
  · exact lawSol_F F A V n cA m cV L f vv B At N One hB hAt hN hO w e hn hL hm hA hV
end Go.Proofs.Ytpocjpodeahanaa
