/- MatrixInverts: the law's walk. Conditions: none. -/
import Derived.Test.YtpocjpodeahanaaRef5
import Derived.Test.YtpocjpodeahanaaMat1
import Derived.Test.YtpocjpodeahanaaLikeF
namespace Go.Proofs.Ytpocjpodeahanaa
open Go.RowKit

set_option maxRecDepth 20000 in
set_option maxHeartbeats 1000000 in
theorem lawInv_E (F : Int) (A : Option Addr) (n cA : Nat) (L : Nat → Nat) (f : Nat → Nat → Int) (B At V N One : Value) (hB : B.oneCell' = true) (hAt : At.oneCell' = true) (hV : V.oneCell' = true) (hN : N.oneCell' = true) (hO : One.oneCell' = true) (w : World) (hF : fsz F = 256)
    (hn : n * 24 ≤ 140737488351232) (hL : ∀ i, i < n → L i * 8 ≤ 140737488351232) (hA : RdM w A n L fun i j => .int .i64 (f i j)) :
    Calls Try.prog 9 #[.agg #[.int .i64 F, .slice A n cA, B, At, V, N, One]] w fun e w' => e = .returned (.bool true) ∧ Below w.heap.size w w' := by
  have HF := Lib.hid hF; clear hF
  have hoc := And.intro hB (And.intro hAt (And.intro hV (And.intro hN hO)))
  clear hoc
  have hL9 : ∀ i, i < n → L i ≤ 9223372036854775807 := fun i hi => by have := hL i hi; omega
  have HL := Lib.hid hL; have HL9 := Lib.hid hL9; clear hL hL9
  have hn9 : n ≤ 9223372036854775807 := by omega
  go_enter Try.func9, Try.ntmps9
  go_wp2_with fail
  refine (size_any _ 256 HF.out _).mono ?_
  rintro e w' ⟨rfl, rfl⟩
  have hb0 : Below w.heap.size w (w.alloc (.cells #[.int .i64 F, .slice A n cA, B, At, V, N, One] 25)) := (Below.refl _ _).alloc (Nat.le_refl _) _
  have hA0 := RdM.below hA hb0
  clear hA
  go_wp2_with fail
  refine (rows_any 256 A n cA L f _ (by omega) (by omega) hn HL.out hA0).mono ?_
  rintro e w1 ⟨v, S, C, rfl, hO, hb1⟩
  obtain ⟨A1, c1, rfl, _, hR⟩ := hO.rdm
  have hR : MI w1 A1 n L (fun i j => (lowF 256 (by decide) (f i j)).val) := hR
  have hbb1 : Below w.heap.size w w1 := hb0.trans (hb1.mono (by simp))
  clear hb1 hb0 hA0 hO
  go_wp2_with fail
  refine (rinv_any okE A1 n c1 L (fun i j => lowF 256 (by decide) (f i j)) _ hn9 HL9.out hR).mono ?_
  rintro e w2 ⟨er', X', Av, cv, rfl, hIR, hb2, hX'⟩
  have hR2 := MI.below hR hb2
  have hbb2 := hbb1.trans (hb2.mono hbb1.size)
  generalize hk : (if er' = 0 then n else 0) = K at *
  have HIR := Lib.hid hIR; have HX' := Lib.hid hX'; have HKK := Lib.hid hk
  clear hb2 hbb1 hR hIR hX' hk
  go_wp2_with fail
  refine (elemss_any A1 n c1 L (fun i j => (lowF 256 (by decide) (f i j)).val) _ hn HL.out (fun i _ j _ => (lowF 256 (by decide) (f i j)).isLt) hR2).mono ?_
  rintro e w4 ⟨v4, S4, C4, rfl, hO4, hb4⟩
  obtain ⟨A4, c4, rfl, _, _, hE4⟩ := hO4.rdm
  have hbb4 := hbb2.trans (hb4.mono hbb2.size)
  have HX4 := Lib.hid (MI.below HX'.out hb4)
  clear hb4 hbb2 hR2 hO4 HX'
  go_wp2_with fail
  refine (invE_any A4 n c4 L (fun i j => lowF 256 (by decide) (f i j)) _ hn9 HL9.out hE4).mono ?_
  rintro e w6 ⟨er, X6, A6, c6, rfl, hIP, hb6, hX6⟩
  have hbF := hbb4.trans (hb6.mono hbb4.size)
  obtain ⟨he, hx⟩ := inv_same hIP HIR.out
  subst he
  have hsm := hIP.small
  rw [HKK.out] at hsm hX6 ⊢
  have hW6 : MI w6 Av K (fun _ => n) (fun i j => (X6 i j).val) := (MI.below HX4.out hb6).congr fun i hi j hj => by
    by_cases e : er = 0
    · show Value.int .i64 ((X' i j).val : Int) = Value.int .i64 ((X6 i j).val : Int)
      rw [hx e i (by have := HKK.out; rw [if_pos e] at this; omega) j hj]
    · have := HKK.out; rw [if_neg e] at this; omega
  have HZ1 : Hid (K ≤ 1000000000000000) := by have := hsm.1; show _ ≤ _; omega
  have HZ2 : Hid (∀ i, i < K → n ≤ 1000000000000000) := fun i hi => by
    by_cases e : er = 0
    · have := hsm.2 e; omega
    · have := HKK.out; rw [if_neg e] at this; omega
  clear hb6 hE4 hbb4 hIP HIR HX4 hx hsm HKK
  go_wp2_with fail
  refine (likeElemss_any _ _ _ _ _ _ (fun i j => (X6 i j).val) _ HZ1.out HZ2.out (fun i _ j _ => (X6 i j).isLt) hX6 hW6).mono ?_
  rintro e w7 ⟨rfl, hd⟩
  go_wp2
  go_ret
  exact ⟨rfl, hd.below' hbF⟩

set_option maxRecDepth 20000 in
set_option maxHeartbeats 1000000 in
theorem lawInv_B (F : Int) (A : Option Addr) (n cA : Nat) (L : Nat → Nat) (f : Nat → Nat → Int) (B At V N One : Value) (hB : B.oneCell' = true) (hAt : At.oneCell' = true) (hV : V.oneCell' = true) (hN : N.oneCell' = true) (hO : One.oneCell' = true) (w : World) (hF : fsz F = 2)
    (hn : n * 24 ≤ 140737488351232) (hL : ∀ i, i < n → L i * 8 ≤ 140737488351232) (hA : RdM w A n L fun i j => .int .i64 (f i j)) :
    Calls Try.prog 9 #[.agg #[.int .i64 F, .slice A n cA, B, At, V, N, One]] w fun e w' => e = .returned (.bool true) ∧ Below w.heap.size w w' := by
  have HF := Lib.hid hF; clear hF
  have hoc := And.intro hB (And.intro hAt (And.intro hV (And.intro hN hO)))
  clear hoc
  have hL9 : ∀ i, i < n → L i ≤ 9223372036854775807 := fun i hi => by have := hL i hi; omega
  have HL := Lib.hid hL; have HL9 := Lib.hid hL9; clear hL hL9
  have hn9 : n ≤ 9223372036854775807 := by omega
  go_enter Try.func9, Try.ntmps9
  go_wp2_with fail
  refine (size_any _ 2 HF.out _).mono ?_
  rintro e w' ⟨rfl, rfl⟩
  have hb0 : Below w.heap.size w (w.alloc (.cells #[.int .i64 F, .slice A n cA, B, At, V, N, One] 25)) := (Below.refl _ _).alloc (Nat.le_refl _) _
  have hA0 := RdM.below hA hb0
  clear hA
  go_wp2_with fail
  refine (rows_any 2 A n cA L f _ (by omega) (by omega) hn HL.out hA0).mono ?_
  rintro e w1 ⟨v, S, C, rfl, hO, hb1⟩
  obtain ⟨A1, c1, rfl, _, hR⟩ := hO.rdm
  have hR : MI w1 A1 n L (fun i j => (lowF 2 (by decide) (f i j)).val) := hR
  have hbb1 : Below w.heap.size w w1 := hb0.trans (hb1.mono (by simp))
  clear hb1 hb0 hA0 hO
  go_wp2_with fail
  refine (rinv_any okB A1 n c1 L (fun i j => lowF 2 (by decide) (f i j)) _ hn9 HL9.out hR).mono ?_
  rintro e w2 ⟨er', X', Av, cv, rfl, hIR, hb2, hX'⟩
  have hR2 := MI.below hR hb2
  have hbb2 := hbb1.trans (hb2.mono hbb1.size)
  generalize hk : (if er' = 0 then n else 0) = K at *
  have HIR := Lib.hid hIR; have HX' := Lib.hid hX'; have HKK := Lib.hid hk
  clear hb2 hbb1 hR hIR hX' hk
  go_wp2_with fail
  refine (bitss_any A1 n c1 L (fun i j => (lowF 2 (by decide) (f i j)).val) _ hn HL.out hR2).mono ?_
  rintro e w4 ⟨v4, S4, C4, rfl, hO4, hb4⟩
  obtain ⟨A4, c4, rfl, _, _, hE4⟩ := hO4.rdm
  have hbb4 := hbb2.trans (hb4.mono hbb2.size)
  have HX4 := Lib.hid (MI.below HX'.out hb4)
  clear hb4 hbb2 hR2 hO4 HX'
  go_wp2_with fail
  refine (invB_any A4 n c4 L (fun i j => lowF 2 (by decide) (f i j)) _ hn9 HL9.out hE4).mono ?_
  rintro e w6 ⟨er, X6, A6, c6, rfl, hIP, hb6, hX6⟩
  have hbF := hbb4.trans (hb6.mono hbb4.size)
  obtain ⟨he, hx⟩ := inv_same hIP HIR.out
  subst he
  have hsm := hIP.small
  rw [HKK.out] at hsm hX6 ⊢
  have hW6 : MI w6 Av K (fun _ => n) (fun i j => (X6 i j).val) := (MI.below HX4.out hb6).congr fun i hi j hj => by
    by_cases e : er = 0
    · show Value.int .i64 ((X' i j).val : Int) = Value.int .i64 ((X6 i j).val : Int)
      rw [hx e i (by have := HKK.out; rw [if_pos e] at this; omega) j hj]
    · have := HKK.out; rw [if_neg e] at this; omega
  have HZ1 : Hid (K ≤ 1000000000000000) := by have := hsm.1; show _ ≤ _; omega
  have HZ2 : Hid (∀ i, i < K → n ≤ 1000000000000000) := fun i hi => by
    by_cases e : er = 0
    · have := hsm.2 e; omega
    · have := HKK.out; rw [if_neg e] at this; omega
  clear hb6 hE4 hbb4 hIP HIR HX4 hx hsm HKK
  go_wp2_with fail
  refine (likeBitss_any _ _ _ _ _ _ (fun i j => (X6 i j).val) _ HZ1.out HZ2.out hX6 hW6).mono ?_
  rintro e w7 ⟨rfl, hd⟩
  go_wp2
  go_ret
  exact ⟨rfl, hd.below' hbF⟩

set_option maxRecDepth 20000 in
set_option maxHeartbeats 1000000 in
theorem lawInv_F (F : Int) (A : Option Addr) (n cA : Nat) (L : Nat → Nat) (f : Nat → Nat → Int) (B At V N One : Value) (hB : B.oneCell' = true) (hAt : At.oneCell' = true) (hV : V.oneCell' = true) (hN : N.oneCell' = true) (hO : One.oneCell' = true) (w : World) (hF : fsz F = 4)
    (hn : n * 24 ≤ 140737488351232) (hL : ∀ i, i < n → L i * 8 ≤ 140737488351232) (hA : RdM w A n L fun i j => .int .i64 (f i j)) :
    Calls Try.prog 9 #[.agg #[.int .i64 F, .slice A n cA, B, At, V, N, One]] w fun e w' => e = .returned (.bool true) ∧ Below w.heap.size w w' := by
  have HF := Lib.hid hF; clear hF
  have hoc := And.intro hB (And.intro hAt (And.intro hV (And.intro hN hO)))
  clear hoc
  have hL9 : ∀ i, i < n → L i ≤ 9223372036854775807 := fun i hi => by have := hL i hi; omega
  have HL := Lib.hid hL; have HL9 := Lib.hid hL9; clear hL hL9
  have hn9 : n ≤ 9223372036854775807 := by omega
  go_enter Try.func9, Try.ntmps9
  go_wp2_with fail
  refine (size_any _ 4 HF.out _).mono ?_
  rintro e w' ⟨rfl, rfl⟩
  have hb0 : Below w.heap.size w (w.alloc (.cells #[.int .i64 F, .slice A n cA, B, At, V, N, One] 25)) := (Below.refl _ _).alloc (Nat.le_refl _) _
  have hA0 := RdM.below hA hb0
  clear hA
  go_wp2_with fail
  refine (rows_any 4 A n cA L f _ (by omega) (by omega) hn HL.out hA0).mono ?_
  rintro e w1 ⟨v, S, C, rfl, hO, hb1⟩
  obtain ⟨A1, c1, rfl, _, hR⟩ := hO.rdm
  have hR : MI w1 A1 n L (fun i j => (lowF 4 (by decide) (f i j)).val) := hR
  have hbb1 : Below w.heap.size w w1 := hb0.trans (hb1.mono (by simp))
  clear hb1 hb0 hA0 hO
  go_wp2_with fail
  refine (rinv_any okF A1 n c1 L (fun i j => lowF 4 (by decide) (f i j)) _ hn9 HL9.out hR).mono ?_
  rintro e w2 ⟨er', X', Av, cv, rfl, hIR, hb2, hX'⟩
  have hR2 := MI.below hR hb2
  have hbb2 := hbb1.trans (hb2.mono hbb1.size)
  generalize hk : (if er' = 0 then n else 0) = K at *
  have HIR := Lib.hid hIR; have HX' := Lib.hid hX'; have HKK := Lib.hid hk
  clear hb2 hbb1 hR hIR hX' hk
  go_wp2_with fail
  refine (fourss_any A1 n c1 L (fun i j => (lowF 4 (by decide) (f i j)).val) _ hn HL.out hR2).mono ?_
  rintro e w4 ⟨v4, S4, C4, rfl, hO4, hb4⟩
  obtain ⟨A4, c4, rfl, _, _, hE4⟩ := hO4.rdm2
  have hbb4 := hbb2.trans (hb4.mono hbb2.size)
  have HX4 := Lib.hid (MI.below HX'.out hb4)
  clear hb4 hbb2 hR2 hO4 HX'
  go_wp2_with fail
  refine (invF_any A4 n c4 L (fun i j => lowF 4 (by decide) (f i j)) _ hn9 HL9.out hE4).mono ?_
  rintro e w6 ⟨er, X6, A6, c6, rfl, hIP, hb6, hX6⟩
  have hbF := hbb4.trans (hb6.mono hbb4.size)
  obtain ⟨he, hx⟩ := inv_same hIP HIR.out
  subst he
  have hsm := hIP.small
  rw [HKK.out] at hsm hX6 ⊢
  have hW6 : MI w6 Av K (fun _ => n) (fun i j => (X6 i j).val) := (MI.below HX4.out hb6).congr fun i hi j hj => by
    by_cases e : er = 0
    · show Value.int .i64 ((X' i j).val : Int) = Value.int .i64 ((X6 i j).val : Int)
      rw [hx e i (by have := HKK.out; rw [if_pos e] at this; omega) j hj]
    · have := HKK.out; rw [if_neg e] at this; omega
  have HZ1 : Hid (K ≤ 1000000000000000) := by have := hsm.1; show _ ≤ _; omega
  have HZ2 : Hid (∀ i, i < K → n ≤ 1000000000000000) := fun i hi => by
    by_cases e : er = 0
    · have := hsm.2 e; omega
    · have := HKK.out; rw [if_neg e] at this; omega
  clear hb6 hE4 hbb4 hIP HIR HX4 hx hsm HKK
  go_wp2_with fail
  refine (likeFourss_any _ _ _ _ _ _ (fun i j => (X6 i j).val) _ HZ1.out HZ2.out hX6 hW6).mono ?_
  rintro e w7 ⟨rfl, hd⟩
  go_wp2
  go_ret
  exact ⟨rfl, hbF.trans (hd.mono hbF.size)⟩

theorem lawInv (F : Int) (A : Option Addr) (n cA : Nat) (L : Nat → Nat) (f : Nat → Nat → Int) (B At V N One : Value) (hB : B.oneCell' = true) (hAt : At.oneCell' = true) (hV : V.oneCell' = true) (hN : N.oneCell' = true) (hO : One.oneCell' = true) (w : World)
    (hn : n * 24 ≤ 140737488351232) (hL : ∀ i, i < n → L i * 8 ≤ 140737488351232) (hA : RdM w A n L fun i j => .int .i64 (f i j)) :
    Calls Try.prog 9 #[.agg #[.int .i64 F, .slice A n cA, B, At, V, N, One]] w fun e w' => e = .returned (.bool true) ∧ Below w.heap.size w w' := by
  rcases fsz_cases F with e | e | e
  · exact lawInv_E F A n cA L f B At V N One hB hAt hV hN hO w e hn hL hA
  · exact lawInv_B F A n cA L f B At V N One hB hAt hV hN hO w e hn hL hA
  · exact lawInv_F F A n cA L f B At V N One hB hAt hV hN hO w e hn hL hA
end Go.Proofs.Ytpocjpodeahanaa
